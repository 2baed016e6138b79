/- Strconv's floating-point reading: a part (Pf) of the proof that the law ParseParts answers true. No condition. -/
import Derived.Test.YtjagjjdkgidkjaaGreatDoorPtF1
import Derived.Test.YtjagjjdkgidkjaaGreatDoorPtF2
import Derived.Test.YtjagjjdkgidkjaaGreatDoorPtB4
set_option linter.all false
namespace Go.Proofs.YtjagjjdkgidkjaaGreatDoor
open Go Go.RowKit
set_option maxRecDepth 1000000
theorem u64_div {x : Int} (h : U64 x) (n : Nat) : U64 (x / n) := by
  unfold U64 at *
  refine ⟨Int.ediv_nonneg h.1 (by omega), ?_⟩
  have := Int.ediv_le_self (b := (n : Int)) h.1
  omega
def Er (v : Value) : Prop := v = .nilIface ∨ v = .iface 243 (.int .i64 1) ∨ v = .iface 243 (.int .i64 2)
def I64 (v : Value) : Prop := ∃ x : Int, v = .int .i64 x
def I64u (v : Value) : Prop := ∃ x : Int, v = .int .u64 x
def Uv (v : Value) : Prop := ∃ x : Int, U64 x ∧ v = .int .u64 x
def FlEr (v : Value) : Prop := ∃ (f : Nat) (e : Value), v = .tuple #[.float .f64 f, e] ∧ Er e
theorem flEr_mk {w : World} (f : Nat) (e : Value) (h : Er e) : ValOut FlEr w (.returned (.tuple #[.float .f64 f, e])) w := valOut_mk ⟨f, e, rfl, h⟩
set_option maxHeartbeats 1000000 in
theorem log2_any (n : Int) (w : World) : Calls Tryz.prog 252 #[.int .i64 n] w (ValOut I64 w) := by
  go_enter Tryz.func252, Tryz.ntmps252
  go_wp2
  go_ret
  exact valOut_mk ⟨_, rfl⟩
set_option maxHeartbeats 1000000 in
theorem unmin_any (n : Int) (w : World) : Calls Tryz.prog 259 #[.int .u64 n] w (ValOut Uv w) := by
  go_enter Tryz.func259, Tryz.ntmps259
  go_wp2
  go_ret
  exact valOut_mk ⟨_, u64_wrap _, rfl⟩
set_option maxHeartbeats 1000000 in
theorem round_any (n : Int) (w : World) : Calls Tryz.prog 257 #[.int .u64 n] w (ValOut Uv w) := by
  go_enter Tryz.func257, Tryz.ntmps257
  go_wp2
  go_ret
  exact valOut_mk ⟨_, u64_div (u64_wrap _) 4, rfl⟩
set_option maxHeartbeats 4000000 in
theorem pack_any (m e : Int) (w : World) : Calls Tryz.prog 348 #[.int .u64 m, .int .i64 e] w (ValOut FlEr w) := by
  have rfb := run_frombits329
  go_enter Tryz.func348, Tryz.ntmps348
  go_wp2
  all_goals go_ret2
  all_goals first
    | exact flEr_mk _ _ (.inl rfl)
    | exact flEr_mk _ _ (.inr (.inl rfl))
    | exact flEr_mk _ _ (.inr (.inr rfl))
set_option maxHeartbeats 4000000 in
theorem mul_any (a b : Int) (w : World) : Calls Tryz.prog 290 #[.int .u64 a, .int .u64 b] w (ValOut (fun v => ∃ x y : Int, U64 x ∧ U64 y ∧ v = .tuple #[.int .u64 x, .int .u64 y]) w) := by
  go_enter Tryz.func290, Tryz.ntmps290
  go_wp2
  go_ret2
  exact valOut_mk ⟨_, _, u64_wrap _, u64_wrap _, rfl⟩
/-- What the numbers' own variables hold. -/
structure FlTab (W : World) : Prop where
  tab : ∀ i, i < 1392 → ∃ x : Int, U64 x ∧ W.cell? ⟨8, i, none⟩ = some (.int .u64 x)
  m0 : W.cell? ⟨13, 0, none⟩ = some (.int .u64 52)
  m1 : W.cell? ⟨13, 1, none⟩ = some (.int .u64 11)
  m2 : W.cell? ⟨13, 2, none⟩ = some (.int .i64 (-1023))
  b13 : ∃ (cs : Array Value) (t : TypeId) (fr : Nat × Nat), W.heap[13]? = some (.cells cs t fr) ∧ ¬ (fr.1 ≤ 0 ∧ 0 < fr.2)
  b12 : ∃ (cs : Array Value) (t : TypeId) (fr : Nat × Nat), W.heap[12]? = some (.cells cs t fr)
theorem FlTab.fr {W w : World} (h : FlTab W) (f : Fr none_ W w) : FlTab w :=
  ⟨fun i hi => let ⟨x, hx, hc⟩ := h.tab i hi; ⟨x, hx, f.cell hc id⟩, f.cell h.m0 id, f.cell h.m1 id, f.cell h.m2 id,
   (let ⟨cs, t, fr, hb, hn⟩ := h.b13; ⟨cs, t, fr, f.get hb id, hn⟩), (let ⟨cs, t, fr, hb⟩ := h.b12; ⟨cs, t, fr, f.get hb id⟩)⟩
set_option maxHeartbeats 4000000 in
theorem prescale_any (b : Nat) (x0 x1 x2 : Value) (e p l : Int) (w : World) (hp : -348 ≤ p) (hp2 : p ≤ 347) (hT : FlTab w) (hb : w.heap[b]? = some (.cells #[x0, x1, x2] 262 (0, 0))) (hne : b ≠ 8) (hne2 : 8 ≠ b) :
    Calls Tryz.prog 251 #[.pointer (some ⟨b, 0, none⟩), .int .i64 e, .int .i64 p, .int .i64 l] w fun r w' => ∃ y0 y1 y2 : Int, r = .returned (.tuple #[]) ∧ U64 y0 ∧ U64 y1 ∧ w'.heap[b]? = some (.cells #[.int .u64 y0, .int .u64 y1, .int .i64 y2] 262 (0, 0)) ∧ Fr (· = b) w w' := by
  obtain ⟨k, rfl⟩ : ∃ k : Nat, p = (k : Int) - 348 := ⟨(p + 348).toNat, by omega⟩
  obtain ⟨y0, hy0, c0⟩ := hT.tab (k * 2) (by omega)
  obtain ⟨y1, hy1, c1⟩ := hT.tab (k * 2 + 1) (by omega)
  clear hT
  have d0 := cell_at' hb 0
  have d1 := cell_at' hb 1
  have d2 := cell_at' hb 2
  simp only [List.getElem?_toArray, List.getElem?_cons_zero, List.getElem?_cons_succ] at d0 d1 d2
  have zz : ∀ j, w.frozen? ⟨b, j, none⟩ = false := fun j => by simp [World.frozen?, hb]
  have hbz := size_of_get hb
  go_enter Tryz.func251, Tryz.ntmps251
  go_wp2
  refine bodyPost_end (results_none rfl _ _ _) rfl ?_
  exact ⟨_, _, _, rfl, hy0, hy1, heap_set (heap_set (heap_set hb _) _) _, (((Fr.refl (· = b) w).setCell ⟨b, 0, none⟩ _ fun _ => rfl).setCell ⟨b, 1, none⟩ _ fun _ => rfl).setCell ⟨b, 2, none⟩ _ fun _ => rfl⟩
def Bits3 (b : Nat) (w : World) : Prop := ∃ y0 y1 y2 : Int, U64 y0 ∧ U64 y1 ∧ w.heap[b]? = some (.cells #[.int .u64 y0, .int .u64 y1, .int .i64 y2] 262 (0, 0))
theorem and63 (s : Int) : ∃ n : Nat, n < 64 ∧ bits .and .i64 s 63 = n := by
  have h : ((BitVec.ofInt 64 s) &&& (BitVec.ofInt 64 63)).toNat ≤ 63 := by
    rw [BitVec.toNat_and]
    exact Nat.and_le_right
  refine ⟨((BitVec.ofInt 64 s) &&& (BitVec.ofInt 64 63)).toNat, by omega, ?_⟩
  show IntKind.i64.wrap (((BitVec.ofInt 64 s) &&& (BitVec.ofInt 64 63)).toNat : Int) = _
  exact IntWalk.i64_in _ (by omega)
/-- One value; what was there is as it was. -/
def FrOut (p : Value → Prop) (w : World) (e : Ending) (w' : World) : Prop := ∃ v, e = .returned v ∧ p v ∧ Fr none_ w w'
theorem frOut_mk {p : Value → Prop} {w w' : World} {v : Value} (h : p v) (f : Fr none_ w w') : FrOut p w (.returned v) w' := ⟨v, rfl, h, f⟩
set_option maxHeartbeats 4000000 in
theorem uscale_any (b : Nat) (x : Int) (w : World) (hb : Bits3 b w) : Calls Tryz.prog 253 #[.int .u64 x, .pointer (some ⟨b, 0, none⟩)] w (FrOut I64u w) := by
  obtain ⟨y0, y1, y2, h0, h1, hb⟩ := hb
  have d0 := cell_at' hb 0
  have d1 := cell_at' hb 1
  have d2 := cell_at' hb 2
  simp only [List.getElem?_toArray, List.getElem?_cons_zero, List.getElem?_cons_succ] at d0 d1 d2
  obtain ⟨n, hn, ha⟩ := and63 y2
  clear hb
  go_enter Tryz.func253, Tryz.ntmps253
  go_wp2_with (first
    | (go_at_call 290; ((with_reducible refine (mul_any _ _ _).mono ?_); rintro e w1 ⟨v, rfl, ⟨p, q, hp, hq, rfl⟩, rfl⟩))
    | (go_at_call 291; ((with_reducible refine (bool2_291 _ _).mono ?_); rintro e w1 ⟨v, rfl, ⟨p, hp, rfl⟩, rfl⟩)))
  · go_ret
    exact frOut_mk ⟨_, rfl⟩ (Fr.refl _ w)
  · go_region_held3 (fun X => X.cell? ⟨b, 0, none⟩ = some (.int .u64 y0)) (first | exact d0 | go_keep)
      ((first | (go_at_call 291; ((with_reducible refine (bool2_291 _ _).mono ?_); rintro e w1 ⟨v, rfl, ⟨p, hp, rfl⟩, rfl⟩))))
    go_wp2
    go_ret
    exact frOut_mk ⟨_, rfl⟩ (Fr.refl _ w).drew
theorem len_any (m : Int) (w : World) (hm : U64 m) : Calls Tryz.prog 210 #[.int .u64 m] w (ValOut (fun v => ∃ n : Nat, n ≤ 64 ∧ v = .int .i64 n) w) :=
  (Tryz.bits_Len64 m w hm.1 (by have := hm.2; omega)).mono fun _ _ ⟨he, hw⟩ => ⟨_, he, ⟨_, Lib.bitLen_le m.toNat 64 (by omega) (by have := hm.2; omega), rfl⟩, hw.symm⟩
theorem Fr.none3 {b : Nat} {w w1 w2 : World} (h : Fr none_ w w1) (f : Fr (· = b) w1 w2) (hb : w.heap.size ≤ b) : Fr none_ w w2 :=
  ⟨f.os.trans h.os, f.tape.trans h.tape, f.output.trans h.output, Nat.le_trans h.size f.size, fun k hk _ => (f.block k (Nat.lt_of_lt_of_le hk h.size) (fun e => by omega)).trans (h.block k hk id)⟩
set_option maxHeartbeats 8000000 in
theorem parse64_any (m p sg : Int) (w : World) (hm : U64 m) (hp : -345 ≤ p) (hp2 : p ≤ 310) (hT : FlTab w) (h9 : 9 ≤ w.heap.size) : Calls Tryz.prog 331 #[.int .u64 m, .int .i64 p, .int .u64 sg] w (FrOut FlEr w) := by
  have rfb := run_frombits329
  have h1 : FlTab (w.alloc (.cells #[.int .u64 0, .int .u64 0, .int .i64 0] 262)) := hT.fr ((Fr.refl _ w).alloc _)
  go_enter Tryz.func331, Tryz.ntmps331
  go_wp2_with (first
    | (go_at_call 210; ((with_reducible refine (len_any _ _ hm).mono ?_); rintro e w1 ⟨v, rfl, ⟨n, hn64, rfl⟩, rfl⟩))
    | (go_at_call 252; ((with_reducible refine (log2_any _ _).mono ?_); rintro e w1 ⟨v, rfl, ⟨lp, rfl⟩, rfl⟩))
    | (go_at_call 251; ((with_reducible refine (prescale_any _ _ _ _ _ _ _ _ (by omega) (by omega) h1 (heap_alloc_new w _) (by omega) (by omega)).mono ?_); rintro e w2 ⟨y0, y1, y2, rfl, hy0, hy1, n2, f2⟩; have F2 : Fr none_ w w2 := ((Fr.refl _ w).alloc _).none3 f2 (Nat.le_refl _); have B2 : Bits3 w.heap.size w2 := ⟨y0, y1, y2, hy0, hy1, n2⟩; have c2 := cell_at' n2 2; simp only [List.getElem?_toArray, List.getElem?_cons_zero, List.getElem?_cons_succ] at c2))
    | (go_at_call 253; ((with_reducible refine (uscale_any _ _ _ B2).mono ?_); rintro e w3 ⟨v, rfl, ⟨u, rfl⟩, f3⟩))
    | (go_at_call 259; ((with_reducible refine (unmin_any _ _).mono ?_); rintro e w1 ⟨v, rfl, ⟨q, hq, rfl⟩, rfl⟩))
    | (go_at_call 258; ((with_reducible refine (bool2_258 _ _).mono ?_); rintro e w1 ⟨v, rfl, ⟨z, hz, rfl⟩, rfl⟩))
    | (go_at_call 257; ((with_reducible refine (round_any _ _).mono ?_); rintro e w1 ⟨v, rfl, ⟨r, hr, rfl⟩, rfl⟩))
    | (go_at_call 348; ((with_reducible refine (pack_any _ _ _).mono ?_); rintro e w1 ⟨v, rfl, ⟨fl, er, rfl, her⟩, rfl⟩)))
  · go_ret2
    exact frOut_mk ⟨_, _, rfl, .inl rfl⟩ F2
  all_goals first
    | (go_ret2; exact frOut_mk ⟨_, _, rfl, her⟩ (F2.none2 f3))
end Go.Proofs.YtjagjjdkgidkjaaGreatDoor
