/- The parser's reading: a part (PM PN PO) of the proof that the law ParseParts answers true. No condition. -/
import Derived.Test.YtjagjjdkgidkjaaGreatDoorPtA12
import Derived.Deep.RegionWith
import Derived.Deep.RegionHeld3
import Derived.Deep.Onto
set_option linter.all false
namespace Go.Proofs.YtjagjjdkgidkjaaGreatDoor
open Go Go.RowKit
set_option maxRecDepth 1000000
variable {c : Cx} {U V S : Nat → Prop} {i j m B0 : Nat} {tv tv2 : Value} {T N : List Nd} {o o2 : Nat} {w w1 w2 w3 W0 : World}
theorem group_at (hN : NameOk) (h : PS c U i tv T o w) (nb : Nat) (hnb : ∀ k, U k ∨ k = c.bl ∨ k = c.p → k ≠ nb) (x0 x1 x2 x3 x4 x5 x6 x7 x8 x9 x10 x11 x12 x13 x14 x15 : Value)
    (hn : w.heap[nb]? = some (.cells #[x0, x1, x2, x3, x4, x5, x6, x7, x8, x9, x10, x11, x12, x13, x14, x15] 49 (0, 0))) (h1 : ∀ u ∈ [x0, x1, x2, x3, x4, x5, x6, x7, x8, x9, x10, x11, x12, x13, x14, x15], u.oneCell' = true) :
    Calls Tryz.prog 243 #[.pointer (some ⟨c.p, 0, none⟩), .pointer (some ⟨nb, 0, none⟩)] w (GroupOut c U i tv T o nb [x0, x1, x2, x3, x4, x5, x6, x7, x8, x9, x10, x11, x12, x13, x14, x15] w) := grouping_any hN h nb hnb x0 x1 x2 x3 x4 x5 x6 x7 x8 x9 x10 x11 x12 x13 x14 x15 hn h1
theorem group_new (hN : NameOk) (h : PS c U i tv T o w) (x0 x1 x2 x3 x4 x5 x6 x7 x8 x9 x10 x11 x12 x13 x14 x15 : Value) (h1 : ∀ u ∈ [x0, x1, x2, x3, x4, x5, x6, x7, x8, x9, x10, x11, x12, x13, x14, x15], u.oneCell' = true) :
    Calls Tryz.prog 243 #[.pointer (some ⟨c.p, 0, none⟩), .pointer (some ⟨w.heap.size, 0, none⟩)] (w.alloc (.cells #[x0, x1, x2, x3, x4, x5, x6, x7, x8, x9, x10, x11, x12, x13, x14, x15] 49)) (GroupOut c U i tv T o w.heap.size [x0, x1, x2, x3, x4, x5, x6, x7, x8, x9, x10, x11, x12, x13, x14, x15] (w.alloc (.cells #[x0, x1, x2, x3, x4, x5, x6, x7, x8, x9, x10, x11, x12, x13, x14, x15] 49))) :=
  group_at hN (h.still ((Fr.refl none_ w).alloc _)) _ (h.fresh (Nat.le_refl _)) x0 x1 x2 x3 x4 x5 x6 x7 x8 x9 x10 x11 x12 x13 x14 x15 (heap_alloc_new w _) h1
theorem PS.far2 {T2 : List Nd} {nb : Nat} (hnb : ∀ k, V k ∨ k = c.bl ∨ k = c.p → k ≠ nb) (hs : nb < w1.heap.size) (h5 : PS c (Nx V w1 w2) j tv2 T2 o2 w) : ∀ k, Nx V w1 w2 k ∨ k = c.bl ∨ k = c.p → k ≠ nb := by
  rintro k ((hk | ⟨hk, _⟩) | hk)
  · exact hnb k (.inl hk)
  · omega
  · exact hnb k (.inr hk)
theorem not_S1 {nb : Nat} (h : ∀ k, V k ∨ k = c.bl ∨ k = c.p → k ≠ nb) : ¬ c.S1 nb := fun e => h nb (.inr (.inr e)) rfl

theorem take_some (h : PS c U i tv T o w) (k : Int) (s : ByteArray) (hk : k ≠ 0) :
    Calls Tryz.prog 75 #[.pointer (some ⟨c.p, 0, none⟩), .int .i64 k, .string s] w fun e w' => ∃ (b : Bool) (j : Nat), e = .returned (.bool b) ∧ i ≤ j ∧ PS c U j tv T o w' ∧ Fr c.S1 w w' :=
  (take_any h k s hk).mono fun _ _ r => r.elim (fun ⟨a, b, d⟩ => ⟨true, i + 1, a, Nat.le_succ i, b, d⟩) fun ⟨a, b, d⟩ => ⟨false, i, a, Nat.le_refl i, b, d⟩
/-- An aggregation under way, its parts read. -/
def AgRel (c : Cx) (U : Nat → Prop) (i : Nat) (T : List Nd) (o : Nat) (s : ByteArray) (nb : Nat) (w wx : World) : Prop :=
  ∃ (V : Nat → Prop) (j : Nat) (tv' : Value) (N : List Nd) (a b : Int) (ks : List Nat) (y6 y7 y8 y9 y10 y11 : Value),
    ((∃ k : Nat, a = k ∧ b = -1 ∧ ks = [k]) ∨ ∃ k1 k2 : Nat, a = k2 ∧ b = k1 ∧ ks = [k1, k2]) ∧ Fo.Forest T.length (N.map Nd.kids) ks ∧ N.length + 1 + i ≤ j ∧ (∀ u ∈ [y6, y7, y8, y9, y10, y11], u.oneCell' = true) ∧
    (∀ g, V g → Nx U w wx g) ∧ (∀ k, V k ∨ k = c.bl ∨ k = c.p → k ≠ nb) ∧ PS c V j tv' (T ++ N) o wx ∧ wx.heap[nb]? = some (.cells #[.int .i64 6, .int .i64 0, .int .i64 a, .int .i64 b, .float .f64 0, .string s, y6, y7, y8, y9, y10, y11, .slice none 0 0, .slice none 0 0, .int .i64 0, .int .i64 0] 49 (0, 0)) ∧ Fr (c.S U) w wx
theorem rep_aggr {s : ByteArray} {y6 y7 y8 y9 y10 y11 : Value} {a b : Int} {ks : List Nat} (hk : (∃ k : Nat, a = k ∧ b = -1 ∧ ks = [k]) ∨ ∃ k1 k2 : Nat, a = k2 ∧ b = k1 ∧ ks = [k1, k2]) (hy : ∀ u ∈ [y6, y7, y8, y9, y10, y11], u.oneCell' = true) :
    Rep U tv w ⟨[.int .i64 6, .int .i64 0, .int .i64 a, .int .i64 b, .float .f64 0, .string s, y6, y7, y8, y9, y10, y11, .slice none 0 0, .slice none 0 0, .int .i64 0, .int .i64 0], ks⟩ := by
  rcases hk with ⟨k, rfl, rfl, rfl⟩ | ⟨k1, k2, rfl, rfl, rfl⟩
  · exact rep_aggr1 k (by simp_all [Value.oneCell'])
  · exact rep_aggr2 k2 k1 (by simp_all [Value.oneCell'])
theorem Nx.keep1 {g : Nat} (h12 : w1.heap.size ≤ w2.heap.size) (h : Nx U w w1 g) : Nx U w w2 g := h.imp id fun ⟨a, b⟩ => ⟨a, Nat.lt_of_lt_of_le b h12⟩
theorem PS.re (h0 : PS c U i tv T o w) {T2 : List Nd} (h : PS c (Nx U w w1) j tv2 T2 o2 w2) (h1 : w.heap.size ≤ w2.heap.size) (h12 : w1.heap.size ≤ w2.heap.size) : PS c (Nx U w w2) j tv2 T2 o2 w2 :=
  h0.nx h h1 fun _ hg => Nx.keep1 h12 hg
theorem PS.notnb {T2 : List Nd} (h0 : PS c U i tv T o w) (h : PS c V j tv2 T2 o2 w1) : True := trivial
set_option maxHeartbeats 16000000 in
theorem aggr_ok (hN : NameOk) (hB : BinaryOk c B0 W0 m) (s : ByteArray) (h : PS c U i tv T o w) (g : Gl c B0 W0 w) (hm : c.l.length - i ≤ m + 1) :
    Calls Tryz.prog 197 #[.pointer (some ⟨c.p, 0, none⟩), .string s] w (Read c U i T o (c.S U) w) := by
  have hi := h.i_lt
  have ho := h.o_le
  have hnb := h.fresh (Nat.le_refl _)
  have hnp : w.heap.size ≠ c.p := Nat.ne_of_gt h.p_lt
  have hpn := Ne.symm hnp
  have HNB := Lib.hid hnb; clear hnb
  obtain ⟨d49, u49, s49⟩ := row49
  have rsf : ∀ (w : World) (a : Addr) (n : Nat), Sem.run Tryz.prog (store a (.float .f64 n)) w = stored Tryz.prog w a (.float .f64 n) .plain := fun w a n => run_store Tryz.prog w a _ .plain rfl
  go_enter Tryz.func197, Tryz.ntmps197
  go_upto_if 17 with (first
    | (go_at_call 243; ((with_reducible refine (group_new hN h _ _ _ _ _ _ _ _ _ _ _ _ _ _ _ _ (by simp [Value.oneCell'])).mono ?_); rintro e w2 (⟨b, i2, cs2, rfl, hi2, h2, n2, kp2, f2⟩ | ⟨⟨why, at_, hw, rfl⟩, f2⟩)) <;> (have F2 : Fr (c.S U) w w2 := ((Fr.refl _ w).alloc _).words f2 (Nat.le_refl _)); (first | (obtain ⟨y6, y7, y8, y9, y10, y11, rfl, hy⟩ := keeps_out kp2; unfold NodeAt at n2; have hz2 : w.heap.size < w2.heap.size := size_of_get n2) | skip))
    | (go_at_call 118; ((with_reducible refine (paren_any h2).mono ?_); rintro e w3 (⟨rfl, h3, f3⟩ | ⟨⟨why, at_, hw, rfl⟩, f3⟩)) <;> (have F3 : Fr (c.S U) w w3 := F2.thenS f3.su); (first | (have n3 := f3.get n2 (not_S1 HNB.out); have hz3 : w.heap.size < w3.heap.size := size_of_get n3) | skip))
    | (go_at_call 26; ((with_reducible refine (hB _ (by decide) _ _ _ _ _ _ h3 (g.next h F3) (by omega)).mono ?_); rintro e w4 (⟨i4, tv4, N4, k4, rfl, r4⟩ | ⟨⟨why, at_, hw, rfl⟩, f4⟩)); (first | (have h4 := r4.ps; have F4 : Fr (c.S U) w w4 := F3.thenS r4.fr; have n4 := r4.fr.get n3 (not_S HNB.out); have far4 := PS.far2 HNB.out hz3 h4; have hz4 : w.heap.size < w4.heap.size := size_of_get n4; have A := cells16 n4; obtain ⟨q0, q1, q2, q3, q4, q5, q6, q7, q8, q9, q10, q11, q12, q13, q14, q15⟩ := A; have z4 := frz_at n4; have h5 := h4.setOwn far4 2 (.int .i64 k4); have n5 := heap_set n4 (n := 2) (.int .i64 k4); simp only [List.setIfInBounds_toArray, List.set_cons_zero, List.set_cons_succ] at n5; have F5 := F4.own (Nat.le_refl _) 2 (.int .i64 k4); have FAR4 := Lib.hid far4; clear far4) | skip))
    | (go_at_call 75; ((with_reducible refine (take_some h5 _ _ (by decide)).mono ?_); rintro e w6 ⟨t, j6, rfl, hj6, h6, f6⟩); (have n6 := f6.get n5 (not_S1 HNB.out); have F6 := F5.thenS f6.su)))
  all_goals first
    | exact ⟨rfl, .inr ⟨⟨why, at_, hw, rfl⟩, F2⟩⟩
    | exact ⟨rfl, .inr ⟨⟨why, at_, hw, rfl⟩, F3⟩⟩
    | exact ⟨rfl, .inr ⟨⟨why, at_, hw, rfl⟩, F3.thenS f4⟩⟩
    | skip
  clear n5 n4 q0 q1 q2 q3 q4 q5 q6 q7 q8 q9 q10 q11 q12 q13 q14 q15 z4 h5 F5
  go_cut [] (AgRel c U i T (o + 1) s w.heap.size w)
  case first =>
    cases t
    case false =>
      go_wp2
      all_goals go_meet
      exact ⟨_, j6, tv4, N4, k4, -1, [k4], y6, y7, y8, y9, y10, y11, .inl ⟨k4, rfl, rfl, rfl⟩, r4.forest, by have := r4.cnt; omega, hy, fun _ hg => Nx.up F3.size (by have := f6.size; simp at this; omega) hg, FAR4.out, h6, n6, F6⟩
    case true =>
      obtain ⟨q0, q1, q2, q3, q4, q5, q6, q7, q8, q9, q10, q11, q12, q13, q14, q15⟩ := cells16 n6
      have z6 := frz_at n6
      go_wp2_with (first
        | (go_at_call 26; (have h7 := h6.setOwn FAR4.out 3 (.int .i64 k4)); (have n7 := heap_set n6 (n := 3) (.int .i64 k4)); (simp only [List.setIfInBounds_toArray, List.set_cons_zero, List.set_cons_succ] at n7); (have F7 := F6.own (Nat.le_refl _) 3 (.int .i64 k4)); (have hz7 := size_of_get n7); (have hs47 : w4.heap.size ≤ (w6.setCell ⟨w.heap.size, 3, none⟩ (.int .i64 k4)).heap.size := (by have := f6.size; simp at *; omega)); ((with_reducible refine (hB _ (by decide) _ _ _ _ _ _ h7 (g.next h F7) (by have := r4.lt; omega)).mono ?_); rintro e w8 (⟨i8, tv8, N8, k8, rfl, r8⟩ | ⟨⟨why, at_, hw, rfl⟩, f8⟩)); (first | (have h8 := r8.ps; have F8 := F7.call r8.fr (fun _ hg => Nx.up F3.size hs47 hg); have n8 := r8.fr.get n7 (not_S FAR4.out); have far8 := PS.far2 FAR4.out hz7 h8; have A := cells16 n8; obtain ⟨q0, q1, q2, q3, q4, q5, q6, q7, q8, q9, q10, q11, q12, q13, q14, q15⟩ := A; have z8 := frz_at n8; have h9 := h8.setOwn far8 2 (.int .i64 k8); have n9 := heap_set n8 (n := 2) (.int .i64 k8); simp only [List.setIfInBounds_toArray, List.set_cons_zero, List.set_cons_succ] at n9; have F9 := F8.own (Nat.le_refl _) 2 (.int .i64 k8); have FAR8 := Lib.hid far8; clear far8) | skip)))
      all_goals first
        | exact ⟨rfl, .inr ⟨⟨why, at_, hw, rfl⟩, F7.call f8 (fun _ hg => Nx.up F3.size hs47 hg)⟩⟩
        | (go_meet
           exact ⟨_, i8, tv8, N4 ++ N8, k8, k4, [k4, k8], y6, y7, y8, y9, y10, y11, .inr ⟨k4, k8, rfl, rfl, rfl⟩, forest_two r4.forest r8.forest, by have := r4.cnt; have := r8.cnt; simp only [List.length_append]; omega, hy, fun _ hg => Nx.all (fun _ e => Nx.up F3.size (Nat.le_refl _) e) F7.size (by have := r8.fr.size; simp at *; omega) (by simp) hg, FAR8.out, h9.assoc, n9, F9⟩)
  case rest =>
    clear r4 FAR4 h6 n6 F6 h4 F4 n3 F3 n2 F2 hy
    obtain ⟨V, j, tv', N, a, b', ks, y6, y7, y8, y9, y10, y11, hk, hf, hn, hy, hV, hfar, hP, nP, hF⟩ := hcut
    have FAR := Lib.hid hfar; clear hfar
    have HV := Lib.hid hV; clear hV
    have HK := Lib.hid hk; clear hk
    have HY := Lib.hid hy; clear hy
    go_upto_if 27 with (first
      | (go_at_call 120; ((with_reducible refine (close_any hP).mono ?_); rintro e w10 (⟨rfl, h10, f10⟩ | ⟨⟨why, at_, hw, rfl⟩, f10⟩)) <;> (have F10 := hF.thenS f10.su); (first | (have n10 := f10.get nP (not_S1 HNB.out); have HV10 := Lib.hid (fun (g : Nat) (hg : V g) => Nx.keep1 f10.size (HV.out g hg))) | skip)))
    case inr => exact ⟨rfl, .inr ⟨⟨why, at_, hw, rfl⟩, F10⟩⟩
    clear hP nP hF f10 HV
    go_cut [] (fun wx => ∃ (jx : Nat) (z6 z7 z8 z9 z10 z11 : Value), j + 1 ≤ jx ∧ (∀ u ∈ [z6, z7, z8, z9, z10, z11], u.oneCell' = true) ∧ PS c V jx tv' (T ++ N) o wx ∧ (∀ g, V g → Nx U w wx g) ∧ wx.heap[w.heap.size]? = some (.cells #[.int .i64 6, .int .i64 0, .int .i64 a, .int .i64 b', .float .f64 0, .string s, z6, z7, z8, z9, z10, z11, .slice none 0 0, .slice none 0 0, .int .i64 0, .int .i64 0] 49 (0, 0)) ∧ Fr (c.S U) w wx)
    case first =>
      cases b
      case true =>
        go_wp2
        all_goals go_meet
        exact ⟨_, y6, y7, y8, y9, y10, y11, Nat.le_refl _, HY.out, h10, HV10.out, n10, F10⟩
      case false =>
        go_wp2_with (first
          | (go_at_call 243; ((with_reducible refine (group_at hN h10 w.heap.size FAR.out _ _ _ _ _ _ _ _ _ _ _ _ _ _ _ _ n10 (by have := HY.out; simp_all [Value.oneCell'])).mono ?_); rintro e w11 (⟨b2, i11, cs11, rfl, hi11, h11, n11, kp11, f11⟩ | ⟨⟨why, at_, hw, rfl⟩, f11⟩)) <;> (have F11 : Fr (c.S U) w w11 := F10.words f11 (Nat.le_refl _)); (first | (obtain ⟨v6, v7, v8, v9, v10, v11, rfl, hv⟩ := keeps_out kp11; unfold NodeAt at n11; have HV11 := Lib.hid (fun (g : Nat) (hg : V g) => Nx.keep1 f11.size (HV10.out g hg)); have HVV := Lib.hid hv; clear hv) | skip)))
        all_goals first
          | exact ⟨rfl, .inr ⟨⟨why, at_, hw, rfl⟩, F11⟩⟩
          | (go_meet
             exact ⟨i11, v6, v7, v8, v9, v10, v11, hi11, HVV.out, h11, HV11.out, n11, F11⟩)
    case rest =>
      clear h10 n10 F10 HV10
      obtain ⟨jx, z6, z7, z8, z9, z10, z11, hjx, hz, hP, hV, nP, hF⟩ := hcut
      have HV := Lib.hid hV; clear hV
      have HZ := Lib.hid hz; clear hz
      obtain ⟨q0, q1, q2, q3, q4, q5, q6, q7, q8, q9, q10, q11, q12, q13, q14, q15⟩ := cells16 nP
      go_wp2_with (first
        | (go_at_call 43; ((with_reducible refine (add_read h hP HV.out hF (fun _ e => e) hf _ ks (rep_aggr HK.out HZ.out) (fun _ => rfl) (by omega)).mono ?_); rintro e w12 ⟨tv12, M, k12, rfl, r12⟩)))
      go_ret
      exact .inl ⟨_, _, _, _, rfl, r12⟩
end Go.Proofs.YtjagjjdkgidkjaaGreatDoor
namespace Go.Proofs.YtjagjjdkgidkjaaGreatDoor
open Go Go.RowKit
set_option maxRecDepth 1000000
variable {c : Cx} {U V S : Nat → Prop} {i j m B0 : Nat} {tv tv2 : Value} {T N : List Nd} {o o2 : Nat} {w w1 w2 w3 W0 : World}
theorem run_frombits135 (n : Int) (w : World) : Sem.run Tryz.prog (callFunc 135 #[.int .u64 n]) w = .ok (.value (.float .f64 n.toNat)) w := by
  rw [run_callFunc_extern (e := Extern.MathFloatBits.float64frombits) Tryz.func135 (by kernel_rfl) (by kernel_rfl) (by kernel_rfl) (by kernel_rfl)]
  rfl
def SpecialOut (w : World) (e : Ending) (w' : World) : Prop := ∃ (f : Nat) (b : Bool), e = .returned (.tuple #[.float .f64 f, .bool b]) ∧ w = w'
theorem specialOut_mk (w : World) (f : Nat) (b : Bool) : SpecialOut w (.returned (.tuple #[.float .f64 f, .bool b])) w := ⟨f, b, rfl, rfl⟩
set_option maxHeartbeats 4000000 in
theorem special_any (s : ByteArray) (w : World) : Calls Tryz.prog 169 #[.string s] w (SpecialOut w) := by
  have rfb := run_frombits135
  go_enter Tryz.func169, Tryz.ntmps169
  go_wp2
  all_goals
    go_ret2
    exact specialOut_mk _ _ _
end Go.Proofs.YtjagjjdkgidkjaaGreatDoor
namespace Go.Proofs.YtjagjjdkgidkjaaGreatDoor
open Go Go.RowKit
set_option maxRecDepth 1000000
variable {c : Cx} {U V S : Nat → Prop} {i j m B0 : Nat} {tv tv2 : Value} {T N : List Nd} {o o2 : Nat} {w w1 w2 w3 W0 : World}
theorem info3 : (Tryz.prog.info? 3).map (fun i => (i.zero, i.size, i.bytes)) = some (some (.int .i64 0), 1, 8) := by kernel_rfl
theorem und34 : Tryz.prog.underlying 34 = some (.slice 3) := by kernel_rfl
/-- A call under way, its arguments read. -/
def ArRel (c : Cx) (U : Nat → Prop) (i : Nat) (T : List Nd) (o : Nat) (s : ByteArray) (nb : Nat) (w wx : World) : Prop :=
  ∃ (V : Nat → Prop) (j : Nat) (tv' : Value) (N : List Nd) (ks : List Nat) (av : Value),
    Fo.Forest T.length (N.map Nd.kids) ks ∧ N.length + 1 + i ≤ j ∧ ks.length ≤ N.length ∧ (∀ g, V g → Nx U w wx g) ∧ (∀ k, V k ∨ k = c.bl ∨ k = c.p → k ≠ nb) ∧
    PS c V j tv' (T ++ N) o wx ∧ wx.heap[nb]? = some (.cells #[.int .i64 7, .int .i64 0, .int .i64 0, .int .i64 0, .float .f64 0, .string s, .bool false, .int .i64 0, .bool false, .slice none 0 0, .slice none 0 0, .slice none 0 0, av, .slice none 0 0, .int .i64 0, .int .i64 0] 49 (0, 0)) ∧ wx.ownsRow (nb + 1) 3 1 av ks.length (ks.map numOf) ∧ (∀ g, av.ownBlock = some g → ¬ V g) ∧ Fr (c.S U) w wx
theorem RdOk.ne {i' k : Nat} {tv' : Value} {w' : World} (r : RdOk c U i T o S w i' tv' N k w') : 1 ≤ N.length := by
  have h1 := r.root
  have h2 := (r.forest.within k (by simp)).1
  omega
theorem ar_step (h : PS c U i tv T o w) {s : ByteArray} {wd w4 w6 : World} {ks : List Nat} {av : Value} {i4 k4 : Nat} {tv4 : Value} {N4 : List Nd} {ob : Obj} {gg cap : Nat}
    (hf : Fo.Forest T.length (N.map Nd.kids) ks) (hn : N.length + 1 + i ≤ j) (hks : ks.length ≤ N.length) (hV : ∀ g, V g → Nx U w wd g) (far : ∀ k, V k ∨ k = c.bl ∨ k = c.p → k ≠ w.heap.size)
    (nP : wd.heap[w.heap.size]? = some (.cells #[.int .i64 7, .int .i64 0, .int .i64 0, .int .i64 0, .float .f64 0, .string s, .bool false, .int .i64 0, .bool false, .slice none 0 0, .slice none 0 0, .slice none 0 0, av, .slice none 0 0, .int .i64 0, .int .i64 0] 49 (0, 0))) (hO : wd.ownsRow (w.heap.size + 1) 3 1 av ks.length (ks.map numOf)) (hav : ∀ g, av.ownBlock = some g → ¬ V g) (hF : Fr (c.S U) w wd)
    (r4 : RdOk c V j (T ++ N) (o + 1) (c.S V) wd i4 tv4 N4 k4 w4) (hgrow : (w4.alloc ob).grownBy w6 av.ownBlock)
    (hown : w6.ownsRow (w.heap.size + 1) 3 1 (.slice (some ⟨gg, 0, none⟩) (ks.length + 1) cap) (ks.length + 1) (ks.map numOf ++ [.int .i64 k4])) (hat : av.ownBlock = some gg ∨ gg = w4.heap.size + 1) :
    ArRel c U i T (o + 1) s w.heap.size w (w6.setCell ⟨w.heap.size, 12, none⟩ (.slice (some ⟨gg, 0, none⟩) (ks.length + 1) cap)) ∧ c.idx (w6.setCell ⟨w.heap.size, 12, none⟩ (.slice (some ⟨gg, 0, none⟩) (ks.length + 1) cap)) = i4 := by
  have hg0 : ∀ g0, av.ownBlock = some g0 → w.heap.size + 1 ≤ g0 ∧ g0 < wd.heap.size := fun g0 e => hO.lt g0 e
  have f46 : Fr (fun k => av.ownBlock = some k) w4 w6 := ((Fr.refl _ w4).alloc ob).grown hgrow fun k hk _ => hk
  have hav' : ∀ g, av.ownBlock = some g → ¬ Nx V wd w4 g := fun g e hx => hx.elim (hav g e) fun hh => by have := hg0 g e; omega
  have far4 : ∀ k, Nx V wd w4 k ∨ k = c.bl ∨ k = c.p → k ≠ w.heap.size := PS.far2 far (size_of_get nP) r4.ps
  have h6 : PS c (Nx V wd w4) i4 tv4 ((T ++ N) ++ N4) (o + 1) w6 := r4.ps.keep f46 (by
    rintro k (hk | rfl | rfl) e
    · exact hav' k e hk
    · have := (hg0 _ e).1; have := h.bl_lt; omega
    · have := (hg0 _ e).1; have := h.p_lt; omega)
  have n4 := r4.fr.get nP (not_S far)
  have n6 : w6.heap[w.heap.size]? = some _ := f46.get n4 (fun e => by have := (hg0 _ e).1; omega)
  have F6 : Fr (c.S U) w w6 := (hF.call r4.fr hV).trans f46 fun k hk e => by have := (hg0 k e).1; omega
  have hgg : w.heap.size + 1 ≤ gg := (hown.lt gg rfl).1
  have n7 := heap_set n6 (n := 12) (.slice (some ⟨gg, 0, none⟩) (ks.length + 1) cap)
  simp only [List.setIfInBounds_toArray, List.set_cons_zero, List.set_cons_succ] at n7
  have F7 := F6.own (Nat.le_refl _) 12 (.slice (some ⟨gg, 0, none⟩) (ks.length + 1) cap)
  have h1 := r4.cnt
  refine ⟨⟨Nx V wd w4, i4, tv4, N ++ N4, ks ++ [k4], _, ?_, by rw [List.length_append]; omega, by simp only [List.length_append, List.length_cons, List.length_nil]; have := r4.ne; omega, fun _ hg => Nx.all hV hF.size ?_ ?_ hg, far4, (h6.setOwn far4 12 _).assoc, n7, ?_, ?_, F7⟩, (h6.setOwn far4 12 _).idx⟩
  · rw [List.map_append]
    exact Fo.Forest.append hf (by simpa using r4.forest)
  · have := r4.fr.size; have := f46.size; simp; omega
  · have := f46.size; simp; omega
  · have hl : (ks ++ [k4]).length = ks.length + 1 := by simp
    rw [hl, List.map_append]
    refine ownsRow_keep (S := fun k => k = w.heap.size) hown ((Fr.refl _ w6).setCell ⟨w.heap.size, 12, none⟩ _ fun _ => rfl) fun g hg e => ?_
    have := (hown.lt g hg).1
    omega
  · intro g e
    simp only [Value.ownBlock, Option.some.injEq] at e
    subst e
    rcases hat with e | e
    · exact hav' gg e
    · intro hx
      have : gg < w4.heap.size := r4.ps.below gg hx
      omega
set_option maxHeartbeats 16000000 in
theorem call_ok (hB : BinaryOk c B0 W0 m) (s : ByteArray) (h : PS c U i tv T o w) (g : Gl c B0 W0 w) (hm : c.l.length - i ≤ m + 1) :
    Calls Tryz.prog 198 #[.pointer (some ⟨c.p, 0, none⟩), .string s] w (Read c U i T o (c.S U) w) := by
  have hi := h.i_lt
  have ho := h.o_le
  have hl := h.ok.len
  have hnb := h.fresh (Nat.le_refl _)
  have hnp : w.heap.size ≠ c.p := Nat.ne_of_gt h.p_lt
  have hpn := Ne.symm hnp
  have HNB := Lib.hid hnb; clear hnb
  obtain ⟨d49, u49, s49⟩ := row49
  obtain ⟨i0, hi0, hz0, hz1, hz2⟩ := info_parts info3
  have rsf : ∀ (w : World) (a : Addr) (n : Nat), Sem.run Tryz.prog (store a (.float .f64 n)) w = stored Tryz.prog w a (.float .f64 n) .plain := fun w a n => run_store Tryz.prog w a _ .plain rfl
  go_enter Tryz.func198, Tryz.ntmps198
  go_upto_if 12 with (first
    | (go_at_call 118; ((with_reducible refine (paren_any (h.still ((Fr.refl none_ w).alloc _))).mono ?_); rintro e w2 (⟨rfl, h2, f2⟩ | ⟨⟨why, at_, hw, rfl⟩, f2⟩)) <;> (have F2 : Fr (c.S U) w w2 := ((Fr.refl _ w).alloc _).thenS f2.su); (first | (have n2 := f2.get (heap_alloc_new w _) (not_S1 HNB.out); have hz2 : w.heap.size < w2.heap.size := size_of_get n2) | skip))
    | (go_at_call 71; ((with_reducible refine (is_any h2 _ _).mono ?_); rintro e w3 ⟨rfl, f3⟩; have h3 := h2.still f3; have F3 : Fr (c.S U) w w3 := F2.thenS f3.nu; have n3 := f3.get n2 id)))
  case inr => exact ⟨rfl, .inr ⟨⟨why, at_, hw, rfl⟩, F2⟩⟩
  generalize isTok (c.l[i + 1]'h2.i_lt) 5 ⟨#[41]⟩ = bb
  have A3 : ArRel c U i T (o + 1) s w.heap.size w w3 := ⟨U, _, tv, [], [], _, Fo.Forest.nil _, by simp only [List.length_nil]; omega, by simp, fun g hg => .inl hg, HNB.out, (List.append_nil T).symm ▸ h3, n3, World.ownsRow_nil _ _ _ _, (by intro g hg; cases hg), F3⟩
  clear h2 f2 F2 n2 hz2 f3 h3 F3 n3
  go_cut [] (ArRel c U i T (o + 1) s w.heap.size w)
  case first =>
    cases bb
    case true =>
      go_wp2
      all_goals go_meet
      exact A3
    case false =>
      go_upto_region 4 with fail
      go_cut [] (ArRel c U i T (o + 1) s w.heap.size w)
      case first =>
        obtain ⟨V, j, tv', N, ks, av, hf, hn, hks, hV, far, hP, nP, hO, hav, hF⟩ := A3
        have q12 := (cells16 nP).2.2.2.2.2.2.2.2.2.2.2.2.1
        have hD := hP.still ((Fr.refl none_ w3).drew)
        have FD : Fr (c.S U) w w3.drew := hF.thenS ((Fr.refl none_ w3).drew).nu
        have nD := ((Fr.refl none_ w3).drew).get nP id
        have HO := Lib.hid (show w3.drew.ownsRow (w.heap.size + 1) 3 1 av ks.length (ks.map numOf) from ownsRow_keep hO ((Fr.refl none_ w3).drew) fun _ _ e => e); clear hO
        have HV := Lib.hid (show ∀ g, V g → Nx U w w3.drew g from hV); clear hV
        have FAR := Lib.hid far; clear far
        have HAV := Lib.hid hav; clear hav
        have AVS := Lib.hid (fun (g : Nat) (hg : av.ownBlock = some g) => (fun e => e.elim (fun e => by have := (HO.out.lt g hg).1; have := h.p_lt; omega) (HAV.out g hg) : ¬ c.S V g))
        have AVG := Lib.hid (fun (g : Nat) (hg : av.ownBlock = some g) => (HO.out.lt g hg).1)
        have hj := hP.i_lt
        have hkl : ks.length ≤ 4096 := by have := hP.i_lt; omega
        clear hP nP hF
        go_region_law (first
              | (refine step_append_lies _ (by rfl) _ _ _ (by rfl) (w.heap.size + 1) 3 i0 _ 1 8 und34 hi0 hz0 hz1 hz2 rfl (by decide) av ks.length (ks.map numOf) (by rfl) ((ownsRow_keep HO.out r4.fr (fun g hg => AVS.out g hg)).alloc _) ⟨w4.heap.size, 0, none⟩ 1 1 [.int .i64 k4] (by rfl) (by rfl) (cell_one_new _ _ _) (by intro u hu; simp only [List.mem_singleton] at hu; subst hu; rfl) (by decide) (by simp only [maxLen]; omega) (by omega) (by have := F4.size; rw [World.size_alloc]; omega) (w4.heap.size + 1) (by simp) ?_; (intro gg cap w6 hown6 hgrow hat hlt); (have n5 := (show w6.heap[w.heap.size]? = some _ from (hgrow.block w.heap.size (by have := size_of_get n4; simp; omega) (fun e => by have := AVG.out _ e.symm; omega)).trans ((Below.heap_alloc w4 _ w.heap.size (size_of_get n4)).trans n4))); (have a1 := (cell_at n5 12)); (have a2 := frz_at n5 12); simp only [List.getElem?_toArray, List.getElem?_cons_zero, List.getElem?_cons_succ] at a1)
              | (go_simp; (go_at_call 26; ((with_reducible refine (hB _ (by decide) _ _ _ _ _ _ hD (g.next h FD) (by omega)).mono ?_); rintro e w4 (⟨i4, tv4, N4, k4, rfl, r4⟩ | ⟨⟨why, at_, hw, rfl⟩, f4⟩)); (rotate_left; (exact ⟨rfl, .inr ⟨⟨why, at_, hw, rfl⟩, FD.call f4 HV.out⟩⟩)); (have F4 : Fr (c.S U) w w4 := FD.call r4.fr HV.out); (have n4 := r4.fr.get nD (not_S FAR.out)); (have q412 := cell_at n4 12); (simp only [List.getElem?_toArray, List.getElem?_cons_zero, List.getElem?_cons_succ] at q412); (have q4a := fun (ob : Obj) => (World.cell?_alloc_old w4 ob ⟨w.heap.size, 12, none⟩ (Nat.ne_of_lt (size_of_get n4))).trans q412))))
        all_goals
          go_wp2
          go_meet
          exact (ar_step h hf hn hks HV.out FAR.out nD HO.out HAV.out FD r4 hgrow hown6 hat).1
      case rest =>
        clear A3
        go_wp2
        go_loopw [] (fun wr => ArRel c U i T (o + 1) s w.heap.size w wr) (fun wr => c.l.length - c.idx wr)
        case atStart => exact hcut
        case round =>
          clear hcut
          obtain ⟨V, j, tv', N, ks, av, hf, hn, hks, hV, far, hP, nP, hO, hav, hF⟩ := hrel
          have hidx := Lib.hid hP.idx
          have HO := Lib.hid hO; clear hO
          have HV := Lib.hid hV; clear hV
          have FAR := Lib.hid far; clear far
          have HAV := Lib.hid hav; clear hav
          have hj := hP.i_lt
          go_wp2_with (first
            | (go_at_call 75; ((with_reducible refine (take_any hP _ _ (by decide)).mono ?_); rintro e w3 (⟨rfl, h3, f3⟩ | ⟨rfl, h3, f3⟩))))
          case inr =>
            go_meet
            exact ⟨V, j, tv', N, ks, av, hf, hn, hks, fun g hg => Nx.keep1 f3.size (HV.out g hg), FAR.out, h3, f3.get nP (not_S1 FAR.out), ownsRow_keep HO.out f3 (fun g hg e => by have := (HO.out.lt g hg).1; have := h.p_lt; unfold Cx.S1 at e; omega), HAV.out, hF.thenS f3.su⟩
          have hD := h3.still ((Fr.refl none_ w3).drew)
          have FD : Fr (c.S U) w w3.drew := (hF.thenS f3.su).thenS ((Fr.refl none_ w3).drew).nu
          have nD := ((Fr.refl none_ w3).drew).get (f3.get nP (not_S1 FAR.out)) id
          have q12 := (cells16 (f3.get nP (not_S1 FAR.out))).2.2.2.2.2.2.2.2.2.2.2.2.1
          have HO' := Lib.hid (show w3.drew.ownsRow (w.heap.size + 1) 3 1 av ks.length (ks.map numOf) from ownsRow_keep (ownsRow_keep HO.out f3 (fun g hg e => by have := (HO.out.lt g hg).1; have := h.p_lt; unfold Cx.S1 at e; omega)) ((Fr.refl none_ w3).drew) fun _ _ e => e)
          clear HO
          have HO := HO'; clear HO'
          have HV' := Lib.hid (show ∀ g, V g → Nx U w w3.drew g from fun g hg => Nx.keep1 f3.size (HV.out g hg))
          clear HV
          have HV := HV'; clear HV'
          have AVS := Lib.hid (fun (g : Nat) (hg : av.ownBlock = some g) => (fun e => e.elim (fun e => by have := (HO.out.lt g hg).1; have := h.p_lt; omega) (HAV.out g hg) : ¬ c.S V g))
          have AVG := Lib.hid (fun (g : Nat) (hg : av.ownBlock = some g) => (HO.out.lt g hg).1)
          have hkl : ks.length ≤ 4096 := by have := h3.i_lt; omega
          have hj3 := h3.i_lt
          clear hP nP hF h3 f3
          go_region_law (first
              | (refine step_append_lies _ (by rfl) _ _ _ (by rfl) (w.heap.size + 1) 3 i0 _ 1 8 und34 hi0 hz0 hz1 hz2 rfl (by decide) av ks.length (ks.map numOf) (by rfl) ((ownsRow_keep HO.out r4.fr (fun g hg => AVS.out g hg)).alloc _) ⟨w4.heap.size, 0, none⟩ 1 1 [.int .i64 k4] (by rfl) (by rfl) (cell_one_new _ _ _) (by intro u hu; simp only [List.mem_singleton] at hu; subst hu; rfl) (by decide) (by simp only [maxLen]; omega) (by omega) (by have := F4.size; rw [World.size_alloc]; omega) (w4.heap.size + 1) (by simp) ?_; (intro gg cap w6 hown6 hgrow hat hlt); (have n5 := (show w6.heap[w.heap.size]? = some _ from (hgrow.block w.heap.size (by have := size_of_get n4; simp; omega) (fun e => by have := AVG.out _ e.symm; omega)).trans ((Below.heap_alloc w4 _ w.heap.size (size_of_get n4)).trans n4))); (have a1 := (cell_at n5 12)); (have a2 := frz_at n5 12); simp only [List.getElem?_toArray, List.getElem?_cons_zero, List.getElem?_cons_succ] at a1)
              | (go_simp; (go_at_call 26; ((with_reducible refine (hB _ (by decide) _ _ _ _ _ _ hD (g.next h FD) (by omega)).mono ?_); rintro e w4 (⟨i4, tv4, N4, k4, rfl, r4⟩ | ⟨⟨why, at_, hw, rfl⟩, f4⟩)); (rotate_left; (exact ⟨rfl, .inr ⟨⟨why, at_, hw, rfl⟩, FD.call f4 HV.out⟩⟩)); (have F4 : Fr (c.S U) w w4 := FD.call r4.fr HV.out); (have n4 := r4.fr.get nD (not_S FAR.out)); (have q412 := cell_at n4 12); (simp only [List.getElem?_toArray, List.getElem?_cons_zero, List.getElem?_cons_succ] at q412); (have q4a := fun (ob : Obj) => (World.cell?_alloc_old w4 ob ⟨w.heap.size, 12, none⟩ (Nat.ne_of_lt (size_of_get n4))).trans q412))))
          all_goals
            go_wp2
            have A := ar_step h hf (by omega) hks HV.out FAR.out nD HO.out HAV.out FD r4 hgrow hown6 hat
            go_roundw
            case rel => exact A.1
            case measure => rw [A.2, hidx.out]; have := r4.lt; have := r4.ps.i_lt; omega
  case rest =>
    clear A3
    obtain ⟨V, j, tv', N, ks, av, hf, hn, hks, hV, far, hP, nP, hO, hav, hF⟩ := hcut
    have HO := Lib.hid hO; clear hO
    have HV := Lib.hid hV; clear hV
    have FAR := Lib.hid far; clear far
    have HAV := Lib.hid hav; clear hav
    have HNE := Lib.hid (fun g (hg : av.ownBlock = some g) => (fun e => HAV.out g hg (hP.used g e) : tv'.ownBlock ≠ some g))
    have h1av : av.oneCell' = true := by
      obtain ⟨a', m', k', rfl⟩ := Row.shape ⟨_, HO.out⟩
      rfl
    go_wp2_with (first
      | (go_at_call 120; ((with_reducible refine (close_any hP).mono ?_); rintro e w10 (⟨rfl, h10, f10⟩ | ⟨⟨why, at_, hw, rfl⟩, f10⟩)) <;> (have F10 := hF.thenS f10.su); (first | (have n10 := f10.get nP (not_S1 FAR.out); obtain ⟨q0, q1, q2, q3, q4, q5, q6, q7, q8, q9, q10, q11, q12, q13, q14, q15⟩ := cells16 n10; have HO10 := Lib.hid (show w10.ownsRow (w.heap.size + 1) 3 1 av ks.length (ks.map numOf) from ownsRow_keep HO.out f10 (fun g hg e => by have := (HO.out.lt g hg).1; have := h.p_lt; unfold Cx.S1 at e; omega)); have H10 := h10.more (U' := fun g => V g ∨ av.ownBlock = some g) (fun g hg => .inl hg) (fun g hg => hg.elim (fun e => ⟨h10.above g e, h10.below g e⟩) fun e => ⟨by have := (HO10.out.lt g e).1; have := h.nh; omega, (HO10.out.lt g e).2⟩); have HV10 := Lib.hid (show ∀ g, (V g ∨ av.ownBlock = some g) → Nx U w w10 g from fun g hg => hg.elim (fun e => Nx.keep1 f10.size (HV.out g e)) fun e => .inr ⟨by have := (HO10.out.lt g e).1; omega, (HO10.out.lt g e).2⟩); have REP := Lib.hid (show Rep (fun g => V g ∨ av.ownBlock = some g) tv' w10 ⟨[.int .i64 7, .int .i64 0, .int .i64 0, .int .i64 0, .float .f64 0, .string s, .bool false, .int .i64 0, .bool false, .slice none 0 0, .slice none 0 0, .slice none 0 0, av, .slice none 0 0, .int .i64 0, .int .i64 0], ks⟩ from rep_call 0 0 ks (HO10.out.mono (Nat.zero_le _)) (fun g hg => ⟨.inr hg, HNE.out g hg⟩) (by simp_all [Value.oneCell']))) | skip))
      | (go_at_call 43; ((with_reducible refine (add_read h H10 HV10.out F10 (fun _ e => e) hf _ ks REP.out (fun _ => rfl) (by omega)).mono ?_); rintro e w12 ⟨tv12, M, k12, rfl, r12⟩)))
    all_goals first
      | exact ⟨rfl, .inr ⟨⟨why, at_, hw, rfl⟩, F10⟩⟩
      | (go_ret; exact .inl ⟨_, _, _, _, rfl, r12⟩)
end Go.Proofs.YtjagjjdkgidkjaaGreatDoor
