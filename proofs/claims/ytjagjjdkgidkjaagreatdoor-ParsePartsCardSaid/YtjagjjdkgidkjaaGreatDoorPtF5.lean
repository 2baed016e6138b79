/- Strconv's floating-point reading: a part (Fp Pg Ph) of the proof that the law ParseParts answers true. No condition. -/
import Derived.Test.YtjagjjdkgidkjaaGreatDoorPtF4
import Derived.Laws.FloatArith
import Derived.Laws.Cover2
import Derived.Deep.CutBlock
set_option linter.all false
namespace Go.Proofs.YtjagjjdkgidkjaaGreatDoor
open Go
set_option maxRecDepth 100000
def NotNan (x : Nat) : Prop := (Ieee.double.read x).isNaN = false
def NumNZ (x : Nat) : Prop := (match Ieee.double.read x with | .number _ m _ => m != 0 | _ => false) = true
theorem dsw : Ieee.double.signWeight = 9223372036854775808 := rfl
theorem dinf : Ieee.double.infRung = 9218868437227405312 := rfl
theorem dbin : Ieee.double.binade = 4503599627370496 := rfl
theorem read_rung (x : Nat) (h : x % 9223372036854775808 ≤ 9218868437227405312) : NotNan x := by
  unfold NotNan Ieee.Format.read
  dsimp only
  by_cases h1 : x % Ieee.double.signWeight < Ieee.double.binade
  · rw [if_pos h1]; rfl
  by_cases h2 : x % Ieee.double.signWeight < Ieee.double.infRung
  · rw [if_neg h1, if_pos h2]; rfl
  by_cases h3 : x % Ieee.double.signWeight = Ieee.double.infRung
  · rw [if_neg h1, if_neg h2, if_pos h3]; rfl
  · rw [dsw, dinf] at h2 h3
    omega
theorem rung_of (x : Nat) (h : NotNan x) : x % 9223372036854775808 ≤ 9218868437227405312 := by
  unfold NotNan Ieee.Format.read at h
  dsimp only at h
  by_cases h1 : x % Ieee.double.signWeight < Ieee.double.binade
  · rw [dsw, dbin] at h1; omega
  by_cases h2 : x % Ieee.double.signWeight < Ieee.double.infRung
  · rw [dsw, dinf] at h2; omega
  by_cases h3 : x % Ieee.double.signWeight = Ieee.double.infRung
  · rw [dsw, dinf] at h3; omega
  · rw [if_neg h1, if_neg h2, if_neg h3] at h
    cases h
theorem word_ok (neg : Bool) (r : Nat) (h : r ≤ 9218868437227405312) : NotNan (Ieee.double.word neg r) := by
  refine read_rung _ ?_
  unfold Ieee.Format.word
  simp only [dsw]
  cases neg
  · simp only [Bool.false_eq_true, if_false]; omega
  · simp only [if_true]; omega
theorem nearest_ok (neg : Bool) (m : Nat) (p : Int) : NotNan (Ieee.double.nearest neg m p) := by
  unfold Ieee.Format.nearest
  split
  · exact word_ok _ _ (by omega)
  · refine word_ok _ _ ?_
    rw [dinf]
    exact Nat.min_le_right _ _
theorem write_ok (d : Ieee.Datum) (h : d.isNaN = false) : NotNan (Ieee.double.write d) := by
  cases d with
  | number n m p => exact nearest_ok n m p
  | infinity n => exact word_ok n _ (by rw [dinf]; omega)
  | nan _ _ => cases h
theorem ofInt_ok (n : Int) : NotNan (floatOfInt .f64 n) := by
  unfold floatOfInt FloatKind.nearest FloatKind.encode
  exact write_ok (.number _ _ _) rfl
theorem mul_ok {x y : Nat} (hx : NotNan x) (hy : NumNZ y) : ∃ r, Ieee.double.mul x y = some r ∧ NotNan r := by
  unfold NotNan at hx
  unfold NumNZ at hy
  unfold Ieee.Format.mul
  cases h1 : Ieee.double.read y with
  | infinity _ => rw [h1] at hy; cases hy
  | nan _ _ => rw [h1] at hy; cases hy
  | number t n j =>
    rw [h1] at hy
    have hn : n ≠ 0 := by simpa using hy
    cases h2 : Ieee.double.read x with
    | nan _ _ => rw [h2] at hx; cases hx
    | infinity s => exact ⟨_, by simp [Ieee.Datum.product, hn]; rfl, write_ok _ rfl⟩
    | number s m i => exact ⟨_, by simp [Ieee.Datum.product]; rfl, write_ok _ rfl⟩
theorem div_ok {x y : Nat} (hx : NotNan x) (hy : NumNZ y) : ∃ r, Ieee.double.div x y = some r ∧ NotNan r := by
  unfold NotNan at hx
  unfold NumNZ at hy
  unfold Ieee.Format.div
  cases h1 : Ieee.double.read y with
  | infinity _ => rw [h1] at hy; cases hy
  | nan _ _ => rw [h1] at hy; cases hy
  | number t n j =>
    rw [h1] at hy
    have hn : n ≠ 0 := by simpa using hy
    cases h2 : Ieee.double.read x with
    | nan _ _ => rw [h2] at hx; cases hx
    | infinity s => exact ⟨_, by simp [Ieee.Datum.quotient]; rfl, write_ok _ rfl⟩
    | number s m i => exact ⟨_, by simp [Ieee.Datum.quotient, hn]; rfl, write_ok _ rfl⟩
section
variable {P : Program}
theorem run_mul {x y : Nat} (hx : NotNan x) (hy : NumNZ y) : ∃ r, NotNan r ∧ ∀ (t : TypeId) (w : World), (binOp .mul t (.float .f64 x) (.float .f64 y)).run P w = .ok (.float .f64 r) w :=
  let ⟨r, h, hr⟩ := mul_ok hx hy
  ⟨r, hr, fun t w => run_float_arith w .mul t .f64 x y r h⟩
theorem run_div {x y : Nat} (hx : NotNan x) (hy : NumNZ y) : ∃ r, NotNan r ∧ ∀ (t : TypeId) (w : World), (binOp .quo t (.float .f64 x) (.float .f64 y)).run P w = .ok (.float .f64 r) w :=
  let ⟨r, h, hr⟩ := div_ok hx hy
  ⟨r, hr, fun t w => run_float_arith w .quo t .f64 x y r h⟩
theorem run_neg {x : Nat} (hx : NotNan x) : ∃ r, NotNan r ∧ ∀ (w : World), (Op.unary .neg (.float .f64 x)).run P w = .ok (.float .f64 r) w := by
  refine ⟨Op.negFloat .f64 x, ?_, fun w => rfl⟩
  have := rung_of x hx
  refine read_rung _ ?_
  show (x ^^^ 2 ^ 63) % 2 ^ 63 ≤ 9218868437227405312
  rw [Nat.xor_mod_two_pow, Nat.mod_self, Nat.xor_zero]
  exact this
end
end Go.Proofs.YtjagjjdkgidkjaaGreatDoor
namespace Go.Proofs.YtjagjjdkgidkjaaGreatDoor
open Go Go.RowKit
set_option maxRecDepth 1000000
structure PwTab (W : World) : Prop where
  row : ∃ b o n c : Nat, 23 ≤ n ∧ W.cell? ⟨16, 0, none⟩ = some (.slice (some ⟨b, o, none⟩) n c) ∧ ∀ i, i < 23 → ∃ f : Nat, NumNZ f ∧ W.cell? ⟨b, o + i, none⟩ = some (.float .f64 f)
theorem PwTab.fr {W w : World} (h : PwTab W) (f : Fr none_ W w) : PwTab w :=
  let ⟨b, o, n, c, hn, hc, hr⟩ := h.row
  ⟨b, o, n, c, hn, f.cell hc id, fun i hi => let ⟨x, hz, hx⟩ := hr i hi; ⟨x, hz, f.cell hx id⟩⟩
def FlB (v : Value) : Prop := ∃ (f : Nat) (b : Bool), v = .tuple #[.float .f64 f, .bool b]
theorem flB_mk {w : World} (f : Nat) (b : Bool) : ValOut FlB w (.returned (.tuple #[.float .f64 f, .bool b])) w := valOut_mk ⟨f, b, rfl⟩
set_option maxHeartbeats 2000000 in
theorem exact_any (m p : Int) (ng : Bool) (w : World) (hm : U64 m) (hp : -345 ≤ p) (hp2 : p ≤ 310) (hT : FlTab w) (hW : PwTab w) : Calls Tryz.prog 330 #[.int .u64 m, .int .i64 p, .bool ng] w (ValOut FlB w) := by
  obtain ⟨b, o, n, c, hn, hc, hr⟩ := hW.row
  have m0 := hT.m0
  have HR := Lib.hid hr
  clear hr hW hT
  obtain ⟨f22, z22, h22⟩ := HR.out 22 (by omega)
  have hm1 := ofInt_ok m
  obtain ⟨y, hy1, hy⟩ := run_neg (P := Tryz.prog) hm1
  go_enter Tryz.func330, Tryz.ntmps330
  cases hs : (m / 4503599627370496 != 0)
  case true =>
    go_wp2
    go_ret2
    exact flB_mk _ _
  go_upto_if 15 with fail
  go_cut [6] (fun v wx => ∃ f : Nat, v = .float .f64 f ∧ NotNan f ∧ w = wx)
  case first =>
    cases ng
    all_goals
      go_wp2
      go_meet
      first
        | exact ⟨_, rfl, hy1, rfl⟩
        | exact ⟨_, rfl, hm1, rfl⟩
  case rest =>
    obtain ⟨x, rfl, hx, rfl⟩ := hcut
    clear hy hy1 y hm1
    by_cases hA : 22 < p ∧ p ≤ 37
    · obtain ⟨k, rfl⟩ : ∃ k : Nat, p = (k : Int) + 22 := ⟨(p - 22).toNat, by omega⟩
      have hk0 : 0 < k := by omega
      have hk1 : k ≤ 15 := by omega
      clear hA hp hp2
      obtain ⟨fk, zk, hk⟩ := HR.out k (by omega)
      have hkn : k < n := by omega
      have h22n : 22 < n := by omega
      obtain ⟨r1, hr1, e1⟩ := run_mul (P := Tryz.prog) hx zk
      obtain ⟨r2, hr2, e2⟩ := run_mul (P := Tryz.prog) hr1 z22
      have E1 := e1 44
      have E2 := e2 44
      clear e1 e2
      go_wp2
      all_goals first
        | (go_ret2; exact flB_mk _ _)
    by_cases hB : 0 < p ∧ p ≤ 22
    · obtain ⟨k, rfl⟩ : ∃ k : Nat, p = (k : Int) := ⟨p.toNat, by omega⟩
      have hk0 : 0 < k := by omega
      have hk1 : k ≤ 22 := by omega
      clear hA hB hp hp2
      obtain ⟨fk, zk, hk⟩ := HR.out k (by omega)
      have hkn : k < n := by omega
      obtain ⟨r1, hr1, e1⟩ := run_mul (P := Tryz.prog) hx zk
      have E1 := e1 44
      clear e1
      go_wp2
      all_goals first
        | (go_ret2; exact flB_mk _ _)
    by_cases hC : p < 0 ∧ -22 ≤ p
    · obtain ⟨k, rfl⟩ : ∃ k : Nat, p = -(k : Int) := ⟨(-p).toNat, by omega⟩
      have hk0 : 0 < k := by omega
      have hk1 : k ≤ 22 := by omega
      clear hA hB hC hp hp2
      obtain ⟨fk, zk, hk⟩ := HR.out k (by omega)
      have hkn : k < n := by omega
      obtain ⟨r1, hr1, e1⟩ := run_div (P := Tryz.prog) hx zk
      have E1 := e1 44
      clear e1
      go_wp2
      all_goals first
        | (go_ret2; exact flB_mk _ _)
    go_wp2
    all_goals (go_ret2; exact flB_mk _ _)
end Go.Proofs.YtjagjjdkgidkjaaGreatDoor
namespace Go.Proofs.YtjagjjdkgidkjaaGreatDoor
open Go Go.RowKit
set_option maxRecDepth 1000000
/-- What strconv's error variables hold. -/
structure ErTab (W : World) : Prop where
  syn : ∃ t : TypeId, ∃ p : Value, W.cell? ⟨5, 0, none⟩ = some (.iface t p)
  ran : ∃ t : TypeId, ∃ p : Value, W.cell? ⟨6, 0, none⟩ = some (.iface t p)
theorem ErTab.fr {W w : World} (h : ErTab W) (f : Fr none_ W w) : ErTab w :=
  ⟨let ⟨t, p, hc⟩ := h.syn; ⟨t, p, f.cell hc id⟩, let ⟨t, p, hc⟩ := h.ran; ⟨t, p, f.cell hc id⟩⟩
def AnyV (v : Value) : Prop := True
set_option maxHeartbeats 2000000 in
theorem synErr_any (fn s : ByteArray) (w : World) (hs : s.size ≤ 10000000) (hE : ErTab w) : Calls Tryz.prog 232 #[.string fn, .string s] w (FrOut (fun v => ∃ N : Nat, v = .pointer (some ⟨N, 0, none⟩)) w) := by
  obtain ⟨te, pe, hv⟩ := hE.syn
  have mixed : Tryz.prog.follows .mixedOrders = true := by kernel_rfl
  have hG : 5 < w.heap.size := Lib.lt_of_cell hv
  have hvd : w.drew.cell? ⟨5, 0, none⟩ = some _ := hv
  go_enter Tryz.func232, Tryz.ntmps232
  go_wp2
  go_region_with_o (
    go_at_call 271
    refine (Tryz.stringslite_Clone s _ (by omega)).mono ?_
    rintro e w2 ⟨rfl, hbel⟩
    have hv2 : w2.cell? ⟨5, 0, none⟩ = some _ := (hbel.cell (show (⟨5, 0, none⟩ : Addr).block < w.drew.heap.size from hG)).trans hvd)
  all_goals (
    go_wp2
    go_ret
    exact frOut_mk ⟨_, rfl⟩ (((Fr.refl _ w).drew.none2 (fr_below hbel)).alloc _))
set_option maxHeartbeats 2000000 in
theorem ranErr_any (fn s : ByteArray) (w : World) (hs : s.size ≤ 10000000) (hE : ErTab w) : Calls Tryz.prog 233 #[.string fn, .string s] w (FrOut (fun v => ∃ N : Nat, v = .pointer (some ⟨N, 0, none⟩)) w) := by
  obtain ⟨te, pe, hv⟩ := hE.ran
  have mixed : Tryz.prog.follows .mixedOrders = true := by kernel_rfl
  have hG : 6 < w.heap.size := Lib.lt_of_cell hv
  have hvd : w.drew.cell? ⟨6, 0, none⟩ = some _ := hv
  go_enter Tryz.func233, Tryz.ntmps233
  go_wp2
  go_region_with_o (
    go_at_call 271
    refine (Tryz.stringslite_Clone s _ (by omega)).mono ?_
    rintro e w2 ⟨rfl, hbel⟩
    have hv2 : w2.cell? ⟨6, 0, none⟩ = some _ := (hbel.cell (show (⟨6, 0, none⟩ : Addr).block < w.drew.heap.size from hG)).trans hvd)
  all_goals (
    go_wp2
    go_ret
    exact frOut_mk ⟨_, rfl⟩ (((Fr.refl _ w).drew.none2 (fr_below hbel)).alloc _))
theorem ifq (a b : Int) (w : World) : Sem.run Tryz.prog (binOp BinOp.eql 143 (.iface 243 (.int .i64 a)) (.iface 243 (.int .i64 b))) w = .ok (.bool (a == b)) w :=
  Lib.run_eql_iface_int w a b Tryz.underlying143 (by kernel_rfl) Tryz.underlying243
set_option maxHeartbeats 2000000 in
theorem toErr_any (s : ByteArray) (er : Value) (her : er = .iface 243 (.int .i64 1) ∨ er = .iface 243 (.int .i64 2)) (w : World) (hs : s.size ≤ 10000000) (hE : ErTab w) : Calls Tryz.prog 186 #[.string ⟨#[80, 97, 114, 115, 101, 70, 108, 111, 97, 116]⟩, .string s, .int .i64 0, .int .i64 64, er] w (FrOut AnyV w) := by
  have h12 := ifq 1 2
  have h11 := ifq 1 1
  have h22 := ifq 2 2
  simp only [show ((1 : Int) == 2) = false from rfl, show ((1 : Int) == 1) = true from rfl, show ((2 : Int) == 2) = true from rfl] at h12 h11 h22
  rcases her with rfl | rfl
  all_goals
    go_enter Tryz.func186, Tryz.ntmps186
    go_wp2_with (first
      | (go_at_call 232; ((with_reducible refine (synErr_any _ _ _ hs hE).mono ?_); rintro e w1 ⟨v, rfl, ⟨N, rfl⟩, f1⟩))
      | (go_at_call 233; ((with_reducible refine (ranErr_any _ _ _ hs hE).mono ?_); rintro e w1 ⟨v, rfl, ⟨N, rfl⟩, f1⟩)))
    go_ret
    exact frOut_mk trivial f1
end Go.Proofs.YtjagjjdkgidkjaaGreatDoor
