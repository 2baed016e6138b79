/- The library's tables, the closed facts: a part (Gf Gg) of the proof that the law ParseParts answers true. No condition. -/
import Derived.Test.YtjagjjdkgidkjaaGreatDoorPtE5
import Derived.Test.YtjagjjdkgidkjaaGreatDoorPtD4
import Derived.Shelf.Unicode.DecodeSlow
import Derived.Test.YtjagjjdkgidkjaaGreatDoorRows
set_option linter.all false
namespace Go.Proofs.YtjagjjdkgidkjaaGreatDoor.Ev
open Go Go.RowKit
/-- A listed variable's cell, as the evaluator lays it. -/
noncomputable def gAt (r : AS × List Nat) (g i : Nat) : Option AV :=
  match memN g r.2 with
  | true => match r.1.get g with
    | some (.cells c size _ _ _ _) => match Nat.blt i size with
      | true => c.get i
      | false => none
    | _ => none
  | false => none
/-- A block that a listed variable points to. -/
noncomputable def bAt (r : AS × List Nat) (b i : Nat) : Option AV :=
  match r.1.get b with
  | some (.cells c size _ _ _ _) => match Nat.blt i size with
    | true => c.get i
    | false => none
  | _ => none
variable {P : Program}
theorem gAt_cell {W : World} {r : AS × List Nat} {π : Pi} (h : HR (fun g => memN g r.2) W.heap.size W π r.1 W) {g i : Nat} {x : AV} (hx : gAt r g i = some x) : ∃ v, W.cell? ⟨g, i, none⟩ = some v ∧ VR π x v := by
  unfold gAt at hx
  split at hx
  case h_2 => cases hx
  rename_i hm
  split at hx
  case h_2 => cases hx
  rename_i c size el frz own kind hg
  split at hx
  case h_2 => cases hx
  rename_i hi
  have hi' : i < size := Nat.lt_of_succ_le (by simpa [Nat.blt] using hi)
  obtain ⟨rs0, hπ⟩ := h.glob g hm
  have hb := h.blk g _ hg
  obtain ⟨rb, δ, rs, cs, fr, h1, ⟨el', h2, _⟩, h3, h4, h5, _⟩ := hb
  rw [hπ] at h1
  simp only [Option.some.injEq, Prod.mk.injEq] at h1
  obtain ⟨rfl, rfl, rfl⟩ := h1
  obtain ⟨x', v, a1, a2, a3⟩ := h5 i hi'
  rw [hx] at a1
  cases a1
  exact ⟨v, by simpa [World.cell?, h2] using a2, a3⟩
theorem bAt_cell {W : World} {r : AS × List Nat} {π : Pi} (h : HR (fun g => memN g r.2) W.heap.size W π r.1 W) {b i : Nat} {x : AV} (hx : bAt r b i = some x) {rb δ rs : Nat} (hp : π b = some (rb, δ, rs)) : ∃ v, W.cell? ⟨rb, δ + i, none⟩ = some v ∧ VR π x v := by
  unfold bAt at hx
  split at hx
  case h_2 => cases hx
  rename_i c size el frz own kind hg
  split at hx
  case h_2 => cases hx
  rename_i hi
  have hi' : i < size := Nat.lt_of_succ_le (by simpa [Nat.blt] using hi)
  have hb := h.blk b _ hg
  obtain ⟨rb', δ', rs', cs, fr, h1, ⟨el', h2, _⟩, h3, h4, h5, _⟩ := hb
  rw [hp] at h1
  simp only [Option.some.injEq, Prod.mk.injEq] at h1
  obtain ⟨rfl, rfl, rfl⟩ := h1
  obtain ⟨x', v, a1, a2, a3⟩ := h5 i hi'
  rw [hx] at a1
  cases a1
  exact ⟨v, by simpa [World.cell?, h2] using a2, a3⟩
end Go.Proofs.YtjagjjdkgidkjaaGreatDoor.Ev
set_option linter.all false
namespace Go.Proofs.YtjagjjdkgidkjaaGreatDoor
open Go Go.RowKit Go.Proofs.YtjagjjdkgidkjaaGreatDoor.Ev
set_option maxRecDepth 1000000
def isI (o : Option AV) (k : IntKind) (n : Int) : Bool := match o with | some (.int k' n') => decide (k' = k) && decide (n' = n) | _ => false
def isU (o : Option AV) : Bool := match o with | some (.int k n) => decide (k = .u64) && (decide (0 ≤ n) && decide (n < 18446744073709551616)) | _ => false
def isB (o : Option AV) : Bool := match o with | some (.bool _) => true | _ => false
def isF (o : Option AV) : Bool := match o with | some (.iface _ _) => true | _ => false
def isN (o : Option AV) : Bool := match o with | some (.float k f) => decide (k = .f64) && (match Ieee.double.read f with | .number _ m _ => m != 0 | _ => false) | _ => false
def isP (o : Option AV) : Bool := match o with | some (.int k n) => decide (k = .i64) && (decide (1 ≤ n) && decide (n ≤ 27)) | _ => false
def lastB : List Nat → Bool
  | [] => true
  | [d] => Nat.blt 0 d
  | _ :: l => lastB l
def isRow (k : Nat) (o1 o2 : Option AV) : Bool :=
  match o1, o2 with
  | some (.int kd d), some (.str s) => decide (kd = .i64) && (decide (0 ≤ d) && (Nat.ble s.length 100 && (s.all (fun c => Nat.ble 48 c && Nat.ble c 57) &&
      (lastB (s.map (· - 48)) && (Nat.beq (Dm.val (s.map (· - 48))) (5 ^ k) && (Nat.beq (s.length + d.toNat) (k + 1) && (Nat.ble (10 ^ d.toNat) (2 ^ k * 10) && Nat.blt (2 ^ k) (10 ^ d.toNat))))))))
  | _, _ => false
noncomputable def chk (r : AS × List Nat) : Bool :=
  (List.range 256).all (fun c => isI (gAt r 1 c) .u8 (Lib.firstT c)) &&
  ((List.range 16).all (fun i => isI (gAt r 2 (2 * i)) .u8 (Lib.accLo i) && isI (gAt r 2 (2 * i + 1)) .u8 (Lib.accHi i)) &&
  (isB (gAt r 3 0) && (isF (gAt r 5 0) && (isF (gAt r 6 0) &&
  ((List.range 1392).all (fun i => isU (gAt r 8 i)) &&
  ((match gAt r 9 0 with | some (.slice b 0 61 _ _ _) => (List.range 60).all (fun k => isRow (k + 1) (bAt r b ((k + 1) * 2)) (bAt r b ((k + 1) * 2 + 1))) | _ => false) &&
  (isI (gAt r 12 0) .u64 23 && (isI (gAt r 13 0) .u64 52 && (isI (gAt r 13 1) .u64 11 && (isI (gAt r 13 2) .i64 (-1023) &&
  ((match gAt r 15 0 with | some (.slice b 0 9 _ _ _) => (List.range 9).all (fun i => isP (bAt r b i)) | _ => false) &&
  (match gAt r 16 0 with | some (.slice b 0 23 _ _ _) => (List.range 23).all (fun i => isN (bAt r b i)) | _ => false))))))))))))
noncomputable def tabsOk : Bool := match layAll Tryz.prog Rows.parsePartsRow.laid .nil Tryz.prog.globals.size [] with
  | (σ, gs) => chk (σ, gs)
theorem tabs_ok : tabsOk = true := by kernel_rfl
end Go.Proofs.YtjagjjdkgidkjaaGreatDoor
