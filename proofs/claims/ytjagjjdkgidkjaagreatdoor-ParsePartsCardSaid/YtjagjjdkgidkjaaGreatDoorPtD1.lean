/- Strconv's decimal: a part (Ds Gd Du) of the proof that the law ParseParts answers true. No condition. -/
import Derived.Test.YtjagjjdkgidkjaaGreatDoorPtF4
import Derived.Deep.CutBlock
set_option linter.all false
namespace Go.Proofs.YtjagjjdkgidkjaaGreatDoor
open Go Go.RowKit
set_option maxRecDepth 1000000
/-- A decimal's block: its digits' bytes, their count, the point, the sign, the mark. -/
structure DB (b : Nat) (f : Nat → Nat) (nd dp : Int) (ng tr : Bool) (w : World) : Prop where
  blk : ∃ cs : Array Value, w.heap[b]? = some (.cells cs 236 (0, 0)) ∧ cs.size = 804 ∧ (∀ i, i < 800 → cs[i]? = some (.int .u8 (f i))) ∧
    cs[800]? = some (.int .i64 nd) ∧ cs[801]? = some (.int .i64 dp) ∧ cs[802]? = some (.bool ng) ∧ cs[803]? = some (.bool tr)
namespace DB
variable {b : Nat} {f : Nat → Nat} {nd dp : Int} {ng tr : Bool} {w : World}
theorem at_ (h : DB b f nd dp ng tr w) (i : Nat) (hi : i < 800) : w.cell? ⟨b, i, none⟩ = some (.int .u8 (f i)) := by
  obtain ⟨cs, hb, hz, hd, h0, h1, h2, h3⟩ := h.blk
  rw [cell_at' hb]; exact hd i hi
theorem nd_ (h : DB b f nd dp ng tr w) : w.cell? ⟨b, 800, none⟩ = some (.int .i64 nd) := by
  obtain ⟨cs, hb, hz, hd, h0, h1, h2, h3⟩ := h.blk
  rw [cell_at' hb]; exact h0
theorem dp_ (h : DB b f nd dp ng tr w) : w.cell? ⟨b, 801, none⟩ = some (.int .i64 dp) := by
  obtain ⟨cs, hb, hz, hd, h0, h1, h2, h3⟩ := h.blk
  rw [cell_at' hb]; exact h1
theorem ng_ (h : DB b f nd dp ng tr w) : w.cell? ⟨b, 802, none⟩ = some (.bool ng) := by
  obtain ⟨cs, hb, hz, hd, h0, h1, h2, h3⟩ := h.blk
  rw [cell_at' hb]; exact h2
theorem tr_ (h : DB b f nd dp ng tr w) : w.cell? ⟨b, 803, none⟩ = some (.bool tr) := by
  obtain ⟨cs, hb, hz, hd, h0, h1, h2, h3⟩ := h.blk
  rw [cell_at' hb]; exact h3
theorem fz (h : DB b f nd dp ng tr w) (i : Nat) : w.frozen? ⟨b, i, none⟩ = false := by
  obtain ⟨cs, hb, _⟩ := h.blk
  simp [World.frozen?, hb]
theorem lt (h : DB b f nd dp ng tr w) : b < w.heap.size := by
  obtain ⟨cs, hb, _⟩ := h.blk
  exact size_of_get hb
theorem setD (h : DB b f nd dp ng tr w) (i c : Nat) (hi : i < 800) : DB b (fun j => if j = i then c else f j) nd dp ng tr (w.setCell ⟨b, i, none⟩ (.int .u8 c)) := by
  obtain ⟨cs, hb, hz, hd, h0, h1, h2, h3⟩ := h.blk
  refine ⟨_, heap_set hb _, by simpa using hz, fun j hj => ?_, ?_, ?_, ?_, ?_⟩
  · rw [Array.getElem?_setIfInBounds]
    by_cases e : i = j
    · subst e; simp [hz]; omega
    · rw [if_neg e, if_neg (fun e2 => e e2.symm)]; exact hd j hj
  all_goals (rw [Array.getElem?_setIfInBounds_ne (by omega)]; assumption)
theorem setNd (h : DB b f nd dp ng tr w) (x : Int) : DB b f x dp ng tr (w.setCell ⟨b, 800, none⟩ (.int .i64 x)) := by
  obtain ⟨cs, hb, hz, hd, h0, h1, h2, h3⟩ := h.blk
  refine ⟨_, heap_set hb _, by simpa using hz, fun j hj => ?_, ?_, ?_, ?_, ?_⟩
  · rw [Array.getElem?_setIfInBounds_ne (by omega)]; exact hd j hj
  · simp [hz]
  all_goals (rw [Array.getElem?_setIfInBounds_ne (by omega)]; assumption)
theorem setDp (h : DB b f nd dp ng tr w) (x : Int) : DB b f nd x ng tr (w.setCell ⟨b, 801, none⟩ (.int .i64 x)) := by
  obtain ⟨cs, hb, hz, hd, h0, h1, h2, h3⟩ := h.blk
  refine ⟨_, heap_set hb _, by simpa using hz, fun j hj => ?_, ?_, ?_, ?_, ?_⟩
  · rw [Array.getElem?_setIfInBounds_ne (by omega)]; exact hd j hj
  · rw [Array.getElem?_setIfInBounds_ne (by omega)]; assumption
  · simp [hz]
  all_goals (rw [Array.getElem?_setIfInBounds_ne (by omega)]; assumption)
theorem setNg (h : DB b f nd dp ng tr w) (x : Bool) : DB b f nd dp x tr (w.setCell ⟨b, 802, none⟩ (.bool x)) := by
  obtain ⟨cs, hb, hz, hd, h0, h1, h2, h3⟩ := h.blk
  refine ⟨_, heap_set hb _, by simpa using hz, fun j hj => ?_, ?_, ?_, ?_, ?_⟩
  · rw [Array.getElem?_setIfInBounds_ne (by omega)]; exact hd j hj
  · rw [Array.getElem?_setIfInBounds_ne (by omega)]; assumption
  · rw [Array.getElem?_setIfInBounds_ne (by omega)]; assumption
  · simp [hz]
  · rw [Array.getElem?_setIfInBounds_ne (by omega)]; assumption
theorem setTr (h : DB b f nd dp ng tr w) (x : Bool) : DB b f nd dp ng x (w.setCell ⟨b, 803, none⟩ (.bool x)) := by
  obtain ⟨cs, hb, hz, hd, h0, h1, h2, h3⟩ := h.blk
  refine ⟨_, heap_set hb _, by simpa using hz, fun j hj => ?_, ?_, ?_, ?_, ?_⟩
  · rw [Array.getElem?_setIfInBounds_ne (by omega)]; exact hd j hj
  · rw [Array.getElem?_setIfInBounds_ne (by omega)]; assumption
  · rw [Array.getElem?_setIfInBounds_ne (by omega)]; assumption
  · rw [Array.getElem?_setIfInBounds_ne (by omega)]; assumption
  · simp [hz]
theorem fr (h : DB b f nd dp ng tr w) {w' : World} {S : Nat → Prop} (hf : Fr S w w') (hn : ¬ S b) : DB b f nd dp ng tr w' := by
  obtain ⟨cs, hb, rest⟩ := h.blk
  exact ⟨cs, hf.get hb hn, rest⟩
end DB
def isZ8 : Value → Bool
  | .int .u8 n => n == 0
  | _ => false
theorem isZ8_eq {v : Value} (h : isZ8 v = true) : v = .int .u8 0 := by
  unfold isZ8 at h
  split at h
  · rename_i n
    have : n = 0 := by simpa using h
    rw [this]
  · cases h
theorem zero_size : Tryz.zeroCells236.size = 804 := by kernel_rfl
theorem zero_all : (List.range 800).all (fun i => match Tryz.zeroCells236[i]? with | some v => isZ8 v | none => false) = true := by kernel_rfl
theorem zeroDec_db {b : Nat} {w : World} (h : w.heap[b]? = some (.cells Tryz.zeroCells236 236 (0, 0))) : DB b (fun _ => 0) 0 0 false false w := by
  refine ⟨_, h, zero_size, ?_, by kernel_rfl, by kernel_rfl, by kernel_rfl, by kernel_rfl⟩
  intro i hi
  have := List.all_eq_true.1 zero_all i (List.mem_range.2 hi)
  cases hc : Tryz.zeroCells236[i]? with
  | none => rw [hc] at this; cases this
  | some v => rw [hc] at this; exact congrArg some (isZ8_eq this)
end Go.Proofs.YtjagjjdkgidkjaaGreatDoor
namespace Go.Proofs.YtjagjjdkgidkjaaGreatDoor
open Go Go.RowKit
set_option maxRecDepth 1000000
/-- The digits are digits, and the first is not nought. -/
structure Good (f : Nat → Nat) (nd : Nat) : Prop where
  le : nd ≤ 800
  dig : ∀ i, i < nd → 48 ≤ f i ∧ f i ≤ 57
  lead : 0 < nd → f 0 ≠ 48
theorem Good.zero (f : Nat → Nat) : Good f 0 := ⟨by omega, fun i h => by omega, fun h => by omega⟩
theorem Good.put {f : Nat → Nat} {nd c : Nat} (h : Good f nd) (hn : nd < 800) (hc : 48 ≤ c ∧ c ≤ 57) (hz : nd = 0 → c ≠ 48) : Good (fun j => if j = nd then c else f j) (nd + 1) :=
  ⟨by omega, fun i hi => by
    by_cases e : i = nd
    · simp [e]; exact hc
    · simp [e]; exact h.dig i (by omega), fun _ => by
    by_cases e : 0 = nd
    · simp [← e]; exact hz e.symm
    · simp [e]; exact h.lead (by omega)⟩
theorem Fr.setB {b : Nat} {w0 w : World} (h : Fr (· = b) w0 w) (i : Nat) (v : Value) : Fr (· = b) w0 (w.setCell ⟨b, i, none⟩ v) := h.setCell ⟨b, i, none⟩ v fun _ => rfl
def DecOk (b : Nat) (w0 w : World) : Prop := ∃ (f : Nat → Nat) (nd : Nat) (dp : Int) (ng tr : Bool), DB b f nd dp ng tr w ∧ Good f nd ∧ -2000000 ≤ dp ∧ dp ≤ 2000000 ∧ Fr (· = b) w0 w
end Go.Proofs.YtjagjjdkgidkjaaGreatDoor
namespace Go.Proofs.YtjagjjdkgidkjaaGreatDoor
open Go Go.RowKit
set_option maxRecDepth 1000000
def TrimOut (b : Nat) (f : Nat → Nat) (nd : Nat) (dp : Int) (ng tr : Bool) (w : World) (e : Ending) (w' : World) : Prop := ∃ n : Nat, e = .returned (.tuple #[]) ∧ 1 ≤ n ∧ n ≤ nd ∧ DB b f n dp ng tr w' ∧ Fr (· = b) w w'
set_option maxHeartbeats 4000000 in
theorem trim261 (b : Nat) (f : Nat → Nat) (nd : Nat) (dp : Int) (ng tr : Bool) (w : World) (h1 : 1 ≤ nd) (h8 : nd ≤ 800) (h0 : f 0 ≠ 48) (hD : DB b f nd dp ng tr w) : Calls Tryz.prog 261 #[.pointer (some ⟨b, 0, none⟩)] w (TrimOut b f nd dp ng tr w) := by
  go_enter Tryz.func261, Tryz.ntmps261
  go_wp2
  go_loopw [] (fun wr => ∃ n : Nat, 1 ≤ n ∧ n ≤ nd ∧ DB b f n dp ng tr wr ∧ Fr (· = b) w wr) (fun wr => match wr.cell? ⟨b, 800, none⟩ with | some v => (intOf v).toNat | none => 0)
  case atStart => exact ⟨nd, h1, Nat.le_refl _, hD, Fr.refl _ w⟩
  case round =>
    obtain ⟨n, hn1, hn2, hDn, hF⟩ := hrel
    have zz := hDn.fz
    have c0 := hDn.nd_
    obtain ⟨m, rfl⟩ : ∃ m, n = m + 1 := ⟨n - 1, by omega⟩
    have c4 := hDn.at_ m (by omega)
    go_upto_region 0 with fail
    go_cut [19] (fun v wx => ∃ c : Bool, v = .bool c ∧ (c = true → 1 ≤ m) ∧ ∃ q, wx = wr.drewN q)
    case first => as_aux_lemma =>
      have hm : (m : Int) + 1 - 1 = m := by omega
      by_cases hz : m = 0
      · subst hz
        have hf : ((f 0 : Int) == 48) = false := by simp; omega
        go_quiet (fail)
        go_wp2
        all_goals go_meet
        all_goals exact ⟨false, rfl, (fun h => absurd h (by decide)), _, rfl⟩
      · go_quiet (fail)
        go_wp2
        all_goals go_meet
        all_goals exact ⟨_, rfl, (fun _ => by omega), _, rfl⟩
    case rest =>
      obtain ⟨c, rfl, hc, q, rfl⟩ := hcut
      have HC := Lib.hid hc
      clear hc
      have F2 : Fr none_ wr (wr.drewN q) := (Fr.refl _ wr).drewN q
      have D2 := hDn.fr F2 id
      have G2 : Fr (· = b) w (wr.drewN q) := hF.drewN q
      generalize wr.drewN q = w2 at F2 D2 G2 ⊢
      have zz2 := D2.fz
      have c02 := D2.nd_
      cases c
      · go_wp2
        refine bodyPost_end (results_none rfl _ _ _) rfl ?_
        exact ⟨m + 1, rfl, by omega, hn2, D2, G2⟩
      · go_wp2
        have D3 := D2.setNd (m : Int)
        refine ⟨⟨m, HC.out rfl, by omega, D3, G2.setCell ⟨b, 800, none⟩ _ fun _ => rfl⟩, ?_⟩
        rw [D3.nd_, c0]
        simp [intOf] <;> omega
end Go.Proofs.YtjagjjdkgidkjaaGreatDoor
