/- Part Ev28 of a verified evaluator of closed calls: of no program; no condition. -/
import Derived.Test.YtjagjjdkgidkjaaGreatDoorEv27
set_option linter.all false
namespace Go.Proofs.YtjagjjdkgidkjaaGreatDoor.Ev
open Go Go.RowKit

variable {P : Program}

theorem laid_HR {W : World} {laid : List (String × DataW Unit)} (hf : (laid.filter fun x => x.2.handleName?.isSome) = []) (h : laidMetH P laid W) :
    ∃ π, HR (fun g => memN g (layAll P laid .nil P.globals.size []).2) W.heap.size W π (layAll P laid .nil P.globals.size []).1 W := by
  have h' : laidMet P laid W := by
    unfold laidMetH at h
    rw [hf] at h
    exact h
  obtain ⟨ps, h1, _, h3⟩ := h'
  obtain ⟨π, L⟩ := layAll_rel (P := P) (W := W) laid .nil P.globals.size [] (fun _ => none) ps h1 (fun b off hb => h3 b off hb)
    ⟨Nat.le_refl _, fun b B hb => (by rw [T.get_nil] at hb; cases hb), fun b _ => ⟨T.get_nil _, rfl⟩, fun g _ _ => ⟨T.get_nil _, rfl⟩, fun b p hb => (by cases hb), fun g hg => (by cases hg)⟩
  exact ⟨π, L.hr⟩

/-- A closed call, run: does it return true? -/
noncomputable def closedTrue (P : Program) (laid : List (String × DataW Unit)) (n : Nat) (f : FuncId) (xs : List AV) : Bool :=
  match layAll P laid .nil P.globals.size [] with
  | (σ, gs) => match evCall P (fun g => memN g gs) n f xs σ with
    | some (.returned (.bool true), _) => true
    | _ => false
theorem closedTrue_calls (hm : P.follows .mixedOrders = true) {W : World} {laid : List (String × DataW Unit)} (hf : (laid.filter fun x => x.2.handleName?.isSome) = []) (hL : laidMetH P laid W) {n : Nat} {f : FuncId}
    (h : closedTrue P laid n f [] = true) : Calls P f #[] W fun e w' => e = .returned (.bool true) ∧ Below W.heap.size W w' := by
  obtain ⟨π, hH⟩ := laid_HR hf hL
  unfold closedTrue at h
  generalize hl : layAll P laid .nil P.globals.size [] = r at h hH
  obtain ⟨σ, gs⟩ := r
  dsimp only at h hH
  split at h
  · rename_i σ' he
    refine Calls.mono (evCall_calls hm (args := #[]) hH VRL.nil he) (fun E w' hE => ?_)
    obtain ⟨u, π', rfl, hu, _, hH'⟩ := hE
    simp only [VR] at hu
    rw [hu]
    exact ⟨rfl, hH'.below⟩
  · cases h
end Go.Proofs.YtjagjjdkgidkjaaGreatDoor.Ev
