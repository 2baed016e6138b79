/- The library's tables, the closed facts: a part (PzC) of the proof that the law ParseParts answers true. No condition. -/
import Derived.Test.YtjagjjdkgidkjaaGreatDoorPtG3
import Derived.ProofKit
import Derived.SevenTiedAt
import Derived.Stop.Joined
set_option linter.all false
set_option linter.all false
namespace Go.Proofs.YtjagjjdkgidkjaaGreatDoor
open Go Go.ChangeShapes Go.WideShapes Go.ChangeAt Go.RowKit Go.ChangeMaps Go.Proofs.YtjagjjdkgidkjaaGreatDoor.Ev
set_option maxRecDepth 1000000
theorem andP {a b : Bool} (h : a = true) (k : b = true) : (a && b) = true := by rw [h, k]; rfl
set_option maxHeartbeats 40000000 in
theorem parts_closed : joinedFacts Tryz.prog 5 Tryz.f5 Rows.parsePartsSpec Rows.parsePartsRow = true := by
  unfold joinedFacts
  refine andP ?_ (by as_aux_lemma => kernel_rfl)
  refine andP ?_ (by as_aux_lemma => kernel_rfl)
  refine andP ?_ (by as_aux_lemma => kernel_rfl)
  refine andP ?_ (by as_aux_lemma => kernel_rfl)
  refine andP ?_ (by as_aux_lemma => kernel_rfl)
  refine andP ?_ (by as_aux_lemma => kernel_rfl)
  refine andP ?_ (by as_aux_lemma => kernel_rfl)
  refine andP ?_ (by as_aux_lemma => kernel_rfl)
  refine andP ?_ (by as_aux_lemma => kernel_rfl)
  refine andP ?_ (by as_aux_lemma => kernel_rfl)
  refine andP ?_ (by as_aux_lemma => kernel_rfl)
  refine andP ?_ (by as_aux_lemma => kernel_rfl)
  refine andP ?_ (by as_aux_lemma => kernel_rfl)
  refine andP ?_ (by as_aux_lemma => kernel_rfl)
  refine andP ?_ (by as_aux_lemma => kernel_rfl)
  refine andP ?_ (by as_aux_lemma => kernel_rfl)
  refine andP ?_ (by as_aux_lemma => kernel_rfl)
  refine andP ?_ (by as_aux_lemma => kernel_rfl)
  refine andP ?_ (by as_aux_lemma => kernel_rfl)
  refine andP ?_ (by as_aux_lemma => kernel_rfl)
  refine andP ?_ (by as_aux_lemma => kernel_rfl)
  refine andP ?_ (by as_aux_lemma => kernel_rfl)
  refine andP ?_ (by as_aux_lemma => kernel_rfl)
  refine andP ?_ (by as_aux_lemma => kernel_rfl)
  refine andP ?_ (by as_aux_lemma => kernel_rfl)
  refine andP ?_ (by as_aux_lemma => kernel_rfl)
  refine andP ?_ (by as_aux_lemma => kernel_rfl)
  refine andP ?_ (by as_aux_lemma => kernel_rfl)
  refine andP ?_ (by as_aux_lemma => kernel_rfl)
  refine andP ?_ (by as_aux_lemma => kernel_rfl)
  refine andP ?_ (by as_aux_lemma => kernel_rfl)
  as_aux_lemma => kernel_rfl
end Go.Proofs.YtjagjjdkgidkjaaGreatDoor
