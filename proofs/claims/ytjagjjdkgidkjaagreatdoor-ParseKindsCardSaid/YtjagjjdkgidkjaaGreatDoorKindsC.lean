/- The law ParseKinds: the closed facts of its row. No condition. -/
import Derived.Test.YtjagjjdkgidkjaaGreatDoorKindsB
import Derived.Test.YtjagjjdkgidkjaaGreatDoorCards
import Derived.Test.YtjagjjdkgidkjaaGreatDoorTie
set_option linter.all false
namespace Go.Proofs.YtjagjjdkgidkjaaGreatDoor
open Go Go.ChangeShapes Go.WideShapes Go.ChangeAt Go.RowKit Go.ChangeMaps
open Go.Proofs.YtjagjjdkgidkjaaGreatDoor.Ev
set_option maxRecDepth 1000000

theorem andT {a b : Bool} (h : a = true) (k : b = true) : (a && b) = true := by rw [h, k]; rfl
set_option maxHeartbeats 40000000 in
theorem kinds_closed : joinedFacts Tryz.prog 7 Tryz.f7 Rows.parseKindsSpec Rows.parseKindsRow = true := by
  unfold joinedFacts
  refine andT ?_ (by as_aux_lemma => kernel_rfl)
  refine andT ?_ (by as_aux_lemma => kernel_rfl)
  refine andT ?_ (by as_aux_lemma => kernel_rfl)
  refine andT ?_ (by as_aux_lemma => kernel_rfl)
  refine andT ?_ (by as_aux_lemma => kernel_rfl)
  refine andT ?_ (by as_aux_lemma => kernel_rfl)
  refine andT ?_ (by as_aux_lemma => kernel_rfl)
  refine andT ?_ (by as_aux_lemma => kernel_rfl)
  refine andT ?_ (by as_aux_lemma => kernel_rfl)
  refine andT ?_ (by as_aux_lemma => kernel_rfl)
  refine andT ?_ (by as_aux_lemma => kernel_rfl)
  refine andT ?_ (by as_aux_lemma => kernel_rfl)
  refine andT ?_ (by as_aux_lemma => kernel_rfl)
  refine andT ?_ (by as_aux_lemma => kernel_rfl)
  refine andT ?_ (by as_aux_lemma => kernel_rfl)
  refine andT ?_ (by as_aux_lemma => kernel_rfl)
  refine andT ?_ (by as_aux_lemma => kernel_rfl)
  refine andT ?_ (by as_aux_lemma => kernel_rfl)
  refine andT ?_ (by as_aux_lemma => kernel_rfl)
  refine andT ?_ (by as_aux_lemma => kernel_rfl)
  refine andT ?_ (by as_aux_lemma => kernel_rfl)
  refine andT ?_ (by as_aux_lemma => kernel_rfl)
  refine andT ?_ (by as_aux_lemma => kernel_rfl)
  refine andT ?_ (by as_aux_lemma => kernel_rfl)
  refine andT ?_ (by as_aux_lemma => kernel_rfl)
  refine andT ?_ (by as_aux_lemma => kernel_rfl)
  refine andT ?_ (by as_aux_lemma => kernel_rfl)
  refine andT ?_ (by as_aux_lemma => kernel_rfl)
  refine andT ?_ (by as_aux_lemma => kernel_rfl)
  refine andT ?_ (by as_aux_lemma => kernel_rfl)
  refine andT ?_ (by as_aux_lemma => kernel_rfl)
  as_aux_lemma => kernel_rfl

end Go.Proofs.YtjagjjdkgidkjaaGreatDoor
