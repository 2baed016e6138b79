/- The law ParseParts, its row and card: a part (Sz Pz5 Pz6) of the proof that the law ParseParts answers true. No condition. -/
import Derived.Test.YtjagjjdkgidkjaaGreatDoorPtT1
import Derived.Test.YtjagjjdkgidkjaaGreatDoorPtD3
import Derived.Test.YtjagjjdkgidkjaaGreatDoorPtD8
import Derived.Test.YtjagjjdkgidkjaaGreatDoorPtL3
import Derived.Test.YtjagjjdkgidkjaaGreatDoorPtG2
import Derived.Test.YtjagjjdkgidkjaaGreatDoorPtG3
import Derived.ProofKit
import Derived.OpenShut
import Derived.LaidMore
import Derived.Lay
import Derived.ChangeMaps5
import Derived.SevenTiedAt
import Derived.Stop.Joined
set_option linter.all false
namespace Go.Proofs.YtjagjjdkgidkjaaGreatDoor
open Go Go.RowKit
set_option maxRecDepth 1000000
def DecD (b : Nat) (w : World) : Prop := ∃ (f : Nat → Nat) (nd : Nat) (dp : Int) (ng tr : Bool), DB b f nd dp ng tr w ∧ Good f nd
/-- The slow road of ParseFloat ends. -/
theorem slowOk : SlowOk DecD := {
  set b s w hs hz := (setW b s w hs (zeroDec_db hz)).mono fun _ _ ⟨ok, he, f, nd, dp, ng, tr, hD, hG, _, _, hF⟩ => ⟨ok, he, fun _ => ⟨f, nd, dp, ng, tr, hD, hG⟩, hF⟩
  bits b w0 w := by
    rintro ⟨f, nd, dp, ng, tr, hD, hG⟩ hN F hb
    have key : ∀ wx, Fr (· = b) w wx → NumTab wx := fun wx h => hN.fr (F.none3 h hb)
    exact (bits328 b f nd dp ng tr w hG (hN.fr F).fl (fun wx h => (key wx h).lc) (fun wx h => (key wx h).pt) (fun wx h => (key wx h).fl) hD).mono fun _ _ ⟨m, o, he, hF⟩ => ⟨m, o, he, hF⟩ }
end Go.Proofs.YtjagjjdkgidkjaaGreatDoor
set_option linter.all false
namespace Go.Proofs.YtjagjjdkgidkjaaGreatDoor
open Go Go.ChangeShapes Go.WideShapes Go.ChangeAt Go.RowKit Go.ChangeMaps Go.Proofs.YtjagjjdkgidkjaaGreatDoor.Ev
set_option maxRecDepth 1000000
/-- The law, in the world in which it is called. -/
theorem parts_calls {W : World} (hL : laidMetH Tryz.prog Rows.parsePartsRow.laid W) (hS : W.ShapedOpen Tryz.prog) (s : ByteArray) (hs : s.size ≤ maxLen) :
    Calls Tryz.prog 5 #[.string s] W fun e w' => e = .returned (.bool true) ∧ Below W.heap.size W w' := by
  have hE := env_of hL hS
  have hP : ∀ (s : ByteArray) (w : World), s.size ≤ maxLen → Gw W w → Calls Tryz.prog 9 #[.string s] w (ParseOut w) := fun s w h1 h2 => parse9 hE.laid (spanOk hE.laid) (numberOk slowOk hE) s w h1 h2
  have hA : ∀ w, Gw W w → Calls Tryz.prog 10 #[] w fun e w' => e = .returned (.bool true) ∧ Below w.heap.size w w' := fun w h => closedTrue_at mixedP plainP hL awakeP w h
  exact (parts5 hP hA s hs).mono fun _ _ ⟨he, hf⟩ => ⟨he, ⟨hf.os, hf.tape, hf.output, hf.size, fun k hk => hf.block k hk id⟩⟩
end Go.Proofs.YtjagjjdkgidkjaaGreatDoor
set_option linter.all false
namespace Go.Proofs.YtjagjjdkgidkjaaGreatDoor
open Go Go.ChangeShapes Go.WideShapes Go.ChangeAt Go.RowKit Go.ChangeMaps Go.Proofs.YtjagjjdkgidkjaaGreatDoor.Ev
set_option maxRecDepth 1000000
theorem parts_lifted (os : Os) (started : os.Started) (H : Type) (enc : TypeId × Value → H) :
    ReturnsInHanded {} Tryz.checked os 5 .any (fun w args => (Rows.parsePartsSpec.pre enc Tryz.prog Tryz.f5 Rows.parsePartsRow.domain false w args ∧ laidMetH Tryz.prog Rows.parsePartsRow.laid w) ∧ sizedMet enc Tryz.prog Tryz.f5 (OpenSpec.ofChange Rows.parsePartsSpec) false w args)
      (Rows.parsePartsSpec.post enc Tryz.prog Tryz.f5 false true false false) := by
  refine handed_and_shaped (C := Tryz.checked) (X := fun w _ => laidMetH Tryz.prog Rows.parsePartsRow.laid w) (fun _ _ _ hh h => h.of_heap hh) ownP started (by kernel_rfl) Tryz.func5
    (ChangeSpec.witness_shaped (enc := enc) (C := Tryz.checked) (os := os) (X := fun w _ => laidMetH Tryz.prog Rows.parsePartsRow.laid w) false (World.laidAll Tryz.prog os Rows.parsePartsRow.laid) #[.string .empty] 8 (World.laidAll_os _ _ _)
      (World.shaped_of_ZipB (by kernel_rfl) (by kernel_rfl)) (by kernel_rfl) (by kernel_rfl) (by kernel_rfl)
      (by rw [MakeChecks.laidMetH_plain _ _ _ (by kernel_rfl)]; exact laidMet_laidAll _ (by kernel_rfl) (by kernel_rfl))) ?_
  intro W base args ds gs before hval0 hW hwt hL hS
  have hval : ∀ (j : Nat) t v, Tryz.f5.params[j]? = some t → args[j]? = some v → Value.okWide Tryz.prog W .any base t v := hval0
  have hW' := hW
  obtain ⟨p, q, hA0, hV, rfl, _, _⟩ := hW
  have hA : DataW.TrodAll enc Tryz.prog W 0 (fun _ => true) true Tryz.f5.params.toList args.toList ds p := hA0
  rw [Tryz.params5] at hA hval
  obtain ⟨v0, d0, rfl, rfl, h0⟩ := trodAll_one hA
  obtain ⟨rfl, rfl⟩ := trodVars_none hV
  obtain ⟨s, rfl, rfl, rfl, hs⟩ := open_string Tryz.underlying9 (hval 0 9 v0 rfl rfl) h0
  simp only [List.append_nil] at hW'
  refine (parts_calls hL hS s hs).mono fun e W' ⟨he, hg⟩ => ?_
  subst he
  exact ⟨_, rfl, post_keptP (pa := []) (pv := []) hW' (fun _ _ _ => trodAll_mk1 (shut_bool Tryz.underlying4 _)) (fun sp _ => trodAll_mk1 (shut_string Tryz.underlying9 hs)) (fun _ _ => rfl) rfl
    hg (ok_one (by kernel_rfl) rfl (okWide_bool_mk Tryz.underlying4 _))⟩
end Go.Proofs.YtjagjjdkgidkjaaGreatDoor
