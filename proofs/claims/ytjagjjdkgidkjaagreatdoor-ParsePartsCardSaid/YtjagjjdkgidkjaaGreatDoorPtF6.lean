/- Strconv's floating-point reading: a part (Pe Pc) of the proof that the law ParseParts answers true. No condition. -/
import Derived.Test.YtjagjjdkgidkjaaGreatDoorPtA4
import Derived.LaidEqlPtr
import Derived.Laws.FloatArith
set_option linter.all false
namespace Go.Proofs.YtjagjjdkgidkjaaGreatDoor
open Go Go.RowKit
set_option maxRecDepth 1000000
theorem run_sameAddr_any {P : Program} {w : World} {a b : Addr} {ca cb : Array Value} {ta tb : TypeId} {fa fb : Nat × Nat} (hne : a.block ≠ b.block) (ha : w.heap[a.block]? = some (.cells ca ta fa)) (hb : w.heap[b.block]? = some (.cells cb tb fb)) (hz : w.frozen? a = false) :
    ∃ (c : Bool) (w2 : World), Sem.run P (sameAddr a b) w = .ok c w2 ∧ Fr none_ w w2 := by
  have hbl : (a.block == b.block) = false := by simpa using hne
  obtain ⟨la, ha2⟩ := fa
  obtain ⟨lb, hb2⟩ := fb
  have hfa : (decide (la ≤ a.off) && decide (a.off < ha2)) = false := by
    have := hz
    simp only [World.frozen?, ha] at this
    exact this
  have hp : ¬ (la ≤ a.off ∧ a.off < ha2) := fun h => by simp [h.1, h.2] at hfa
  have key : Sem.run P (sameAddr a b) w = .ok false w ∨ ∃ c, Sem.run P (sameAddr a b) w = .ok c w.drew := by
    generalize hr : Sem.run P (sameAddr a b) w = r
    simp [sameAddr, hbl, World.frozen?, ha, hb, noView, viewAt, World.shape?, mayBeOne, stringish, hp] at hr
    (repeat' split at hr) <;> subst hr <;> first | exact .inl rfl | exact .inr ⟨_, rfl⟩
  rcases key with h | ⟨c, h⟩
  · exact ⟨_, _, h, Fr.refl _ w⟩
  · exact ⟨_, _, h, (Fr.refl _ w).drew⟩
theorem ptr_eql {w : World} {ca cb : Array Value} {ta tb : TypeId} {fa fb : Nat × Nat} (ha : w.heap[13]? = some (.cells ca ta fa)) (hb : w.heap[12]? = some (.cells cb tb fb)) (hz : w.frozen? ⟨13, 0, none⟩ = false) :
    ∃ (c : Bool) (w2 : World), Sem.run Tryz.prog (binOp .eql 355 (.pointer (some ⟨13, 0, none⟩)) (.pointer (some ⟨12, 0, none⟩))) w = .ok (.bool c) w2 ∧ Fr none_ w w2 := by
  obtain ⟨c, w2, h, hf⟩ := run_sameAddr_any (P := Tryz.prog) (a := ⟨13, 0, none⟩) (b := ⟨12, 0, none⟩) (by decide) ha hb hz
  have hsz : (Tryz.prog.info? 357).map (·.size) = some 3 := by kernel_rfl
  cases hte : Tryz.prog.info? 357 with
  | none => rw [hte] at hsz; cases hsz
  | some j =>
    rw [hte] at hsz
    have hj : j.size ≠ 0 := by simp at hsz; omega
    refine ⟨c, w2, ?_, hf⟩
    have h' : ∀ d : Nat, Sem.run Tryz.prog (Op.equalIn (d + 1) 355 (.pointer (some ⟨13, 0, none⟩)) (.pointer (some ⟨12, 0, none⟩))) w = .ok c w2 := fun d => by
      simp [Op.equalIn, run_underlying Tryz.underlying355, sizeOf, typeInfo, hte, hj, h]
    simp only [binOp]
    simp [Op.equal, Op.maxDepth, h' 9999]
end Go.Proofs.YtjagjjdkgidkjaaGreatDoor
namespace Go.Proofs.YtjagjjdkgidkjaaGreatDoor
open Go Go.RowKit
set_option maxRecDepth 1000000
theorem conv32 (x : Nat) (w : World) : ∃ (r : Nat) (w2 : World), Sem.run Tryz.prog (convert 195 44 (.float .f32 x)) w = .ok (.float .f64 r) w2 ∧ Fr none_ w w2 := by
  have h1 : Sem.run Tryz.prog (convert 195 44 (.float .f32 x)) w = Sem.run Tryz.prog (Conv.floatToFloat .f32 x .f64) w := by
    simp [convert, run_underlying Tryz.underlying195, run_underlying Tryz.underlying44]
  rw [h1]
  unfold Conv.floatToFloat
  rw [if_neg (by decide)]
  cases FloatKind.f32.decode x with
  | infinity s => exact ⟨_, w, rfl, Fr.refl _ w⟩
  | nan s t =>
    by_cases hq : (Question.nanConv .f64 x).forced = true
    · exact ⟨0, w, by simp [hq], Fr.refl _ w⟩
    · exact ⟨(Question.nanConv .f64 x).cut (w.tape w.drawn (.nanConv .f64 x)), w.drew, by simp [hq], (Fr.refl _ w).drew⟩
  | number s m e =>
    dsimp only
    split
    · by_cases hq : (Question.floatToFloat x).forced = true
      · exact ⟨0, w, by simp [hq], Fr.refl _ w⟩
      · exact ⟨(Question.floatToFloat x).cut (w.tape w.drawn (.floatToFloat x)), w.drew, by simp [hq], (Fr.refl _ w).drew⟩
    · exact ⟨_, w, rfl, Fr.refl _ w⟩
end Go.Proofs.YtjagjjdkgidkjaaGreatDoor
