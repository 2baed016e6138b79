/- Part Ev10 of a verified evaluator of closed calls: of no program; no condition. -/
import Derived.Test.YtjagjjdkgidkjaaGreatDoorEv9
set_option linter.all false
namespace Go.Proofs.YtjagjjdkgidkjaaGreatDoor.Ev
open Go Go.RowKit

variable {P : Program} {known : Nat → Bool} {base : Nat} {w0 : World} {π : Pi} {σ : AS} {w : World} {ρ : Rho}

/-- An operation that gives a value and turns nothing. -/
def Quiet (P : Program) (π : Pi) (w : World) (e : Operand → Value) (o : Oper) (x : AV) : Prop := ∃ v, (execOp e o).run P w = .ok (.value v) w ∧ VR π x v
theorem Gives.quiet {e : Operand → Value} {o : Oper} {x : AV} {s : Sem Value} (h : Gives P π w s x) (ho : execOp e o = (do pure (.value (← s)))) : Quiet P π w e o x := by
  obtain ⟨v, h1, h2⟩ := h
  exact ⟨v, by rw [ho]; simp [h1], h2⟩

theorem map_eval (e : Operand → Value) (a : Array Operand) : a.map e = (a.toList.map e).toArray := by
  apply Array.ext'; simp

theorem quiet_sound {e : Operand → Value} {o : Oper} {f : Program → Rho → Option AV} {x : AV} (hh : headOf o.op P = .quiet f) (hf : f P ρ = some x) (hρ : RhoR π ρ e) : Quiet P π w e o x := by
  obtain ⟨dst, op, type, pos, after, guard⟩ := o
  dsimp only at hh
  cases op with
  | move y => cases hh; exact ⟨_, rfl, hρ _ _ hf⟩
  | assign y => cases hh; exact ⟨_, rfl, hρ _ _ hf⟩
  | pick c a b =>
    cases hh
    unfold qPick at hf
    split at hf
    · rename_i hc
      have := hρ _ _ hc
      obtain hb := this.bool
      exact ⟨e a, by simp [execOp, hb, asBool], hρ _ _ hf⟩
    · rename_i hc
      have := hρ _ _ hc
      obtain hb := this.bool
      exact ⟨e b, by simp [execOp, hb, asBool], hρ _ _ hf⟩
    · cases hf
  | alloc => cases hh
  | box => cases hh
  | build t ps =>
    cases hh
    unfold qBuild at hf
    split at hf
    · rename_i l hl
      exact (build_gives (w := w) (ps := ps.map fun (i, x) => (i, e x)) hf (by simpa using partsA_rel hρ hl)).quiet rfl
    · cases hf
  | buildSlice => cases hh
  | insert => cases hh
  | load => cases hh
  | store => cases hh
  | ready => cases hh
  | waits => cases hh
  | nilCheck y =>
    cases hh
    unfold qNilCheck at hf
    split at hf <;> (try (cases hf; done)) <;> rename_i hy <;> simp only [Option.some.injEq] at hf <;> subst hf <;> have hv := hρ _ _ hy
    · have hv' := hv; simp only [VR] at hv'; obtain ⟨_, _, _, _, h2⟩ := hv'
      exact ⟨e y, by simp [execOp, h2], hv⟩
    · have hv' := hv; simp only [VR] at hv'; obtain ⟨_, _, h2, _⟩ := hv'
      exact ⟨e y, by simp [execOp, h2], hv⟩
    · have hv' := hv; simp only [VR] at hv'; obtain ⟨_, h2, _⟩ := hv'
      exact ⟨e y, by simp [execOp, h2], hv⟩
    · have hv' := hv.int
      exact ⟨e y, by simp [execOp, hv'], hv⟩
  | binOp op t a b u =>
    cases hh
    unfold qBin at hf
    split at hf
    · rename_i xa ha
      split at hf
      · rename_i xb hb
        exact (bin_gives (w := w) hf (hρ _ _ ha) (hρ _ _ hb)).quiet rfl
      · cases hf
    · cases hf
  | unOp op t a =>
    cases hh
    unfold qUn at hf
    split at hf
    · rename_i b ha
      have hv := (hρ _ _ ha).bool
      exact (Gives.bool (P := P) (π := π) (w := w) (s := Op.unary .not (e a)) hf (by rw [hv]; rfl)).quiet rfl
    · rename_i k n ha
      have hv := (hρ _ _ ha).int
      rw [wrapF_eq] at hf
      exact (Gives.int (P := P) (π := π) (w := w) (s := Op.unary .neg (e a)) hf (by rw [hv]; rfl)).quiet rfl
    · rename_i xa h1 h2 ha
      split at hf
      · rename_i u hu
        have := flat_eq hu (hρ _ _ ha)
        obtain ⟨v, h3, h4⟩ := viaPure_run (π := π) hf w
        exact Gives.quiet (s := Op.unary _ (e a)) ⟨v, by rw [this]; exact h3, h4⟩ rfl
      · cases hf
    · cases hf
  | convert s d y =>
    change hdConv s d y P = _ at hh
    unfold hdConv at hh
    split at hh
    · cases hh
      unfold qConv at hf
      split at hf
      · rename_i xa ha
        exact (conv_gives (w := w) hf (hρ _ _ ha)).quiet rfl
      · cases hf
    · cases hh
  | sliceToArrayPointer => cases hh
  | makeInterface t y =>
    cases hh
    unfold qIface at hf
    split at hf
    · cases hf
    · rename_i d xa hni hu hy
      simp only [Option.some.injEq] at hf
      subst hf
      refine Gives.quiet (s := Instr.makeInterface t (e y)) ⟨.iface t (e y), ?_, by simp only [VR]; exact ⟨_, rfl, hρ _ _ hy⟩⟩ rfl
      cases d <;> first | exact absurd rfl (hni _) | simp [Instr.makeInterface, run_underlying hu]
    · cases hf
  | makeFunc fn first captured =>
    cases hh
    unfold qFunc at hf
    split at hf
    · rename_i g p l hfirst hl
      simp only [Option.some.injEq] at hf
      subst hf
      refine Gives.quiet (s := Instr.makeFunc (.func g) (first.map e) (captured.map e)) ⟨.func (.func g) ⟨first.toList.map e⟩ ⟨captured.toList.map e⟩, ?_, by simp only [VR]; exact ⟨_, _, rfl, argsA_rel hρ hfirst, argsA_rel hρ hl⟩⟩ rfl
      simp [Instr.makeFunc, map_eval]
    · cases hf
  | makeMap => cases hh
  | makeChan => cases hh
  | makeSlice => cases hh
  | slice t y lo hi mx =>
    change hdSlice t y lo hi mx P = _ at hh
    unfold hdSlice at hh
    have key : qSlice t y lo hi mx P ρ = some x → Quiet P π w e { dst, op := .slice t y lo hi mx, type, pos, after, guard } x := by
      intro hf
      unfold qSlice at hf
      cases mx with
      | some m => cases hf
      | none =>
        rw [oM_none] at hf
        obtain ⟨xa, ha, hf⟩ := oB_some hf
        obtain ⟨xl, hl, hf⟩ := oB_some hf
        obtain ⟨xh, hhh, hf⟩ := oB_some hf
        exact (slice_gives (w := w) hf (hρ _ _ ha) (optA_rel hρ hl) (optA_rel hρ hhh)).quiet rfl
    split at hh
    · cases hh; exact key hf
    · cases hh; exact key hf
    · cases hh
  | fieldAddr s y f =>
    cases hh
    unfold qFieldAddr at hf
    split at hf
    · rename_i b o fs hy hu
      split at hf
      · rename_i fd hfd
        split at hf
        · rename_i n hn
          rw [fNat_eq] at hf
          simp only [Option.some.injEq] at hf
          subst hf
          have hv := hρ _ _ hy
          simp only [VR] at hv
          obtain ⟨rb, δ, rs, hp, h2⟩ := hv
          refine Gives.quiet (s := Instr.fieldAt s (e y) f) ⟨.pointer (some ⟨rb, δ + (o + fd.offset), none⟩), ?_, by simp only [VR]; exact ⟨rb, δ, rs, hp, rfl⟩⟩ rfl
          rw [h2]
          simp [Instr.fieldAt, run_underlying hu, hfd, Instr.sureAddr, fieldPlace, sizeOfT_run hn, add_eq, Nat.add_assoc]
        · cases hf
      · cases hf
    · cases hf
  | field t y f =>
    cases hh
    unfold qField at hf
    split at hf
    · rename_i cs fs hy hu
      split at hf
      · rename_i fd hfd
        have hv := hρ _ _ hy
        simp only [VR] at hv
        obtain ⟨ys, h2, h3⟩ := hv
        obtain ⟨v, e1, e2⟩ := part_gives (P := P) (w := w) (c' := ⟨ys⟩) hf h3
        refine Gives.quiet (s := Instr.field t (e y) f) ⟨v, ?_, e2⟩ rfl
        rw [h2]
        simp [Instr.field, run_underlying hu, hfd, asAgg, e1]
      · cases hf
    · cases hf
  | indexAddr t y ix =>
    cases hh
    unfold qIndexAddr at hf
    split at hf
    · rename_i a i ha hi
      exact (indexAddr_gives (w := w) hf (hρ _ _ ha) (hρ _ _ hi)).quiet rfl
    · cases hf
  | index t y ix =>
    cases hh
    unfold qIndex at hf
    split at hf
    · rename_i a i ha hi
      exact (index_gives (w := w) hf (hρ _ _ ha) (hρ _ _ hi)).quiet rfl
    · cases hf
  | lookup => cases hh
  | mapUpdate => cases hh
  | mapEntry => cases hh
  | entryStore => cases hh
  | range => cases hh
  | next => cases hh
  | entry => cases hh
  | typeAssert y t a ok =>
    cases hh
    unfold qAssert at hf
    split at hf
    · rename_i xa ha
      exact (assert_gives (w := w) hf (hρ _ _ ha)).quiet rfl
    · cases hf
  | extract t i =>
    cases hh
    unfold qExtract at hf
    split at hf
    · rename_i vs ht
      have hv := hρ _ _ ht
      simp only [VR] at hv
      obtain ⟨ys, h2, h3⟩ := hv
      obtain ⟨v, hv, hr⟩ := h3.get i x hf
      refine Gives.quiet (s := Instr.extract (e t) i) ⟨v, ?_, hr⟩ rfl
      rw [h2]
      simp [Instr.extract, hv]
    · cases hf
  | call c =>
    change hdCall c P = _ at hh
    unfold hdCall at hh
    obtain ⟨callee, args, ts⟩ := c
    dsimp only at hh
    split at hh <;> (try (cases hh; done))
    · cases hlm : lenOfMap P ⟨.builtin .len, args, ts⟩ with
      | true => rw [hlm] at hh; cases hh
      | false =>
      rw [hlm] at hh
      cases hh
      unfold qLen at hf
      split at hf
      · rename_i y t tr ha ht
        split at hf
        · rename_i xa hxa
          have h1 : args = #[y] := by apply Array.ext'; simpa using ha
          have h2 : ts = (t :: tr).toArray := by apply Array.ext'; simpa using ht
          subst h1; subst h2
          obtain ⟨v, e1, e2⟩ := len_gives (w := w) (ty := type) (ts := tr) hf (hρ _ _ hxa)
          refine ⟨v, ?_, e2⟩
          simp only [execOp, resolve, invoke, builtin, Sem.run_bind, Sem.run_pure, Result.andThen_ok]
          simp only [List.map_toArray, List.map_cons, List.map_nil, e1, Result.andThen_ok, Sem.run_pure]
        · cases hf
      · cases hf
    · cases hh
      unfold qMm at hf
      split at hf
      · rename_i y r hl
        have hr := argsA_rel hρ hl
        simp only [VRL] at hr
        obtain ⟨v, us, h1, h2, h3⟩ := hr
        obtain ⟨q, e1, e2⟩ := mmL_gives (P := P) (w := w) hf h2 h3
        refine ⟨q, ?_, e2⟩
        simp only [execOp, resolve, invoke, builtin, Sem.run_bind, Sem.run_pure, Result.andThen_ok, Builtin.max_]
        have : (args.map e).toList = v :: us := by simpa using h1
        rw [this]
        simp only [if_true] at e1
        simp [e1]
      · cases hf
    · cases hh
      unfold qMm at hf
      split at hf
      · rename_i y r hl
        have hr := argsA_rel hρ hl
        simp only [VRL] at hr
        obtain ⟨v, us, h1, h2, h3⟩ := hr
        obtain ⟨q, e1, e2⟩ := mmL_gives (P := P) (w := w) hf h2 h3
        refine ⟨q, ?_, e2⟩
        simp only [execOp, resolve, invoke, builtin, Sem.run_bind, Sem.run_pure, Result.andThen_ok, Builtin.min_]
        have : (args.map e).toList = v :: us := by simpa using h1
        rw [this]
        simp only [Bool.false_eq_true, if_false] at e1
        simp [e1]
      · cases hf
  | go => cases hh
  | defer c =>
    change hdDefer c P = _ at hh
    unfold hdDefer at hh
    split at hh <;> cases hh
  | panic => cases hh
  | send => cases hh
  | recv => cases hh
  | select => cases hh
end Go.Proofs.YtjagjjdkgidkjaaGreatDoor.Ev
