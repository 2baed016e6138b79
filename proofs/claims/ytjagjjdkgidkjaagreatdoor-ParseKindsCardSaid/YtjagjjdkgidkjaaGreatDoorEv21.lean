/- Part Ev21 of a verified evaluator of closed calls: of no program; no condition. -/
import Derived.Test.YtjagjjdkgidkjaaGreatDoorEv20
set_option linter.all false
namespace Go.Proofs.YtjagjjdkgidkjaaGreatDoor.Ev
open Go Go.RowKit

variable {P : Program} {known : Nat → Bool} {base : Nat} {w0 : World} {π : Pi} {σ : AS} {w : World} {ρ : Rho}

/-- What the walk needs behind an operation. -/
def Onward (known : Nat → Bool) (base : Nat) (w0 : World) (π : Pi) (o : Oper) (a : Act) (w : World) (next : Act → World → Prop) (Q : Exit → Act → World → Prop) : AO → Prop
  | .val v σ' => ∀ π' w' u, π.le π' → HR known base w0 π' σ' w' → VR π' v u → next (a.put o.dst u) w'
  | .defer d σ' => ∀ d', HR known base w0 π σ' w → DR π d d' → next (({ a with defers := d' :: a.defers } : Act).put o.dst undef) w
  | .panic ch σ' => ∀ π' w' ch', π.le π' → HR known base w0 π' σ' w' → CL π' ch ch' → Q (.panic ch') a w'

theorem doOp_sound {call : Rec} (hc : CallOK P known base w0 call) (hH : HR known base w0 π σ w) {look : Nat → Option AV} {a : Act} (hρ : RhoR π (opd known look) a.eval) {o : Oper} {r : AO} (h : doOp P known call look σ o = some r)
    {next : Act → World → Prop} {Q : Exit → Act → World → Prop} (hn : Onward known base w0 π o a w next Q r) : o.wp P a w next Q := by
  unfold doOp at h
  generalize hh : headOf o.op P = hd at h
  cases hd with
  | quiet f =>
    have h' : valO (f P (opd known look)) σ = some r := h
    unfold valO at h'
    rw [oB_iff] at h'; obtain ⟨v, hv, h'⟩ := h'
    simp only [Option.some.injEq] at h'
    subst h'
    obtain ⟨u, h1, h2⟩ := quiet_sound (w := w) hh hv hρ
    unfold Oper.wp
    rw [h1]
    exact hn π w u (Pi.le_refl π) hH h2
  | reads f =>
    have h' : valO (f P (opd known look) σ) σ = some r := h
    unfold valO at h'
    rw [oB_iff] at h'; obtain ⟨v, hv, h'⟩ := h'
    simp only [Option.some.injEq] at h'
    subst h'
    obtain ⟨u, h1, h2⟩ := reads_sound hH hh hv hρ
    unfold Oper.wp
    rw [h1]
    exact hn π w u (Pi.le_refl π) hH h2
  | loud f =>
    have h' : loudO call (f P (opd known look) σ) = some r := h
    unfold loudO at h'
    rw [oB_iff] at h'; obtain ⟨s, hs, h'⟩ := h'
    have hl := loud_sound hH hρ hh hs
    unfold Oper.wp
    cases s with
    | val v σ' =>
      simp only [Option.some.injEq] at h'
      subst h'
      obtain ⟨π', w', nx, h1, h2, h3, h4⟩ := hl
      rw [h1]
      rcases h2 with ⟨u, rfl, hu⟩ | ⟨rfl, rfl⟩
      · exact hn π' w' u h3 h4 hu
      · exact hn π' w' undef h3 h4 (by simp only [VR]; exact ⟨[], rfl, VRL.nil⟩)
    | defer d σ' =>
      simp only [Option.some.injEq] at h'
      subst h'
      obtain ⟨d', h1, h2, rfl⟩ := hl
      rw [h1]
      exact hn d' hH h2
    | panic v σ' =>
      simp only [Option.some.injEq] at h'
      subst h'
      obtain ⟨v', h1, h2, rfl⟩ := hl
      rw [h1]
      exact hn π w _ (Pi.le_refl π) hH (by simp only [CL]; exact ⟨v', [], rfl, h2, rfl⟩)
    | enter f args σ' =>
      dsimp only at h'
      obtain ⟨args', h1, h2, rfl, _⟩ := hl
      rw [h1]
      unfold retO at h'
      rw [oB_iff] at h'; obtain ⟨⟨e, σ''⟩, he, h'⟩ := h'
      dsimp only at h'
      have hcall := hc _ _ _ _ _ he π w args' hH h2
      refine Calls.mono hcall (fun E w'' hE => ?_)
      obtain ⟨π', hle, hH', hv⟩ := hE
      cases e with
      | returned v =>
        cases E with
        | returned u =>
          simp only [Option.some.injEq] at h'
          subst h'
          exact hn π' w'' u hle hH' hv
        | _ => exact hv.elim
      | panicked ch =>
        cases E with
        | panicked ch' =>
          simp only [Option.some.injEq] at h'
          subst h'
          exact hn π' w'' ch' hle hH' hv
        | _ => exact hv.elim
  | off => cases h

theorem bM_iff {β : Type} (b : Bool) (x y : β) : bM b x y = if b = true then x else y := by cases b <;> rfl

theorem runOps_sound {call : Rec} (hc : CallOK P known base w0 call) {ops : Array Oper} : ∀ (l : List Oper) (i : Nat), (∀ j o, l[j]? = some o → ops[i + j]? = some o) →
    ∀ {π0 π : Pi} {σ : AS} {w : World} {α : AA} {a : Act} {x : AX} {α' : AA} {σ' : AS}, π0.le π → HR known base w0 π σ w → ActR π α a → runOps P known call ops l α σ = some (x, α', σ') →
      wpOps P ops (ExitR known base w0 π0 x α' σ') (List.range' i l.length) a w
  | [], i, hl, π0, π, σ, w, α, a, x, α', σ', h0, hH, hA, h => by
    have h' : some (AX.normal, α, σ) = some (x, α', σ') := h
    simp only [Option.some.injEq, Prod.mk.injEq] at h'
    obtain ⟨rfl, rfl, rfl⟩ := h'
    exact ⟨π, h0, hH, hA, rfl⟩
  | o :: l, i, hl, π0, π, σ, w, α, a, x, α', σ', h0, hH, hA, h => by
    have ho : ops[i]? = some o := hl 0 o rfl
    have hl' : ∀ j o, l[j]? = some o → ops[(i + 1) + j]? = some o := fun j o hj => by
      have := hl (j + 1) o (by simpa using hj)
      rw [show i + 1 + j = i + (j + 1) by omega]; exact this
    have ih := fun {π : Pi} {σ : AS} {w : World} {α : AA} {a : Act} {x : AX} {α' : AA} {σ' : AS} (h0 : π0.le π) => runOps_sound hc (ops := ops) l (i + 1) hl' (π0 := π0) (π := π) (σ := σ) (w := w) (α := α) (a := a) (x := x) (α' := α') (σ' := σ') h0
    have h' : bM (wantedA α.look ops o) (oB (doOp P known call α.look σ o) fun r => onward o α (fun α σ => runOps P known call ops l α σ) r)
      (oB (α.put o.dst (.tuple [])) fun α => runOps P known call ops l α σ) = some (x, α', σ') := h
    rw [bM_iff, wanted_eq hA] at h'
    rw [List.length_cons, List.range'_succ]
    simp only [wpOps, ho]
    split
    · rename_i hw
      rw [if_pos hw] at h'
      left
      rw [oB_iff] at h'; obtain ⟨r, hr, h'⟩ := h'
      refine doOp_sound hc hH (hA.rho hH) hr ?_
      cases r with
      | val v σ1 =>
        have h2 : (oB (α.put o.dst v) fun α => runOps P known call ops l α σ1) = some (x, α', σ') := h'
        rw [oB_iff] at h2; obtain ⟨α1, hp, h2⟩ := h2
        intro π' w' u hle hH' hv
        exact ih (Pi.le_trans h0 hle) hH' ((hA.mono hle).put hp hv) h2
      | defer d σ1 =>
        have h2 : (oB ((AA.mk α.tmps α.n (d :: α.defers)).put o.dst (.tuple [])) fun α => runOps P known call ops l α σ1) = some (x, α', σ') := h'
        rw [oB_iff] at h2; obtain ⟨α1, hp, h2⟩ := h2
        intro d' hH' hd
        have hA' : ActR π (AA.mk α.tmps α.n (d :: α.defers)) { a with defers := d' :: a.defers } := ⟨hA.size, hA.look, by simp only [DL]; exact ⟨_, _, rfl, hd, hA.defers⟩⟩
        exact ih h0 hH' (hA'.put hp (by simp only [VR]; exact ⟨[], rfl, VRL.nil⟩)) h2
      | panic ch σ1 =>
        have h2 : some (AX.panic ch, α, σ1) = some (x, α', σ') := h'
        simp only [Option.some.injEq, Prod.mk.injEq] at h2
        obtain ⟨rfl, rfl, rfl⟩ := h2
        intro π' w' ch' hle hH' hch
        exact ⟨π', Pi.le_trans h0 hle, hH', hA.mono hle, _, rfl, hch⟩
    · rename_i hw
      rw [if_neg hw] at h'
      rw [oB_iff] at h'; obtain ⟨α1, hp, h'⟩ := h'
      exact ih h0 hH (hA.put hp (by simp only [VR]; exact ⟨[], rfl, VRL.nil⟩)) h'
end Go.Proofs.YtjagjjdkgidkjaaGreatDoor.Ev
