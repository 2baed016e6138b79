/- Part Ev23 of a verified evaluator of closed calls: of no program; no condition. -/
import Derived.Test.YtjagjjdkgidkjaaGreatDoorEv22
import Derived.Scope
set_option linter.all false
namespace Go.Proofs.YtjagjjdkgidkjaaGreatDoor.Ev
open Go Go.RowKit

variable {P : Program} {known : Nat → Bool} {base : Nat} {w0 : World} {π : Pi} {σ : AS} {w : World} {ρ : Rho}

/-- A loop, from its body on. -/
def LoopWp (P : Program) (c : Code) (Q : Exit → Act → World → Prop) (a : Act) (w : World) : Prop :=
  ∀ (b : Frame) (k : List Item) (cs : List Frame),
    ∃ e a' w', Q e a' w' ∧ Arrives P (lone (b.at a (.code c :: .inLoop c :: k)) cs w) b k cs e a' w'
theorem LoopWp.loop {c : Code} {Q : Exit → Act → World → Prop} {a : Act} {w : World} (h : LoopWp P c Q a w) : (Code.loop c).wp P Q a w :=
  fun b k cs => let ⟨e, a', w', q, r⟩ := h b k cs; ⟨e, a', w', q, .of_steps (.one step_loop) r⟩
theorem LoopWp.round {c : Code} {Q : Exit → Act → World → Prop} {a : Act} {w : World} (h : c.wp P (Exit.then (LoopWp P c Q) Q) a w) : LoopWp P c Q a w := by
  intro b k cs
  obtain ⟨e, a₁, w₁, hq, harr⟩ := h b (.inLoop c :: k) cs
  cases e with
  | normal =>
    obtain ⟨e₂, a₂, w₂, hq₂, harr₂⟩ := hq b k cs
    exact ⟨e₂, a₂, w₂, hq₂, .of_steps (Steps.trans harr (.one step_inLoop)) harr₂⟩
  | exit id => exact ⟨_, a₁, w₁, hq, .pass (x := .inLoop c) rfl (fun _ _ => .inl (by simp)) harr⟩
  | goto l => exact ⟨_, a₁, w₁, hq, .pass (x := .inLoop c) rfl (fun _ _ => .inl (by simp)) harr⟩
  | ret => exact ⟨_, a₁, w₁, hq, .pass (x := .inLoop c) rfl (fun _ _ => .inl (by simp)) harr⟩
  | panic ch => exact ⟨_, a₁, w₁, hq, .pass (x := .inLoop c) rfl (fun _ _ => .inl (by simp)) harr⟩
  | outgrown => exact ⟨_, a₁, w₁, hq, .pass (x := .inLoop c) rfl (fun _ _ => .inl (by simp)) harr⟩

def CodeOK (P : Program) (known : Nat → Bool) (base : Nat) (w0 : World) (call : Rec) (n : Nat) : Prop :=
  ∀ (c : Code) (π0 π : Pi) (σ : AS) (w : World) (α : AA) (a : Act) (x : AX) (α' : AA) (σ' : AS), π0.le π → HR known base w0 π σ w → ActR π α a → evCode P known call n c α σ = some (x, α', σ') →
    c.wp P (ExitR known base w0 π0 x α' σ') a w
def LoopOK (P : Program) (known : Nat → Bool) (base : Nat) (w0 : World) (call : Rec) (n : Nat) : Prop :=
  ∀ (c : Code) (π0 π : Pi) (σ : AS) (w : World) (α : AA) (a : Act) (x : AX) (α' : AA) (σ' : AS), π0.le π → HR known base w0 π σ w → ActR π α a → evCode P known call n (.loop c) α σ = some (x, α', σ') →
    LoopWp P c (ExitR known base w0 π0 x α' σ') a w

theorem ExitR.notNormal {π0 : Pi} {x : AX} {α' : AA} {σ' : AS} {K : Act → World → Prop} {X : Exit} {a : Act} {w : World} (hx : x ≠ .normal) (h : ExitR known base w0 π0 x α' σ' X a w) :
    Exit.then K (ExitR known base w0 π0 x α' σ') X a w := by
  have hX : X ≠ .normal := by
    rintro rfl
    obtain ⟨π', _, _, _, hx'⟩ := h
    cases x with
    | normal => exact hx rfl
    | panic ch => obtain ⟨ch', h1, _⟩ := hx'; cases h1
    | _ => cases hx'
  cases X <;> first | exact absurd rfl hX | exact h

theorem evCode_sound (hm : P.follows .mixedOrders = true) {call : Rec} (hc : CallOK P known base w0 call) : ∀ n, CodeOK P known base w0 call n ∧ LoopOK P known base w0 call n
  | 0 => ⟨fun c π0 π σ w α a x α' σ' _ _ _ h => (by cases h), fun c π0 π σ w α a x α' σ' _ _ _ h => (by cases h)⟩
  | n + 1 => by
    obtain ⟨ih, il⟩ := evCode_sound hm hc n
    have loopOK : LoopOK P known base w0 call (n + 1) := by
      intro c π0 π σ w α a x α' σ' h0 hH hA h
      simp only [evCode] at h
      apply LoopWp.round
      cases hb : evCode P known call n c α σ with
      | none => rw [hb] at h; cases h
      | some r =>
        obtain ⟨x1, α1, σ1⟩ := r
        rw [hb] at h
        have h1 := ih c π0 π σ w α a x1 α1 σ1 h0 hH hA hb
        cases x1 with
        | normal =>
          dsimp only at h
          refine wp_mono h1 (fun X a1 w1 hX => ?_)
          obtain ⟨π', hle, hH', hA', hx⟩ := hX
          cases hx
          exact il c π0 π' σ1 w1 α1 a1 x α' σ' hle hH' hA' h
        | _ =>
          simp only [Option.some.injEq, Prod.mk.injEq] at h
          obtain ⟨rfl, rfl, rfl⟩ := h
          exact wp_mono h1 (fun X a1 w1 hX => hX.notNormal (by intro h; cases h))
    refine ⟨?_, loopOK⟩
    intro c π0 π σ w α a x α' σ' h0 hH hA h
    cases c with
    | skip =>
      simp only [evCode, Option.some.injEq, Prod.mk.injEq] at h
      obtain ⟨rfl, rfl, rfl⟩ := h
      exact wp_skip ⟨π, h0, hH, hA, rfl⟩
    | label l =>
      simp only [evCode, Option.some.injEq, Prod.mk.injEq] at h
      obtain ⟨rfl, rfl, rfl⟩ := h
      exact wp_label ⟨π, h0, hH, hA, rfl⟩
    | exit id =>
      simp only [evCode, Option.some.injEq, Prod.mk.injEq] at h
      obtain ⟨rfl, rfl, rfl⟩ := h
      exact wp_exit ⟨π, h0, hH, hA, rfl⟩
    | ret =>
      simp only [evCode, Option.some.injEq, Prod.mk.injEq] at h
      obtain ⟨rfl, rfl, rfl⟩ := h
      exact wp_ret ⟨π, h0, hH, hA, rfl⟩
    | seq p q =>
      simp only [evCode] at h
      apply wp_seq
      cases hb : evCode P known call n p α σ with
      | none => rw [hb] at h; cases h
      | some r =>
        obtain ⟨x1, α1, σ1⟩ := r
        rw [hb] at h
        have h1 := ih p π0 π σ w α a x1 α1 σ1 h0 hH hA hb
        cases x1 with
        | normal =>
          dsimp only at h
          refine wp_mono h1 (fun X a1 w1 hX => ?_)
          obtain ⟨π', hle, hH', hA', hx⟩ := hX
          cases hx
          exact ih q π0 π' σ1 w1 α1 a1 x α' σ' hle hH' hA' h
        | _ =>
          simp only [Option.some.injEq, Prod.mk.injEq] at h
          obtain ⟨rfl, rfl, rfl⟩ := h
          exact wp_mono h1 (fun X a1 w1 hX => hX.notNormal (by intro h; cases h))
    | cond cnd p q =>
      simp only [evCode] at h
      have hρ := hA.rho hH
      split at h
      · rename_i hcnd
        exact wp_cond_true (hρ _ _ hcnd).bool (ih p π0 π σ w α a x α' σ' h0 hH hA h)
      · rename_i hcnd
        exact wp_cond_false (hρ _ _ hcnd).bool (ih q π0 π σ w α a x α' σ' h0 hH hA h)
      · cases h
    | block id p =>
      simp only [evCode] at h
      apply wp_block
      cases hb : evCode P known call n p α σ with
      | none => rw [hb] at h; cases h
      | some r =>
        obtain ⟨x1, α1, σ1⟩ := r
        rw [hb] at h
        have h1 := ih p π0 π σ w α a x1 α1 σ1 h0 hH hA hb
        cases x1 with
        | exit id' =>
          dsimp only at h
          split at h
          · rename_i he
            have he' : id' = id := by simpa using he
            subst he'
            simp only [Option.some.injEq, Prod.mk.injEq] at h
            obtain ⟨rfl, rfl, rfl⟩ := h
            refine wp_mono h1 (fun X a1 w1 hX => ?_)
            obtain ⟨π', hle, hH', hA', hx⟩ := hX
            cases hx
            simp only [Exit.inBlock, if_true]
            exact ⟨π', hle, hH', hA', rfl⟩
          · rename_i he
            have he' : id' ≠ id := by intro e; subst e; simp at he
            simp only [Option.some.injEq, Prod.mk.injEq] at h
            obtain ⟨rfl, rfl, rfl⟩ := h
            refine wp_mono h1 (fun X a1 w1 hX => ?_)
            have hX' := hX
            obtain ⟨π', hle, hH', hA', hx⟩ := hX
            cases hx
            simp only [Exit.inBlock, if_neg he']
            exact hX'
        | _ =>
          simp only [Option.some.injEq, Prod.mk.injEq] at h
          obtain ⟨rfl, rfl, rfl⟩ := h
          refine wp_mono h1 (fun X a1 w1 hX => ?_)
          have hX' := hX
          obtain ⟨π', hle, hH', hA', hx⟩ := hX
          first
            | (cases hx; exact hX')
            | (obtain ⟨ch', rfl, _⟩ := hx; exact hX')
    | loop p => exact (loopOK p π0 π σ w α a x α' σ' h0 hH hA h).loop
    | region id ops d =>
      cases d with
      | false =>
        simp only [evCode] at h
        apply wp_region
        have := runOps_sound hc (ops := ops) ops.toList 0 (fun j o hj => by rw [Nat.zero_add, ← Array.getElem?_toList]; exact hj) h0 hH hA h
        rw [List.range_eq_range']
        simpa using this
      | true =>
        simp only [evCode] at h
        exact drawRegion_sound hm hc h0 hH hA h
    | scope p =>
      simp only [evCode] at h
      apply wp_scope_straight
      cases hb : evCode P known call n p α σ with
      | none => rw [hb] at h; cases h
      | some r =>
        obtain ⟨x1, α1, σ1⟩ := r
        rw [hb] at h
        have h1 := ih p π0 π σ w α a x1 α1 σ1 h0 hH hA hb
        cases x1 with
        | goto l => cases h
        | _ =>
          simp only [Option.some.injEq, Prod.mk.injEq] at h
          obtain ⟨rfl, rfl, rfl⟩ := h
          refine wp_mono h1 (fun X a1 w1 hX => ?_)
          have hX' := hX
          obtain ⟨π', hle, hH', hA', hx⟩ := hX
          first
            | (cases hx; exact hX')
            | (obtain ⟨ch', rfl, _⟩ := hx; exact hX')
    | _ => cases h
end Go.Proofs.YtjagjjdkgidkjaaGreatDoor.Ev
