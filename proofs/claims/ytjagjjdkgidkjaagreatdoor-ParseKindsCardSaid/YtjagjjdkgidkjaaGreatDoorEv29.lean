/- Part Ev29 of a verified evaluator of closed calls: of no program; no condition. -/
import Derived.Test.YtjagjjdkgidkjaaGreatDoorEv28
set_option linter.all false
namespace Go.Proofs.YtjagjjdkgidkjaaGreatDoor.Ev
open Go Go.RowKit

variable {P : Program} {known : Nat → Bool} {base : Nat} {w0 : World} {π : Pi} {σ : AS} {w : World}

/-- What is laid stays laid. -/
theorem LayR.later {W w : World} {π : Pi} {h : T ABlk} {n : Nat} {gs : List Nat} (L : LayR P W π h n gs) (hb : Below W.heap.size W w) : LayR P w π h n gs :=
  ⟨L.low, fun b B hB => ⟨(L.blk b B hB).1, BR.mono (Pi.le_refl π) (fun p hp => hb.block _ (L.bnd b p hp)) (L.blk b B hB).2⟩, L.fresh, L.un, fun b p hp => Nat.lt_of_lt_of_le (L.bnd b p hp) hb.size, L.glob⟩
theorem HR.grow (h : HR known base w0 π σ w) {w' : World} (hb : Below w.heap.size w w') : HR known base w0 π σ w' :=
  ⟨fun b B hB => by
    cases B with
    | dead => trivial
    | _ => exact BR.mono (Pi.le_refl π) (fun p hp => hb.block _ (h.bnd b p hp)) (h.blk b _ hB), h.inj, h.fresh, fun b p hp => Nat.lt_of_lt_of_le (h.bnd b p hp) hb.size, h.mine, Nat.le_trans h.low hb.size, h.below.trans (hb.mono h.low), h.glob⟩

theorem laid_HR' {W w : World} {laid : List (String × DataW Unit)} (hf : (laid.filter fun x => x.2.handleName?.isSome) = []) (h : laidMetH P laid W) (hb : Below W.heap.size W w) :
    ∃ π, HR (fun g => memN g (layAll P laid .nil P.globals.size []).2) w.heap.size w π (layAll P laid .nil P.globals.size []).1 w := by
  have h' : laidMet P laid W := by
    unfold laidMetH at h
    rw [hf] at h
    exact h
  obtain ⟨ps, h1, _, h3⟩ := h'
  obtain ⟨π, L⟩ := layAll_rel (P := P) (W := W) laid .nil P.globals.size [] (fun _ => none) ps h1 (fun b off hb => h3 b off hb)
    ⟨Nat.le_refl _, fun b B hb => (by rw [T.get_nil] at hb; cases hb), fun b _ => ⟨T.get_nil _, rfl⟩, fun g _ _ => ⟨T.get_nil _, rfl⟩, fun b p hb => (by cases hb), fun g hg => (by cases hg)⟩
  exact ⟨π, (L.later hb).hr⟩
theorem closedTrue_at (hm : P.follows .mixedOrders = true) {W : World} {laid : List (String × DataW Unit)} (hf : (laid.filter fun x => x.2.handleName?.isSome) = []) (hL : laidMetH P laid W) {n : Nat} {f : FuncId}
    (h : closedTrue P laid n f [] = true) (w : World) (hb : Below W.heap.size W w) : Calls P f #[] w fun e w' => e = .returned (.bool true) ∧ Below w.heap.size w w' := by
  obtain ⟨π, hH⟩ := laid_HR' hf hL hb
  unfold closedTrue at h
  generalize hl : layAll P laid .nil P.globals.size [] = r at h hH
  obtain ⟨σ, gs⟩ := r
  dsimp only at h hH
  split at h
  · rename_i σ' he
    refine Calls.mono (evCall_calls hm (args := #[]) hH VRL.nil he) (fun E w' hE => ?_)
    obtain ⟨u, π', rfl, hu, _, hH'⟩ := hE
    simp only [VR] at hu
    rw [hu]
    exact ⟨rfl, hH'.below⟩
  · cases h

/-! ### with summaries: calls without arguments whose end is known -/
noncomputable def evCallS (P : Program) (known : Nat → Bool) (sum : FuncId → Option AV) : Nat → Rec
  | 0, _, _, _ => none
  | n + 1, f, args, σ => match sum f, args with
    | some v, [] => some (.returned v, σ)
    | _, _ => match P.funcs[f]? with
      | none => none
      | some fn => match fn.body with
        | none => none
        | some c => match evCode P known (evCallS P known sum n) 1000000 c (AA.start fn args) σ with
          | some (.normal, α, σ) | some (.ret, α, σ) => leaves P known (evCallS P known sum n) 1000000 fn α α.defers none σ
          | some (.panic ch, α, σ) => leaves P known (evCallS P known sum n) 1000000 fn α α.defers (some ch) σ
          | _ => none
def SumOK (P : Program) (base : Nat) (w0 : World) (sum : FuncId → Option AV) : Prop :=
  ∀ f v, sum f = some v → ∀ w, Below base w0 w → Calls P f #[] w fun E w' => ∃ u, E = .returned u ∧ (∀ π, VR π v u) ∧ Below w.heap.size w w'

theorem body_sound (hm : P.follows .mixedOrders = true) {call : Rec} (ih : CallOK P known base w0 call) {N : Nat} {f : FuncId} {xs : List AV} {e : AE} {σ' : AS}
    (h : (match P.funcs[f]? with
      | none => none
      | some fn => match fn.body with
        | none => none
        | some c => match evCode P known call N c (AA.start fn xs) σ with
          | some (.normal, α, σ) | some (.ret, α, σ) => leaves P known call N fn α α.defers none σ
          | some (.panic ch, α, σ) => leaves P known call N fn α α.defers (some ch) σ
          | _ => none) = some (e, σ')) {args : Array Value} (hH : HR known base w0 π σ w) (hx : VRL π xs args.toList) : Calls P f args w (EndR known base w0 π e σ') := by
  cases hf : P.funcs[f]? with
  | none => rw [hf] at h; cases h
  | some fn =>
    rw [hf] at h
    dsimp only at h
    cases hb : fn.body with
    | none => rw [hb] at h; cases h
    | some c =>
      rw [hb] at h
      dsimp only at h
      refine calls_of_wp_defers hf hb ?_
      cases hev : evCode P known call N c (AA.start fn xs) σ with
      | none => rw [hev] at h; cases h
      | some r =>
        obtain ⟨x, α1, σ1⟩ := r
        rw [hev] at h
        have h1 := (evCode_sound hm ih N).1 c π π σ w (AA.start fn xs) _ x α1 σ1 (Pi.le_refl π) hH (start_rel hx) hev
        refine wp_mono h1 (fun X a1 w1 hX => ?_)
        obtain ⟨π', hle, hH', hA', hx'⟩ := hX
        cases x with
        | normal =>
          cases hx'
          exact leaves_sound hm ih α1.defers a1.defers π' σ1 w1 a1 none .returning hle hH' hA' hA'.defers rfl h
        | ret =>
          cases hx'
          exact leaves_sound hm ih α1.defers a1.defers π' σ1 w1 a1 none .returning hle hH' hA' hA'.defers rfl h
        | panic ch =>
          obtain ⟨ch', rfl, hch⟩ := hx'
          exact leaves_sound hm ih α1.defers a1.defers π' σ1 w1 a1 (some ch) (.panicking ch') hle hH' hA' hA'.defers ⟨ch', rfl, hch⟩ h
        | exit id => cases h
        | goto l => cases h
theorem evCallS_sound (hm : P.follows .mixedOrders = true) {sum : FuncId → Option AV} (hs : SumOK P base w0 sum) : ∀ n, CallOK P known base w0 (evCallS P known sum n)
  | 0 => fun f args σ e σ' h => by cases h
  | n + 1 => by
    have ih := evCallS_sound hm hs n
    intro f xs σ e σ' h π w args hH hx
    simp only [evCallS] at h
    split at h
    · rename_i v hv
      simp only [Option.some.injEq, Prod.mk.injEq] at h
      obtain ⟨rfl, rfl⟩ := h
      simp only [VRL] at hx
      have : args = #[] := by apply Array.ext'; simp [hx]
      subst this
      refine Calls.mono (hs f v hv w hH.below) (fun E w' hE => ?_)
      obtain ⟨u, rfl, hu, hb⟩ := hE
      exact ⟨π, Pi.le_refl π, hH.grow hb, hu π⟩
    · exact body_sound hm ih h hH hx
end Go.Proofs.YtjagjjdkgidkjaaGreatDoor.Ev
