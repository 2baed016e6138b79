/- Part Ev26 of a verified evaluator of closed calls: of no program; no condition. -/
import Derived.Test.YtjagjjdkgidkjaaGreatDoorEv25
set_option linter.all false
namespace Go.Proofs.YtjagjjdkgidkjaaGreatDoor.Ev
open Go Go.RowKit

variable {P : Program} {known : Nat → Bool} {base : Nat} {w0 : World} {π : Pi} {σ : AS} {w : World} {ρ : Rho}

theorem CL.noexit : ∀ {l : List APE} {c : List PanicEntry}, CL π l c → c.dropWhile (!·.goexit) = []
  | [], c, h => by simp only [CL] at h; subst h; rfl
  | e :: l, c, h => by
    simp only [CL] at h
    obtain ⟨v, r, rfl, _, h2⟩ := h
    simp [CL.noexit h2]
theorem settle_rel {u : AM} {m : FrameMode} (h : MR π u m) : MR π (settleA u) (settle m) := by
  cases u with
  | none => cases h; rfl
  | some ch =>
    obtain ⟨ch', rfl, h2⟩ := h
    cases ch with
    | nil => simp only [CL] at h2; subst h2; exact ⟨[], rfl, by simp [CL]⟩
    | cons e l =>
      obtain ⟨v, rc⟩ := e
      have h3 := h2
      simp only [CL] at h2
      obtain ⟨v', r, rfl, hv, hr⟩ := h2
      cases rc with
      | true =>
        show MR π none _
        have := CL.noexit hr
        simp [settle, this, MR]
      | false => exact ⟨_, rfl, h3⟩
theorem CL.append : ∀ {l l' : List APE} {c c' : List PanicEntry}, CL π l c → CL π l' c' → CL π (l ++ l') (c ++ c')
  | [], l', c, c', h, h' => by simp only [CL] at h; subst h; exact h'
  | e :: l, l', c, c', h, h' => by
    simp only [CL] at h
    obtain ⟨v, r, rfl, hv, hr⟩ := h
    simp only [List.cons_append, CL]
    exact ⟨v, r ++ c', rfl, hv, CL.append hr h'⟩
theorem raised_rel {u : AM} {m : FrameMode} {ch : List APE} {ch' : List PanicEntry} (h : MR π u m) (hc : CL π ch ch') : MR π (raisedA u ch) (raised m ch') := by
  cases u with
  | none => cases h; exact ⟨ch', rfl, hc⟩
  | some old => obtain ⟨old', rfl, h2⟩ := h; exact ⟨ch' ++ old', rfl, hc.append h2⟩
theorem MR.notRun {u : AM} {m : FrameMode} (h : MR π u m) : m ≠ .run := by
  cases u with
  | none => cases h; exact fun h => by cases h
  | some ch => obtain ⟨_, rfl, _⟩ := h; exact fun h => by cases h

theorem leaves_sound (hm : P.follows .mixedOrders = true) {call : Rec} (hc : CallOK P known base w0 call) {n : Nat} {fn : Func} {α : AA} {π0 : Pi} {e : AE} {σ' : AS} :
    ∀ (ds : List ADef) (ds' : List Deferred) (π : Pi) (σ : AS) (w : World) (a : Act) (u : AM) (m : FrameMode), π0.le π → HR known base w0 π σ w → ActR π α a → DL π ds ds' → MR π u m →
      leaves P known call n fn α ds u σ = some (e, σ') → Leaves P fn a.tmps (EndR known base w0 π0 e σ') ds' m w
  | [], ds', π, σ, w, a, u, m, h0, hH, hA, hD, hM, h => by
    simp only [DL] at hD
    subst hD
    cases u with
    | none =>
      cases hM
      simp only [leaves] at h
      split at h
      · rename_i v hv
        simp only [Option.some.injEq, Prod.mk.injEq] at h
        obtain ⟨rfl, rfl⟩ := h
        obtain ⟨y, hy, hvy⟩ := resultA_sound hH hA hv
        exact ⟨y, hy, π, h0, hH, hvy⟩
      · cases h
    | some ch =>
      obtain ⟨ch', rfl, hch⟩ := hM
      simp only [leaves, Option.some.injEq, Prod.mk.injEq] at h
      obtain ⟨rfl, rfl⟩ := h
      exact ⟨π, h0, hH, hch⟩
  | d :: ds, ds', π, σ, w, a, u, m, h0, hH, hA, hD, hM, h => by
    have ih := leaves_sound hm hc (n := n) (fn := fn) (α := α) (π0 := π0) (e := e) (σ' := σ') ds
    simp only [DL] at hD
    obtain ⟨d', r, rfl, ⟨cap, xs, rfl, hx⟩, hr⟩ := hD
    simp only [leaves] at h
    cases hd : callD P known call n d.f d.args u σ with
    | none => rw [hd] at h; cases h
    | some y =>
      obtain ⟨e1, u1, σ1⟩ := y
      rw [hd] at h
      have hcall := callD_sound hm hc hH hx hM hd
      have hbody : ∃ gn c, P.funcs[d.f]? = some gn ∧ gn.body = some c ∧ ¬ gn.name = "runtime.NumGoroutine" := by
        unfold callD at hd
        cases hf : P.funcs[d.f]? with
        | none => rw [hf] at hd; cases hd
        | some gn =>
          rw [hf] at hd
          dsimp only at hd
          cases hb : gn.body with
          | none => rw [hb] at hd; cases hd
          | some c =>
            rw [hb] at hd
            cases hn : gn.name == "runtime.NumGoroutine" with
            | true => rw [hn] at hd; cases hd
            | false => exact ⟨gn, c, rfl, hb, by simpa using hn⟩
      obtain ⟨gn, c, hf, hb, hn⟩ := hbody
      refine leaves_cons hM.notRun (f := d.f) (args := xs ++ cap) ?_ ?_
      · simp [invoke, callFunc, hf, hn, hb]
      · refine CallsD.mono hcall (fun E m' w' hE => ?_)
        obtain ⟨π', hle, hH', hM', hv⟩ := hE
        cases e1 with
        | returned v =>
          cases E with
          | returned v' => exact ih r π' σ1 w' a (settleA u1) (settle m') (Pi.le_trans h0 hle) hH' (hA.mono hle) (hr.mono hle) (settle_rel hM') h
          | _ => exact hv.elim
        | panicked ch =>
          cases E with
          | panicked ch' => exact ih r π' σ1 w' a (raisedA u1 ch) (raised m' ch') (Pi.le_trans h0 hle) hH' (hA.mono hle) (hr.mono hle) (raised_rel hM' hv) h
          | _ => exact hv.elim

theorem evCall_sound (hm : P.follows .mixedOrders = true) : ∀ n, CallOK P known base w0 (evCall P known n)
  | 0 => fun f args σ e σ' h => by cases h
  | n + 1 => by
    have ih := evCall_sound hm n
    intro f xs σ e σ' h π w args hH hx
    have hun : evCall P known (n + 1) f xs σ = (match P.funcs[f]? with
      | none => none
      | some fn => match fn.body with
        | none => none
        | some c => match evCode P known (evCall P known n) 1000000 c (AA.start fn xs) σ with
          | some (.normal, α, σ) | some (.ret, α, σ) => leaves P known (evCall P known n) 1000000 fn α α.defers none σ
          | some (.panic ch, α, σ) => leaves P known (evCall P known n) 1000000 fn α α.defers (some ch) σ
          | _ => none) := rfl
    rw [hun] at h
    generalize 1000000 = N at h
    cases hf : P.funcs[f]? with
    | none => rw [hf] at h; cases h
    | some fn =>
      rw [hf] at h
      dsimp only at h
      cases hb : fn.body with
      | none => rw [hb] at h; cases h
      | some c =>
        rw [hb] at h
        dsimp only at h
        refine calls_of_wp_defers hf hb ?_
        cases hev : evCode P known (evCall P known n) N c (AA.start fn xs) σ with
        | none => rw [hev] at h; cases h
        | some r =>
          obtain ⟨x, α1, σ1⟩ := r
          rw [hev] at h
          have h1 := (evCode_sound hm ih N).1 c π π σ w (AA.start fn xs) _ x α1 σ1 (Pi.le_refl π) hH (start_rel hx) hev
          refine wp_mono h1 (fun X a1 w1 hX => ?_)
          obtain ⟨π', hle, hH', hA', hx'⟩ := hX
          cases x with
          | normal =>
            cases hx'
            exact leaves_sound hm ih α1.defers a1.defers π' σ1 w1 a1 none .returning hle hH' hA' hA'.defers rfl h
          | ret =>
            cases hx'
            exact leaves_sound hm ih α1.defers a1.defers π' σ1 w1 a1 none .returning hle hH' hA' hA'.defers rfl h
          | panic ch =>
            obtain ⟨ch', rfl, hch⟩ := hx'
            exact leaves_sound hm ih α1.defers a1.defers π' σ1 w1 a1 (some ch) (.panicking ch') hle hH' hA' hA'.defers ⟨ch', rfl, hch⟩ h
          | exit id => cases h
          | goto l => cases h

/-- The use: a closed call that the evaluator brings to an end. -/
theorem evCall_calls (hm : P.follows .mixedOrders = true) {n : Nat} {f : FuncId} {xs : List AV} {args : Array Value} {v : AV} {σ' : AS} (hH : HR known base w π σ w) (hx : VRL π xs args.toList)
    (h : evCall P known n f xs σ = some (.returned v, σ')) :
    Calls P f args w fun E w' => ∃ u π', E = .returned u ∧ VR π' v u ∧ π.le π' ∧ HR known base w π' σ' w' := by
  refine Calls.mono (evCall_sound (base := base) (w0 := w) hm n f xs σ _ σ' h π w args hH hx) (fun E w' hE => ?_)
  obtain ⟨π', hle, hH', hv⟩ := hE
  cases E with
  | returned u => exact ⟨u, π', rfl, hv, hle, hH'⟩
  | _ => exact hv.elim
end Go.Proofs.YtjagjjdkgidkjaaGreatDoor.Ev
