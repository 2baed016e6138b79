/- Part Ev25 of a verified evaluator of closed calls: of no program; no condition. -/
import Derived.Test.YtjagjjdkgidkjaaGreatDoorEv24
set_option linter.all false
namespace Go.Proofs.YtjagjjdkgidkjaaGreatDoor.Ev
open Go Go.RowKit

variable {P : Program} {known : Nat → Bool} {base : Nat} {w0 : World} {π : Pi} {σ : AS} {w : World} {ρ : Rho}

/-- The mode of the frame below. -/
def MR (π : Pi) : AM → FrameMode → Prop
  | none, m => m = .returning
  | some ch, m => ∃ ch', m = .panicking ch' ∧ CL π ch ch'
theorem MR.mono {π π' : Pi} (h : π.le π') {u : AM} {m : FrameMode} (e : MR π u m) : MR π' u m := by
  cases u with
  | none => exact e
  | some ch => obtain ⟨ch', rfl, h2⟩ := e; exact ⟨ch', rfl, h2.mono h⟩
def ExitD (known : Nat → Bool) (base : Nat) (w0 : World) (c₀ : Frame) (rest : List Frame) (π : Pi) (x : AX) (α' : AA) (u' : AM) (σ' : AS) (X : Exit) (a' : Act) (cs' : List Frame) (w' : World) : Prop :=
  ∃ π' m', π.le π' ∧ HR known base w0 π' σ' w' ∧ ActR π' α' a' ∧ XR π' x X ∧ MR π' u' m' ∧ cs' = { c₀ with mode := m' } :: rest

theorem upon_notRecover {o : Oper} {a : Act} {next : Act → World → Prop} {Q : Exit → Act → World → Prop} {w' : World} (h : o.upon P a next Q (.ok .recover w')) : False := h

theorem runOpsD_sound {call : Rec} (hc : CallOK P known base w0 call) {ops : Array Oper} (c₀ : Frame) (rest : List Frame) : ∀ (l : List Oper) (i : Nat), (∀ j o, l[j]? = some o → ops[i + j]? = some o) →
    ∀ {π0 π : Pi} {σ : AS} {w : World} {α : AA} {a : Act} {u : AM} {m : FrameMode} {x : AX} {α' : AA} {u' : AM} {σ' : AS}, π0.le π → HR known base w0 π σ w → ActR π α a → MR π u m →
      runOpsD P known call ops l α u σ = some (x, α', u', σ') →
      wpOpsS P ops (ExitD known base w0 c₀ rest π0 x α' u' σ') (List.range' i l.length) a ({ c₀ with mode := m } :: rest) w
  | [], i, hl, π0, π, σ, w, α, a, u, m, x, α', u', σ', h0, hH, hA, hM, h => by
    have h' : some (AX.normal, α, u, σ) = some (x, α', u', σ') := h
    simp only [Option.some.injEq, Prod.mk.injEq] at h'
    obtain ⟨rfl, rfl, rfl, rfl⟩ := h'
    exact ⟨π, m, h0, hH, hA, rfl, hM, rfl⟩
  | o :: l, i, hl, π0, π, σ, w, α, a, u, m, x, α', u', σ', h0, hH, hA, hM, h => by
    have ho : ops[i]? = some o := hl 0 o rfl
    have hl' : ∀ j o, l[j]? = some o → ops[(i + 1) + j]? = some o := fun j o hj => by
      have := hl (j + 1) o (by simpa using hj)
      rw [show i + 1 + j = i + (j + 1) by omega]; exact this
    have ih := fun {π : Pi} {σ : AS} {w : World} {α : AA} {a : Act} {u : AM} {m : FrameMode} {x : AX} {α' : AA} {u' : AM} {σ' : AS} (h0 : π0.le π) =>
      runOpsD_sound hc (ops := ops) c₀ rest l (i + 1) hl' (π0 := π0) (π := π) (σ := σ) (w := w) (α := α) (a := a) (u := u) (m := m) (x := x) (α' := α') (u' := u') (σ' := σ') h0
    simp only [runOpsD] at h
    rw [bM_iff, wanted_eq hA] at h
    rw [List.length_cons, List.range'_succ]
    simp only [wpOpsS, ho]
    split
    · rename_i hw
      rw [if_pos hw] at h
      cases hr : isRecover o with
      | true =>
        rw [hr] at h
        have hex : (execOp a.eval o).run P w = .ok .recover w := by
          unfold isRecover at hr
          split at hr
          · rename_i c hop
            split at hr
            · rename_i hcal
              rw [call_builtin hop hcal]
              rfl
            · cases hr
          · cases hr
        rw [hex]
        dsimp only
        dsimp only at h
        split at h
        · rename_i v older
          rw [oB_iff] at h; obtain ⟨α1, hp, h⟩ := h
          obtain ⟨ch', rfl, hch⟩ := hM
          simp only [CL] at hch
          obtain ⟨v', r, rfl, hv, hr'⟩ := hch
          have hrec : recoverD ({ c₀ with mode := .panicking ({ v := v', recovered := false } :: r) } :: rest) = some (v', { c₀ with mode := .panicking ({ v := v', recovered := true } :: r) } :: rest) := rfl
          rw [hrec]
          exact ih (u := some (⟨v, true⟩ :: older)) h0 hH (hA.put hp hv) ⟨_, rfl, by simp only [CL]; exact ⟨v', r, rfl, hv, hr'⟩⟩ h
        · rename_i hne
          rw [oB_iff] at h; obtain ⟨α1, hp, h⟩ := h
          have hrec : recoverD ({ c₀ with mode := m } :: rest) = none := by
            cases u with
            | none => cases hM; rfl
            | some ch =>
              obtain ⟨ch', rfl, hch⟩ := hM
              cases ch with
              | nil => simp only [CL] at hch; subst hch; rfl
              | cons e l =>
                obtain ⟨v, rec⟩ := e
                cases rec with
                | false => exact absurd rfl (hne v l)
                | true =>
                  simp only [CL] at hch
                  obtain ⟨v', r, rfl, _, _⟩ := hch
                  rfl
          rw [hrec]
          exact ih h0 hH (hA.put hp (by simp only [VR])) hM h
      | false =>
        rw [hr] at h
        dsimp only at h
        rw [oB_iff] at h; obtain ⟨r, hr, h⟩ := h
        have hop : o.upon P a (fun a' w' => wpOpsS P ops (ExitD known base w0 c₀ rest π0 x α' u' σ') (List.range' (i + 1) l.length) a' ({ c₀ with mode := m } :: rest) w')
            (fun e a' w' => ExitD known base w0 c₀ rest π0 x α' u' σ' e a' ({ c₀ with mode := m } :: rest) w') ((execOp a.eval o).run P w) := by
          refine doOp_sound hc hH (hA.rho hH) hr ?_
          cases r with
          | val v σ1 =>
            dsimp only at h
            rw [oB_iff] at h; obtain ⟨α1, hp, h⟩ := h
            intro π' w' u hle hH' hv
            exact ih (Pi.le_trans h0 hle) hH' ((hA.mono hle).put hp hv) (hM.mono hle) h
          | defer d σ1 => cases h
          | panic ch σ1 =>
            simp only [Option.some.injEq, Prod.mk.injEq] at h
            obtain ⟨rfl, rfl, rfl, rfl⟩ := h
            intro π' w' ch' hle hH' hch
            exact ⟨π', m, Pi.le_trans h0 hle, hH', hA.mono hle, ⟨_, rfl, hch⟩, hM.mono hle, rfl⟩
        split
        · rename_i w' hw'
          rw [hw'] at hop
          exact (upon_notRecover hop).elim
        · exact hop
    · rename_i hw
      rw [if_neg hw] at h
      rw [oB_iff] at h; obtain ⟨α1, hp, h⟩ := h
      exact ih h0 hH (hA.put hp (by simp only [VR]; exact ⟨[], rfl, VRL.nil⟩)) hM h

theorem wpS_mono {c : Code} {Q Q' : Exit → Act → List Frame → World → Prop} {a : Act} {cs : List Frame} {w : World} (h : c.wpS P Q a cs w) (hq : ∀ e a cs w, Q e a cs w → Q' e a cs w) : c.wpS P Q' a cs w :=
  fun b k hb hr => let ⟨e, a', cs', w', q, r⟩ := h b k hb hr; ⟨e, a', cs', w', hq _ _ _ _ q, r⟩

theorem evCodeD_sound (hm : P.follows .mixedOrders = true) {call : Rec} (hc : CallOK P known base w0 call) (c₀ : Frame) (rest : List Frame) : ∀ (n : Nat) (c : Code) (π0 π : Pi) (σ : AS) (w : World) (α : AA) (a : Act) (u : AM) (m : FrameMode) (x : AX) (α' : AA) (u' : AM) (σ' : AS),
    π0.le π → HR known base w0 π σ w → ActR π α a → MR π u m → evCodeD P known call n c α u σ = some (x, α', u', σ') → c.wpS P (ExitD known base w0 c₀ rest π0 x α' u' σ') a ({ c₀ with mode := m } :: rest) w
  | 0, c, π0, π, σ, w, α, a, u, m, x, α', u', σ', h0, hH, hA, hM, h => by cases h
  | n + 1, c, π0, π, σ, w, α, a, u, m, x, α', u', σ', h0, hH, hA, hM, h => by
    have ih := evCodeD_sound hm hc c₀ rest n
    have plain : (match evCode P known call n c α σ with
      | some (x, α, σ) => some (x, α, u, σ)
      | none => none) = some (x, α', u', σ') → c.wpS P (ExitD known base w0 c₀ rest π0 x α' u' σ') a ({ c₀ with mode := m } :: rest) w := by
      intro h
      cases hb : evCode P known call n c α σ with
      | none => rw [hb] at h; cases h
      | some r =>
        obtain ⟨x1, α1, σ1⟩ := r
        rw [hb] at h
        simp only [Option.some.injEq, Prod.mk.injEq] at h
        obtain ⟨rfl, rfl, rfl, rfl⟩ := h
        have h1 := (evCode_sound hm hc n).1 c π π σ w α a x1 α1 σ1 (Pi.le_refl π) hH hA hb
        refine wpS_of_wp (wp_mono h1 (fun X a1 w1 hX => ?_))
        obtain ⟨π', hle, hH', hA', hx⟩ := hX
        exact ⟨π', m, Pi.le_trans h0 hle, hH', hA', hx, hM.mono hle, rfl⟩
    cases c with
    | seq p q =>
      simp only [evCodeD] at h
      apply wpS_seq
      cases hb : evCodeD P known call n p α u σ with
      | none => rw [hb] at h; cases h
      | some r =>
        obtain ⟨x1, α1, u1, σ1⟩ := r
        rw [hb] at h
        have h1 := ih p π0 π σ w α a u m x1 α1 u1 σ1 h0 hH hA hM hb
        refine wpS_mono h1 (fun X a1 cs1 w1 hX => ?_)
        obtain ⟨π', m', hle, hH', hA', hx, hM', rfl⟩ := hX
        cases x1 with
        | normal =>
          cases hx
          exact ih q π0 π' σ1 w1 α1 a1 u1 m' x α' u' σ' hle hH' hA' hM' h
        | panic ch =>
          simp only [Option.some.injEq, Prod.mk.injEq] at h
          obtain ⟨rfl, rfl, rfl, rfl⟩ := h
          obtain ⟨ch', rfl, hch⟩ := hx
          exact ⟨π', m', hle, hH', hA', ⟨ch', rfl, hch⟩, hM', rfl⟩
        | _ =>
          simp only [Option.some.injEq, Prod.mk.injEq] at h
          obtain ⟨rfl, rfl, rfl, rfl⟩ := h
          cases hx
          exact ⟨π', m', hle, hH', hA', rfl, hM', rfl⟩
    | cond cnd p q =>
      simp only [evCodeD] at h
      have hρ := hA.rho hH
      split at h
      · rename_i hcnd
        exact wpS_cond (t := true) (hρ _ _ hcnd).bool (ih p π0 π σ w α a u m x α' u' σ' h0 hH hA hM h)
      · rename_i hcnd
        exact wpS_cond (t := false) (hρ _ _ hcnd).bool (ih q π0 π σ w α a u m x α' u' σ' h0 hH hA hM h)
      · cases h
    | region id ops d =>
      cases d with
      | false =>
        simp only [evCodeD] at h
        apply wpS_region
        have := runOpsD_sound hc (ops := ops) c₀ rest ops.toList 0 (fun j o hj => by rw [Nat.zero_add, ← Array.getElem?_toList]; exact hj) h0 hH hA hM h
        rw [List.range_eq_range']
        simpa using this
      | true => exact plain h
    | _ => exact plain h

/-- A deferred call. -/
theorem callD_sound (hm : P.follows .mixedOrders = true) {call : Rec} (hc : CallOK P known base w0 call) {n : Nat} {f : FuncId} {xs : List AV} {args : Array Value} {u u' : AM} {m : FrameMode} {e : AE} {σ' : AS}
    (hH : HR known base w0 π σ w) (hx : VRL π xs args.toList) (hM : MR π u m) (h : callD P known call n f xs u σ = some (e, u', σ')) :
    CallsD P f args m w fun E m' w' => ∃ π', π.le π' ∧ HR known base w0 π' σ' w' ∧ MR π' u' m' ∧ (match e, E with
      | .returned v, .returned u => VR π' v u
      | .panicked ch, .panicked ch' => CL π' ch ch'
      | _, _ => False) := by
  unfold callD at h
  cases hf : P.funcs[f]? with
  | none => rw [hf] at h; cases h
  | some fn =>
    rw [hf] at h
    dsimp only at h
    cases hb : fn.body with
    | none => rw [hb] at h; cases h
    | some c =>
      rw [hb] at h
      cases hn : fn.name == "runtime.NumGoroutine" with
      | true => rw [hn] at h; cases h
      | false =>
        rw [hn] at h
        dsimp only at h
        refine callsD_of_wpS hf hb (fun c₀ cs hc0 => ?_)
        have hc0' : c₀ = { c₀ with mode := m } := by rw [← hc0]
        rw [hc0']
        cases hev : evCodeD P known call n c (AA.start fn xs) u σ with
        | none => rw [hev] at h; cases h
        | some r =>
          obtain ⟨x, α1, u1, σ1⟩ := r
          rw [hev] at h
          have h1 := evCodeD_sound hm hc c₀ cs n c π π σ w (AA.start fn xs) _ u m x α1 u1 σ1 (Pi.le_refl π) hH (start_rel hx) hM hev
          refine wpS_mono h1 (fun X a1 cs1 w1 hX => ?_)
          obtain ⟨π', m', hle, hH', hA', hx', hM', rfl⟩ := hX
          have fin : ∀ v, α1.defers = [] → resultA P σ1 α1 fn = some v → e = .returned v → u' = u1 → σ' = σ1 →
              a1.defers = [] ∧ ∃ m2, ({ c₀ with mode := m' } :: cs : List Frame) = { ({ c₀ with mode := m } : Frame) with mode := m2 } :: cs ∧ ∃ v, (results fn a1.tmps).run P w1 = .ok v w1 ∧
                ∃ π', π.le π' ∧ HR known base w0 π' σ' w1 ∧ MR π' u' m2 ∧ (match e, Ending.returned v with
                  | .returned v, .returned u => VR π' v u
                  | .panicked ch, .panicked ch' => CL π' ch ch'
                  | _, _ => False) := by
            rintro v hd hv rfl rfl rfl
            obtain ⟨y, hy, hvy⟩ := resultA_sound hH' hA' hv
            have hdl := hA'.defers
            rw [hd] at hdl
            simp only [DL] at hdl
            exact ⟨hdl, m', rfl, y, hy, π', hle, hH', hM', hvy⟩
          cases x with
          | normal =>
            cases hx'
            dsimp only at h
            split at h
            · rename_i v hd hv
              simp only [Option.some.injEq, Prod.mk.injEq] at h
              obtain ⟨rfl, rfl, rfl⟩ := h
              exact fin v hd hv rfl rfl rfl
            · cases h
          | ret =>
            cases hx'
            dsimp only at h
            split at h
            · rename_i v hd hv
              simp only [Option.some.injEq, Prod.mk.injEq] at h
              obtain ⟨rfl, rfl, rfl⟩ := h
              exact fin v hd hv rfl rfl rfl
            · cases h
          | panic ch =>
            obtain ⟨ch', rfl, hch⟩ := hx'
            dsimp only at h
            split at h
            · rename_i hd
              simp only [Option.some.injEq, Prod.mk.injEq] at h
              obtain ⟨rfl, rfl, rfl⟩ := h
              have hdl := hA'.defers
              rw [hd] at hdl
              simp only [DL] at hdl
              exact ⟨hdl, m', rfl, π', hle, hH', hM', hch⟩
            · cases h
          | exit id => cases h
          | goto l => cases h
end Go.Proofs.YtjagjjdkgidkjaaGreatDoor.Ev
