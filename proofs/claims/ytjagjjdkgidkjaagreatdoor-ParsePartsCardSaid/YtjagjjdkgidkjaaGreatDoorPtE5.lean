/- A verified evaluator of closed calls, of no program: a part (Ev25 Ev26 Ev27 Ev28 Ev29) of the proof that the law ParseParts answers true. No condition. -/
import Derived.Test.YtjagjjdkgidkjaaGreatDoorPtE4
import GoSem.ClaimJoined
import Derived.ChangeArms
import Derived.Lib.LaidTab
set_option linter.all false
set_option linter.all false
namespace Go.Proofs.YtjagjjdkgidkjaaGreatDoor.Ev
open Go Go.RowKit

variable {P : Program} {known : Nat → Bool} {base : Nat} {w0 : World} {π : Pi} {σ : AS} {w : World} {ρ : Rho}

/-- The mode of the frame below. -/
def MR (π : Pi) : AM → FrameMode → Prop
  | none, m => m = .returning
  | some ch, m => ∃ ch', m = .panicking ch' ∧ CL π ch ch'
theorem MR.mono {π π' : Pi} (h : π.le π') {u : AM} {m : FrameMode} (e : MR π u m) : MR π' u m := by
  cases u with
  | none => exact e
  | some ch => obtain ⟨ch', rfl, h2⟩ := e; exact ⟨ch', rfl, h2.mono h⟩
def ExitD (known : Nat → Bool) (base : Nat) (w0 : World) (c₀ : Frame) (rest : List Frame) (π : Pi) (x : AX) (α' : AA) (u' : AM) (σ' : AS) (X : Exit) (a' : Act) (cs' : List Frame) (w' : World) : Prop :=
  ∃ π' m', π.le π' ∧ HR known base w0 π' σ' w' ∧ ActR π' α' a' ∧ XR π' x X ∧ MR π' u' m' ∧ cs' = { c₀ with mode := m' } :: rest

theorem upon_notRecover {o : Oper} {a : Act} {next : Act → World → Prop} {Q : Exit → Act → World → Prop} {w' : World} (h : o.upon P a next Q (.ok .recover w')) : False := h

theorem doOpS_sound (hH : HR known base w0 π σ w) {look : Nat → Option AV} {a : Act} (hρ : RhoR π (opd known look) a.eval) {o : Oper} {r : AO} (h : doOpS P known look σ o = some r)
    {next : Act → World → Prop} {Q : Exit → Act → World → Prop} (hn : Onward known base w0 π o a w next Q r) : o.upon P a next Q ((execOp a.eval o).run P w) := by
  unfold doOpS at h
  split at h
  · rename_i f hh
    unfold valO at h
    rw [oB_iff] at h; obtain ⟨v, hv, h⟩ := h
    simp only [Option.some.injEq] at h
    subst h
    obtain ⟨u, h1, h2⟩ := quiet_sound (w := w) hh hv hρ
    rw [h1]
    exact hn π w u (Pi.le_refl π) hH h2
  · rename_i f hh
    unfold valO at h
    rw [oB_iff] at h; obtain ⟨v, hv, h⟩ := h
    simp only [Option.some.injEq] at h
    subst h
    obtain ⟨u, h1, h2⟩ := reads_sound hH hh hv hρ
    rw [h1]
    exact hn π w u (Pi.le_refl π) hH h2
  · rename_i f hh
    split at h
    · rename_i v σ1 hs
      have hl := loud_sound hH hρ hh hs
      simp only [Option.some.injEq] at h
      subst h
      obtain ⟨π', w', nx, h1, h2, h3, h4⟩ := hl
      rw [h1]
      rcases h2 with ⟨u, rfl, hu⟩ | ⟨rfl, rfl⟩
      · exact hn π' w' u h3 h4 hu
      · exact hn π' w' undef h3 h4 (by simp only [VR]; exact ⟨[], rfl, VRL.nil⟩)
    · rename_i v σ1 hs
      have hl := loud_sound hH hρ hh hs
      simp only [Option.some.injEq] at h
      subst h
      obtain ⟨v', h1, h2, rfl⟩ := hl
      rw [h1]
      exact hn π w _ (Pi.le_refl π) hH (by simp only [CL]; exact ⟨v', [], rfl, h2, rfl⟩)
    · cases h
  · cases h
theorem runOpsD_sound {call : Rec} (hc : CallOK P known base w0 call) {ops : Array Oper} (c₀ : Frame) (rest : List Frame) : ∀ (l : List Oper) (i : Nat), (∀ j o, l[j]? = some o → ops[i + j]? = some o) →
    ∀ {π0 π : Pi} {σ : AS} {w : World} {α : AA} {a : Act} {u : AM} {m : FrameMode} {x : AX} {α' : AA} {u' : AM} {σ' : AS}, π0.le π → HR known base w0 π σ w → ActR π α a → MR π u m →
      runOpsD P known call ops l α u σ = some (x, α', u', σ') →
      wpOpsS P ops (ExitD known base w0 c₀ rest π0 x α' u' σ') (List.range' i l.length) a ({ c₀ with mode := m } :: rest) w
  | [], i, hl, π0, π, σ, w, α, a, u, m, x, α', u', σ', h0, hH, hA, hM, h => by
    have h' : some (AX.normal, α, u, σ) = some (x, α', u', σ') := h
    simp only [Option.some.injEq, Prod.mk.injEq] at h'
    obtain ⟨rfl, rfl, rfl, rfl⟩ := h'
    exact ⟨π, m, h0, hH, hA, rfl, hM, rfl⟩
  | o :: l, i, hl, π0, π, σ, w, α, a, u, m, x, α', u', σ', h0, hH, hA, hM, h => by
    have ho : ops[i]? = some o := hl 0 o rfl
    have hl' : ∀ j o, l[j]? = some o → ops[(i + 1) + j]? = some o := fun j o hj => by
      have := hl (j + 1) o (by simpa using hj)
      rw [show i + 1 + j = i + (j + 1) by omega]; exact this
    have ih := fun {π : Pi} {σ : AS} {w : World} {α : AA} {a : Act} {u : AM} {m : FrameMode} {x : AX} {α' : AA} {u' : AM} {σ' : AS} (h0 : π0.le π) =>
      runOpsD_sound hc (ops := ops) c₀ rest l (i + 1) hl' (π0 := π0) (π := π) (σ := σ) (w := w) (α := α) (a := a) (u := u) (m := m) (x := x) (α' := α') (u' := u') (σ' := σ') h0
    simp only [runOpsD] at h
    rw [bM_iff, wanted_eq hA] at h
    rw [List.length_cons, List.range'_succ]
    simp only [wpOpsS, ho]
    split
    · rename_i hw
      rw [if_pos hw] at h
      cases hr : isRecover o with
      | true =>
        rw [hr] at h
        have hex : (execOp a.eval o).run P w = .ok .recover w := by
          unfold isRecover at hr
          split at hr
          · rename_i c hop
            split at hr
            · rename_i hcal
              rw [call_builtin hop hcal]
              rfl
            · cases hr
          · cases hr
        rw [hex]
        dsimp only
        dsimp only at h
        split at h
        · rename_i v older
          rw [oB_iff] at h; obtain ⟨α1, hp, h⟩ := h
          obtain ⟨ch', rfl, hch⟩ := hM
          simp only [CL] at hch
          obtain ⟨v', r, rfl, hv, hr'⟩ := hch
          have hrec : recoverD ({ c₀ with mode := .panicking ({ v := v', recovered := false } :: r) } :: rest) = some (v', { c₀ with mode := .panicking ({ v := v', recovered := true } :: r) } :: rest) := rfl
          rw [hrec]
          exact ih (u := some (⟨v, true⟩ :: older)) h0 hH (hA.put hp hv) ⟨_, rfl, by simp only [CL]; exact ⟨v', r, rfl, hv, hr'⟩⟩ h
        · rename_i hne
          rw [oB_iff] at h; obtain ⟨α1, hp, h⟩ := h
          have hrec : recoverD ({ c₀ with mode := m } :: rest) = none := by
            cases u with
            | none => cases hM; rfl
            | some ch =>
              obtain ⟨ch', rfl, hch⟩ := hM
              cases ch with
              | nil => simp only [CL] at hch; subst hch; rfl
              | cons e l =>
                obtain ⟨v, rec⟩ := e
                cases rec with
                | false => exact absurd rfl (hne v l)
                | true =>
                  simp only [CL] at hch
                  obtain ⟨v', r, rfl, _, _⟩ := hch
                  rfl
          rw [hrec]
          exact ih h0 hH (hA.put hp (by simp only [VR])) hM h
      | false =>
        rw [hr] at h
        dsimp only at h
        rw [oB_iff] at h; obtain ⟨r, hr, h⟩ := h
        have hop : o.upon P a (fun a' w' => wpOpsS P ops (ExitD known base w0 c₀ rest π0 x α' u' σ') (List.range' (i + 1) l.length) a' ({ c₀ with mode := m } :: rest) w')
            (fun e a' w' => ExitD known base w0 c₀ rest π0 x α' u' σ' e a' ({ c₀ with mode := m } :: rest) w') ((execOp a.eval o).run P w) := by
          refine doOpS_sound hH (hA.rho hH) hr ?_
          cases r with
          | val v σ1 =>
            dsimp only at h
            rw [oB_iff] at h; obtain ⟨α1, hp, h⟩ := h
            intro π' w' u hle hH' hv
            exact ih (Pi.le_trans h0 hle) hH' ((hA.mono hle).put hp hv) (hM.mono hle) h
          | defer d σ1 => cases h
          | panic ch σ1 =>
            simp only [Option.some.injEq, Prod.mk.injEq] at h
            obtain ⟨rfl, rfl, rfl, rfl⟩ := h
            intro π' w' ch' hle hH' hch
            exact ⟨π', m, Pi.le_trans h0 hle, hH', hA.mono hle, ⟨_, rfl, hch⟩, hM.mono hle, rfl⟩
        split
        · rename_i w' hw'
          rw [hw'] at hop
          exact (upon_notRecover hop).elim
        · exact hop
    · rename_i hw
      rw [if_neg hw] at h
      rw [oB_iff] at h; obtain ⟨α1, hp, h⟩ := h
      exact ih h0 hH (hA.put hp (by simp only [VR]; exact ⟨[], rfl, VRL.nil⟩)) hM h

theorem wpS_mono {c : Code} {Q Q' : Exit → Act → List Frame → World → Prop} {a : Act} {cs : List Frame} {w : World} (h : c.wpS P Q a cs w) (hq : ∀ e a cs w, Q e a cs w → Q' e a cs w) : c.wpS P Q' a cs w :=
  fun b k hb hr => let ⟨e, a', cs', w', q, r⟩ := h b k hb hr; ⟨e, a', cs', w', hq _ _ _ _ q, r⟩

theorem evCodeD_sound (hm : P.follows .mixedOrders = true) {call : Rec} (hc : CallOK P known base w0 call) (c₀ : Frame) (rest : List Frame) : ∀ (n : Nat) (c : Code) (π0 π : Pi) (σ : AS) (w : World) (α : AA) (a : Act) (u : AM) (m : FrameMode) (x : AX) (α' : AA) (u' : AM) (σ' : AS),
    π0.le π → HR known base w0 π σ w → ActR π α a → MR π u m → evCodeD P known call n c α u σ = some (x, α', u', σ') → c.wpS P (ExitD known base w0 c₀ rest π0 x α' u' σ') a ({ c₀ with mode := m } :: rest) w
  | 0, c, π0, π, σ, w, α, a, u, m, x, α', u', σ', h0, hH, hA, hM, h => by cases h
  | n + 1, c, π0, π, σ, w, α, a, u, m, x, α', u', σ', h0, hH, hA, hM, h => by
    have ih := evCodeD_sound hm hc c₀ rest n
    have plain : (match evCode P known call n c α σ with
      | some (x, α, σ) => some (x, α, u, σ)
      | none => none) = some (x, α', u', σ') → c.wpS P (ExitD known base w0 c₀ rest π0 x α' u' σ') a ({ c₀ with mode := m } :: rest) w := by
      intro h
      cases hb : evCode P known call n c α σ with
      | none => rw [hb] at h; cases h
      | some r =>
        obtain ⟨x1, α1, σ1⟩ := r
        rw [hb] at h
        simp only [Option.some.injEq, Prod.mk.injEq] at h
        obtain ⟨rfl, rfl, rfl, rfl⟩ := h
        have h1 := wpIn_wide.1 ((evCode_sound hm hc n).1 none c π π σ w α a x1 α1 σ1 (fun h => absurd rfl h) (Pi.le_refl π) hH hA hb)
        refine wpS_of_wp (wp_mono h1 (fun X a1 w1 hX => ?_))
        obtain ⟨π', hle, hH', hA', hx⟩ := hX
        exact ⟨π', m, Pi.le_trans h0 hle, hH', hA', hx, hM.mono hle, rfl⟩
    cases c with
    | seq p q =>
      simp only [evCodeD] at h
      apply wpS_seq
      cases hb : evCodeD P known call n p α u σ with
      | none => rw [hb] at h; cases h
      | some r =>
        obtain ⟨x1, α1, u1, σ1⟩ := r
        rw [hb] at h
        have h1 := ih p π0 π σ w α a u m x1 α1 u1 σ1 h0 hH hA hM hb
        refine wpS_mono h1 (fun X a1 cs1 w1 hX => ?_)
        obtain ⟨π', m', hle, hH', hA', hx, hM', rfl⟩ := hX
        cases x1 with
        | normal =>
          cases hx
          exact ih q π0 π' σ1 w1 α1 a1 u1 m' x α' u' σ' hle hH' hA' hM' h
        | panic ch =>
          simp only [Option.some.injEq, Prod.mk.injEq] at h
          obtain ⟨rfl, rfl, rfl, rfl⟩ := h
          obtain ⟨ch', rfl, hch⟩ := hx
          exact ⟨π', m', hle, hH', hA', ⟨ch', rfl, hch⟩, hM', rfl⟩
        | _ =>
          simp only [Option.some.injEq, Prod.mk.injEq] at h
          obtain ⟨rfl, rfl, rfl, rfl⟩ := h
          cases hx
          exact ⟨π', m', hle, hH', hA', rfl, hM', rfl⟩
    | cond cnd p q =>
      simp only [evCodeD] at h
      have hρ := hA.rho hH
      split at h
      · rename_i hcnd
        exact wpS_cond (t := true) (hρ _ _ hcnd).bool (ih p π0 π σ w α a u m x α' u' σ' h0 hH hA hM h)
      · rename_i hcnd
        exact wpS_cond (t := false) (hρ _ _ hcnd).bool (ih q π0 π σ w α a u m x α' u' σ' h0 hH hA hM h)
      · cases h
    | region id ops d =>
      cases d with
      | false =>
        simp only [evCodeD] at h
        rw [bM_iff] at h
        split at h
        case isFalse => exact plain h
        apply wpS_region
        have := runOpsD_sound hc (ops := ops) c₀ rest ops.toList 0 (fun j o hj => by rw [Nat.zero_add, ← Array.getElem?_toList]; exact hj) h0 hH hA hM h
        rw [List.range_eq_range']
        simpa using this
      | true => exact plain h
    | _ => exact plain h

/-- A deferred call. -/
theorem callD_sound (hm : P.follows .mixedOrders = true) {call : Rec} (hc : CallOK P known base w0 call) {n : Nat} {f : FuncId} {xs : List AV} {args : Array Value} {u u' : AM} {m : FrameMode} {e : AE} {σ' : AS}
    (hH : HR known base w0 π σ w) (hx : VRL π xs args.toList) (hM : MR π u m) (h : callD P known call n f xs u σ = some (e, u', σ')) :
    CallsD P f args m w fun E m' w' => ∃ π', π.le π' ∧ HR known base w0 π' σ' w' ∧ MR π' u' m' ∧ (match e, E with
      | .returned v, .returned u => VR π' v u
      | .panicked ch, .panicked ch' => CL π' ch ch'
      | _, _ => False) := by
  unfold callD at h
  cases hf : P.funcs[f]? with
  | none => rw [hf] at h; cases h
  | some fn =>
    rw [hf] at h
    dsimp only at h
    cases hb : fn.body with
    | none => rw [hb] at h; cases h
    | some c =>
      rw [hb] at h
      cases hn : fn.name == "runtime.NumGoroutine" with
      | true => rw [hn] at h; cases h
      | false =>
        rw [hn] at h
        dsimp only at h
        refine callsD_of_wpS hf hb (fun c₀ cs hc0 => ?_)
        have hc0' : c₀ = { c₀ with mode := m } := by rw [← hc0]
        rw [hc0']
        cases hev : evCodeD P known call n c (AA.start fn xs) u σ with
        | none => rw [hev] at h; cases h
        | some r =>
          obtain ⟨x, α1, u1, σ1⟩ := r
          rw [hev] at h
          have h1 := evCodeD_sound hm hc c₀ cs n c π π σ w (AA.start fn xs) _ u m x α1 u1 σ1 (Pi.le_refl π) hH (start_rel hx) hM hev
          refine wpS_mono h1 (fun X a1 cs1 w1 hX => ?_)
          obtain ⟨π', m', hle, hH', hA', hx', hM', rfl⟩ := hX
          have fin : ∀ v, α1.defers = [] → resultA P σ1 α1 fn = some v → e = .returned v → u' = u1 → σ' = σ1 →
              a1.defers = [] ∧ ∃ m2, ({ c₀ with mode := m' } :: cs : List Frame) = { ({ c₀ with mode := m } : Frame) with mode := m2 } :: cs ∧ ∃ v, (results fn a1.tmps).run P w1 = .ok v w1 ∧
                ∃ π', π.le π' ∧ HR known base w0 π' σ' w1 ∧ MR π' u' m2 ∧ (match e, Ending.returned v with
                  | .returned v, .returned u => VR π' v u
                  | .panicked ch, .panicked ch' => CL π' ch ch'
                  | _, _ => False) := by
            rintro v hd hv rfl rfl rfl
            obtain ⟨y, hy, hvy⟩ := resultA_sound hH' hA' hv
            have hdl := hA'.defers
            rw [hd] at hdl
            simp only [DL] at hdl
            exact ⟨hdl, m', rfl, y, hy, π', hle, hH', hM', hvy⟩
          cases x with
          | normal =>
            cases hx'
            dsimp only at h
            split at h
            · rename_i v hd hv
              simp only [Option.some.injEq, Prod.mk.injEq] at h
              obtain ⟨rfl, rfl, rfl⟩ := h
              exact fin v hd hv rfl rfl rfl
            · cases h
          | ret =>
            cases hx'
            dsimp only at h
            split at h
            · rename_i v hd hv
              simp only [Option.some.injEq, Prod.mk.injEq] at h
              obtain ⟨rfl, rfl, rfl⟩ := h
              exact fin v hd hv rfl rfl rfl
            · cases h
          | panic ch =>
            obtain ⟨ch', rfl, hch⟩ := hx'
            dsimp only at h
            split at h
            · rename_i hd
              simp only [Option.some.injEq, Prod.mk.injEq] at h
              obtain ⟨rfl, rfl, rfl⟩ := h
              have hdl := hA'.defers
              rw [hd] at hdl
              simp only [DL] at hdl
              exact ⟨hdl, m', rfl, π', hle, hH', hM', hch⟩
            · cases h
          | exit id => cases h
          | goto l => cases h
end Go.Proofs.YtjagjjdkgidkjaaGreatDoor.Ev
set_option linter.all false
namespace Go.Proofs.YtjagjjdkgidkjaaGreatDoor.Ev
open Go Go.RowKit

variable {P : Program} {known : Nat → Bool} {base : Nat} {w0 : World} {π : Pi} {σ : AS} {w : World} {ρ : Rho}

theorem CL.noexit : ∀ {l : List APE} {c : List PanicEntry}, CL π l c → c.dropWhile (!·.goexit) = []
  | [], c, h => by simp only [CL] at h; subst h; rfl
  | e :: l, c, h => by
    simp only [CL] at h
    obtain ⟨v, r, rfl, _, h2⟩ := h
    simp [CL.noexit h2]
theorem settle_rel {u : AM} {m : FrameMode} (h : MR π u m) : MR π (settleA u) (settle m) := by
  cases u with
  | none => cases h; rfl
  | some ch =>
    obtain ⟨ch', rfl, h2⟩ := h
    cases ch with
    | nil => simp only [CL] at h2; subst h2; exact ⟨[], rfl, by simp [CL]⟩
    | cons e l =>
      obtain ⟨v, rc⟩ := e
      have h3 := h2
      simp only [CL] at h2
      obtain ⟨v', r, rfl, hv, hr⟩ := h2
      cases rc with
      | true =>
        show MR π none _
        have := CL.noexit hr
        simp [settle, this, MR]
      | false => exact ⟨_, rfl, h3⟩
theorem CL.append : ∀ {l l' : List APE} {c c' : List PanicEntry}, CL π l c → CL π l' c' → CL π (l ++ l') (c ++ c')
  | [], l', c, c', h, h' => by simp only [CL] at h; subst h; exact h'
  | e :: l, l', c, c', h, h' => by
    simp only [CL] at h
    obtain ⟨v, r, rfl, hv, hr⟩ := h
    simp only [List.cons_append, CL]
    exact ⟨v, r ++ c', rfl, hv, CL.append hr h'⟩
theorem raised_rel {u : AM} {m : FrameMode} {ch : List APE} {ch' : List PanicEntry} (h : MR π u m) (hc : CL π ch ch') : MR π (raisedA u ch) (raised m ch') := by
  cases u with
  | none => cases h; exact ⟨ch', rfl, hc⟩
  | some old => obtain ⟨old', rfl, h2⟩ := h; exact ⟨ch' ++ old', rfl, hc.append h2⟩
theorem MR.notRun {u : AM} {m : FrameMode} (h : MR π u m) : m ≠ .run := by
  cases u with
  | none => cases h; exact fun h => by cases h
  | some ch => obtain ⟨_, rfl, _⟩ := h; exact fun h => by cases h

theorem leaves_sound (hm : P.follows .mixedOrders = true) {call : Rec} (hc : CallOK P known base w0 call) {n : Nat} {fn : Func} {α : AA} {π0 : Pi} {e : AE} {σ' : AS} :
    ∀ (ds : List ADef) (ds' : List Deferred) (π : Pi) (σ : AS) (w : World) (a : Act) (u : AM) (m : FrameMode), π0.le π → HR known base w0 π σ w → ActR π α a → DL π ds ds' → MR π u m →
      leaves P known call n fn α ds u σ = some (e, σ') → Leaves P fn a.tmps (EndR known base w0 π0 e σ') ds' m w
  | [], ds', π, σ, w, a, u, m, h0, hH, hA, hD, hM, h => by
    simp only [DL] at hD
    subst hD
    cases u with
    | none =>
      cases hM
      simp only [leaves] at h
      split at h
      · rename_i v hv
        simp only [Option.some.injEq, Prod.mk.injEq] at h
        obtain ⟨rfl, rfl⟩ := h
        obtain ⟨y, hy, hvy⟩ := resultA_sound hH hA hv
        exact ⟨y, hy, π, h0, hH, hvy⟩
      · cases h
    | some ch =>
      obtain ⟨ch', rfl, hch⟩ := hM
      simp only [leaves, Option.some.injEq, Prod.mk.injEq] at h
      obtain ⟨rfl, rfl⟩ := h
      exact ⟨π, h0, hH, hch⟩
  | .mark b :: ds, ds', π, σ, w, a, u, m, h0, hH, hA, hD, hM, h => by cases h
  | .call df dargs :: ds, ds', π, σ, w, a, u, m, h0, hH, hA, hD, hM, h => by
    have ih := leaves_sound hm hc (n := n) (fn := fn) (α := α) (π0 := π0) (e := e) (σ' := σ') ds
    simp only [DL] at hD
    obtain ⟨d', r, rfl, ⟨cap, xs, rfl, hx⟩, hr⟩ := hD
    simp only [leaves] at h
    cases hd : callD P known call n df dargs u σ with
    | none => rw [hd] at h; cases h
    | some y =>
      obtain ⟨e1, u1, σ1⟩ := y
      rw [hd] at h
      have hcall := callD_sound hm hc hH hx hM hd
      have hbody : ∃ gn c, P.funcs[df]? = some gn ∧ gn.body = some c ∧ ¬ gn.name = "runtime.NumGoroutine" := by
        unfold callD at hd
        cases hf : P.funcs[df]? with
        | none => rw [hf] at hd; cases hd
        | some gn =>
          rw [hf] at hd
          dsimp only at hd
          cases hb : gn.body with
          | none => rw [hb] at hd; cases hd
          | some c =>
            rw [hb] at hd
            cases hn : gn.name == "runtime.NumGoroutine" with
            | true => rw [hn] at hd; cases hd
            | false => exact ⟨gn, c, rfl, hb, by simpa using hn⟩
      obtain ⟨gn, c, hf, hb, hn⟩ := hbody
      refine leaves_cons hM.notRun (f := df) (args := xs ++ cap) ?_ ?_
      · simp [invoke, callFunc, hf, hn, hb]
      · refine CallsD.mono hcall (fun E m' w' hE => ?_)
        obtain ⟨π', hle, hH', hM', hv⟩ := hE
        cases e1 with
        | returned v =>
          cases E with
          | returned v' => exact ih r π' σ1 w' a (settleA u1) (settle m') (Pi.le_trans h0 hle) hH' (hA.mono hle) (hr.mono hle) (settle_rel hM') h
          | _ => exact hv.elim
        | panicked ch =>
          cases E with
          | panicked ch' => exact ih r π' σ1 w' a (raisedA u1 ch) (raised m' ch') (Pi.le_trans h0 hle) hH' (hA.mono hle) (hr.mono hle) (raised_rel hM' hv) h
          | _ => exact hv.elim

theorem marks_sound {fn : Func} {α : AA} {π0 : Pi} {e : AE} {σ' : AS} :
    ∀ (bs : List Nat) (ds : List ADef) (ds' : List Deferred) (π : Pi) (σ : AS) (w : World) (a : Act) (u : AM) (m : FrameMode), marksOf ds = some bs → π0.le π → HR known base w0 π σ w → ActR π α a → DL π ds ds' → MR π u m →
      leavesM P fn α bs u σ = some (e, σ') → LeavesInM Fence.wide 0 P fn a.tmps (EndR known base w0 π0 e σ') ds' m w
  | bs, [], ds', π, σ, w, a, u, m, hb, h0, hH, hA, hD, hM, h => by
    simp only [marksOf, Option.some.injEq] at hb
    subst hb
    simp only [DL] at hD
    subst hD
    cases u with
    | none =>
      cases hM
      simp only [leavesM] at h
      split at h
      · rename_i v hv
        simp only [Option.some.injEq, Prod.mk.injEq] at h
        obtain ⟨rfl, rfl⟩ := h
        obtain ⟨y, hy, hvy⟩ := resultA_sound hH hA hv
        exact ⟨y, hy, π, h0, hH, hvy⟩
      · cases h
    | some ch =>
      obtain ⟨ch', rfl, hch⟩ := hM
      simp only [leavesM, Option.some.injEq, Prod.mk.injEq] at h
      obtain ⟨rfl, rfl⟩ := h
      exact ⟨π, h0, hH, hch⟩
  | bs, .call _ _ :: ds, ds', π, σ, w, a, u, m, hb, h0, hH, hA, hD, hM, h => by cases hb
  | bs, .mark b :: ds, ds', π, σ, w, a, u, m, hb, h0, hH, hA, hD, hM, h => by
    simp only [marksOf] at hb
    rw [oB_iff] at hb; obtain ⟨bs', hbs, hb⟩ := hb
    simp only [Option.some.injEq] at hb
    subst hb
    have ih := marks_sound (fn := fn) (α := α) (π0 := π0) (e := e) (σ' := σ') bs' ds
    simp only [DL] at hD
    obtain ⟨d', r, rfl, ⟨rb, rs, hp, rfl⟩, hr⟩ := hD
    simp only [leavesM] at h
    split at h
    · rename_i hbk
      rw [AS.upd_eq] at h
      obtain ⟨rb', rs', h1, h2⟩ := hH.blk b _ hbk
      rw [hp] at h1
      simp only [Option.some.injEq, Prod.mk.injEq] at h1
      obtain ⟨rfl, _, rfl⟩ := h1
      have hH' : HR known base w0 π (σ.put b .dead) (w.putObj rb (.deferred none)) := hH.obj (o' := .deferred none) hbk rfl rfl hp (fun w' hw' => trivial)
      exact ⟨hM.notRun, .inl ⟨rb, _, rfl, run_takeDeferred h2, ih r π _ _ a u m hbs h0 hH' hA hr hM h⟩⟩
    · cases h

theorem leaveA_sound (hm : P.follows .mixedOrders = true) {call : Rec} (hc : CallOK P known base w0 call) {N : Nat} {f : FuncId} {fn : Func} {c : Code} (hf : P.funcs[f]? = some fn) (hb : fn.body = some c) {args : Array Value} {π : Pi} {α1 : AA} {e : AE} {σ1 σ' : AS} {u : AM} {x : AX}
    (hx : (x = .normal ∧ u = none) ∨ (x = .ret ∧ u = none) ∨ ∃ ch, x = .panic ch ∧ u = some ch)
    (h1 : c.wpIn (FF none) 0 P (ExitR known base w0 π x α1 σ1) { tmps := args ++ Array.replicate (fn.ntmps - args.size) undef, defers := [] } w) (h : leaveA P known call N fn α1 u σ1 = some (e, σ')) :
    Calls P f args w (EndR known base w0 π e σ') := by
  unfold leaveA at h
  split at h
  · rename_i bs hbs
    refine callsIn_wide.1 (callsIn_of_wp_marks (F := Fence.wide) (n := 0) hf hb trivial (wpIn_mono (F := Fence.wide) h1 (fun X a1 w1 hX => ?_)))
    obtain ⟨π', hle, hH', hA', hx'⟩ := hX
    rcases hx with ⟨rfl, rfl⟩ | ⟨rfl, rfl⟩ | ⟨ch, rfl, rfl⟩
    · cases hx'
      exact marks_sound bs α1.defers a1.defers π' σ1 w1 a1 none .returning hbs hle hH' hA' hA'.defers rfl h
    · cases hx'
      exact marks_sound bs α1.defers a1.defers π' σ1 w1 a1 none .returning hbs hle hH' hA' hA'.defers rfl h
    · obtain ⟨ch', rfl, hch⟩ := hx'
      exact marks_sound bs α1.defers a1.defers π' σ1 w1 a1 (some ch) (.panicking ch') hbs hle hH' hA' hA'.defers ⟨ch', rfl, hch⟩ h
  · refine calls_of_wp_defers hf hb (wp_mono (wpIn_wide.1 h1) (fun X a1 w1 hX => ?_))
    obtain ⟨π', hle, hH', hA', hx'⟩ := hX
    rcases hx with ⟨rfl, rfl⟩ | ⟨rfl, rfl⟩ | ⟨ch, rfl, rfl⟩
    · cases hx'
      exact leaves_sound hm hc α1.defers a1.defers π' σ1 w1 a1 none .returning hle hH' hA' hA'.defers rfl h
    · cases hx'
      exact leaves_sound hm hc α1.defers a1.defers π' σ1 w1 a1 none .returning hle hH' hA' hA'.defers rfl h
    · obtain ⟨ch', rfl, hch⟩ := hx'
      exact leaves_sound hm hc α1.defers a1.defers π' σ1 w1 a1 (some ch) (.panicking ch') hle hH' hA' hA'.defers ⟨ch', rfl, hch⟩ h

/-! ### rounds -/
theorem look_getD {tm : T AV} {n : Nat} {ds : List ADef} (t : Nat) : (AA.mk tm n ds).look t = some ((T.get tm t).getD (.tuple [])) := by
  unfold AA.look
  cases T.get tm t with
  | none => rfl
  | some q => rfl
theorem putAll_rel {n : Nat} : ∀ {ps : List Nat} {xs : List AV} {vs : List Value} {tm tm' : T AV} {tv : Array Value}, putAll n ps xs tm = some tm' → VRL π xs vs → tv.size = n → (∀ t, VR π ((T.get tm t).getD (.tuple [])) (tv.getD t undef)) →
    ((ps.zip vs).foldl (fun tmps (p : Nat × Value) => tmps.setIfInBounds p.1 p.2) tv).size = n ∧ ∀ t, VR π ((T.get tm' t).getD (.tuple [])) (((ps.zip vs).foldl (fun tmps (p : Nat × Value) => tmps.setIfInBounds p.1 p.2) tv).getD t undef)
  | [], [], vs, tm, tm', tv, h, hx, hn, ht => by
    simp only [putAll, Option.some.injEq] at h
    subst h
    exact ⟨by simpa using hn, fun t => by simpa using ht t⟩
  | [], _ :: _, vs, tm, tm', tv, h, hx, hn, ht => by cases h
  | _ :: _, [], vs, tm, tm', tv, h, hx, hn, ht => by cases h
  | p :: ps, x :: xs, vs, tm, tm', tv, h, hx, hn, ht => by
    simp only [VRL] at hx
    obtain ⟨v, r, rfl, hv, hr⟩ := hx
    simp only [putAll] at h
    rw [gB_iff, T.seq_eq] at h
    obtain ⟨hlt, h⟩ := h
    have hlt' : p < n := by simp [Nat.blt] at hlt; omega
    have := putAll_rel (n := n) (ps := ps) (xs := xs) (vs := r) (tm := tm.set p x) (tm' := tm') (tv := tv.setIfInBounds p v) h hr (by simpa using hn) (fun t => by
      by_cases e : t = p
      · subst e
        rw [T.get_set]
        have h5 : t < tv.size := by omega
        simpa [h5] using hv
      · rw [T.get_set_ne _ _ e]
        have h5 : (tv.setIfInBounds p v).getD t undef = tv.getD t undef := by simp [Array.getElem?_setIfInBounds_ne (Ne.symm e)]
        rw [h5]; exact ht t)
    simpa using this
theorem evRound_sound (hm : P.follows .mixedOrders = true) {call : Rec} (hc : CallOK P known base w0 call) {N : Nat} {b : Nat} {xs : List AV} {σ : AS} {e : AE} {σ' : AS} (h : evRound P known call N b xs σ = some (e, σ'))
    {π : Pi} {w : World} {args' : Array Value} {rb rs : Nat} {r : Loop} (hH : HR known base w0 π σ w) (hx : VRL π xs args'.toList) (hp : π b = some (rb, 0, rs)) (hr : w.heap[rb]? = some (.loop r)) :
    RoundIn Fence.wide 0 P rb r.fn ((r.params.zip args').foldl (fun tmps (t, a) => tmps.setIfInBounds t a) r.tmps) r.assign r.body w (EndR known base w0 π e σ') := by
  unfold evRound at h
  split at h
  · rename_i tm n ps ag bo st pd hb
    obtain ⟨rb', rs', r', b1, b2, b3⟩ := hH.blk b _ hb
    rw [hp] at b1
    simp only [Option.some.injEq, Prod.mk.injEq] at b1
    obtain ⟨rfl, _, rfl⟩ := b1
    rw [hr] at b2
    simp only [Option.some.injEq, Obj.loop.injEq] at b2
    subst b2
    rw [gB_iff] at h; obtain ⟨hcalm, h⟩ := h
    simp only [Bool.and_eq_true] at hcalm
    rw [oB_iff] at h; obtain ⟨tm', hput, h⟩ := h
    have hpr := putAll_rel (π := π) hput hx b3.size b3.tmps
    have hfold : (r.params.zip args').foldl (fun tmps (p : Nat × Value) => tmps.setIfInBounds p.1 p.2) r.tmps = (ps.zip args'.toList).foldl (fun tmps (p : Nat × Value) => tmps.setIfInBounds p.1 p.2) r.tmps := by
      rw [← Array.foldl_toList, Array.toList_zip, b3.params]
    have hA0 : ActR π (AA.mk tm' n []) { tmps := (r.params.zip args').foldl (fun tmps (p : Nat × Value) => tmps.setIfInBounds p.1 p.2) r.tmps, defers := [] } :=
      ⟨by rw [hfold]; exact hpr.1, fun t => ⟨_, look_getD t, by rw [hfold]; exact hpr.2 t⟩, by simp [DL]⟩
    refine roundIn_of_wpIn (F := Fence.wide) trivial ?_
    split at h
    · rename_i α1 σ1 he1
      have h1 := (evCode_sound hm hc N).1 (some rb) ag π π σ w (AA.mk tm' n []) _ .normal α1 σ1 (fun _ => hcalm.1) (Pi.le_refl π) hH hA0 he1
      rw [← b3.assign] at h1
      refine wpIn_mono (F := FF (some rb)) h1 (fun X a1 w1 hX => ?_)
      obtain ⟨π1, le1, hH1, hA1, hx1⟩ := hX
      cases hx1
      show ∃ w₂, _
      split at h
      · rename_i tm2 n2 ps2 ag2 bo2 pd2 hb2
        obtain ⟨rb2, rs2, r2, c1, c2, c3⟩ := hH1.blk b _ hb2
        rw [le1 _ _ hp] at c1
        simp only [Option.some.injEq, Prod.mk.injEq] at c1
        obtain ⟨rfl, _, rfl⟩ := c1
        have hbeg := run_beginRound (P := P) c2 c3.state
        have hH2 : HR known base w0 π1 (σ1.put b (.loop tm2 n2 ps2 ag2 bo2 .busy pd2)) (w1.putObj rb (.loop { r2 with state := .busy })) :=
          hH1.obj (o' := .loop { r2 with state := .busy }) hb2 rfl rfl (le1 _ _ hp) (fun w' hw' => ⟨_, _, _, le1 _ _ hp, hw', ⟨c3.params, c3.assign, c3.body, rfl, c3.pending, c3.size, c3.tmps⟩⟩)
        refine ⟨_, hbeg, ?_⟩
        rw [AS.upd_eq] at h
        have fin : ∀ (pj : Option Code) (σ3 : AS) (w3 : World) (π3 : Pi), π.le π3 → HR known base w0 π3 σ3 w3 → roundEnd b σ3 pj = some (e, σ') →
            ∃ v w', (Instr.endRound rb pj).run P w3 = .ok v w' ∧ EndR known base w0 π e σ' (.returned v) w' := by
          intro pj σ3 w3 π3 le3 hH3 hre
          unfold roundEnd at hre
          split at hre
          · rename_i tm3 n3 ps3 ag3 bo3 st3 pd3 hb3
            obtain ⟨rb3, rs3, r3, d1, d2, d3⟩ := hH3.blk b _ hb3
            rw [le3 _ _ hp] at d1
            simp only [Option.some.injEq, Prod.mk.injEq] at d1
            obtain ⟨rfl, _, rfl⟩ := d1
            have hend := run_endRound (P := P) pj d2
            refine ⟨_, _, hend, ?_⟩
            cases pj with
            | none =>
              simp only [AS.upd_eq, Option.some.injEq, Prod.mk.injEq] at hre
              obtain ⟨rfl, rfl⟩ := hre
              exact ⟨π3, le3, hH3.obj (o' := .loop { r3 with state := .ready, pending := none }) hb3 rfl rfl (le3 _ _ hp) (fun w' hw' => ⟨_, _, _, le3 _ _ hp, hw', ⟨d3.params, d3.assign, d3.body, rfl, rfl, d3.size, d3.tmps⟩⟩), by simp [VR]⟩
            | some c =>
              simp only [AS.upd_eq, Option.some.injEq, Prod.mk.injEq] at hre
              obtain ⟨rfl, rfl⟩ := hre
              exact ⟨π3, le3, hH3.obj (o' := .loop { r3 with state := .done, pending := some c }) hb3 rfl rfl (le3 _ _ hp) (fun w' hw' => ⟨_, _, _, le3 _ _ hp, hw', ⟨d3.params, d3.assign, d3.body, rfl, rfl, d3.size, d3.tmps⟩⟩), by simp [VR]⟩
          · cases hre
        cases hev : evCode P known call N bo α1 (σ1.put b (.loop tm2 n2 ps2 ag2 bo2 .busy pd2)) with
        | none => rw [hev] at h; cases h
        | some y =>
          obtain ⟨x3, α3, σ3⟩ := y
          rw [hev] at h
          have h3 := (evCode_sound hm hc N).1 (some rb) bo π1 π1 _ _ α1 a1 x3 α3 σ3 (fun _ => hcalm.2) (Pi.le_refl π1) hH2 hA1 hev
          rw [← b3.body] at h3
          refine wpIn_mono (F := FF (some rb)) h3 (fun X3 a3 w3 hX3 => ?_)
          obtain ⟨π3, le3, hH3, hA3, hx3⟩ := hX3
          cases x3 with
          | normal => cases hx3; exact fin none σ3 w3 π3 (Pi.le_trans le1 le3) hH3 h
          | ret => cases hx3; exact fin (some .ret) σ3 w3 π3 (Pi.le_trans le1 le3) hH3 h
          | exit id => cases hx3; exact fin (some (.exit id)) σ3 w3 π3 (Pi.le_trans le1 le3) hH3 h
          | goto l => cases h
          | panic ch => cases h
      · cases h
    · cases h
  · cases h

theorem evCall_sound (hm : P.follows .mixedOrders = true) : ∀ n, CallOK P known base w0 (evCall P known n)
  | 0 => ⟨fun f args σ e σ' h => (by cases h), fun b args σ e σ' h => (by cases h)⟩
  | n + 1 => by
    have ih := evCall_sound hm n
    refine ⟨?_, fun b args σ e σ' h π w args' rb rs r hH hx hp hr => evRound_sound hm ih h hH hx hp hr⟩
    intro f xs σ e σ' h π w args hH hx
    have hun : evCall P known (n + 1) none f xs σ = (match P.funcs[f]? with
      | none => none
      | some fn => match fn.body with
        | none => none
        | some c => match evCode P known (evCall P known n) 1000000 c (AA.start fn xs) σ with
          | some (.normal, α, σ) | some (.ret, α, σ) => leaveA P known (evCall P known n) 1000000 fn α none σ
          | some (.panic ch, α, σ) => leaveA P known (evCall P known n) 1000000 fn α (some ch) σ
          | _ => none) := rfl
    rw [hun] at h
    generalize 1000000 = N at h
    cases hf : P.funcs[f]? with
    | none => rw [hf] at h; cases h
    | some fn =>
      rw [hf] at h
      dsimp only at h
      cases hb : fn.body with
      | none => rw [hb] at h; cases h
      | some c =>
        rw [hb] at h
        dsimp only at h
        cases hev : evCode P known (evCall P known n) N c (AA.start fn xs) σ with
        | none => rw [hev] at h; cases h
        | some r =>
          obtain ⟨x, α1, σ1⟩ := r
          rw [hev] at h
          have h1 := (evCode_sound hm ih N).1 none c π π σ w (AA.start fn xs) _ x α1 σ1 (fun h => absurd rfl h) (Pi.le_refl π) hH (start_rel hx) hev
          cases x with
          | normal => exact leaveA_sound hm ih hf hb (.inl ⟨rfl, rfl⟩) h1 h
          | ret => exact leaveA_sound hm ih hf hb (.inr (.inl ⟨rfl, rfl⟩)) h1 h
          | panic ch => exact leaveA_sound hm ih hf hb (.inr (.inr ⟨ch, rfl, rfl⟩)) h1 h
          | exit id => cases h
          | goto l => cases h

/-- The use: a closed call that the evaluator brings to an end. -/
theorem evCall_calls (hm : P.follows .mixedOrders = true) {n : Nat} {f : FuncId} {xs : List AV} {args : Array Value} {v : AV} {σ' : AS} (hH : HR known base w π σ w) (hx : VRL π xs args.toList)
    (h : evCall P known n none f xs σ = some (.returned v, σ')) :
    Calls P f args w fun E w' => ∃ u π', E = .returned u ∧ VR π' v u ∧ π.le π' ∧ HR known base w π' σ' w' := by
  refine Calls.mono ((evCall_sound (base := base) (w0 := w) hm n).fn f xs σ _ σ' h π w args hH hx) (fun E w' hE => ?_)
  obtain ⟨π', hle, hH', hv⟩ := hE
  cases E with
  | returned u => exact ⟨u, π', rfl, hv, hle, hH'⟩
  | _ => exact hv.elim
end Go.Proofs.YtjagjjdkgidkjaaGreatDoor.Ev
set_option linter.all false
namespace Go.Proofs.YtjagjjdkgidkjaaGreatDoor.Ev
open Go Go.RowKit

variable {P : Program}

/-! ### what a package-level variable holds, by its datum -/
noncomputable section
def flatDs (g : DataW Unit → Option (List AV)) (c : Nat) : List (DataW Unit) → Option (List AV)
  | [] => some []
  | d :: r => oB (g d) fun xs => gB (Nat.beq xs.length c) (oB (flatDs g c r) fun ys => some (xs ++ ys))
def flatDf (P : Program) (g : TypeId → DataW Unit → Option (List AV)) (n : Nat) : List Field → Nat → List (DataW Unit) → Option (List AV)
  | [], off, [] => gB (Nat.beq off n) (some [])
  | fd :: fs, off, d :: r => oB (g fd.type d) fun xs => gB (Nat.beq fd.offset off && Nat.beq xs.length (P.cellsOf fd.type)) (oB (flatDf P g n fs (off + P.cellsOf fd.type) r) fun ys => some (xs ++ ys))
  | _, _, _ => none
/-- The cells of a datum that bears no address. -/
def flatD (P : Program) : Nat → TypeId → DataW Unit → Option (List AV)
  | 0, _, _ => none
  | f + 1, t, d => match P.underlying t, d with
    | some .bool, .lit (.bool b) => some [.bool b]
    | some (.int _), .lit (.int k n) => some [.int k n]
    | some (.float _), .lit (.float k b) => some [.float k b]
    | some .string, .lit (.string l) => some [.str (l.map UInt8.toNat)]
    | some (.array n e), .agg parts => gB (Nat.beq parts.length n && Nat.beq (n * P.cellsOf e) (P.cellsOf t)) (flatDs (flatD P f e) (P.cellsOf e) parts)
    | some (.struct fs), .agg parts => flatDf P (flatD P f) (P.cellsOf t) fs.toList 0 parts
    | _, _ => none
end

abbrev trodU (P : Program) (w : World) (fuel : Nat) (t : TypeId) (cs : List Value) : Option (DataW Unit × List MemPlace) := DataW.trod (fun _ => ()) P w 0 (fun _ => true) false fuel t cs

theorem mapM_cons_some {α β : Type} {f : α → Option β} {a : α} {l : List α} {r : List β} (h : (a :: l).mapM f = some r) : ∃ b bs, r = b :: bs ∧ f a = some b ∧ l.mapM f = some bs := by
  rw [List.mapM_cons] at h
  cases hb : f a with
  | none => rw [hb] at h; simp at h
  | some b =>
    rw [hb] at h
    cases hbs : l.mapM f with
    | none => rw [hbs] at h; simp at h
    | some bs =>
      rw [hbs] at h
      simp at h
      exact ⟨b, bs, h.symm, rfl, rfl⟩

theorem flatDs_rel {π : Pi} {g : DataW Unit → Option (List AV)} {c : Nat} {T : List Value → Option (DataW Unit × List MemPlace)} (hg : ∀ d xs cs p, g d = some xs → T cs = some (d, p) → VRL π xs cs) :
    ∀ (parts : List (DataW Unit)) (i : Nat) (xs : List AV) (cs : List Value) (ys : List (DataW Unit × List MemPlace)), flatDs g c parts = some xs → ys.map (·.1) = parts →
      (List.range' i parts.length).mapM (fun i => T ((cs.drop (i * c)).take c)) = some ys → cs.length = (i + parts.length) * c → VRL π xs (cs.drop (i * c))
  | [], i, xs, cs, ys, h, hy, hm, hl => by
    simp only [flatDs, Option.some.injEq] at h
    subst h
    have : cs.drop (i * c) = [] := List.drop_eq_nil_of_le (by rw [hl]; simp)
    rw [this]; exact VRL.nil
  | d :: parts, i, xs, cs, ys, h, hy, hm, hl => by
    simp only [flatDs] at h
    rw [oB_iff] at h; obtain ⟨x, hx, h⟩ := h
    rw [gB_iff] at h; obtain ⟨hc, h⟩ := h
    rw [oB_iff] at h; obtain ⟨zs, hz, h⟩ := h
    simp only [Option.some.injEq] at h
    subst h
    rw [List.length_cons, List.range'_succ] at hm
    obtain ⟨b, bs, rfl, hb, hbs⟩ := mapM_cons_some hm
    simp only [List.map_cons, List.cons.injEq] at hy
    obtain ⟨h1, h2⟩ := hy
    have hxr := hg d x _ b.2 hx (by rw [hb, ← h1])
    have ih := flatDs_rel hg parts (i + 1) zs cs bs hz h2 hbs (by rw [hl, List.length_cons]; congr 1; omega)
    have := hxr.append ih
    rwa [show (i + 1) * c = i * c + c by rw [Nat.add_mul]; omega, ← List.drop_drop, List.take_append_drop] at this
theorem flatDf_rel {π : Pi} {g : TypeId → DataW Unit → Option (List AV)} {n : Nat} {T : TypeId → List Value → Option (DataW Unit × List MemPlace)} (hg : ∀ t d xs cs p, g t d = some xs → T t cs = some (d, p) → VRL π xs cs) :
    ∀ (fs : List Field) (off : Nat) (parts : List (DataW Unit)) (xs : List AV) (cs : List Value) (ys : List (DataW Unit × List MemPlace)), flatDf P g n fs off parts = some xs → ys.map (·.1) = parts →
      fs.mapM (fun f => T f.type ((cs.drop f.offset).take (P.cellsOf f.type))) = some ys → cs.length = n → VRL π xs (cs.drop off)
  | [], off, parts, xs, cs, ys, h, hy, hm, hl => by
    cases parts with
    | cons d r => simp [flatDf] at h
    | nil =>
      simp only [flatDf] at h
      rw [gB_iff] at h; obtain ⟨hc, h⟩ := h
      simp only [Option.some.injEq] at h
      subst h
      have hc' : off = n := by simpa using hc
      have : cs.drop off = [] := List.drop_eq_nil_of_le (by omega)
      rw [this]; exact VRL.nil
  | fd :: fs, off, parts, xs, cs, ys, h, hy, hm, hl => by
    cases parts with
    | nil => simp [flatDf] at h
    | cons d parts =>
      simp only [flatDf] at h
      rw [oB_iff] at h; obtain ⟨x, hx, h⟩ := h
      rw [gB_iff] at h; obtain ⟨hc, h⟩ := h
      rw [oB_iff] at h; obtain ⟨zs, hz, h⟩ := h
      simp only [Option.some.injEq] at h
      subst h
      simp only [Bool.and_eq_true, Nat.beq_eq] at hc
      obtain ⟨hc1, hc2⟩ := hc
      obtain ⟨b, bs, rfl, hb, hbs⟩ := mapM_cons_some hm
      simp only [List.map_cons, List.cons.injEq] at hy
      obtain ⟨h1, h2⟩ := hy
      have hxr := hg fd.type d x _ b.2 hx (by rw [hb, ← h1])
      rw [hc1] at hxr
      have ih := flatDf_rel hg fs (off + P.cellsOf fd.type) parts zs cs bs hz h2 hbs hl
      have := hxr.append ih
      rwa [← List.drop_drop, List.take_append_drop] at this
theorem flatD_rel {π : Pi} {w : World} : ∀ (f : Nat) (t : TypeId) (d : DataW Unit) (xs : List AV) (fuel : Nat) (cs : List Value) (p : List MemPlace), flatD P f t d = some xs → trodU P w fuel t cs = some (d, p) → VRL π xs cs
  | 0, t, d, xs, fuel, cs, p, h, _ => by cases h
  | f + 1, t, d, xs, 0, cs, p, h, ht => by simp [trodU, DataW.trod] at ht
  | f + 1, t, d, xs, fuel + 1, cs, p, h, ht => by
    have ih := flatD_rel (π := π) (w := w) f
    unfold flatD at h
    split at h
    · rename_i b hu
      simp only [Option.some.injEq] at h; subst h
      unfold trodU DataW.trod at ht
      simp only [hu] at ht
      split at ht <;> simp_all [VRL, VR]
    · rename_i k' k n hu
      simp only [Option.some.injEq] at h; subst h
      unfold trodU DataW.trod at ht
      simp only [hu] at ht
      split at ht <;> simp_all [VRL, VR]
    · rename_i k' k b hu
      simp only [Option.some.injEq] at h; subst h
      unfold trodU DataW.trod at ht
      simp only [hu] at ht
      split at ht <;> simp_all [VRL, VR]
    · rename_i l hu
      simp only [Option.some.injEq] at h; subst h
      unfold trodU DataW.trod at ht
      simp only [hu] at ht
      split at ht
      all_goals try (cases ht; done)
      all_goals try (rename_i hu2 _; simp_all; done)
      all_goals try (simp_all; done)
      rename_i s _
      split at ht
      · simp only [Option.some.injEq, Prod.mk.injEq, DataW.lit.injEq, Lit.string.injEq] at ht
        rw [← ht.1]
        simp only [VRL, VR]
        exact ⟨_, _, rfl, ⟨s, rfl, rfl⟩, rfl⟩
      · cases ht
    · rename_i n e parts hu
      rw [gB_iff] at h; obtain ⟨hc, h⟩ := h
      simp only [Bool.and_eq_true, Nat.beq_eq] at hc
      obtain ⟨hc1, hc2⟩ := hc
      unfold trodU DataW.trod at ht
      simp only [hu] at ht
      split at ht
      · rename_i hl
        obtain ⟨ys, hm, hy⟩ := Option.map_eq_some_iff.1 ht
        simp only [Prod.mk.injEq, DataW.agg.injEq] at hy
        have := flatDs_rel (π := π) (g := flatD P f e) (c := P.cellsOf e) (T := trodU P w fuel e) (fun d xs cs p h1 h2 => ih e d xs fuel cs p h1 h2) parts 0 xs cs ys h hy.1 (by rw [← List.range_eq_range', hc1]; exact hm) (by rw [hl, Nat.zero_add, hc1, hc2])
        simpa using this
      · cases ht
    · rename_i fs parts hu
      unfold trodU DataW.trod at ht
      simp only [hu] at ht
      split at ht
      · rename_i hl
        obtain ⟨ys, hm, hy⟩ := Option.map_eq_some_iff.1 ht
        simp only [Prod.mk.injEq, DataW.agg.injEq] at hy
        have := flatDf_rel (P := P) (π := π) (g := flatD P f) (n := P.cellsOf t) (T := trodU P w fuel) (fun t d xs cs p h1 h2 => ih t d xs fuel cs p h1 h2) fs.toList 0 parts xs cs ys h hy.1 hm hl
        simpa using this
      · cases ht
    · cases h


/-! ### the heap of the listed variables -/
/-- The pointer types of a name, and what they point to. -/
def ptrNamed (P : Program) (nm : String) : List TypeId → List (TypeId × TypeId)
  | [] => []
  | t :: r => match P.underlying t with
    | some (.pointer e) => match P.typeName? 3 t == some nm with
      | true => (t, e) :: ptrNamed P nm r
      | false => ptrNamed P nm r
    | _ => ptrNamed P nm r
theorem ptrNamed_mem {nm : String} {u e : TypeId} (hu : P.underlying u = some (.pointer e)) (hn : P.typeName? 3 u = some nm) : ∀ {l : List TypeId}, u ∈ l → (u, e) ∈ ptrNamed P nm l
  | [], h => by cases h
  | t :: r, h => by
    unfold ptrNamed
    rcases List.mem_cons.1 h with rfl | h
    · rw [hu]
      simp [hn]
    · have ih := ptrNamed_mem hu hn h
      split
      · split
        · exact List.mem_cons_of_mem _ ih
        · exact ih
      · exact ih
/-- What a made type can be. -/
theorem reckon_desc {info : TypeId → Option TypeInfo} {d : TypeDesc} {i : TypeInfo} (h : Made.reckon info d = some i) :
    (∃ e j, i.desc = .pointer e ∧ info e = some j ∧ ∀ n u, j.desc ≠ .named n u) ∨ (match i.desc with | .slice _ | .map _ _ | .chan _ _ | .func _ _ _ | .array _ _ | .struct _ => True | _ => False) := by
  unfold Made.reckon at h
  split at h
  · rename_i e
    simp only [Option.bind_eq_bind, Option.bind_eq_some_iff] at h
    obtain ⟨j, hj, h⟩ := h
    split at h
    · cases h
    · rename_i fs hfs
      split at h
      · cases h
      · obtain ⟨a, _, h⟩ := Option.bind_eq_some_iff.1 h
        have h' := Option.some.inj h
        subst h'
        exact .inl ⟨e, j, rfl, hj, fun n u hh => by rw [hfs] at hh; cases hh⟩
    · rename_i hnn _
      obtain ⟨a, _, h⟩ := Option.bind_eq_some_iff.1 h
      have h' := Option.some.inj h
      subst h'
      exact .inl ⟨e, j, rfl, hj, fun n u hh => hnn n u hh⟩
  · simp only [Option.bind_eq_bind, Option.bind_eq_some_iff] at h
    obtain ⟨j, hj, a, _, h⟩ := h
    have h' := Option.some.inj h
    subst h'
    exact .inr trivial
  · simp only [Option.bind_eq_bind, Option.bind_eq_some_iff] at h
    obtain ⟨j, hj, a, _, k, hk, b, _, h⟩ := h
    have h' := Option.some.inj h
    subst h'
    exact .inr trivial
  · simp only [Option.bind_eq_bind, Option.bind_eq_some_iff] at h
    obtain ⟨j, hj, a, _, h⟩ := h
    have h' := Option.some.inj h
    subst h'
    exact .inr trivial
  · simp only [Option.bind_eq_bind, Option.bind_eq_some_iff] at h
    obtain ⟨j, hj, h⟩ := h
    have h' := Option.some.inj h
    subst h'
    exact .inr trivial
  · simp only [Option.bind_eq_bind, Option.bind_eq_some_iff] at h
    obtain ⟨j, hj, a, _, h⟩ := h
    have h' := Option.some.inj h
    subst h'
    exact .inr trivial
  · unfold Made.reckonStruct at h
    simp only [Option.bind_eq_bind, Option.bind_eq_some_iff] at h
    obtain ⟨j, hj, h⟩ := h
    split at h <;>
    · have h' := Option.some.inj h
      subst h'
      exact .inr trivial
  · cases h
theorem infoAt_made {T : Tables} {f : Nat} {t : TypeId} {i : TypeInfo} (ht : ¬ t < T.types.size) (h : Made.infoAt T f t = some i) :
    (∃ e j, i.desc = .pointer e ∧ Made.infoAt T (f - 1) e = some j ∧ ∀ n u, j.desc ≠ .named n u) ∨ (match i.desc with | .slice _ | .map _ _ | .chan _ _ | .func _ _ _ | .array _ _ | .struct _ => True | _ => False) := by
  cases f with
  | zero => cases h
  | succ f =>
    unfold Made.infoAt at h
    rw [if_neg ht] at h
    obtain ⟨d, _, h⟩ := Option.bind_eq_some_iff.1 h
    exact reckon_desc h
/-- No plain type of the table bears this name behind a star. -/
def noPlain (P : Program) (nm : String) : List TypeInfo → Bool
  | [] => true
  | i :: r => match i.desc with
    | .bool | .int _ | .float _ | .string => match "*" ++ i.str == nm with
      | true => false
      | false => noPlain P nm r
    | _ => noPlain P nm r
theorem noPlain_mem {nm : String} {i : TypeInfo} (hd : i.desc = .bool ∨ (∃ k, i.desc = .int k) ∨ (∃ k, i.desc = .float k) ∨ i.desc = .string) : ∀ {l : List TypeInfo}, noPlain P nm l = true → i ∈ l → "*" ++ i.str ≠ nm
  | [], _, h => by cases h
  | x :: r, hn, h => by
    unfold noPlain at hn
    rcases List.mem_cons.1 h with rfl | h
    · intro he
      split at hn
      · rw [he] at hn; simp at hn
      · rw [he] at hn; simp at hn
      · rw [he] at hn; simp at hn
      · rw [he] at hn; simp at hn
      · rename_i h1 h2 h3 h4
        rcases hd with hd | ⟨k, hd⟩ | ⟨k, hd⟩ | hd
        · exact h1 hd
        · exact h2 k hd
        · exact h3 k hd
        · exact h4 hd
    · split at hn
      · split at hn
        · cases hn
        · exact noPlain_mem hd hn h
      · split at hn
        · cases hn
        · exact noPlain_mem hd hn h
      · split at hn
        · cases hn
        · exact noPlain_mem hd hn h
      · split at hn
        · cases hn
        · exact noPlain_mem hd hn h
      · exact noPlain_mem hd hn h
def oneStar (l : List Char) : Bool :=
  match l with
  | _ :: c :: _ => decide (c ≠ Char.ofNat 42)
  | _ => false
theorem star_list (s : String) : ("*" ++ s).toList = Char.ofNat 42 :: s.toList := by
  rw [String.toList_append]; rfl
theorem typeName_made {nm : String} {u e : TypeId} (hu : P.underlying u = some (.pointer e)) (hn : P.typeName? 3 u = some nm) (hs : oneStar nm.toList = true) (hp : noPlain P nm P.types.toList = true) : u < P.types.size := by
  refine Decidable.byContradiction fun hlt => ?_
  have key : ∀ {t : TypeId} {i : TypeInfo}, ¬ t < P.types.size → P.info? t = some i →
      (∃ e j, i.desc = .pointer e ∧ Made.infoAt P.toTables 99 e = some j ∧ ∀ n u, j.desc ≠ .named n u) ∨ (match i.desc with | .slice _ | .map _ _ | .chan _ _ | .func _ _ _ | .array _ _ | .struct _ => True | _ => False) := by
    intro t i ht hi
    unfold Tables.info? at hi
    rw [if_neg ht] at hi
    exact infoAt_made (f := Made.depth) ht hi
  unfold Program.typeName? at hn
  split at hn
  · rename_i i hi
    rcases key hlt hi with ⟨e', j, hd, hj, hjn⟩ | hd
    · rw [hd] at hn
      dsimp only at hn
      obtain ⟨rest, hr, hr'⟩ := Option.map_eq_some_iff.1 hn
      subst hr'
      rw [star_list] at hs
      have hrs : rest.toList.head? ≠ some (Char.ofNat 42) := by
        cases hl : rest.toList with
        | nil => simp
        | cons c l =>
          rw [hl] at hs
          simpa [oneStar] using hs
      unfold Program.typeName? at hr
      split at hr
      · rename_i i' hi'
        have hstar : ∀ {x : Option String}, x.map ("*" ++ ·) = some rest → False := fun h => by
          obtain ⟨y, _, hy⟩ := Option.map_eq_some_iff.1 h
          apply hrs
          rw [← hy, star_list]
          rfl
        by_cases hlt' : e' < P.types.size
        · have hj' : j = i' := by
            unfold Made.infoAt at hj
            unfold Tables.info? at hi'
            rw [if_pos hlt'] at hj hi'
            rw [hj] at hi'
            exact Option.some.inj hi'
          subst hj'
          have hmem : j ∈ P.types.toList := by
            unfold Tables.info? at hi'
            rw [if_pos hlt'] at hi'
            exact Array.mem_toList_iff.2 (Array.mem_of_getElem? hi')
          split at hr
          · rename_i n u hd'
            exact hjn n u hd'
          · exact hstar hr
          · rename_i hd'
            split at hr
            · cases hr
            · exact noPlain_mem (.inl hd') hp hmem (by rw [Option.some.inj hr])
          · rename_i k hd'
            split at hr
            · cases hr
            · exact noPlain_mem (.inr (.inl ⟨k, hd'⟩)) hp hmem (by rw [Option.some.inj hr])
          · rename_i k hd'
            split at hr
            · cases hr
            · exact noPlain_mem (.inr (.inr (.inl ⟨k, hd'⟩))) hp hmem (by rw [Option.some.inj hr])
          · rename_i hd'
            split at hr
            · cases hr
            · exact noPlain_mem (.inr (.inr (.inr hd'))) hp hmem (by rw [Option.some.inj hr])
          · cases hr
        · rcases key hlt' hi' with ⟨e2, j2, hd2, _, _⟩ | hd2
          · rw [hd2] at hr
            exact hstar hr
          · split at hr <;> simp_all
      · cases hr
    · split at hn <;> simp_all
  · cases hn
def onlyOne {α : Type} (l : List α) : Option α :=
  match l with
  | [x] => some x
  | _ => none
noncomputable def ptrOf (P : Program) (nm : String) : Option (TypeId × TypeId) :=
  gB (oneStar nm.toList && noPlain P nm P.types.toList) (onlyOne (ptrNamed P nm (List.range P.types.size)))
theorem ptrOf_eq {nm : String} {u e : TypeId} {q : TypeId × TypeId} (h : ptrOf P nm = some q) (hu : P.underlying u = some (.pointer e)) (hn : P.typeName? 3 u = some nm) : q = (u, e) := by
  unfold ptrOf at h
  rw [gB_iff] at h
  obtain ⟨hc, h⟩ := h
  rw [Bool.and_eq_true] at hc
  have hm := ptrNamed_mem hu hn (List.mem_range.2 (typeName_made hu hn hc.1 hc.2))
  unfold onlyOne at h
  split at h
  · rename_i x hx
    simp only [Option.some.injEq] at h
    subst h
    rw [hx] at hm
    exact (List.mem_singleton.1 hm).symm
  · cases h
noncomputable section
/-- The listed variables laid into an abstract heap: those that are plain, and the slices of plain cells; the rest is passed over. -/
def layAll (P : Program) : List (String × DataW Unit) → T ABlk → Nat → List Nat → AS × List Nat
  | [], h, n, gs => (⟨h, n⟩, gs)
  | (name, d) :: r, h, n, gs =>
    match P.globalNamed name with
    | none => layAll P r h n gs
    | some g => fNat g fun g => match (P.globals[g]?).map (·.type) with
      | none => layAll P r h n gs
      | some t => match memN g gs || !Nat.blt g P.globals.size with
        | true => layAll P r h n gs
        | false => match flatD P 20 t d with
          | some xs => fNat xs.length fun m => (lay xs 0 .nil).seq fun c => (h.set g (.cells c m 0 0 false .loose)).seq fun h => layAll P r h n (g :: gs)
          | none => match P.underlying t, d with
            | some (.slice e), .slice elems [] => fNat (P.cellsOf e) fun z => match flatDs (flatD P 20 e) z elems with
              | some xs => match Nat.beq xs.length 0 with
                | true => layAll P r h n gs
                | false => fNat elems.length fun k => fNat xs.length fun m => (lay xs 0 .nil).seq fun c => (h.set n (.cells c m 0 0 false .loose)).seq fun h =>
                  (lay [.slice n 0 k k z true] 0 .nil).seq fun c => (h.set g (.cells c 1 0 0 false .loose)).seq fun h => layAll P r h (Nat.succ n) (g :: gs)
              | none => layAll P r h n gs
            | some (.interface _), .iface nm (.ptr d') => match ptrOf P nm with
              | some (u, e) => match flatD P 20 e d' with
                | some xs => match Nat.beq xs.length 0 with
                  | true => layAll P r h n gs
                  | false => fNat xs.length fun m => (lay xs 0 .nil).seq fun c => (h.set n (.cells c m 0 0 false .loose)).seq fun h =>
                    (lay [.iface u (.ptr n 0)] 0 .nil).seq fun c => (h.set g (.cells c 1 0 0 false .loose)).seq fun h => layAll P r h (Nat.succ n) (g :: gs)
                | none => layAll P r h n gs
              | none => layAll P r h n gs
            | _, _ => layAll P r h n gs
end

/-- What holds while the variables are laid. -/
structure LayR (P : Program) (W : World) (π : Pi) (h : T ABlk) (n : Nat) (gs : List Nat) : Prop where
  low : P.globals.size ≤ n
  blk : ∀ b B, T.get h b = some B → B.mine = false ∧ BR π b B W
  fresh : ∀ b, n ≤ b → T.get h b = none ∧ π b = none
  un : ∀ g, g < P.globals.size → g ∉ gs → T.get h g = none ∧ π g = none
  bnd : ∀ b p, π b = some p → p.1 < W.heap.size
  glob : ∀ g, g ∈ gs → ∃ rs, π g = some (g, 0, rs)

theorem LayR.hr {W : World} {π : Pi} {h : T ABlk} {n : Nat} {gs : List Nat} (L : LayR P W π h n gs) : HR (fun g => memN g gs) W.heap.size W π ⟨h, n⟩ W :=
  ⟨fun b B hb => (L.blk b B hb).2, fun b c B C p q hb _ hm => (by rw [(L.blk b B hb).1] at hm; cases hm), L.fresh, L.bnd, fun b B p hb hm => (by rw [(L.blk b B hb).1] at hm; cases hm), Nat.le_refl _, Below.refl _ _,
    fun g hg => L.glob g (memN_iff.1 hg)⟩

/-- One more block. -/
theorem LayR.put {W : World} {π : Pi} {h : T ABlk} {n m : Nat} {gs gs' : List Nat} (L : LayR P W π h n gs) {b : Nat} {B : ABlk} {p : Nat × Nat × Nat} (hb : π b = none) (hB : B.mine = false)
    (hBR : BR (π.add b p) b B W) (hp : p.1 < W.heap.size) (hm : n ≤ m) (hbm : b < m) (hgs : (b ∈ gs' ∧ p = (b, 0, p.2.2) ∧ ∀ g, g ∈ gs' → g = b ∨ g ∈ gs) ∨ (P.globals.size ≤ b ∧ gs' = gs)) (hsub : ∀ g, g ∈ gs → g ∈ gs') :
    LayR P W (π.add b p) (h.set b B) m gs' := by
  have hle : π.le (π.add b p) := fun c q hc => by
    by_cases e : c = b
    · subst e; rw [hb] at hc; cases hc
    · rw [Pi.add_ne _ _ e]; exact hc
  refine ⟨Nat.le_trans L.low hm, fun c C hc => ?_, fun c hc => ?_, fun g hg hng => ?_, fun c q hc => ?_, fun g hg => ?_⟩
  · by_cases e : c = b
    · subst e; rw [T.get_set] at hc; cases hc; exact ⟨hB, hBR⟩
    · rw [T.get_set_ne _ _ e] at hc
      exact ⟨(L.blk c C hc).1, BR.mono hle (fun _ _ => rfl) (L.blk c C hc).2⟩
  · have e : c ≠ b := by omega
    rw [T.get_set_ne _ _ e, Pi.add_ne _ _ e]
    exact L.fresh c (by omega)
  · have e : g ≠ b := by
      rintro rfl
      rcases hgs with ⟨h1, _, _⟩ | ⟨h1, _⟩
      · exact hng h1
      · omega
    rw [T.get_set_ne _ _ e, Pi.add_ne _ _ e]
    exact L.un g hg (fun h => hng (hsub g h))
  · by_cases e : c = b
    · subst e; rw [Pi.add_same] at hc; cases hc; exact hp
    · rw [Pi.add_ne _ _ e] at hc; exact L.bnd c q hc
  · by_cases e : g = b
    · subst e
      rcases hgs with ⟨_, h2, _⟩ | ⟨h1, rfl⟩
      · exact ⟨p.2.2, by rw [Pi.add_same, ← h2]⟩
      · obtain ⟨rs, hr⟩ := L.glob g hg
        rw [hb] at hr; cases hr
    · rw [Pi.add_ne _ _ e]
      rcases hgs with ⟨_, _, h3⟩ | ⟨_, rfl⟩
      · rcases h3 g hg with h4 | h4
        · exact absurd h4 e
        · exact L.glob g h4
      · exact L.glob g hg

theorem BR.foreign {W : World} {π : Pi} {b rb δ : Nat} {xs : List AV} {cs : Array Value} {vs : List Value} {fr : Nat × Nat} {el : TypeId} (hp : π b = some (rb, δ, cs.size)) (hh : W.heap[rb]? = some (.cells cs el fr))
    (hx : VRL π xs vs) (hv : ∀ i v, vs[i]? = some v → cs[δ + i]? = some v) (hl : δ + xs.length ≤ cs.size) : BR π b (.cells (lay xs 0 .nil) xs.length 0 0 false .loose) W := by
  refine ⟨rb, δ, cs.size, cs, fr, hp, ⟨el, hh, fun h => by cases h⟩, rfl, hl, fun i hi => ?_, fun h => (by cases h), fun h => (by cases h), fun h => (by cases h)⟩
  obtain ⟨x, hx'⟩ : ∃ x, xs[i]? = some x := ⟨xs[i], List.getElem?_eq_getElem hi⟩
  obtain ⟨v, hv', hr⟩ := hx.get i x hx'
  exact ⟨x, v, by rw [get_lay, if_pos ⟨by omega, by omega⟩]; simpa using hx', hv i v hv', hr⟩

theorem var_heap {W : World} {name : String} {g : Nat} {cs : Array Value} (hg : P.globalNamed name = some g) (hv : W.var? P name = some cs) : ∃ el fr, W.heap[g]? = some (.cells cs el fr) := by
  unfold World.var? at hv
  rw [hg] at hv
  simp only [Option.bind_some] at hv
  split at hv
  · rename_i c el fr hh
    cases hv
    exact ⟨el, fr, hh⟩
  · cases hv

theorem add_add' (a : Addr) (m n : Nat) : (a.add m).add n = a.add (m + n) := by
  unfold Addr.add
  by_cases hm : m = 0 <;> by_cases hn : n = 0 <;> simp [hm, hn, Nat.add_assoc]
theorem cells_read {W : World} {a : Addr} : ∀ (n i : Nat) {vs : List Value}, (List.range' i n).mapM (fun j => W.cell? (a.add j)) = some vs → vs.length = n ∧ ∀ j v, vs[j]? = some v → W.cell? (a.add (i + j)) = some v
  | 0, i, vs, h => by
    simp at h; subst h
    exact ⟨rfl, fun j v hj => by simp at hj⟩
  | n + 1, i, vs, h => by
    rw [List.range'_succ] at h
    obtain ⟨b, bs, rfl, hb, hbs⟩ := mapM_cons_some h
    obtain ⟨h1, h2⟩ := cells_read n (i + 1) hbs
    refine ⟨by simp [h1], fun j v hj => ?_⟩
    cases j with
    | zero => simp at hj; subst hj; exact hb
    | succ j =>
      have := h2 j v (by simpa using hj)
      rw [show i + (j + 1) = i + 1 + j by omega]; exact this
theorem sliceCells {π : Pi} {W : World} {g : DataW Unit → Option (List AV)} {z : Nat} {a : Addr} {T : List Value → Option (DataW Unit × List MemPlace)} (hg : ∀ d xs cs p, g d = some xs → T cs = some (d, p) → VRL π xs cs) :
    ∀ (parts : List (DataW Unit)) (i : Nat) (xs : List AV) (ys : List (DataW Unit × List MemPlace)), flatDs g z parts = some xs → ys.map (·.1) = parts →
      (List.range' i parts.length).mapM (fun i => (W.cells? 0 (a.add (i * z)) z).bind T) = some ys → ∃ vs, VRL π xs vs ∧ vs.length = parts.length * z ∧ ∀ j v, vs[j]? = some v → W.cell? (a.add (i * z + j)) = some v
  | [], i, xs, ys, h, hy, hm => by
    simp only [flatDs, Option.some.injEq] at h
    subst h
    exact ⟨[], VRL.nil, by simp, fun j v hj => by simp at hj⟩
  | d :: parts, i, xs, ys, h, hy, hm => by
    simp only [flatDs] at h
    rw [oB_iff] at h; obtain ⟨x, hx, h⟩ := h
    rw [gB_iff] at h; obtain ⟨hc, h⟩ := h
    rw [oB_iff] at h; obtain ⟨zs, hz, h⟩ := h
    simp only [Option.some.injEq] at h
    subst h
    rw [List.length_cons, List.range'_succ] at hm
    obtain ⟨b, bs, rfl, hb, hbs⟩ := mapM_cons_some hm
    simp only [List.map_cons, List.cons.injEq] at hy
    obtain ⟨h1, h2⟩ := hy
    obtain ⟨cs, hcs, hT⟩ := Option.bind_eq_some_iff.1 hb
    have hxr := hg d x cs b.2 hx (by rw [hT, ← h1])
    unfold World.cells? at hcs
    rw [if_pos (Nat.zero_le _), List.range_eq_range'] at hcs
    obtain ⟨k1, k2⟩ := cells_read z 0 hcs
    obtain ⟨vs, r1, r2, r3⟩ := sliceCells hg parts (i + 1) zs bs hz h2 hbs
    refine ⟨cs ++ vs, hxr.append r1, by rw [List.length_append, k1, r2, List.length_cons, Nat.add_mul]; omega, fun j v hj => ?_⟩
    by_cases hlt : j < z
    · rw [List.getElem?_append_left (by omega)] at hj
      have := k2 j v hj
      rw [add_add', Nat.zero_add] at this; exact this
    · rw [List.getElem?_append_right (by omega), k1] at hj
      have := r3 _ v hj
      rw [show i * z + j = (i + 1) * z + (j - z) by rw [Nat.add_mul]; omega]; exact this

/-- A row that was read, of one cell at least: where it lies. -/
theorem row_read {W : World} {a : Addr} {z : Nat} {cs : List Value} (h : W.cells? 0 a z = some cs) (hz : cs.length ≠ 0) :
    a.spot = none ∧ ∃ c el fr, W.heap[a.block]? = some (.cells c el fr) ∧ (∀ j v, cs[j]? = some v → c[a.off + j]? = some v) ∧ a.off + cs.length ≤ c.size := by
  unfold World.cells? at h
  rw [if_pos (Nat.zero_le _), List.range_eq_range'] at h
  obtain ⟨h1, h2⟩ := cells_read z 0 h
  have hspot : a.spot = none ∧ ∃ c el2 fr2, W.heap[a.block]? = some (.cells c el2 fr2) := by
    obtain ⟨v, hv⟩ : ∃ v, cs[0]? = some v := ⟨cs[0]'(by omega), List.getElem?_eq_getElem (by omega)⟩
    have := h2 0 v hv
    simp only [Nat.add_zero, Addr.add, if_true] at this
    unfold World.cell? at this
    split at this
    · rename_i c el2 fr2 hh2
      split at this
      · cases this
      · rename_i hs
        exact ⟨by simpa using hs, c, el2, fr2, hh2⟩
    · cases this
  obtain ⟨hspot, c, el2, fr2, hh2⟩ := hspot
  obtain ⟨ab, ao, sp⟩ := a
  dsimp only at hspot hh2 ⊢
  subst hspot
  have hcell : ∀ j v, cs[j]? = some v → c[ao + j]? = some v := by
    intro j v hj
    have := h2 j v hj
    rw [Nat.zero_add, add_eq] at this
    simpa [World.cell?, hh2] using this
  refine ⟨rfl, c, el2, fr2, hh2, hcell, ?_⟩
  obtain ⟨v, hv⟩ : ∃ v, cs[cs.length - 1]? = some v := ⟨cs[cs.length - 1]'(by omega), List.getElem?_eq_getElem (by omega)⟩
  have := (Array.getElem?_eq_some_iff.1 (hcell _ v hv)).1
  omega
theorem layAll_rel {W : World} : ∀ (l : List (String × DataW Unit)) (h : T ABlk) (n : Nat) (gs : List Nat) (π : Pi) (ps : List MemPlace), DataW.LaidVars P W l ps →
    (∀ b off, MemPlace.cell b off ∈ ps → (∃ c t, W.heap[b]? = some (.cells c t (0, 0))) ∧ ∀ u v, W.cell? ⟨b, off, none⟩ = some (.iface u v) → Value.okWide P W .any 0 u v) → LayR P W π h n gs →
    ∃ π', LayR P W π' (layAll P l h n gs).1.heap (layAll P l h n gs).1.next (layAll P l h n gs).2
  | [], h, n, gs, π, ps, _, _, L => ⟨π, L⟩
  | (name, d) :: l, h, n, gs, π, ps, hl, hp, L => by
    obtain ⟨g, t, cs, fuel, p, q, hg, ht, hvar, hd, hrest, rfl⟩ := hl
    have hp' : ∀ b off, MemPlace.cell b off ∈ q → (∃ c t, W.heap[b]? = some (.cells c t (0, 0))) ∧ ∀ u v, W.cell? ⟨b, off, none⟩ = some (.iface u v) → Value.okWide P W .any 0 u v := fun b off hb => hp b off (List.mem_append_right _ hb)
    have ih := fun h n gs π L => layAll_rel l h n gs π q hrest hp' L
    simp only [layAll, hg, ht, fNat_eq, T.seq_eq]
    obtain ⟨el, fr, hh⟩ := var_heap hg hvar
    have hglt : g < W.heap.size := (Array.getElem?_eq_some_iff.1 hh).1
    split
    · exact ih h n gs π L
    · rename_i hb
      simp only [Bool.or_eq_false_iff, Bool.not_eq_false'] at hb
      obtain ⟨hb1, hb2⟩ := hb
      have hng : g ∉ gs := fun hm => by rw [memN_iff.2 hm] at hb1; cases hb1
      have hgN : g < P.globals.size := by simp [Nat.blt] at hb2; omega
      have hun := L.un g hgN hng
      split
      · -- plain
        rename_i xs hxs
        have hrel := fun π : Pi => flatD_rel (P := P) (π := π) (w := W) 20 t d xs fuel cs.toList p hxs hd
        refine ih _ _ _ (π.add g (g, 0, cs.size)) (L.put hun.2 rfl ?_ hglt (Nat.le_refl _) (Nat.lt_of_lt_of_le hgN L.low) (.inl ⟨List.mem_cons_self, rfl, fun x hx => List.mem_cons.1 hx⟩) (fun x hx => List.mem_cons_of_mem _ hx))
        refine BR.foreign (Pi.add_same _ _ _) hh (hrel _) (fun i v hv => by rw [Nat.zero_add, ← Array.getElem?_toList]; exact hv) ?_
        have := (hrel (π.add g (g, 0, cs.size))).length
        simp at this; omega
      · split
        · rename_i e elems hu hnone
          split
          · rename_i xs hxs
            split
            · exact ih h n gs π L
            · rename_i hne
              have hne' : xs.length ≠ 0 := fun e0 => by rw [e0] at hne; cases hne
              cases fuel with
              | zero => simp [DataW.trod] at hd
              | succ fuel =>
                have hd2 := hd
                unfold DataW.trod at hd2
                simp only [hu] at hd2
                obtain ⟨a, hcs, es, hes, hse⟩ : ∃ a, cs.toList = [.slice (some a) elems.length elems.length] ∧ ∃ es : List (DataW Unit × List MemPlace), es.map (·.1) = elems ∧
                    (List.range elems.length).mapM (fun i => (W.cells? 0 (a.add (i * P.cellsOf e)) (P.cellsOf e)).bind (trodU P W fuel e)) = some es := by
                  split at hd2
                  all_goals try (exfalso; simp at hd2; done)
                  all_goals try (exfalso; simp_all; done)
                  rename_i a len cap heq hcs
                  split at hd2
                  · rename_i hc
                    obtain ⟨es, hes, hd3⟩ := Option.bind_eq_some_iff.1 hd2
                    obtain ⟨rest, hrest2, hd4⟩ := Option.map_eq_some_iff.1 hd3
                    simp only [Prod.mk.injEq, DataW.slice.injEq] at hd4
                    obtain ⟨⟨h1, h2⟩, _⟩ := hd4
                    have hr0 : rest = [] := List.map_eq_nil_iff.1 h2
                    subst hr0
                    have hlen : es.length = len := by simpa using Lib.mapM_length hes
                    have hel : elems.length = len := by rw [← h1]; simpa using hlen
                    have hcap : cap - len = 0 := by
                      have := Lib.mapM_length hrest2
                      simpa using this.symm
                    have hcl : cap = len := by omega
                    have heq' : TypeDesc.slice e = TypeDesc.slice _ := Option.some.inj heq
                    cases heq'
                    refine ⟨a, ?_, es, h1, ?_⟩
                    · rw [hcs, hel, hcl]
                    · rw [hel]; exact hes
                  · cases hd2
                have sc := fun π : Pi => sliceCells (π := π) (W := W) (g := flatD P 20 e) (z := P.cellsOf e) (a := a) (T := trodU P W fuel e)
                  (fun d xs cs p h1 h2 => flatD_rel 20 e d xs fuel cs p h1 h2) elems 0 xs es hxs hes (by rw [← List.range_eq_range']; exact hse)
                obtain ⟨vs0, _, hvl, hvc⟩ := sc π
                have hxl : xs.length = vs0.length := by have := (sc π); obtain ⟨vs, h1, h2, _⟩ := this; rw [hvl, ← h2]; exact h1.length.symm
                have hpos : 0 < vs0.length := by omega
                have hspot : a.spot = none ∧ ∃ c el2 fr2, W.heap[a.block]? = some (.cells c el2 fr2) := by
                  obtain ⟨v, hv⟩ : ∃ v, vs0[0]? = some v := ⟨vs0[0], List.getElem?_eq_getElem hpos⟩
                  have := hvc 0 v hv
                  simp only [Nat.zero_mul, Nat.add_zero, Addr.add, if_true] at this
                  unfold World.cell? at this
                  split at this
                  · rename_i c el2 fr2 hh2
                    split at this
                    · cases this
                    · rename_i hs
                      exact ⟨by simpa using hs, c, el2, fr2, hh2⟩
                  · cases this
                obtain ⟨hspot, c, el2, fr2, hh2⟩ := hspot
                obtain ⟨ab, ao, sp⟩ := a
                dsimp only at hspot hh2
                subst hspot
                have hcell : ∀ (vs : List Value), (∀ j v, vs[j]? = some v → W.cell? ((⟨ab, ao, none⟩ : Addr).add (0 * P.cellsOf e + j)) = some v) → ∀ j v, vs[j]? = some v → c[ao + j]? = some v := by
                  intro vs hvs j v hj
                  have := hvs j v hj
                  rw [Nat.zero_mul, Nat.zero_add, add_eq] at this
                  simpa [World.cell?, hh2] using this
                have hsize : ao + xs.length ≤ c.size := by
                  obtain ⟨v, hv⟩ : ∃ v, vs0[vs0.length - 1]? = some v := ⟨vs0[vs0.length - 1]'(by omega), List.getElem?_eq_getElem (by omega)⟩
                  have := (Array.getElem?_eq_some_iff.1 (hcell vs0 hvc _ v hv)).1
                  omega
                have hab : ab < W.heap.size := (Array.getElem?_eq_some_iff.1 hh2).1
                have hfn := L.fresh n (Nat.le_refl n)
                have hgn : g ≠ n := by have := L.low; omega
                have L1 : LayR P W (π.add n (ab, ao, c.size)) (h.set n (.cells (lay xs 0 .nil) xs.length 0 0 false .loose)) (n + 1) gs := by
                  refine L.put hfn.2 rfl ?_ hab (by omega) (by omega) (.inr ⟨L.low, rfl⟩) (fun x hx => hx)
                  obtain ⟨vs, r1, r2, r3⟩ := sc (π.add n (ab, ao, c.size))
                  exact BR.foreign (Pi.add_same _ _ _) hh2 r1 (hcell vs r3) hsize
                have hun2 : (π.add n (ab, ao, c.size)) g = none := by rw [Pi.add_ne _ _ hgn]; exact hun.2
                refine ih _ _ _ ((π.add n (ab, ao, c.size)).add g (g, 0, cs.size)) (L1.put hun2 rfl ?_ hglt (Nat.le_refl _) (by have := L.low; omega) (.inl ⟨List.mem_cons_self, rfl, fun x hx => List.mem_cons.1 hx⟩) (fun x hx => List.mem_cons_of_mem _ hx))
                have hcs1 : cs.size = 1 := by rw [← Array.length_toList, hcs]; rfl
                refine BR.foreign (vs := cs.toList) (Pi.add_same _ _ _) hh ?_ (fun i v hv => by rw [Nat.zero_add, ← Array.getElem?_toList]; exact hv) (by simp [hcs1])
                rw [hcs]
                refine VRL.cons ?_ VRL.nil
                simp only [VR]
                refine ⟨ab, ao, c.size, ao, elems.length, ?_, rfl, .inl rfl, Nat.le_refl _, fun _ => rfl, ?_⟩
                · rw [Pi.add_ne _ _ (Ne.symm hgn), Pi.add_same]
                · rw [← hvl, ← hxl]; exact hsize
          · exact ih h n gs π L
        · rename_i ms nm d' hu hnone
          split
          · rename_i u e hpo
            split
            · rename_i xs hxs
              split
              · exact ih h n gs π L
              · rename_i hne
                have hne' : xs.length ≠ 0 := fun e0 => by rw [e0] at hne; cases hne
                cases fuel with
                | zero => simp [DataW.trod] at hd
                | succ fuel =>
                  have hd2 := hd
                  unfold DataW.trod at hd2
                  simp only [hu] at hd2
                  obtain ⟨u', v, hcs, hnm, x2, hx2⟩ : ∃ u' v, cs.toList = [.iface u' v] ∧ P.typeName? 3 u' = some nm ∧ ∃ x2, trodU P W fuel u' v.cells.toList = some (.ptr d', x2) := by
                    split at hd2
                    all_goals try (exfalso; simp at hd2; done)
                    all_goals try (exfalso; simp_all; done)
                    rename_i u' v _ hcs
                    split at hd2
                    · simp at hd2
                    · rename_i name hname
                      obtain ⟨x, hx, hx'⟩ := Option.map_eq_some_iff.1 hd2
                      obtain ⟨x1, x2⟩ := x
                      simp only [Prod.mk.injEq, DataW.iface.injEq] at hx'
                      obtain ⟨⟨rfl, rfl⟩, _⟩ := hx'
                      exact ⟨u', v, hcs, hname, x2, hx⟩
                    · cases hd2
                  cases fuel with
                  | zero => simp [trodU, DataW.trod] at hx2
                  | succ fuel =>
                    unfold trodU DataW.trod at hx2
                    obtain ⟨e', a, hu', hv', vs, hvs, hvd⟩ : ∃ e' a, P.underlying u' = some (.pointer e') ∧ v.cells.toList = [.pointer (some a)] ∧ ∃ vs, W.cells? 0 a (P.cellsOf e') = some vs ∧ ∃ q, trodU P W fuel e' vs = some (d', q) := by
                      split at hx2
                      case h_6 e' a hu' hv' =>
                        obtain ⟨y, hy, hy'⟩ := Option.map_eq_some_iff.1 hx2
                        obtain ⟨vs, hvs, hT⟩ := Option.bind_eq_some_iff.1 hy
                        obtain ⟨y1, y2⟩ := y
                        simp only [Prod.mk.injEq, DataW.ptr.injEq] at hy'
                        obtain ⟨rfl, _⟩ := hy'
                        exact ⟨e', a, hu', hv', vs, hvs, y2, hT⟩
                      all_goals (exfalso; revert hx2; (repeat' split) <;> first
                        | (simp_all; done)
                        | skip)
                      · intro hh
                        obtain ⟨_, _, hh⟩ := Option.bind_eq_some_iff.1 hh
                        obtain ⟨_, _, hh⟩ := Option.map_eq_some_iff.1 hh
                        cases hh
                      · intro hh
                        obtain ⟨_, _, hh⟩ := Option.bind_eq_some_iff.1 hh
                        dsimp only at hh
                        split at hh
                        · simp at hh
                        · cases hh
                    obtain ⟨q, hvd⟩ := hvd
                    have hq := ptrOf_eq hpo hu' hnm
                    simp only [Prod.mk.injEq] at hq
                    obtain ⟨rfl, rfl⟩ := hq
                    have hrel := fun π : Pi => flatD_rel (P := P) (π := π) (w := W) 20 e d' xs fuel vs q hxs hvd
                    have hxl : vs.length = xs.length := (hrel π).length
                    obtain ⟨hspot, c, el2, fr2, hh2, hcell, hsize⟩ := row_read hvs (by omega)
                    obtain ⟨ab, ao, sp⟩ := a
                    dsimp only at hspot hh2 hcell hsize
                    subst hspot
                    have hvp : v = .pointer (some ⟨ab, ao, none⟩) := by
                      have hcs1 : cs.size = 1 := by rw [← Array.length_toList, hcs]; rfl
                      have hc0 : W.cell? ⟨g, 0, none⟩ = some (.iface u v) := by
                        have : cs[0]? = some (.iface u v) := by rw [← Array.getElem?_toList, hcs]; rfl
                        simp [World.cell?, hh, this]
                      have hok := (hp g 0 (by simp [MemPlace.row, hcs1])).2 u v hc0
                      unfold Value.okWide at hok
                      simp only [hu'] at hok
                      unfold Cell.okWide at hok
                      simp only [hu'] at hok
                      unfold Cell.ok at hok
                      simp only [hu'] at hok
                      cases v <;> simp_all [Value.cells]
                    have hab : ab < W.heap.size := (Array.getElem?_eq_some_iff.1 hh2).1
                    have hfn := L.fresh n (Nat.le_refl n)
                    have hgn : g ≠ n := by have := L.low; omega
                    have L1 : LayR P W (π.add n (ab, ao, c.size)) (h.set n (.cells (lay xs 0 .nil) xs.length 0 0 false .loose)) (n + 1) gs := by
                      refine L.put hfn.2 rfl ?_ hab (by omega) (by omega) (.inr ⟨L.low, rfl⟩) (fun x hx => hx)
                      exact BR.foreign (Pi.add_same _ _ _) hh2 (hrel _) hcell (by omega)
                    have hun2 : (π.add n (ab, ao, c.size)) g = none := by rw [Pi.add_ne _ _ hgn]; exact hun.2
                    refine ih _ _ _ ((π.add n (ab, ao, c.size)).add g (g, 0, cs.size)) (L1.put hun2 rfl ?_ hglt (Nat.le_refl _) (by have := L.low; omega) (.inl ⟨List.mem_cons_self, rfl, fun x hx => List.mem_cons.1 hx⟩) (fun x hx => List.mem_cons_of_mem _ hx))
                    have hcs1 : cs.size = 1 := by rw [← Array.length_toList, hcs]; rfl
                    refine BR.foreign (vs := cs.toList) (Pi.add_same _ _ _) hh ?_ (fun i v hv => by rw [Nat.zero_add, ← Array.getElem?_toList]; exact hv) (by simp [hcs1])
                    rw [hcs, hvp]
                    refine VRL.cons ?_ VRL.nil
                    simp only [VR]
                    exact ⟨_, rfl, ab, ao, c.size, by rw [Pi.add_ne _ _ (Ne.symm hgn), Pi.add_same], rfl⟩
            · exact ih h n gs π L
          · exact ih h n gs π L
        · exact ih h n gs π L
end Go.Proofs.YtjagjjdkgidkjaaGreatDoor.Ev
set_option linter.all false
namespace Go.Proofs.YtjagjjdkgidkjaaGreatDoor.Ev
open Go Go.RowKit

variable {P : Program}

theorem laid_HR {W : World} {laid : List (String × DataW Unit)} (hf : (laid.filter fun x => x.2.handleName?.isSome) = []) (h : laidMetH P laid W) :
    ∃ π, HR (fun g => memN g (layAll P laid .nil P.globals.size []).2) W.heap.size W π (layAll P laid .nil P.globals.size []).1 W := by
  have h' : laidMet P laid W := by
    unfold laidMetH at h
    rw [hf] at h
    exact h
  obtain ⟨ps, h1, _, h3⟩ := h'
  obtain ⟨π, L⟩ := layAll_rel (P := P) (W := W) laid .nil P.globals.size [] (fun _ => none) ps h1 (fun b off hb => h3 b off hb)
    ⟨Nat.le_refl _, fun b B hb => (by rw [T.get_nil] at hb; cases hb), fun b _ => ⟨T.get_nil _, rfl⟩, fun g _ _ => ⟨T.get_nil _, rfl⟩, fun b p hb => (by cases hb), fun g hg => (by cases hg)⟩
  exact ⟨π, L.hr⟩

/-- A closed call, run: does it return true? -/
noncomputable def closedTrue (P : Program) (laid : List (String × DataW Unit)) (n : Nat) (f : FuncId) (xs : List AV) : Bool :=
  match layAll P laid .nil P.globals.size [] with
  | (σ, gs) => match evCall P (fun g => memN g gs) n none f xs σ with
    | some (.returned (.bool true), _) => true
    | _ => false
theorem closedTrue_calls (hm : P.follows .mixedOrders = true) {W : World} {laid : List (String × DataW Unit)} (hf : (laid.filter fun x => x.2.handleName?.isSome) = []) (hL : laidMetH P laid W) {n : Nat} {f : FuncId}
    (h : closedTrue P laid n f [] = true) : Calls P f #[] W fun e w' => e = .returned (.bool true) ∧ Below W.heap.size W w' := by
  obtain ⟨π, hH⟩ := laid_HR hf hL
  unfold closedTrue at h
  generalize hl : layAll P laid .nil P.globals.size [] = r at h hH
  obtain ⟨σ, gs⟩ := r
  dsimp only at h hH
  split at h
  · rename_i σ' he
    refine Calls.mono (evCall_calls hm (args := #[]) hH VRL.nil he) (fun E w' hE => ?_)
    obtain ⟨u, π', rfl, hu, _, hH'⟩ := hE
    simp only [VR] at hu
    rw [hu]
    exact ⟨rfl, hH'.below⟩
  · cases h
end Go.Proofs.YtjagjjdkgidkjaaGreatDoor.Ev
set_option linter.all false
namespace Go.Proofs.YtjagjjdkgidkjaaGreatDoor.Ev
open Go Go.RowKit

variable {P : Program} {known : Nat → Bool} {base : Nat} {w0 : World} {π : Pi} {σ : AS} {w : World}

/-- What is laid stays laid. -/
theorem LayR.later {W w : World} {π : Pi} {h : T ABlk} {n : Nat} {gs : List Nat} (L : LayR P W π h n gs) (hb : Below W.heap.size W w) : LayR P w π h n gs :=
  ⟨L.low, fun b B hB => ⟨(L.blk b B hB).1, BR.mono (Pi.le_refl π) (fun p hp => hb.block _ (L.bnd b p hp)) (L.blk b B hB).2⟩, L.fresh, L.un, fun b p hp => Nat.lt_of_lt_of_le (L.bnd b p hp) hb.size, L.glob⟩
theorem HR.grow (h : HR known base w0 π σ w) {w' : World} (hb : Below w.heap.size w w') : HR known base w0 π σ w' :=
  ⟨fun b B hB => by
    cases B with
    | dead => trivial
    | _ => exact BR.mono (Pi.le_refl π) (fun p hp => hb.block _ (h.bnd b p hp)) (h.blk b _ hB), h.inj, h.fresh, fun b p hp => Nat.lt_of_lt_of_le (h.bnd b p hp) hb.size, h.mine, Nat.le_trans h.low hb.size, h.below.trans (hb.mono h.low), h.glob⟩

theorem laid_HR' {W w : World} {laid : List (String × DataW Unit)} (hf : (laid.filter fun x => x.2.handleName?.isSome) = []) (h : laidMetH P laid W) (hb : Below W.heap.size W w) :
    ∃ π, HR (fun g => memN g (layAll P laid .nil P.globals.size []).2) w.heap.size w π (layAll P laid .nil P.globals.size []).1 w := by
  have h' : laidMet P laid W := by
    unfold laidMetH at h
    rw [hf] at h
    exact h
  obtain ⟨ps, h1, _, h3⟩ := h'
  obtain ⟨π, L⟩ := layAll_rel (P := P) (W := W) laid .nil P.globals.size [] (fun _ => none) ps h1 (fun b off hb => h3 b off hb)
    ⟨Nat.le_refl _, fun b B hb => (by rw [T.get_nil] at hb; cases hb), fun b _ => ⟨T.get_nil _, rfl⟩, fun g _ _ => ⟨T.get_nil _, rfl⟩, fun b p hb => (by cases hb), fun g hg => (by cases hg)⟩
  exact ⟨π, (L.later hb).hr⟩
theorem closedTrue_at (hm : P.follows .mixedOrders = true) {W : World} {laid : List (String × DataW Unit)} (hf : (laid.filter fun x => x.2.handleName?.isSome) = []) (hL : laidMetH P laid W) {n : Nat} {f : FuncId}
    (h : closedTrue P laid n f [] = true) (w : World) (hb : Below W.heap.size W w) : Calls P f #[] w fun e w' => e = .returned (.bool true) ∧ Below w.heap.size w w' := by
  obtain ⟨π, hH⟩ := laid_HR' hf hL hb
  unfold closedTrue at h
  generalize hl : layAll P laid .nil P.globals.size [] = r at h hH
  obtain ⟨σ, gs⟩ := r
  dsimp only at h hH
  split at h
  · rename_i σ' he
    refine Calls.mono (evCall_calls hm (args := #[]) hH VRL.nil he) (fun E w' hE => ?_)
    obtain ⟨u, π', rfl, hu, _, hH'⟩ := hE
    simp only [VR] at hu
    rw [hu]
    exact ⟨rfl, hH'.below⟩
  · cases h

/-! ### with summaries: calls without arguments whose end is known -/
noncomputable def evCallS (P : Program) (known : Nat → Bool) (sum : FuncId → Option AV) : Nat → Rec
  | 0, _, _, _, _ => none
  | n + 1, some b, _, args, σ => evRound P known (evCallS P known sum n) 1000000 b args σ
  | n + 1, none, f, args, σ => match sum f, args with
    | some v, [] => some (.returned v, σ)
    | _, _ => match P.funcs[f]? with
      | none => none
      | some fn => match fn.body with
        | none => none
        | some c => match evCode P known (evCallS P known sum n) 1000000 c (AA.start fn args) σ with
          | some (.normal, α, σ) | some (.ret, α, σ) => leaveA P known (evCallS P known sum n) 1000000 fn α none σ
          | some (.panic ch, α, σ) => leaveA P known (evCallS P known sum n) 1000000 fn α (some ch) σ
          | _ => none
def SumOK (P : Program) (base : Nat) (w0 : World) (sum : FuncId → Option AV) : Prop :=
  ∀ f v, sum f = some v → ∀ w, Below base w0 w → Calls P f #[] w fun E w' => ∃ u, E = .returned u ∧ (∀ π, VR π v u) ∧ Below w.heap.size w w'

theorem body_sound (hm : P.follows .mixedOrders = true) {call : Rec} (ih : CallOK P known base w0 call) {N : Nat} {f : FuncId} {xs : List AV} {e : AE} {σ' : AS}
    (h : (match P.funcs[f]? with
      | none => none
      | some fn => match fn.body with
        | none => none
        | some c => match evCode P known call N c (AA.start fn xs) σ with
          | some (.normal, α, σ) | some (.ret, α, σ) => leaveA P known call N fn α none σ
          | some (.panic ch, α, σ) => leaveA P known call N fn α (some ch) σ
          | _ => none) = some (e, σ')) {args : Array Value} (hH : HR known base w0 π σ w) (hx : VRL π xs args.toList) : Calls P f args w (EndR known base w0 π e σ') := by
  cases hf : P.funcs[f]? with
  | none => rw [hf] at h; cases h
  | some fn =>
    rw [hf] at h
    dsimp only at h
    cases hb : fn.body with
    | none => rw [hb] at h; cases h
    | some c =>
      rw [hb] at h
      dsimp only at h
      cases hev : evCode P known call N c (AA.start fn xs) σ with
      | none => rw [hev] at h; cases h
      | some r =>
        obtain ⟨x, α1, σ1⟩ := r
        rw [hev] at h
        have h1 := (evCode_sound hm ih N).1 none c π π σ w (AA.start fn xs) _ x α1 σ1 (fun h => absurd rfl h) (Pi.le_refl π) hH (start_rel hx) hev
        cases x with
        | normal => exact leaveA_sound hm ih hf hb (.inl ⟨rfl, rfl⟩) h1 h
        | ret => exact leaveA_sound hm ih hf hb (.inr (.inl ⟨rfl, rfl⟩)) h1 h
        | panic ch => exact leaveA_sound hm ih hf hb (.inr (.inr ⟨ch, rfl, rfl⟩)) h1 h
        | exit id => cases h
        | goto l => cases h
theorem evCallS_sound (hm : P.follows .mixedOrders = true) {sum : FuncId → Option AV} (hs : SumOK P base w0 sum) : ∀ n, CallOK P known base w0 (evCallS P known sum n)
  | 0 => ⟨fun f args σ e σ' h => (by cases h), fun b args σ e σ' h => (by cases h)⟩
  | n + 1 => by
    have ih := evCallS_sound hm hs n
    refine ⟨?_, fun b args σ e σ' h π w args' rb rs r hH hx hp hr => evRound_sound hm ih h hH hx hp hr⟩
    intro f xs σ e σ' h π w args hH hx
    simp only [evCallS] at h
    split at h
    · rename_i v hv
      simp only [Option.some.injEq, Prod.mk.injEq] at h
      obtain ⟨rfl, rfl⟩ := h
      simp only [VRL] at hx
      have : args = #[] := by apply Array.ext'; simp [hx]
      subst this
      refine Calls.mono (hs f v hv w hH.below) (fun E w' hE => ?_)
      obtain ⟨u, rfl, hu, hb⟩ := hE
      exact ⟨π, Pi.le_refl π, hH.grow hb, hu π⟩
    · exact body_sound hm ih h hH hx
end Go.Proofs.YtjagjjdkgidkjaaGreatDoor.Ev
