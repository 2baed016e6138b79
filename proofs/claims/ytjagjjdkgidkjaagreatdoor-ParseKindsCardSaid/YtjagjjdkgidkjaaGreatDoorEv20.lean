/- Part Ev20 of a verified evaluator of closed calls: of no program; no condition. -/
import Derived.Test.YtjagjjdkgidkjaaGreatDoorEv19
import Derived.Recover
import Derived.Orders
set_option linter.all false
namespace Go.Proofs.YtjagjjdkgidkjaaGreatDoor.Ev
open Go Go.RowKit

variable {P : Program} {known : Nat → Bool} {base : Nat} {w0 : World} {π : Pi} {σ : AS} {w : World} {ρ : Rho}

def DL (π : Pi) : List ADef → List Deferred → Prop
  | [], ds => ds = []
  | d :: l, ds => ∃ d' r, ds = d' :: r ∧ DR π d d' ∧ DL π l r
theorem DR.mono {π π' : Pi} (h : π.le π') {d : ADef} {d' : Deferred} : DR π d d' → DR π' d d' := by
  rintro ⟨cap, xs, rfl, h2⟩
  exact ⟨cap, xs, rfl, VRL.mono h _ _ h2⟩
theorem DL.mono {π π' : Pi} (h : π.le π') : ∀ {l : List ADef} {ds : List Deferred}, DL π l ds → DL π' l ds
  | [], _, e => e
  | d :: l, ds, e => by
    simp only [DL] at e ⊢
    obtain ⟨d', r, rfl, h1, h2⟩ := e
    exact ⟨d', r, rfl, h1.mono h, DL.mono h h2⟩
/-- The temporaries and the deferred calls. -/
structure ActR (π : Pi) (α : AA) (a : Act) : Prop where
  size : a.tmps.size = α.n
  look : ∀ t, ∃ v, α.look t = some v ∧ VR π v (a.tmps.getD t undef)
  defers : DL π α.defers a.defers
theorem ActR.mono {π π' : Pi} (h : π.le π') {α : AA} {a : Act} (e : ActR π α a) : ActR π' α a :=
  ⟨e.size, fun t => let ⟨v, h1, h2⟩ := e.look t; ⟨v, h1, VR.mono h _ _ h2⟩, e.defers.mono h⟩
theorem ActR.rho (hH : HR known base w0 π σ w) {α : AA} {a : Act} (h : ActR π α a) : RhoR π (opd known α.look) a.eval := by
  intro x v hx
  cases x with
  | tmp t =>
    obtain ⟨u, h1, h2⟩ := h.look t
    have hx' : α.look t = some v := hx
    rw [h1] at hx'
    cases hx'
    exact h2
  | const c => exact ofValue_rel hx
  | global g =>
    have hx' : gB (known g) (some (AV.ptr g 0)) = some v := hx
    rw [gB_iff] at hx'
    obtain ⟨hk, hx'⟩ := hx'
    simp only [Option.some.injEq] at hx'
    subst hx'
    obtain ⟨rs, hr⟩ := hH.glob g hk
    simp only [VR]
    exact ⟨g, 0, rs, hr, rfl⟩
  | func f =>
    have hx' : some (AV.func f [] []) = some v := hx
    simp only [Option.some.injEq] at hx'
    subst hx'
    simp only [VR]
    exact ⟨[], [], rfl, VRL.nil, VRL.nil⟩
theorem ActR.put {α α' : AA} {a : Act} (h : ActR π α a) {dst : Option Nat} {v : AV} {u : Value} (hp : α.put dst v = some α') (hv : VR π v u) : ActR π α' (a.put dst u) := by
  cases dst with
  | none =>
    have : some α = some α' := hp
    cases this
    exact h
  | some d =>
    have hp' : gB (Nat.blt d α.n) (T.seq (T.set α.tmps d v) fun t => some (AA.mk t α.n α.defers)) = some α' := hp
    rw [gB_iff, T.seq_eq] at hp'
    obtain ⟨hlt, hp'⟩ := hp'
    simp only [Option.some.injEq] at hp'
    subst hp'
    have hlt' : d < α.n := by simp [Nat.blt] at hlt; omega
    refine ⟨by simp [Act.put, h.size], fun t => ?_, h.defers⟩
    by_cases e : t = d
    · subst e
      refine ⟨v, ?_, ?_⟩
      · show oM (T.get (T.set α.tmps t v) t) _ _ = _
        rw [T.get_set]; rfl
      · have hsz := h.size
        simp only [Act.put]
        have : t < a.tmps.size := by omega
        simpa [this] using hv
    · obtain ⟨v', h1, h2⟩ := h.look t
      refine ⟨v', ?_, ?_⟩
      · show oM (T.get (T.set α.tmps d v) t) _ _ = _
        rw [T.get_set_ne _ _ e]; exact h1
      · simp only [Act.put]
        have : (a.tmps.setIfInBounds d u).getD t undef = a.tmps.getD t undef := by
          simp [Array.getElem?_setIfInBounds_ne (Ne.symm e)]
        rw [this]; exact h2

/-- The chain of a panic. -/
def CL (π : Pi) : List APE → List PanicEntry → Prop
  | [], c => c = []
  | e :: l, c => ∃ v r, c = { v := v, recovered := e.recovered } :: r ∧ VR π e.v v ∧ CL π l r
theorem CL.mono {π π' : Pi} (h : π.le π') : ∀ {l : List APE} {c : List PanicEntry}, CL π l c → CL π' l c
  | [], _, e => e
  | d :: l, ds, e => by
    simp only [CL] at e ⊢
    obtain ⟨v, r, rfl, h1, h2⟩ := e
    exact ⟨v, r, rfl, VR.mono h _ _ h1, CL.mono h h2⟩

def EndR (known : Nat → Bool) (base : Nat) (w0 : World) (π : Pi) (e : AE) (σ' : AS) (E : Ending) (w' : World) : Prop :=
  ∃ π', π.le π' ∧ HR known base w0 π' σ' w' ∧ match e, E with
    | .returned v, .returned u => VR π' v u
    | .panicked ch, .panicked ch' => CL π' ch ch'
    | _, _ => False
def CallOK (P : Program) (known : Nat → Bool) (base : Nat) (w0 : World) (call : Rec) : Prop :=
  ∀ f args σ e σ', call f args σ = some (e, σ') → ∀ π w args', HR known base w0 π σ w → VRL π args args'.toList → Calls P f args' w (EndR known base w0 π e σ')
def XR (π : Pi) : AX → Exit → Prop
  | .normal, X => X = .normal
  | .exit id, X => X = .exit id
  | .goto l, X => X = .goto l
  | .ret, X => X = .ret
  | .panic ch, X => ∃ ch', X = .panic ch' ∧ CL π ch ch'
def ExitR (known : Nat → Bool) (base : Nat) (w0 : World) (π : Pi) (x : AX) (α' : AA) (σ' : AS) (X : Exit) (a' : Act) (w' : World) : Prop :=
  ∃ π', π.le π' ∧ HR known base w0 π' σ' w' ∧ ActR π' α' a' ∧ XR π' x X

theorem wanted_eq' {look : Nat → Option AV} {a : Act} (ops : Array Oper) (o : Oper) (hl : ∀ j want d, o.guard = some (j, want) → (ops[j]?).bind (·.dst) = some d → ∃ v, look d = some v ∧ VR π v (a.tmps.getD d undef)) :
    wantedA look ops o = Region.wanted o (yielded ops a.tmps) := by
  unfold wantedA Region.wanted
  cases hgd : o.guard with
  | none => rfl
  | some g =>
    obtain ⟨j, want⟩ := g
    show isTrue look ops j want = _
    unfold isTrue
    cases hj : ops[j]? with
    | none => simp [yielded, hj, oM_none]
    | some oj =>
      show oM oj.dst false _ = _
      cases hd : oj.dst with
      | none => simp [yielded, hj, hd, oM_none]
      | some d =>
        show oM (look d) false _ = _
        obtain ⟨v, h1, h2⟩ := hl j want d hgd (by simp [hj, hd])
        rw [h1]
        clear hl h1 hgd
        show (match v with | .bool b => bM want b (!b) | _ => false) = _
        show _ = (yielded ops a.tmps j == some want)
        unfold yielded
        simp only [hj, Option.bind_some, hd]
        cases ht : a.tmps[d]? with
        | none =>
          have : a.tmps.getD d undef = undef := by simp [ht]
          rw [this] at h2
          cases v <;> simp [VR, undef] at h2 ⊢
        | some u =>
          have : a.tmps.getD d undef = u := by simp [ht]
          rw [this] at h2
          cases v with
          | bool b =>
            simp only [VR] at h2
            subst h2
            cases want <;> cases b <;> rfl
          | _ =>
            cases u <;> simp_all [VR]
theorem wanted_eq {α : AA} {a : Act} (h : ActR π α a) (ops : Array Oper) (o : Oper) : wantedA α.look ops o = Region.wanted o (yielded ops a.tmps) :=
  wanted_eq' ops o (fun j want d _ _ => h.look d)
end Go.Proofs.YtjagjjdkgidkjaaGreatDoor.Ev
