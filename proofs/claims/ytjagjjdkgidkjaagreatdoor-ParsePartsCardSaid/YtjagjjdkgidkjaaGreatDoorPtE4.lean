/- A verified evaluator of closed calls, of no program: a part (Ev20 Ev21 Ev22a Ev22b Ev22c Ev22 Ev23 Ev24) of the proof that the law ParseParts answers true. No condition. -/
import Derived.Test.YtjagjjdkgidkjaaGreatDoorPtE3
import Derived.Recover
import Derived.Orders
import Derived.OrdersIn
import Derived.RangeFuncIn
import Derived.RangeFuncLeaves
import Derived.RangeFuncRecord
import Derived.Scope
set_option linter.all false
set_option linter.all false
namespace Go.Proofs.YtjagjjdkgidkjaaGreatDoor.Ev
open Go Go.RowKit

variable {P : Program} {known : Nat → Bool} {base : Nat} {w0 : World} {π : Pi} {σ : AS} {w : World} {ρ : Rho}

def DL (π : Pi) : List ADef → List Deferred → Prop
  | [], ds => ds = []
  | d :: l, ds => ∃ d' r, ds = d' :: r ∧ DR π d d' ∧ DL π l r
theorem DR.mono {π π' : Pi} (h : π.le π') {d : ADef} {d' : Deferred} : DR π d d' → DR π' d d' := by
  cases d with
  | call f args =>
    rintro ⟨cap, xs, rfl, h2⟩
    exact ⟨cap, xs, rfl, VRL.mono h _ _ h2⟩
  | mark b =>
    rintro ⟨rb, rs, h1, rfl⟩
    exact ⟨rb, rs, h _ _ h1, rfl⟩
theorem DL.mono {π π' : Pi} (h : π.le π') : ∀ {l : List ADef} {ds : List Deferred}, DL π l ds → DL π' l ds
  | [], _, e => e
  | d :: l, ds, e => by
    simp only [DL] at e ⊢
    obtain ⟨d', r, rfl, h1, h2⟩ := e
    exact ⟨d', r, rfl, h1.mono h, DL.mono h h2⟩
/-- The temporaries and the deferred calls. -/
structure ActR (π : Pi) (α : AA) (a : Act) : Prop where
  size : a.tmps.size = α.n
  look : ∀ t, ∃ v, α.look t = some v ∧ VR π v (a.tmps.getD t undef)
  defers : DL π α.defers a.defers
theorem ActR.mono {π π' : Pi} (h : π.le π') {α : AA} {a : Act} (e : ActR π α a) : ActR π' α a :=
  ⟨e.size, fun t => let ⟨v, h1, h2⟩ := e.look t; ⟨v, h1, VR.mono h _ _ h2⟩, e.defers.mono h⟩
theorem ActR.rho (hH : HR known base w0 π σ w) {α : AA} {a : Act} (h : ActR π α a) : RhoR π (opd known α.look) a.eval := by
  intro x v hx
  cases x with
  | tmp t =>
    obtain ⟨u, h1, h2⟩ := h.look t
    have hx' : α.look t = some v := hx
    rw [h1] at hx'
    cases hx'
    exact h2
  | const c => exact ofValue_rel hx
  | global g =>
    have hx' : gB (known g) (some (AV.ptr g 0)) = some v := hx
    rw [gB_iff] at hx'
    obtain ⟨hk, hx'⟩ := hx'
    simp only [Option.some.injEq] at hx'
    subst hx'
    obtain ⟨rs, hr⟩ := hH.glob g hk
    simp only [VR]
    exact ⟨g, 0, rs, hr, rfl⟩
  | func f =>
    have hx' : some (AV.func f [] []) = some v := hx
    simp only [Option.some.injEq] at hx'
    subst hx'
    simp only [VR]
    exact ⟨[], [], rfl, VRL.nil, VRL.nil⟩
theorem ActR.put {α α' : AA} {a : Act} (h : ActR π α a) {dst : Option Nat} {v : AV} {u : Value} (hp : α.put dst v = some α') (hv : VR π v u) : ActR π α' (a.put dst u) := by
  cases dst with
  | none =>
    have : some α = some α' := hp
    cases this
    exact h
  | some d =>
    have hp' : gB (Nat.blt d α.n) (T.seq (T.set α.tmps d v) fun t => some (AA.mk t α.n α.defers)) = some α' := hp
    rw [gB_iff, T.seq_eq] at hp'
    obtain ⟨hlt, hp'⟩ := hp'
    simp only [Option.some.injEq] at hp'
    subst hp'
    have hlt' : d < α.n := by simp [Nat.blt] at hlt; omega
    refine ⟨by simp [Act.put, h.size], fun t => ?_, h.defers⟩
    by_cases e : t = d
    · subst e
      refine ⟨v, ?_, ?_⟩
      · show oM (T.get (T.set α.tmps t v) t) _ _ = _
        rw [T.get_set]; rfl
      · have hsz := h.size
        simp only [Act.put]
        have : t < a.tmps.size := by omega
        simpa [this] using hv
    · obtain ⟨v', h1, h2⟩ := h.look t
      refine ⟨v', ?_, ?_⟩
      · show oM (T.get (T.set α.tmps d v) t) _ _ = _
        rw [T.get_set_ne _ _ e]; exact h1
      · simp only [Act.put]
        have : (a.tmps.setIfInBounds d u).getD t undef = a.tmps.getD t undef := by
          simp [Array.getElem?_setIfInBounds_ne (Ne.symm e)]
        rw [this]; exact h2

/-- The chain of a panic. -/
def CL (π : Pi) : List APE → List PanicEntry → Prop
  | [], c => c = []
  | e :: l, c => ∃ v r, c = { v := v, recovered := e.recovered } :: r ∧ VR π e.v v ∧ CL π l r
theorem CL.mono {π π' : Pi} (h : π.le π') : ∀ {l : List APE} {c : List PanicEntry}, CL π l c → CL π' l c
  | [], _, e => e
  | d :: l, ds, e => by
    simp only [CL] at e ⊢
    obtain ⟨v, r, rfl, h1, h2⟩ := e
    exact ⟨v, r, rfl, VR.mono h _ _ h1, CL.mono h h2⟩

def EndR (known : Nat → Bool) (base : Nat) (w0 : World) (π : Pi) (e : AE) (σ' : AS) (E : Ending) (w' : World) : Prop :=
  ∃ π', π.le π' ∧ HR known base w0 π' σ' w' ∧ match e, E with
    | .returned v, .returned u => VR π' v u
    | .panicked ch, .panicked ch' => CL π' ch ch'
    | _, _ => False
/-- The fence of a function's frame, and of a round's frame. -/
def FF (rd : Option Nat) : Fence := { Fence.wide with round := rd }
/-- What is asked of calls: of functions, and of a loop's rounds. -/
structure CallOK (P : Program) (known : Nat → Bool) (base : Nat) (w0 : World) (call : Rec) : Prop where
  fn : ∀ f args σ e σ', call none f args σ = some (e, σ') → ∀ π w args', HR known base w0 π σ w → VRL π args args'.toList → Calls P f args' w (EndR known base w0 π e σ')
  round : ∀ b args σ e σ', call (some b) 0 args σ = some (e, σ') → ∀ (π : Pi) (w : World) (args' : Array Value) (rb rs : Nat) (r : Loop), HR known base w0 π σ w → VRL π args args'.toList → π b = some (rb, 0, rs) →
    w.heap[rb]? = some (.loop r) → RoundIn Fence.wide 0 P rb r.fn ((r.params.zip args').foldl (fun tmps (t, a) => tmps.setIfInBounds t a) r.tmps) r.assign r.body w (EndR known base w0 π e σ')
def XR (π : Pi) : AX → Exit → Prop
  | .normal, X => X = .normal
  | .exit id, X => X = .exit id
  | .goto l, X => X = .goto l
  | .ret, X => X = .ret
  | .panic ch, X => ∃ ch', X = .panic ch' ∧ CL π ch ch'
def ExitR (known : Nat → Bool) (base : Nat) (w0 : World) (π : Pi) (x : AX) (α' : AA) (σ' : AS) (X : Exit) (a' : Act) (w' : World) : Prop :=
  ∃ π', π.le π' ∧ HR known base w0 π' σ' w' ∧ ActR π' α' a' ∧ XR π' x X

theorem wanted_eq' {look : Nat → Option AV} {a : Act} (ops : Array Oper) (o : Oper) (hl : ∀ j want d, o.guard = some (j, want) → (ops[j]?).bind (·.dst) = some d → ∃ v, look d = some v ∧ VR π v (a.tmps.getD d undef)) :
    wantedA look ops o = Region.wanted o (yielded ops a.tmps) := by
  unfold wantedA Region.wanted
  cases hgd : o.guard with
  | none => rfl
  | some g =>
    obtain ⟨j, want⟩ := g
    show isTrue look ops j want = _
    unfold isTrue
    cases hj : ops[j]? with
    | none => simp [yielded, hj, oM_none]
    | some oj =>
      show oM oj.dst false _ = _
      cases hd : oj.dst with
      | none => simp [yielded, hj, hd, oM_none]
      | some d =>
        show oM (look d) false _ = _
        obtain ⟨v, h1, h2⟩ := hl j want d hgd (by simp [hj, hd])
        rw [h1]
        clear hl h1 hgd
        show (match v with | .bool b => bM want b (!b) | _ => false) = _
        show _ = (yielded ops a.tmps j == some want)
        unfold yielded
        simp only [hj, Option.bind_some, hd]
        cases ht : a.tmps[d]? with
        | none =>
          have : a.tmps.getD d undef = undef := by simp [ht]
          rw [this] at h2
          cases v <;> simp [VR, undef] at h2 ⊢
        | some u =>
          have : a.tmps.getD d undef = u := by simp [ht]
          rw [this] at h2
          cases v with
          | bool b =>
            simp only [VR] at h2
            subst h2
            cases want <;> cases b <;> rfl
          | any =>
            simp only [VR] at h2
            cases u with
            | bool b => exact absurd rfl (h2.2 b)
            | _ => simp_all
          | _ =>
            cases u <;> simp_all [VR]
theorem wanted_eq {α : AA} {a : Act} (h : ActR π α a) (ops : Array Oper) (o : Oper) : wantedA α.look ops o = Region.wanted o (yielded ops a.tmps) :=
  wanted_eq' ops o (fun j want d _ _ => h.look d)
end Go.Proofs.YtjagjjdkgidkjaaGreatDoor.Ev
set_option linter.all false
namespace Go.Proofs.YtjagjjdkgidkjaaGreatDoor.Ev
open Go Go.RowKit

variable {P : Program} {known : Nat → Bool} {base : Nat} {w0 : World} {π : Pi} {σ : AS} {w : World} {ρ : Rho}

/-- What the walk needs behind an operation. -/
def Onward (known : Nat → Bool) (base : Nat) (w0 : World) (π : Pi) (o : Oper) (a : Act) (w : World) (next : Act → World → Prop) (Q : Exit → Act → World → Prop) : AO → Prop
  | .val v σ' => ∀ π' w' u, π.le π' → HR known base w0 π' σ' w' → VR π' v u → next (a.put o.dst u) w'
  | .defer d σ' => ∀ d', HR known base w0 π σ' w → DR π d d' → next (({ a with defers := d' :: a.defers } : Act).put o.dst undef) w
  | .panic ch σ' => ∀ π' w' ch', π.le π' → HR known base w0 π' σ' w' → CL π' ch ch' → Q (.panic ch') a w'

theorem doOp_sound {call : Rec} (hc : CallOK P known base w0 call) (hH : HR known base w0 π σ w) {look : Nat → Option AV} {a : Act} (hρ : RhoR π (opd known look) a.eval) {o : Oper} {r : AO} (h : doOp P known call look σ o = some r)
    {next : Act → World → Prop} {Q : Exit → Act → World → Prop} (hn : Onward known base w0 π o a w next Q r) {rd : Option Nat} (hrd : rd ≠ none → ∀ c, o.op ≠ .defer c) : o.wpIn (FF rd) 0 P a w next Q := by
  have hsem : o.semAt (FF rd).round a.eval = execOp a.eval o := by
    cases rd with
    | none => rfl
    | some l => exact Oper.semAt_eq _ _ _ (hrd (by simp))
  refine ⟨fun _ _ => trivial, ?_⟩
  rw [hsem]
  unfold doOp at h
  generalize hh : headOf o.op P = hd at h
  cases hd with
  | quiet f =>
    have h' : valO (f P (opd known look)) σ = some r := h
    unfold valO at h'
    rw [oB_iff] at h'; obtain ⟨v, hv, h'⟩ := h'
    simp only [Option.some.injEq] at h'
    subst h'
    obtain ⟨u, h1, h2⟩ := quiet_sound (w := w) hh hv hρ
    rw [h1]
    exact hn π w u (Pi.le_refl π) hH h2
  | reads f =>
    have h' : valO (f P (opd known look) σ) σ = some r := h
    unfold valO at h'
    rw [oB_iff] at h'; obtain ⟨v, hv, h'⟩ := h'
    simp only [Option.some.injEq] at h'
    subst h'
    obtain ⟨u, h1, h2⟩ := reads_sound hH hh hv hρ
    rw [h1]
    exact hn π w u (Pi.le_refl π) hH h2
  | loud f =>
    have h' : loudO call (f P (opd known look) σ) = some r := h
    unfold loudO at h'
    rw [oB_iff] at h'; obtain ⟨s, hs, h'⟩ := h'
    have hl := loud_sound hH hρ hh hs
    cases s with
    | val v σ' =>
      simp only [Option.some.injEq] at h'
      subst h'
      obtain ⟨π', w', nx, h1, h2, h3, h4⟩ := hl
      rw [h1]
      rcases h2 with ⟨u, rfl, hu⟩ | ⟨rfl, rfl⟩
      · exact hn π' w' u h3 h4 hu
      · exact hn π' w' undef h3 h4 (by simp only [VR]; exact ⟨[], rfl, VRL.nil⟩)
    | defer d σ' =>
      simp only [Option.some.injEq] at h'
      subst h'
      obtain ⟨d', h1, h2, rfl⟩ := hl
      rw [h1]
      exact hn d' hH h2
    | panic v σ' =>
      simp only [Option.some.injEq] at h'
      subst h'
      obtain ⟨v', h1, h2, rfl⟩ := hl
      rw [h1]
      exact hn π w _ (Pi.le_refl π) hH (by simp only [CL]; exact ⟨v', [], rfl, h2, rfl⟩)
    | enter f args σ' =>
      dsimp only at h'
      obtain ⟨args', h1, h2, rfl, _⟩ := hl
      rw [h1]
      unfold retO at h'
      rw [oB_iff] at h'; obtain ⟨⟨e, σ''⟩, he, h'⟩ := h'
      dsimp only at h'
      have hcall : CallsIn Fence.wide 0 P f args' w _ := callsIn_wide.2 (hc.fn _ _ _ _ _ he π w args' hH h2)
      refine ⟨fun h => (by cases h), CallsIn.mono (F := Fence.wide) hcall (fun E w'' hE => ?_)⟩
      obtain ⟨π', hle, hH', hv⟩ := hE
      cases e with
      | returned v =>
        cases E with
        | returned u =>
          simp only [Option.some.injEq] at h'
          subst h'
          exact hn π' w'' u hle hH' hv
        | _ => exact hv.elim
      | panicked ch =>
        cases E with
        | panicked ch' =>
          simp only [Option.some.injEq] at h'
          subst h'
          exact hn π' w'' ch' hle hH' hv
        | _ => exact hv.elim
    | round b args σ' =>
      dsimp only at h'
      obtain ⟨rb, rs, r, args', hp, hr, h1, h2, rfl⟩ := hl
      rw [h1]
      unfold retO at h'
      rw [oB_iff] at h'; obtain ⟨⟨e, σ''⟩, he, h'⟩ := h'
      dsimp only at h'
      have hcall := hc.round _ _ _ _ _ he π w args' rb rs r hH h2 hp hr
      refine ⟨fun h => (by cases h), RoundIn.mono (F := Fence.wide) hcall (fun E w'' hE => ?_)⟩
      obtain ⟨π', hle, hH', hv⟩ := hE
      cases e with
      | returned v =>
        cases E with
        | returned u =>
          simp only [Option.some.injEq] at h'
          subst h'
          exact hn π' w'' u hle hH' hv
        | _ => exact hv.elim
      | panicked ch =>
        cases E with
        | panicked ch' =>
          simp only [Option.some.injEq] at h'
          subst h'
          exact hn π' w'' ch' hle hH' hv
        | _ => exact hv.elim
  | off => cases h

theorem bM_iff {β : Type} (b : Bool) (x y : β) : bM b x y = if b = true then x else y := by cases b <;> rfl

theorem runOps_sound {call : Rec} (hc : CallOK P known base w0 call) {ops : Array Oper} {rd : Option Nat} (hrd : rd ≠ none → ∀ (i : Nat) (o : Oper), ops[i]? = some o → ∀ c, o.op ≠ .defer c) : ∀ (l : List Oper) (i : Nat), (∀ j o, l[j]? = some o → ops[i + j]? = some o) →
    ∀ {π0 π : Pi} {σ : AS} {w : World} {α : AA} {a : Act} {x : AX} {α' : AA} {σ' : AS}, π0.le π → HR known base w0 π σ w → ActR π α a → runOps P known call ops l α σ = some (x, α', σ') →
      wpOpsIn (FF rd) 0 P ops (ExitR known base w0 π0 x α' σ') (List.range' i l.length) a w
  | [], i, hl, π0, π, σ, w, α, a, x, α', σ', h0, hH, hA, h => by
    have h' : some (AX.normal, α, σ) = some (x, α', σ') := h
    simp only [Option.some.injEq, Prod.mk.injEq] at h'
    obtain ⟨rfl, rfl, rfl⟩ := h'
    exact ⟨π, h0, hH, hA, rfl⟩
  | o :: l, i, hl, π0, π, σ, w, α, a, x, α', σ', h0, hH, hA, h => by
    have ho : ops[i]? = some o := hl 0 o rfl
    have hl' : ∀ j o, l[j]? = some o → ops[(i + 1) + j]? = some o := fun j o hj => by
      have := hl (j + 1) o (by simpa using hj)
      rw [show i + 1 + j = i + (j + 1) by omega]; exact this
    have ih := fun {π : Pi} {σ : AS} {w : World} {α : AA} {a : Act} {x : AX} {α' : AA} {σ' : AS} (h0 : π0.le π) => runOps_sound hc (ops := ops) hrd l (i + 1) hl' (π0 := π0) (π := π) (σ := σ) (w := w) (α := α) (a := a) (x := x) (α' := α') (σ' := σ') h0
    have h' : bM (wantedA α.look ops o) (oB (doOp P known call α.look σ o) fun r => onward o α (fun α σ => runOps P known call ops l α σ) r)
      (oB (α.put o.dst (.tuple [])) fun α => runOps P known call ops l α σ) = some (x, α', σ') := h
    rw [bM_iff, wanted_eq hA] at h'
    rw [List.length_cons, List.range'_succ]
    simp only [wpOpsIn, ho]
    split
    · rename_i hw
      rw [if_pos hw] at h'
      rw [oB_iff] at h'; obtain ⟨r, hr, h'⟩ := h'
      refine doOp_sound hc hH (hA.rho hH) hr ?_ (fun h => hrd h i o ho)
      cases r with
      | val v σ1 =>
        have h2 : (oB (α.put o.dst v) fun α => runOps P known call ops l α σ1) = some (x, α', σ') := h'
        rw [oB_iff] at h2; obtain ⟨α1, hp, h2⟩ := h2
        intro π' w' u hle hH' hv
        exact ih (Pi.le_trans h0 hle) hH' ((hA.mono hle).put hp hv) h2
      | defer d σ1 =>
        have h2 : (oB ((AA.mk α.tmps α.n (d :: α.defers)).put o.dst (.tuple [])) fun α => runOps P known call ops l α σ1) = some (x, α', σ') := h'
        rw [oB_iff] at h2; obtain ⟨α1, hp, h2⟩ := h2
        intro d' hH' hd
        have hA' : ActR π (AA.mk α.tmps α.n (d :: α.defers)) { a with defers := d' :: a.defers } := ⟨hA.size, hA.look, by simp only [DL]; exact ⟨_, _, rfl, hd, hA.defers⟩⟩
        exact ih h0 hH' (hA'.put hp (by simp only [VR]; exact ⟨[], rfl, VRL.nil⟩)) h2
      | panic ch σ1 =>
        have h2 : some (AX.panic ch, α, σ1) = some (x, α', σ') := h'
        simp only [Option.some.injEq, Prod.mk.injEq] at h2
        obtain ⟨rfl, rfl, rfl⟩ := h2
        intro π' w' ch' hle hH' hch
        exact ⟨π', Pi.le_trans h0 hle, hH', hA.mono hle, _, rfl, hch⟩
    · rename_i hw
      rw [if_neg hw] at h'
      rw [oB_iff] at h'; obtain ⟨α1, hp, h'⟩ := h'
      exact ⟨fun _ _ => trivial, ih h0 hH (hA.put hp (by simp only [VR]; exact ⟨[], rfl, VRL.nil⟩)) h'⟩
end Go.Proofs.YtjagjjdkgidkjaaGreatDoor.Ev
set_option linter.all false
namespace Go.Proofs.YtjagjjdkgidkjaaGreatDoor.Ev
open Go Go.RowKit

variable {P : Program} {known : Nat → Bool} {base : Nat} {w0 : World}

/-! ### masks -/
theorem bitOf_eq (m i : Nat) : bitOf m i = Nat.testBit m i := by
  unfold bitOf
  rw [Nat.testBit_eq_decide_div_mod_eq]
  show Nat.beq ((m >>> i) % 2) 1 = _
  rw [Nat.shiftRight_eq_div_pow]
  generalize m / 2 ^ i % 2 = x
  rcases Nat.decEq x 1 with h | h
  · rw [decide_eq_false h]
    cases hb : Nat.beq x 1
    · rfl
    · exact absurd (Nat.eq_of_beq_eq_true hb) h
  · subst h; rfl
theorem maskOf_bit (acc : List Nat) (j i : Nat) : ∀ (l : List Nat) (m : Nat), bitOf (maskOf acc j l m) i = true → bitOf m i = true ∨ ∃ e ∈ l, i = e ∨ (e < j ∧ bitOf (acc.getD (j - 1 - e) 0) i = true)
  | [], m, h => .inl h
  | e :: l, m, h => by
    have h' : bitOf (maskOf acc j l (Nat.lor (Nat.lor m (Nat.pow 2 e)) (match Nat.blt e j with | true => acc.getD (j - 1 - e) 0 | false => 0))) i = true := h
    rcases maskOf_bit acc j i l _ h' with h1 | ⟨e', he, h2⟩
    · rw [bitOf_eq] at h1
      have h3 : (m ||| 2 ^ e ||| (match Nat.blt e j with | true => acc.getD (j - 1 - e) 0 | false => 0)).testBit i = true := h1
      rw [Nat.testBit_or, Nat.testBit_or] at h3
      simp only [Bool.or_eq_true] at h3
      rcases h3 with (h3 | h3) | h3
      · exact .inl (by rw [bitOf_eq]; exact h3)
      · right
        refine ⟨e, List.mem_cons_self, .inl ?_⟩
        rw [Nat.testBit_two_pow] at h3
        have : e = i := by simpa using h3
        exact this.symm
      · right
        split at h3
        · rename_i hlt
          have hlt' : e < j := by simp [Nat.blt] at hlt; omega
          exact ⟨e, List.mem_cons_self, .inr ⟨hlt', by rw [bitOf_eq]; exact h3⟩⟩
        · simp at h3
    · exact .inr ⟨e', List.mem_cons_of_mem _ he, h2⟩
/-- A mask list that is closed: each bit is an edge, or a bit of an edge's own mask. -/
def Closed (ops : Array Oper) (ms : List Nat) : Prop :=
  ∀ j o i, ops[j]? = some o → bitOf (ms.getD j 0) i = true → ∃ e ∈ bindsOf o, i = e ∨ (e < j ∧ bitOf (ms.getD e 0) i = true)
theorem masksL_spec : ∀ (l : List Oper) (j : Nat) (acc : List Nat), acc.length = j → ∃ ms, masksL l j acc = acc.reverse ++ ms ∧ ms.length = l.length ∧
    ∀ k o i, l[k]? = some o → bitOf ((acc.reverse ++ ms).getD (j + k) 0) i = true → ∃ e ∈ bindsOf o, i = e ∨ (e < j + k ∧ bitOf ((acc.reverse ++ ms).getD e 0) i = true)
  | [], j, acc, h => ⟨[], by simp [masksL], rfl, fun k o i hk => by simp at hk⟩
  | o :: l, j, acc, h => by
    have hun : masksL (o :: l) j acc = masksL l (j + 1) (maskOf acc j (bindsOf o) 0 :: acc) := by
      show fNat _ _ = _
      rw [fNat_eq]
    obtain ⟨ms, h1, h2, h3⟩ := masksL_spec l (j + 1) (maskOf acc j (bindsOf o) 0 :: acc) (by simp [h])
    have he : (maskOf acc j (bindsOf o) 0 :: acc).reverse ++ ms = acc.reverse ++ (maskOf acc j (bindsOf o) 0 :: ms) := by simp
    refine ⟨maskOf acc j (bindsOf o) 0 :: ms, by rw [hun, h1, he], by simp [h2], fun k o' i hk hb => ?_⟩
    rw [he] at h3
    cases k with
    | zero =>
      simp only [List.getElem?_cons_zero, Option.some.injEq] at hk
      subst hk
      have hj : (acc.reverse ++ (maskOf acc j (bindsOf o) 0 :: ms)).getD (j + 0) 0 = maskOf acc j (bindsOf o) 0 := by
        rw [List.getD_eq_getElem?_getD, List.getElem?_append_right (by simp [h])]
        simp [h]
      rw [hj] at hb
      rcases maskOf_bit acc j i _ _ hb with h4 | ⟨e, he1, h4⟩
      · rw [bitOf_eq] at h4; simp at h4
      · refine ⟨e, he1, h4.imp id (fun ⟨h5, h6⟩ => ⟨h5, ?_⟩)⟩
        have : (acc.reverse ++ (maskOf acc j (bindsOf o) 0 :: ms)).getD e 0 = acc.getD (j - 1 - e) 0 := by
          rw [List.getD_eq_getElem?_getD, List.getElem?_append_left (by simp; omega), List.getElem?_reverse (by omega), List.getD_eq_getElem?_getD, h]
        rw [this]; exact h6
    | succ k =>
      have := h3 k o' i (by simpa using hk) (by rw [show j + 1 + k = j + (k + 1) by omega]; exact hb)
      rw [show j + 1 + k = j + (k + 1) by omega] at this
      exact this
theorem masks_closed (ops : Array Oper) : Closed ops (masks ops) := by
  obtain ⟨ms, h1, h2, h3⟩ := masksL_spec ops.toList 0 [] rfl
  intro j o i ho hb
  have hm : masks ops = ms := by unfold masks; rw [h1]; simp
  rw [hm] at hb ⊢
  have := h3 j o i (by rw [Array.getElem?_toList]; exact ho) (by simpa using hb)
  simpa using this

/-- A set of operations, closed under the edges. -/
def Down (ops : Array Oper) (L : Nat → Bool) : Prop := ∀ k o, ops[k]? = some o → L k = true → ∀ e ∈ bindsOf o, L e = true
theorem Down.mask {ops : Array Oper} {L : Nat → Bool} {ms : List Nat} (hc : Closed ops ms) (hd : Down ops L) (hin : ∀ k, L k = true → k < ops.size) :
    ∀ (n j : Nat) (o : Oper) (i : Nat), j < n → ops[j]? = some o → (∀ e ∈ bindsOf o, L e = true) → bitOf (ms.getD j 0) i = true → L i = true
  | 0, j, o, i, hj, _, _, _ => by omega
  | n + 1, j, o, i, hj, ho, hl, hb => by
    obtain ⟨e, he, h⟩ := hc j o i ho hb
    rcases h with rfl | ⟨hlt, h2⟩
    · exact hl _ he
    · have hle := hl e he
      have hes := hin e hle
      exact Down.mask hc hd hin n e ops[e] i (by omega) (Array.getElem?_eq_getElem hes) (hd e _ (Array.getElem?_eq_getElem hes) hle) h2

/-! ### what a region's check says -/
theorem edgesOk_spec : ∀ {l : List Oper} {j : Nat}, edgesOk l j = true → ∀ k o, l[k]? = some o → ∀ e ∈ bindsOf o, e < j + k
  | [], j, h, k, o, hk => by simp at hk
  | x :: l, j, h, k, o, hk => by
    simp only [edgesOk] at h
    split at h
    · rename_i hall
      cases k with
      | zero =>
        simp only [List.getElem?_cons_zero, Option.some.injEq] at hk
        subst hk
        intro e he
        have := List.all_eq_true.1 hall e he
        simp [Nat.blt] at this
        omega
      | succ k =>
        intro e he
        have := edgesOk_spec h k o (by simpa using hk) e he
        omega
    · cases h
theorem pairsOk_spec {ops : Array Oper} {y : Oper} {m : Nat} : ∀ {l : List Oper} {i : Nat}, pairsOk P ops y m l i = true → ∀ k x, l[k]? = some x → bitOf m (i + k) = true ∨ pairOk P ops x y = true
  | [], i, h, k, x, hk => by simp at hk
  | z :: l, i, h, k, x, hk => by
    simp only [pairsOk] at h
    split at h
    · rename_i hz
      cases k with
      | zero =>
        simp only [List.getElem?_cons_zero, Option.some.injEq] at hk
        subst hk
        simpa using hz
      | succ k =>
        have := pairsOk_spec h k x (by simpa using hk)
        rw [show i + (k + 1) = Nat.succ i + k by omega]; exact this
    · cases h
theorem regionOkL_spec {ops : Array Oper} {all : List Oper} : ∀ {l : List Oper} {ms : List Nat} {j : Nat}, regionOkL P ops all l ms j = true → ∀ k o, l[k]? = some o →
    ∀ i x, i < j + k → all[i]? = some x → bitOf (ms.getD k 0) i = true ∨ pairOk P ops x o = true
  | [], ms, j, h, k, o, hk => by simp at hk
  | y :: l, [], j, h, k, o, hk => by simp [regionOkL] at h
  | y :: l, m :: ms, j, h, k, o, hk => by
    simp only [regionOkL] at h
    split at h
    · rename_i hp
      cases k with
      | zero =>
        simp only [List.getElem?_cons_zero, Option.some.injEq] at hk
        subst hk
        intro i x hi hx
        have := pairsOk_spec hp i x (by rw [List.getElem?_take, if_pos (by omega)]; exact hx)
        simpa using this
      | succ k =>
        intro i x hi hx
        have := regionOkL_spec h k o (by simpa using hk) i x (by omega) hx
        simpa using this
    · cases h
theorem memN_iff {x : Nat} : ∀ {l : List Nat}, memN x l = true ↔ x ∈ l
  | [] => by simp [memN]
  | y :: l => by
    simp only [memN, List.mem_cons]
    split
    · rename_i h
      have : x = y := by simpa using h
      simp [this]
    · rename_i h
      have : x ≠ y := by intro e; subst e; simp at h
      rw [memN_iff]; simp [this]
theorem pairOk_spec {ops : Array Oper} {x y : Oper} (h : pairOk P ops x y = true) :
    (∀ d, x.dst = some d → d ∉ looksAt ops y) ∧ (∀ d, y.dst = some d → d ∉ looksAt ops x) ∧ (∀ d, x.dst = some d → y.dst ≠ some d) ∧ (isLoud P x = false ∨ isLoud P y = false) := by
  unfold pairOk at h
  simp only [Bool.and_eq_true, Bool.not_eq_true'] at h
  obtain ⟨⟨⟨h1, h2⟩, h3⟩, h4⟩ := h
  refine ⟨fun d hd hm => ?_, fun d hd hm => ?_, fun d hd hy => ?_, ?_⟩
  · rw [hd] at h1; simp only [touches] at h1; rw [memN_iff.2 hm] at h1; cases h1
  · rw [hd] at h2; simp only [touches] at h2; rw [memN_iff.2 hm] at h2; cases h2
  · rw [hd, hy] at h3; simp [sameDst] at h3
  · cases hx : isLoud P x
    · exact .inl rfl
    · right; rw [hx] at h4; simpa using h4
end Go.Proofs.YtjagjjdkgidkjaaGreatDoor.Ev
set_option linter.all false
namespace Go.Proofs.YtjagjjdkgidkjaaGreatDoor.Ev
open Go Go.RowKit

variable {P : Program} {known : Nat → Bool} {base : Nat} {w0 : World}

/-! ### the run that was made -/
def StepOK (P : Program) (known : Nat → Bool) (call : Rec) (ops : Array Oper) (o : Oper) (α α' : AA) (σ σ' : AS) (v : Option AV) : Prop :=
  (wantedA (lookIn (looksAt ops o) α.look) ops o = true ∧ ∃ x, v = some x ∧ doOp P known call (lookIn (looksAt ops o) α.look) σ o = some (.val x σ') ∧ α.put o.dst x = some α') ∨
  (wantedA (lookIn (looksAt ops o) α.look) ops o = false ∧ v = none ∧ σ' = σ ∧ α.put o.dst (.tuple []) = some α')

theorem runDraw_spec {call : Rec} {ops : Array Oper} : ∀ (l : List Oper) (i : Nat) (α : AA) (σ : AS) (acc : List Done) (α' : AA) (σ' : AS) (ds : List Done), runDraw P known call ops l i α σ acc = some (α', σ', ds) →
    ∃ (A : Nat → AA) (S : Nat → AS) (V : Nat → Option AV), A i = α ∧ S i = σ ∧ A (i + l.length) = α' ∧ S (i + l.length) = σ' ∧
      (∀ k o, l[k]? = some o → StepOK P known call ops o (A (i + k)) (A (i + k + 1)) (S (i + k)) (S (i + k + 1)) (V (i + k))) ∧ (∀ d ∈ acc, d ∈ ds) ∧
      (∀ k, k < l.length → (⟨i + k, A (i + k), S (i + k), S (i + k + 1), V (i + k)⟩ : Done) ∈ ds)
  | [], i, α, σ, acc, α', σ', ds, h => by
    simp only [runDraw, Option.some.injEq, Prod.mk.injEq] at h
    obtain ⟨rfl, rfl, rfl⟩ := h
    exact ⟨fun _ => α, fun _ => σ, fun _ => none, rfl, rfl, rfl, rfl, fun k o hk => by simp at hk, fun d hd => hd, fun k hk => by simp at hk⟩
  | o :: l, i, α, σ, acc, α', σ', ds, h => by
    simp only [runDraw] at h
    rw [bM_iff] at h
    have main : ∀ (v : Option AV) (α1 : AA) (σ1 : AS), StepOK P known call ops o α α1 σ σ1 v → runDraw P known call ops l (Nat.succ i) α1 σ1 (⟨i, α, σ, σ1, v⟩ :: acc) = some (α', σ', ds) →
        ∃ (A : Nat → AA) (S : Nat → AS) (V : Nat → Option AV), A i = α ∧ S i = σ ∧ A (i + (o :: l).length) = α' ∧ S (i + (o :: l).length) = σ' ∧
        (∀ k o', (o :: l)[k]? = some o' → StepOK P known call ops o' (A (i + k)) (A (i + k + 1)) (S (i + k)) (S (i + k + 1)) (V (i + k))) ∧ (∀ d ∈ acc, d ∈ ds) ∧
        (∀ k, k < (o :: l).length → (⟨i + k, A (i + k), S (i + k), S (i + k + 1), V (i + k)⟩ : Done) ∈ ds) := by
      intro v α1 σ1 hst hr
      obtain ⟨A, S, V, a1, a2, a3, a4, a5, a6, a7⟩ := runDraw_spec l (i + 1) α1 σ1 _ α' σ' ds hr
      have hA : ∀ j, i < j → (fun j => if j = i then α else A j) j = A j := fun j hj => by simp; omega
      have hS : ∀ j, i < j → (fun j => if j = i then σ else S j) j = S j := fun j hj => by simp; omega
      have hV : ∀ j, i < j → (fun j => if j = i then v else V j) j = V j := fun j hj => by simp; omega
      have hA0 : (fun j => if j = i then α else A j) i = α := by simp
      have hS0 : (fun j => if j = i then σ else S j) i = σ := by simp
      have hV0 : (fun j => if j = i then v else V j) i = v := by simp
      generalize (fun j => if j = i then α else A j) = A' at *
      generalize (fun j => if j = i then σ else S j) = S' at *
      generalize (fun j => if j = i then v else V j) = V' at *
      refine ⟨A', S', V', hA0, hS0, ?_, ?_, ?_, fun d hd => a6 d (List.mem_cons_of_mem _ hd), ?_⟩
      · rw [hA _ (by simp), List.length_cons, show i + (l.length + 1) = i + 1 + l.length by omega]; exact a3
      · rw [hS _ (by simp), List.length_cons, show i + (l.length + 1) = i + 1 + l.length by omega]; exact a4
      · intro k o' hk
        cases k with
        | zero =>
          simp only [List.getElem?_cons_zero, Option.some.injEq] at hk
          subst hk
          rw [Nat.add_zero, hA0, hS0, hV0, hA _ (by omega), hS _ (by omega), a1, a2]
          exact hst
        | succ k =>
          have := a5 k o' (by simpa using hk)
          rw [hA _ (by omega), hA _ (by omega), hS _ (by omega), hS _ (by omega), hV _ (by omega), show i + (k + 1) = i + 1 + k by omega]
          exact this
      · intro k hk
        cases k with
        | zero =>
          rw [Nat.add_zero, hA0, hS0, hV0, hS _ (by omega), a2]
          exact a6 _ (List.mem_cons_self)
        | succ k =>
          have := a7 k (by simpa using hk)
          rw [hA _ (by omega), hS _ (by omega), hS _ (by omega), hV _ (by omega), show i + (k + 1) = i + 1 + k by omega]
          exact this
    split at h
    · rename_i hw
      rw [oB_iff] at h; obtain ⟨r, hr, h⟩ := h
      cases r with
      | val v σ1 =>
        dsimp only at h
        rw [oB_iff] at h; obtain ⟨α1, hp, h⟩ := h
        exact main (some v) α1 σ1 (.inl ⟨hw, v, rfl, hr, hp⟩) h
      | defer d σ1 => cases h
      | panic ch σ1 => cases h
    · rename_i hw
      rw [oB_iff] at h; obtain ⟨α1, hp, h⟩ := h
      exact main none α1 σ (.inr ⟨by simpa using hw, rfl, rfl, hp⟩) h

mutual
theorem eqAV_eq : ∀ (x y : AV), eqAV x y = true → x = y := by
  intro x y h
  cases x <;> cases y <;> simp only [eqAV, Bool.and_eq_true, beq_iff_eq, Nat.beq_eq] at h <;> first
    | rfl
    | (cases h; done)
    | (obtain rfl := h; rfl)
    | skip
  case int.int k n j m =>
    split at h
    · rename_i hk
      obtain rfl := kindEq_true hk
      rw [eqF_eq] at h
      simp only [decide_eq_true_eq, beq_iff_eq] at h
      rw [h]
    · cases h
  case float.float k n j m =>
    obtain ⟨h1, h2⟩ := h
    simp only [decide_eq_true_eq] at h1
    rw [h1, h2]
  case str.str a b =>
    rw [eqL_eq] at h
    simp only [beq_iff_eq] at h
    rw [h]
  case ptr.ptr a b c d =>
    obtain ⟨rfl, rfl⟩ := h; rfl
  case slice.slice =>
    obtain ⟨⟨⟨⟨⟨rfl, rfl⟩, rfl⟩, rfl⟩, rfl⟩, rfl⟩ := h; rfl
  case func.func f p a g q b =>
    obtain ⟨⟨rfl, h1⟩, h2⟩ := h
    rw [eqAVs_eq p q h1, eqAVs_eq a b h2]
  case iface.iface t a u b =>
    obtain ⟨rfl, h2⟩ := h
    rw [eqAV_eq a b h2]
  case agg.agg a b => rw [eqAVs_eq a b h]
  case tuple.tuple a b => rw [eqAVs_eq a b h]
theorem eqAVs_eq : ∀ (x y : List AV), eqAVs x y = true → x = y := by
  intro x y h
  cases x with
  | nil => cases y with
    | nil => rfl
    | cons => simp [eqAVs] at h
  | cons a x => cases y with
    | nil => simp [eqAVs] at h
    | cons b y =>
      simp only [eqAVs] at h
      split at h
      · rename_i h1
        rw [eqAV_eq a b h1, eqAVs_eq x y h]
      · cases h
end
theorem windowsOk_spec {ops : Array Oper} {ms : List Nat} {all : List Done} : ∀ {ds : List Done}, windowsOk P known ops ms all ds = true → ∀ d ∈ ds, ∀ o f, ops[d.i]? = some o → headOf o.op P = .reads f →
    ∀ e ∈ all, ∀ x, ops[e.i]? = some x → isLoud P x = true → windowOk P known ops ms o d e = true
  | [], h, d, hd => by cases hd
  | c :: ds, h, d, hd => by
    intro o f ho hf e he x hx hl
    simp only [windowsOk] at h
    cases hc : ops[c.i]? with
    | none => rw [hc] at h; cases h
    | some oc =>
      rw [hc] at h
      dsimp only at h
      have rest : windowsOk P known ops ms all ds = true := by
        split at h
        · split at h
          · exact h
          · cases h
        · exact h
      rcases List.mem_cons.1 hd with rfl | hd
      · rw [ho] at hc
        cases hc
        rw [hf] at h
        dsimp only at h
        split at h
        · rename_i hall
          have := List.all_eq_true.1 hall e he
          rw [hx] at this
          simpa [hl] using this
        · cases h
      · exact windowsOk_spec rest d hd o f ho hf e he x hx hl
theorem stays_spec {ops : Array Oper} {o : Oper} {d : Done} {σ : AS} {f : Program → Rho → AS → Option AV} {v : AV} (hf : headOf o.op P = .reads f) (hv : d.v = some v) (h : stays P known ops o d σ = true) :
    f P (opd known (lookIn (looksAt ops o) d.α.look)) σ = some v := by
  unfold stays at h
  rw [hv] at h
  dsimp only at h
  rw [hf] at h
  dsimp only at h
  split at h
  · rename_i u hu
    rw [hu, eqAV_eq v u h]
  · cases h
end Go.Proofs.YtjagjjdkgidkjaaGreatDoor.Ev
set_option linter.all false
namespace Go.Proofs.YtjagjjdkgidkjaaGreatDoor.Ev
open Go Go.RowKit

variable {P : Program} {known : Nat → Bool} {base : Nat} {w0 : World}

theorem put_look {α α' : AA} {dst : Option Nat} {v : AV} (h : α.put dst v = some α') (t : Nat) : α'.look t = (if dst = some t then some v else α.look t) ∧ α'.n = α.n ∧ α'.defers = α.defers := by
  cases dst with
  | none =>
    have : some α = some α' := h
    cases this
    simp
  | some d =>
    have hp' : gB (Nat.blt d α.n) (T.seq (T.set α.tmps d v) fun t => some (AA.mk t α.n α.defers)) = some α' := h
    rw [gB_iff, T.seq_eq] at hp'
    obtain ⟨hlt, hp'⟩ := hp'
    simp only [Option.some.injEq] at hp'
    subst hp'
    refine ⟨?_, rfl, rfl⟩
    show oM (T.get (T.set α.tmps d v) t) _ _ = _
    by_cases e : d = t
    · subst e; rw [T.get_set, if_pos rfl]; rfl
    · rw [T.get_set_ne _ _ (Ne.symm e), if_neg (by simpa using e)]; rfl
theorem put_lt {α α' : AA} {d : Nat} {v : AV} (h : α.put (some d) v = some α') : d < α.n := by
  have hp' : gB (Nat.blt d α.n) (T.seq (T.set α.tmps d v) fun t => some (AA.mk t α.n α.defers)) = some α' := h
  rw [gB_iff] at hp'
  have := hp'.1
  simp [Nat.blt] at this; omega

theorem notLoud_val {call : Rec} {look : Nat → Option AV} {σ σ' : AS} {o : Oper} {v : AV} (hl : isLoud P o = false) (h : doOp P known call look σ o = some (.val v σ')) :
    σ' = σ ∧ ((∃ f, headOf o.op P = .quiet f ∧ f P (opd known look) = some v) ∨ (∃ f, headOf o.op P = .reads f ∧ f P (opd known look) σ = some v)) := by
  unfold doOp at h
  unfold isLoud at hl
  generalize hh : headOf o.op P = hd at h hl
  cases hd with
  | quiet f =>
    have h' : valO (f P (opd known look)) σ = some (.val v σ') := h
    unfold valO at h'
    rw [oB_iff] at h'; obtain ⟨u, hu, h'⟩ := h'
    simp only [Option.some.injEq, AO.val.injEq] at h'
    obtain ⟨rfl, rfl⟩ := h'
    exact ⟨rfl, .inl ⟨f, rfl, hu⟩⟩
  | reads f =>
    have h' : valO (f P (opd known look) σ) σ = some (.val v σ') := h
    unfold valO at h'
    rw [oB_iff] at h'; obtain ⟨u, hu, h'⟩ := h'
    simp only [Option.some.injEq, AO.val.injEq] at h'
    obtain ⟨rfl, rfl⟩ := h'
    exact ⟨rfl, .inr ⟨f, rfl, hu⟩⟩
  | loud f => cases hl
  | off => cases hl
theorem quiet_val {call : Rec} {look : Nat → Option AV} {σ : AS} {o : Oper} {v : AV} {f : Program → Rho → Option AV} (hh : headOf o.op P = .quiet f) (hf : f P (opd known look) = some v) : doOp P known call look σ o = some (.val v σ) := by
  unfold doOp
  rw [hh]
  show valO (f P (opd known look)) σ = _
  rw [hf]; rfl
theorem reads_val {call : Rec} {look : Nat → Option AV} {σ : AS} {o : Oper} {v : AV} {f : Program → Rho → AS → Option AV} (hh : headOf o.op P = .reads f) (hf : f P (opd known look) σ = some v) : doOp P known call look σ o = some (.val v σ) := by
  unfold doOp
  rw [hh]
  show valO (f P (opd known look) σ) σ = _
  rw [hf]; rfl

/-! ### any order -/
def dstAt (ops : Array Oper) (k : Nat) : Option Nat := (ops[k]?).bind (·.dst)
noncomputable def loudAt (P : Program) (ops : Array Oper) (k : Nat) : Bool := match ops[k]? with
  | some o => isLoud P o
  | none => false
/-- What a temporary holds once the operations of a set were done. -/
noncomputable def VA (ops : Array Oper) (A0 : AA) (V : Nat → Option AV) (L : Nat → Bool) (t : Nat) : Nat → Option AV
  | 0 => A0.look t
  | k + 1 => if L k = true ∧ dstAt ops k = some t then some ((V k).getD (.tuple [])) else VA ops A0 V L t k
/-- The heap once the operations of a set were done. -/
noncomputable def SA (P : Program) (ops : Array Oper) (S : Nat → AS) (L : Nat → Bool) : Nat → AS
  | 0 => S 0
  | k + 1 => if L k = true ∧ loudAt P ops k = true then S (k + 1) else SA P ops S L k

structure Draw (P : Program) (known : Nat → Bool) (call : Rec) (ops : Array Oper) (ms : List Nat) (A : Nat → AA) (S : Nat → AS) (V : Nat → Option AV) : Prop where
  step : ∀ k o, ops[k]? = some o → StepOK P known call ops o (A k) (A (k + 1)) (S k) (S (k + 1)) (V k)
  pairs : ∀ i j x o, i < j → ops[i]? = some x → ops[j]? = some o → bitOf (ms.getD j 0) i = true ∨ pairOk P ops x o = true
  closed : Closed ops ms
  edges : ∀ j o, ops[j]? = some o → ∀ e ∈ bindsOf o, e < j
  win : ∀ j o f v, ops[j]? = some o → headOf o.op P = .reads f → V j = some v → ∀ g x, ops[g]? = some x → isLoud P x = true →
    (j < g → bitOf (ms.getD g 0) j = true ∨ f P (opd known (lookIn (looksAt ops o) (A j).look)) (S (g + 1)) = some v) ∧
    (g < j → bitOf (ms.getD j 0) g = true ∨ f P (opd known (lookIn (looksAt ops o) (A j).look)) (S g) = some v)

section
variable {call : Rec} {ops : Array Oper} {ms : List Nat} {A : Nat → AA} {S : Nat → AS} {V : Nat → Option AV}

theorem Draw.stepLook (D : Draw P known call ops ms A S V) {k : Nat} {o : Oper} (ho : ops[k]? = some o) (t : Nat) :
    (A (k + 1)).look t = (if dstAt ops k = some t then some ((V k).getD (.tuple [])) else (A k).look t) ∧ (A (k + 1)).n = (A k).n ∧ (A (k + 1)).defers = (A k).defers := by
  have hd : dstAt ops k = o.dst := by simp [dstAt, ho]
  rw [hd]
  rcases D.step k o ho with ⟨_, x, hv, _, hp⟩ | ⟨_, hv, _, hp⟩
  · rw [hv]; exact put_look hp t
  · rw [hv]; exact put_look hp t
theorem Draw.stepHeap (D : Draw P known call ops ms A S V) {k : Nat} {o : Oper} (ho : ops[k]? = some o) (hl : isLoud P o = false) : S (k + 1) = S k := by
  rcases D.step k o ho with ⟨_, x, hv, hd, hp⟩ | ⟨_, hv, hs, hp⟩
  · exact (notLoud_val hl hd).1
  · exact hs
theorem Draw.same (D : Draw P known call ops ms A S V) : ∀ k, k ≤ ops.size → (A k).n = (A 0).n ∧ (A k).defers = (A 0).defers
  | 0, _ => ⟨rfl, rfl⟩
  | k + 1, h => by
    have hlt : k < ops.size := by omega
    obtain ⟨_, h1, h2⟩ := D.stepLook (Array.getElem?_eq_getElem hlt) 0
    obtain ⟨h3, h4⟩ := D.same k (by omega)
    exact ⟨h1.trans h3, h2.trans h4⟩
theorem Draw.VA_all (D : Draw P known call ops ms A S V) {L : Nat → Bool} (hL : ∀ k, k < ops.size → L k = true) (t : Nat) : ∀ k, k ≤ ops.size → VA ops (A 0) V L t k = (A k).look t
  | 0, _ => rfl
  | k + 1, h => by
    have hlt : k < ops.size := by omega
    rw [(D.stepLook (Array.getElem?_eq_getElem hlt) t).1]
    simp only [VA, hL k hlt, true_and]
    rw [D.VA_all hL t k (by omega)]
theorem Draw.SA_all (D : Draw P known call ops ms A S V) {L : Nat → Bool} (hL : ∀ k, k < ops.size → L k = true) : ∀ k, k ≤ ops.size → SA P ops S L k = S k
  | 0, _ => rfl
  | k + 1, h => by
    have hlt : k < ops.size := by omega
    simp only [SA, hL k hlt, true_and, D.SA_all hL k (by omega)]
    by_cases hl : loudAt P ops k = true
    · rw [if_pos hl]
    · rw [if_neg hl]
      have : isLoud P ops[k] = false := by simpa [loudAt, Array.getElem?_eq_getElem hlt] using hl
      exact (D.stepHeap (Array.getElem?_eq_getElem hlt) this).symm

/-- j may be done now. -/
structure Ready (ops : Array Oper) (L : Nat → Bool) (j : Nat) (o : Oper) : Prop where
  op : ops[j]? = some o
  out : L j = false
  edges : ∀ e ∈ bindsOf o, L e = true
  down : Down ops L
  inside : ∀ k, L k = true → k < ops.size

variable {L : Nat → Bool} {j : Nat} {o : Oper}

theorem Ready.to (R : Ready ops L j o) (D : Draw P known call ops ms A S V) {i : Nat} (h : bitOf (ms.getD j 0) i = true) : L i = true :=
  Down.mask D.closed R.down R.inside (j + 1) j o i (by omega) R.op R.edges h
theorem Ready.from (R : Ready ops L j o) (D : Draw P known call ops ms A S V) {k : Nat} (hk : L k = true) (h : bitOf (ms.getD k 0) j = true) : False := by
  have hlt := R.inside k hk
  have := Down.mask D.closed R.down R.inside (k + 1) k ops[k] j (by omega) (Array.getElem?_eq_getElem hlt) (R.down k _ (Array.getElem?_eq_getElem hlt) hk) h
  rw [R.out] at this; cases this
theorem Ready.lt (R : Ready ops L j o) : j < ops.size := (Array.getElem?_eq_some_iff.1 R.op).1

theorem Ready.VA_low (R : Ready ops L j o) (D : Draw P known call ops ms A S V) {t : Nat} (ht : t ∈ looksAt ops o) : ∀ k, k ≤ j → VA ops (A 0) V L t k = (A k).look t
  | 0, _ => rfl
  | k + 1, h => by
    have hj := R.lt
    have hlt : k < ops.size := by omega
    have hk := Array.getElem?_eq_getElem hlt
    rw [(D.stepLook hk t).1]
    simp only [VA]
    by_cases hd : dstAt ops k = some t
    · have hL : L k = true := by
        rcases D.pairs k j _ o (by omega) hk R.op with h1 | h1
        · exact R.to D h1
        · have hd' : ops[k].dst = some t := by simpa [dstAt, hk] using hd
          exact absurd ht ((pairOk_spec h1).1 t hd')
      simp [hL, hd]
    · simp only [hd, and_false, if_false]
      exact R.VA_low D ht k (by omega)
theorem Ready.VA_high (R : Ready ops L j o) (D : Draw P known call ops ms A S V) {t : Nat} (ht : t ∈ looksAt ops o) : ∀ k, j ≤ k → k ≤ ops.size → VA ops (A 0) V L t k = (A j).look t
  | 0, h, _ => by
    have : j = 0 := by omega
    subst this
    exact R.VA_low D ht 0 (Nat.le_refl 0)
  | k + 1, h, hn => by
    by_cases e : j = k + 1
    · subst e; exact R.VA_low D ht _ (Nat.le_refl _)
    · have hlt : k < ops.size := by omega
      have hk := Array.getElem?_eq_getElem hlt
      simp only [VA]
      rw [if_neg]
      · exact R.VA_high D ht k (by omega) (by omega)
      · rintro ⟨hL, hd⟩
        have hd' : ops[k].dst = some t := by simpa [dstAt, hk] using hd
        by_cases e2 : j = k
        · subst e2; rw [R.out] at hL; cases hL
        · rcases D.pairs j k o _ (by omega) R.op hk with h1 | h1
          · exact R.from D hL h1
          · exact (pairOk_spec h1).2.1 t hd' ht

theorem Ready.SA_loud (R : Ready ops L j o) (D : Draw P known call ops ms A S V) (hl : isLoud P o = true) : ∀ k, k ≤ j → SA P ops S L k = S k
  | 0, _ => rfl
  | k + 1, h => by
    have hj := R.lt
    have hlt : k < ops.size := by omega
    have hk := Array.getElem?_eq_getElem hlt
    simp only [SA, R.SA_loud D hl k (by omega)]
    by_cases hd : isLoud P ops[k] = true
    · have hL : L k = true := by
        rcases D.pairs k j _ o (by omega) hk R.op with h1 | h1
        · exact R.to D h1
        · rcases (pairOk_spec h1).2.2.2 with h2 | h2
          · rw [h2] at hd; cases hd
          · rw [h2] at hl; cases hl
      rw [if_pos ⟨hL, by simpa [loudAt, hk] using hd⟩]
    · rw [if_neg (fun h => hd (by simpa [loudAt, hk] using h.2)), D.stepHeap hk (by simpa using hd)]
theorem Ready.SA_after (R : Ready ops L j o) (D : Draw P known call ops ms A S V) (hl : isLoud P o = true) : ∀ k, j ≤ k → k ≤ ops.size → SA P ops S L k = S j
  | 0, h, _ => by
    have : j = 0 := by omega
    subst this; rfl
  | k + 1, h, hn => by
    by_cases e : j = k + 1
    · subst e; exact R.SA_loud D hl _ (Nat.le_refl _)
    · have hlt : k < ops.size := by omega
      have hk := Array.getElem?_eq_getElem hlt
      simp only [SA]
      rw [if_neg]
      · exact R.SA_after D hl k (by omega) (by omega)
      · rintro ⟨hL, hd⟩
        have hd' : isLoud P ops[k] = true := by simpa [loudAt, hk] using hd
        by_cases e2 : j = k
        · subst e2; rw [R.out] at hL; cases hL
        · rcases D.pairs j k o _ (by omega) R.op hk with h1 | h1
          · exact R.from D hL h1
          · rcases (pairOk_spec h1).2.2.2 with h2 | h2
            · rw [h2] at hl; cases hl
            · rw [h2] at hd'; cases hd'
/-- A set's heap, up to k: that of the whole run, or the one ahead of a loud operation that is not in the set. -/
theorem Draw.SA_some (D : Draw P known call ops ms A S V) (hd : Down ops L) (hin : ∀ k, L k = true → k < ops.size) : ∀ k, k ≤ ops.size → SA P ops S L k = S k ∨ ∃ g x, g < k ∧ ops[g]? = some x ∧ isLoud P x = true ∧ L g = false ∧ SA P ops S L k = S g
  | 0, _ => .inl rfl
  | k + 1, h => by
    have hlt : k < ops.size := by omega
    have hk := Array.getElem?_eq_getElem hlt
    have hla : loudAt P ops k = isLoud P ops[k] := by simp [loudAt, hk]
    simp only [SA, hla]
    rcases D.SA_some hd hin k (by omega) with h1 | ⟨g, x, g1, g2, g3, g4, g5⟩
    · by_cases hl : isLoud P ops[k] = true
      · cases hL : L k with
        | true => left; simp [hl]
        | false => right; exact ⟨k, _, by omega, hk, hl, hL, by simp [h1]⟩
      · left
        rw [if_neg (fun h => hl h.2), h1, D.stepHeap hk (by simpa using hl)]
    · right
      refine ⟨g, x, by omega, g2, g3, g4, ?_⟩
      rw [if_neg]
      · exact g5
      · rintro ⟨hL, hl⟩
        rcases D.pairs g k x _ g1 g2 hk with h2 | h2
        · have := Down.mask D.closed hd hin (k + 1) k ops[k] g (by omega) hk (hd k _ hk hL) h2
          rw [g4] at this; cases this
        · rcases (pairOk_spec h2).2.2.2 with h3 | h3
          · rw [h3] at g3; cases g3
          · rw [h3] at hl; cases hl
theorem Ready.reads (R : Ready ops L j o) (D : Draw P known call ops ms A S V) {f : Program → Rho → AS → Option AV} {v : AV} (hf : headOf o.op P = .reads f) (hv : V j = some v)
    (h0 : f P (opd known (lookIn (looksAt ops o) (A j).look)) (S j) = some v) : ∀ k, j ≤ k → k ≤ ops.size → f P (opd known (lookIn (looksAt ops o) (A j).look)) (SA P ops S L k) = some v := by
  have hnl : isLoud P o = false := by simp [isLoud, hf]
  have low : f P (opd known (lookIn (looksAt ops o) (A j).look)) (SA P ops S L j) = some v := by
    rcases D.SA_some R.down R.inside j (Nat.le_of_lt R.lt) with h1 | ⟨g, x, g1, g2, g3, g4, g5⟩
    · rw [h1]; exact h0
    · rw [g5]
      rcases (D.win j o f v R.op hf hv g x g2 g3).2 g1 with h2 | h2
      · have := R.to D h2
        rw [g4] at this; cases this
      · exact h2
  intro k
  induction k with
  | zero =>
    intro h _
    have : j = 0 := by omega
    subst this; exact low
  | succ k ih =>
    intro h hn
    by_cases e : j = k + 1
    · subst e; exact low
    · have hlt : k < ops.size := by omega
      have hk := Array.getElem?_eq_getElem hlt
      simp only [SA]
      split
      · rename_i hc
        obtain ⟨hL, hd⟩ := hc
        have hd' : isLoud P ops[k] = true := by simpa [loudAt, hk] using hd
        have hne : j ≠ k := by intro e2; subst e2; rw [R.out] at hL; cases hL
        rcases (D.win j o f v R.op hf hv k _ hk hd').1 (by omega) with h1 | h1
        · exact (R.from D hL h1).elim
        · exact h1
      · exact ih (by omega) (by omega)

theorem Ready.VA_set (R : Ready ops L j o) (D : Draw P known call ops ms A S V) {L' : Nat → Bool} (hL' : ∀ k, L' k = if k = j then true else L k) (t : Nat) : ∀ k, k ≤ ops.size →
    VA ops (A 0) V L' t k = if j < k ∧ dstAt ops j = some t then some ((V j).getD (.tuple [])) else VA ops (A 0) V L t k
  | 0, _ => by simp [VA]
  | k + 1, h => by
    have hlt : k < ops.size := by omega
    have hk := Array.getElem?_eq_getElem hlt
    simp only [VA, R.VA_set D hL' t k (by omega), hL' k]
    by_cases e : k = j
    · subst e
      by_cases hd : dstAt ops k = some t
      · simp [hd]
      · simp [hd]
    · rw [if_neg e]
      by_cases hd : dstAt ops j = some t
      · by_cases hjk : j < k
        · have hnot : ¬ (L k = true ∧ dstAt ops k = some t) := by
            rintro ⟨hL, hdk⟩
            rcases D.pairs j k o _ hjk R.op hk with h1 | h1
            · exact R.from D hL h1
            · have h2 : o.dst = some t := by simpa [dstAt, R.op] using hd
              have h3 : ops[k].dst = some t := by simpa [dstAt, hk] using hdk
              exact (pairOk_spec h1).2.2.1 t h2 h3
          rw [if_neg hnot, if_pos ⟨hjk, hd⟩, if_pos ⟨by omega, hd⟩]
        · have h1 : ¬ j < k + 1 := by omega
          simp [hjk, h1]
      · simp [hd]
theorem Ready.SA_set (R : Ready ops L j o) (D : Draw P known call ops ms A S V) {L' : Nat → Bool} (hL' : ∀ k, L' k = if k = j then true else L k) : ∀ k, k ≤ ops.size →
    SA P ops S L' k = if j < k ∧ isLoud P o = true then S (j + 1) else SA P ops S L k
  | 0, _ => by simp [SA]
  | k + 1, h => by
    have hlt : k < ops.size := by omega
    have hk := Array.getElem?_eq_getElem hlt
    have hla : loudAt P ops k = isLoud P ops[k] := by simp [loudAt, hk]
    simp only [SA, R.SA_set D hL' k (by omega), hL' k, hla]
    by_cases e : k = j
    · subst e
      have ho : ops[k] = o := by have := R.op; rw [hk] at this; simpa using this
      rw [ho]
      cases isLoud P o <;> simp [R.out]
    · rw [if_neg e]
      by_cases hl : isLoud P o = true
      · by_cases hjk : j < k
        · have hnot : ¬ (L k = true ∧ isLoud P ops[k] = true) := by
            rintro ⟨hL, hlk⟩
            rcases D.pairs j k o _ hjk R.op hk with h1 | h1
            · exact R.from D hL h1
            · rcases (pairOk_spec h1).2.2.2 with h2 | h2
              · rw [h2] at hl; cases hl
              · rw [h2] at hlk; cases hlk
          rw [if_neg hnot, if_pos ⟨hjk, hl⟩, if_pos ⟨by omega, hl⟩]
        · have h1 : ¬ j < k + 1 := by omega
          simp [hjk, h1]
      · simp [hl]
end
end Go.Proofs.YtjagjjdkgidkjaaGreatDoor.Ev
set_option linter.all false
namespace Go.Proofs.YtjagjjdkgidkjaaGreatDoor.Ev
open Go Go.RowKit

variable {P : Program} {known : Nat → Bool} {base : Nat} {w0 : World}
variable {call : Rec} {ops : Array Oper} {ms : List Nat} {A : Nat → AA} {S : Nat → AS} {V : Nat → Option AV}

/-- How many are not listed. -/
def left (listed : Array Bool) : Nat → Nat
  | 0 => 0
  | k + 1 => (if listed.getD k true = false then 1 else 0) + left listed k
theorem left_zero {listed : Array Bool} : ∀ {n : Nat}, left listed n = 0 → ∀ k, k < n → listed.getD k true = true
  | 0, _, k, hk => by omega
  | n + 1, h, k, hk => by
    simp only [left] at h
    by_cases e : k = n
    · subst e
      cases hb : listed.getD k true with
      | true => rfl
      | false => rw [hb] at h; simp at h
    · exact left_zero (n := n) (by omega) k (by omega)
theorem left_set {listed : Array Bool} {j : Nat} (hj : listed.getD j true = false) : ∀ n, left (listed.setIfInBounds j true) n + (if j < n then 1 else 0) = left listed n
  | 0 => by simp [left]
  | n + 1 => by
    have ih := left_set hj n
    have hlt : j < listed.size := by
      rcases Nat.lt_or_ge j listed.size with h | h
      · exact h
      · simp [Array.getElem?_eq_none h] at hj
    simp only [left]
    by_cases e : j = n
    · subst e
      have h1 : (listed.setIfInBounds j true).getD j true = true := by simp
      rw [h1, hj]
      simp at ih ⊢
      omega
    · have h1 : (listed.setIfInBounds j true).getD n true = listed.getD n true := getD_set_ne true e
      rw [h1]
      by_cases h2 : j < n
      · have h3 : j < n + 1 := by omega
        simp only [h2, if_true] at ih; simp only [h3, if_true]; omega
      · have h3 : ¬ j < n + 1 := by omega
        simp only [h2, if_false] at ih; simp only [h3, if_false]; omega
theorem left_all (n : Nat) : ∀ k, k ≤ n → left (Array.replicate n false) k = k
  | 0, _ => rfl
  | k + 1, h => by
    have : (Array.replicate n false).getD k true = false := by simp [show k < n by omega]
    simp only [left, this, if_true, left_all n k (by omega)]
    omega

theorem rho_of {π : Pi} {σ : AS} {w : World} (hH : HR known base w0 π σ w) {look : Nat → Option AV} {a : Act} (hl : ∀ t v, look t = some v → VR π v (a.tmps.getD t undef)) : RhoR π (opd known look) a.eval := by
  intro x v hx
  cases x with
  | tmp t => exact hl t v hx
  | const c => exact ofValue_rel hx
  | global g =>
    have hx' : gB (known g) (some (AV.ptr g 0)) = some v := hx
    rw [gB_iff] at hx'
    obtain ⟨hk, hx'⟩ := hx'
    simp only [Option.some.injEq] at hx'
    subst hx'
    obtain ⟨rs, hr⟩ := hH.glob g hk
    simp only [VR]
    exact ⟨g, 0, rs, hr, rfl⟩
  | func f =>
    have hx' : some (AV.func f [] []) = some v := hx
    simp only [Option.some.injEq] at hx'
    subst hx'
    simp only [VR]
    exact ⟨[], [], rfl, VRL.nil, VRL.nil⟩

structure Inv (known : Nat → Bool) (base : Nat) (w0 : World) (P : Program) (ops : Array Oper) (A : Nat → AA) (S : Nat → AS) (V : Nat → Option AV) (π0 π : Pi) (listed : Array Bool) (a : Act) (w : World) : Prop where
  size : listed.size = ops.size
  down : Down ops (fun k => listed.getD k false)
  le : π0.le π
  heap : HR known base w0 π (SA P ops S (fun k => listed.getD k false) ops.size) w
  tmps : a.tmps.size = (A 0).n
  defers : DL π (A 0).defers a.defers
  look : ∀ t, ∃ v, VA ops (A 0) V (fun k => listed.getD k false) t ops.size = some v ∧ VR π v (a.tmps.getD t undef)

theorem mem_binds {o : Oper} {e : Nat} : e ∈ bindsOf o ↔ ∃ x ∈ o.after, Region.binds .any x = true ∧ x.on = e := by
  unfold bindsOf
  simp only [List.mem_map, List.mem_filter, Array.mem_toList_iff]
  constructor
  · rintro ⟨x, ⟨h1, h2⟩, h3⟩; exact ⟨x, h1, h2, h3⟩
  · rintro ⟨x, h1, h2, h3⟩; exact ⟨x, ⟨h1, h2⟩, h3⟩

theorem Inv.end (D : Draw P known call ops ms A S V) {π0 π : Pi} {listed : Array Bool} {a : Act} {w : World} (I : Inv known base w0 P ops A S V π0 π listed a w) (hr : Region.ready .any ops listed = []) :
    ExitR known base w0 π0 .normal (A ops.size) (S ops.size) .normal a w := by
  have hall : ∀ k, k < ops.size → listed.getD k false = true := by
    intro k
    induction k using Nat.strongRecOn with
    | _ k ih =>
      intro hk
      cases hb : listed.getD k false with
      | true => rfl
      | false =>
        have hmem : k ∈ Region.ready .any ops listed := by
          rw [mem_ready]
          have hlt : k < listed.size := by rw [I.size]; exact hk
          refine ⟨by simpa [hlt] using hb, ops[k], Array.getElem?_eq_getElem hk, fun e he hbnd => ?_⟩
          have hlt2 := D.edges k _ (Array.getElem?_eq_getElem hk) e.on (mem_binds.2 ⟨e, he, hbnd, rfl⟩)
          exact ih e.on hlt2 (by omega)
        rw [hr] at hmem; cases hmem
  have hh := I.heap
  rw [D.SA_all hall _ (Nat.le_refl _)] at hh
  obtain ⟨h1, h2⟩ := D.same ops.size (Nat.le_refl _)
  refine ⟨π, I.le, hh, ⟨by rw [I.tmps, h1], fun t => ?_, by rw [h2]; exact I.defers⟩, rfl⟩
  obtain ⟨v, hv, hr⟩ := I.look t
  rw [D.VA_all hall t _ (Nat.le_refl _)] at hv
  exact ⟨v, hv, hr⟩

theorem draw_wp (hc : CallOK P known base w0 call) {rd : Option Nat} (hrd : rd ≠ none → ∀ (i : Nat) (o : Oper), ops[i]? = some o → ∀ c, o.op ≠ .defer c) (D : Draw P known call ops ms A S V) {π0 : Pi} : ∀ (fuel : Nat) (listed : Array Bool) (a : Act) (w : World) (π : Pi), left listed ops.size = fuel →
    Inv known base w0 P ops A S V π0 π listed a w → wpAnyIn (FF rd) 0 P .any ops (ExitR known base w0 π0 .normal (A ops.size) (S ops.size)) fuel listed a w
  | 0, listed, a, w, π, hf, I => by
    have hr : Region.ready .any ops listed = [] := by
      cases hr : Region.ready .any ops listed with
      | nil => rfl
      | cons j l =>
        have hj : j ∈ Region.ready .any ops listed := by rw [hr]; exact List.mem_cons_self
        obtain ⟨h1, o, ho, _⟩ := mem_ready.1 hj
        have := left_zero hf j (Array.getElem?_eq_some_iff.1 ho).1
        rw [this] at h1; cases h1
    exact ⟨hr, I.end D hr⟩
  | fuel + 1, listed, a, w, π, hf, I => by
    refine ⟨fun hr => I.end D hr, fun j hj => ?_⟩
    obtain ⟨h1, o, ho, hedges⟩ := mem_ready.1 hj
    have hjlt : j < ops.size := (Array.getElem?_eq_some_iff.1 ho).1
    have hjl : j < listed.size := by rw [I.size]; exact hjlt
    have R : Ready ops (fun k => listed.getD k false) j o := by
      refine ⟨ho, by simpa [hjl] using h1, fun e he => ?_, I.down, fun k hk => ?_⟩
      · obtain ⟨x, hx, hb, rfl⟩ := mem_binds.1 he
        exact hedges x hx hb
      · rcases Nat.lt_or_ge k listed.size with h | h
        · rw [← I.size]; exact h
        · simp [Array.getElem?_eq_none h] at hk
    -- what the operands hold
    have hlook : ∀ t, t ∈ looksAt ops o → ∃ v, (A j).look t = some v ∧ VR π v (a.tmps.getD t undef) := by
      intro t ht
      obtain ⟨v, hv, hr⟩ := I.look t
      rw [R.VA_high D ht _ (Nat.le_of_lt hjlt) (Nat.le_refl _)] at hv
      exact ⟨v, hv, hr⟩
    have hin : ∀ t v, lookIn (looksAt ops o) (A j).look t = some v → VR π v (a.tmps.getD t undef) := by
      intro t v h
      unfold lookIn at h
      split at h
      · rename_i hm
        obtain ⟨u, hu, hr⟩ := hlook t (memN_iff.1 hm)
        rw [hu] at h; cases h
        exact hr
      · cases h
    have hρ : RhoR π (opd known (lookIn (looksAt ops o) (A j).look)) a.eval := rho_of I.heap hin
    have hw : wantedA (lookIn (looksAt ops o) (A j).look) ops o = Region.wanted o (yielded ops a.tmps) := by
      refine wanted_eq' (π := π) ops o (fun g want d hg hd => ?_)
      have hm : d ∈ looksAt ops o := by
        unfold looksAt
        rw [List.mem_append]
        right
        rw [hg]
        simp only []
        rw [hd]
        exact List.mem_singleton.2 rfl
      obtain ⟨v, hv, hr⟩ := hlook d hm
      refine ⟨v, ?_, hr⟩
      unfold lookIn
      rw [memN_iff.2 hm]
      exact hv
    -- the set with j in it
    have hL' : ∀ k, (fun k => (listed.setIfInBounds j true).getD k false) k = if k = j then true else listed.getD k false := by
      intro k
      by_cases e : k = j
      · subst e; simp [hjl]
      · rw [if_neg e]; exact getD_set_ne false (Ne.symm e)
    have hdown : Down ops (fun k => (listed.setIfInBounds j true).getD k false) := by
      intro k ok hk hin' e he
      rw [hL' k] at hin'
      by_cases e1 : k = j
      · subst e1
        rw [ho] at hk; cases hk
        have := R.edges e he
        exact getD_set_true this
      · rw [if_neg e1] at hin'
        exact getD_set_true (I.down k ok hk hin' e he)
    have hleft : left (listed.setIfInBounds j true) ops.size = fuel := by
      have := left_set h1 ops.size
      rw [if_pos hjlt] at this
      omega
    have hnext : ∀ (π' : Pi) (w' : World) (v : AV) (u : Value), V j = some v ∨ (V j = none ∧ v = .tuple []) → π.le π' → VR π' v u → HR known base w0 π' (SA P ops S (fun k => (listed.setIfInBounds j true).getD k false) ops.size) w' →
        wpAnyIn (FF rd) 0 P .any ops (ExitR known base w0 π0 .normal (A ops.size) (S ops.size)) fuel (listed.setIfInBounds j true) (a.put o.dst u) w' := by
      intro π' w' v u hv hle hu hH'
      refine draw_wp hc hrd D fuel _ _ _ π' hleft ⟨by simpa using I.size, hdown, Pi.le_trans I.le hle, hH', ?_, ?_, fun t => ?_⟩
      · rw [← I.tmps]; cases o.dst <;> simp [Act.put]
      · have : (a.put o.dst u).defers = a.defers := by cases o.dst <;> rfl
        rw [this]; exact I.defers.mono hle
      · have hd : dstAt ops j = o.dst := by simp [dstAt, ho]
        have hV : (V j).getD (.tuple []) = v := by
          rcases hv with h | ⟨h, rfl⟩ <;> rw [h] <;> rfl
        rw [R.VA_set D hL' t _ (Nat.le_refl _), hd, hV]
        by_cases e : o.dst = some t
        · rw [if_pos ⟨hjlt, e⟩]
          refine ⟨v, rfl, ?_⟩
          have hlt : t < a.tmps.size := by
            rw [I.tmps, ← (D.same j (Nat.le_of_lt hjlt)).1]
            rcases D.step j o ho with ⟨_, x, _, _, hp⟩ | ⟨_, _, _, hp⟩
            · rw [e] at hp; exact put_lt hp
            · rw [e] at hp; exact put_lt hp
          rw [e]
          simpa [Act.put, hlt] using hu
        · rw [if_neg (fun h => e h.2)]
          obtain ⟨v', h1, h2⟩ := I.look t
          refine ⟨v', h1, ?_⟩
          have : (a.put o.dst u).tmps.getD t undef = a.tmps.getD t undef := by
            cases hd2 : o.dst with
            | none => rfl
            | some d =>
              have hne : d ≠ t := fun h => e (by rw [hd2, h])
              simp [Act.put, Array.getElem?_setIfInBounds_ne hne]
          rw [this]; exact VR.mono hle _ _ h2
    unfold wpOpIn
    simp only [ho]
    have hSset := R.SA_set D hL' ops.size (Nat.le_refl _)
    rcases D.step j o ho with ⟨hwt, v, hv, hdo, hp⟩ | ⟨hwt, hv, hs, hp⟩
    · rw [hw] at hwt
      rw [if_pos hwt]
      have hdo' : doOp P known call (lookIn (looksAt ops o) (A j).look) (SA P ops S (fun k => listed.getD k false) ops.size) o =
          some (.val v (SA P ops S (fun k => (listed.setIfInBounds j true).getD k false) ops.size)) := by
        rw [hSset]
        cases hl : isLoud P o with
        | true =>
          rw [if_pos ⟨hjlt, rfl⟩, R.SA_after D hl _ (Nat.le_of_lt hjlt) (Nat.le_refl _)]
          exact hdo
        | false =>
          rw [if_neg (fun h => by cases h.2)]
          rcases (notLoud_val hl hdo).2 with ⟨f, hf, hfv⟩ | ⟨f, hf, hfv⟩
          · exact quiet_val hf hfv
          · exact reads_val hf (R.reads D hf hv hfv _ (Nat.le_of_lt hjlt) (Nat.le_refl _))
      refine doOp_sound hc I.heap hρ hdo' ?_ (fun h => hrd h j o ho)
      intro π' w' u hle hH' hu
      exact hnext π' w' v u (.inl hv) hle hu hH'
    · rw [hw] at hwt
      rw [if_neg (by rw [hwt]; simp)]
      refine ⟨fun _ _ => trivial, ?_⟩
      refine hnext π w (.tuple []) undef (.inr ⟨hv, rfl⟩) (Pi.le_refl π) (by simp only [VR]; exact ⟨[], rfl, VRL.nil⟩) ?_
      rw [hSset]
      cases hl : isLoud P o with
      | true =>
        rw [if_pos ⟨hjlt, rfl⟩, hs, ← R.SA_after D hl _ (Nat.le_of_lt hjlt) (Nat.le_refl _)]
        exact I.heap
      | false =>
        rw [if_neg (fun h => by cases h.2)]
        exact I.heap

theorem drawRegion_sound (hm : P.follows .mixedOrders = true) {call : Rec} (hc : CallOK P known base w0 call) {ops : Array Oper} {rd : Option Nat} (hrd : rd ≠ none → ∀ (i : Nat) (o : Oper), ops[i]? = some o → ∀ c, o.op ≠ .defer c) {id : Nat} {π0 π : Pi} {σ : AS} {w : World} {α : AA} {a : Act} {x : AX} {α' : AA} {σ' : AS}
    (h0 : π0.le π) (hH : HR known base w0 π σ w) (hA : ActR π α a) (h : drawRegion P known call ops α σ = some (x, α', σ')) : (Code.region id ops true).wpIn (FF rd) 0 P (ExitR known base w0 π0 x α' σ') a w := by
  unfold drawRegion at h
  split at h
  · rename_i hreg
    cases hrun : runDraw P known call ops ops.toList 0 α σ [] with
    | none => rw [hrun] at h; cases h
    | some r =>
      obtain ⟨α1, σ1, ds⟩ := r
      rw [hrun] at h
      dsimp only at h
      split at h
      · rename_i hwin
        simp only [Option.some.injEq, Prod.mk.injEq] at h
        obtain ⟨rfl, rfl, rfl⟩ := h
        obtain ⟨A, S, V, a1, a2, a3, a4, a5, a6, a7⟩ := runDraw_spec ops.toList 0 α σ [] _ _ ds hrun
        simp only [Nat.zero_add, Array.length_toList] at a3 a4 a5 a7
        unfold regionOk at hreg
        simp only [Bool.and_eq_true] at hreg
        have D : Draw P known call ops (masks ops) A S V := by
          refine ⟨fun k o hk => a5 k o (by rw [Array.getElem?_toList]; exact hk), fun i j y o hij hi hj => ?_, masks_closed ops, fun j o hj e he => ?_, fun j o f v hj hf hv g y hg hl => ?_⟩
          · exact regionOkL_spec hreg.2 j o (by rw [Array.getElem?_toList]; exact hj) i y (by omega) (by rw [Array.getElem?_toList]; exact hi)
          · have := edgesOk_spec hreg.1 j o (by rw [Array.getElem?_toList]; exact hj) e he
            omega
          · have hjlt : j < ops.size := (Array.getElem?_eq_some_iff.1 hj).1
            have hglt : g < ops.size := (Array.getElem?_eq_some_iff.1 hg).1
            have hw := windowsOk_spec hwin _ (a7 j hjlt) o f hj hf _ (a7 g hglt) y hg hl
            unfold windowOk at hw
            dsimp only at hw
            constructor
            · intro hlt
              have : Nat.blt j g = true := by simp [Nat.blt]; omega
              rw [this] at hw
              simp only [Bool.or_eq_true] at hw
              exact hw.imp (fun h => h) (fun h => stays_spec (d := ⟨j, A j, S j, S (j + 1), V j⟩) hf hv h)
            · intro hlt
              have : Nat.blt j g = false := by
                cases hb : Nat.blt j g with
                | false => rfl
                | true => simp [Nat.blt] at hb; omega
              rw [this] at hw
              simp only [Bool.or_eq_true] at hw
              exact hw.imp (fun h => h) (fun h => stays_spec (d := ⟨j, A j, S j, S (j + 1), V j⟩) hf hv h)
        have hd0 : ∀ k, (fun k => (Array.replicate ops.size false).getD k false) k = false := by
          intro k
          by_cases hk : k < ops.size
          · simp [hk]
          · simp [hk]
        have hVA : ∀ t n, VA ops (A 0) V (fun k => (Array.replicate ops.size false).getD k false) t n = (A 0).look t := by
          intro t n
          induction n with
          | zero => rfl
          | succ n ih => simp only [VA]; rw [if_neg (fun h => by have h2 := hd0 n; dsimp only at h2; rw [h2] at h; cases h.1), ih]
        have hSA : ∀ n, SA P ops S (fun k => (Array.replicate ops.size false).getD k false) n = S 0 := by
          intro n
          induction n with
          | zero => rfl
          | succ n ih => simp only [SA]; rw [if_neg (fun h => by have h2 := hd0 n; dsimp only at h2; rw [h2] at h; cases h.1), ih]
        apply wpIn_region_any hm
        rw [← a3, ← a4]
        refine draw_wp hc hrd D ops.size _ _ _ π (left_all _ _ (Nat.le_refl _)) ⟨by simp, fun k o hk hin e he => ?_, h0, ?_, by rw [a1]; exact hA.size, by rw [a1]; exact hA.defers, fun t => ?_⟩
        · rw [hd0 k] at hin; cases hin
        · rw [hSA, a2]; exact hH.drew
        · rw [hVA, a1]; exact hA.look t
      · cases h
  · cases h
end Go.Proofs.YtjagjjdkgidkjaaGreatDoor.Ev
set_option linter.all false
namespace Go.Proofs.YtjagjjdkgidkjaaGreatDoor.Ev
open Go Go.RowKit

variable {P : Program} {known : Nat → Bool} {base : Nat} {w0 : World} {π : Pi} {σ : AS} {w : World} {ρ : Rho}

/-- A loop, from its body on. -/
def LoopWp (rd : Option Nat) (P : Program) (c : Code) (Q : Exit → Act → World → Prop) (a : Act) (w : World) : Prop :=
  ∀ (b : Frame) (k : List Item) (cs : List Frame), b.roundOf = (FF rd).round → (FF rd).fn b.fn → (FF rd).room (cs.length + 1 + 0) →
    ∃ e a' w', Q e a' w' ∧ ArrivesIn (Machine.fenced P (FF rd)) P (lone (b.atR a (.code c :: .inLoop c :: k)) cs w) b k cs e a' w'
theorem LoopWp.loop {rd : Option Nat} {c : Code} {Q : Exit → Act → World → Prop} {a : Act} {w : World} (h : LoopWp rd P c Q a w) : (Code.loop c).wpIn (FF rd) 0 P Q a w :=
  fun b k cs hro hb hr => let ⟨e, a', w', q, r⟩ := h b k cs hro hb hr; ⟨e, a', w', q, .of_steps (.one (fenced_calm hb hr rfl) stepR_loop) r⟩
theorem LoopWp.round {rd : Option Nat} {c : Code} {Q : Exit → Act → World → Prop} {a : Act} {w : World} (h : c.wpIn (FF rd) 0 P (Exit.then (LoopWp rd P c Q) Q) a w) : LoopWp rd P c Q a w := by
  intro b k cs hro hb hr
  obtain ⟨e, a₁, w₁, hq, harr⟩ := h b (.inLoop c :: k) cs hro hb hr
  cases e with
  | normal =>
    obtain ⟨e₂, a₂, w₂, hq₂, harr₂⟩ := hq b k cs hro hb hr
    exact ⟨e₂, a₂, w₂, hq₂, .of_steps (StepsIn.trans harr (.one (fenced_calm hb hr rfl) stepR_inLoop)) harr₂⟩
  | exit id => exact ⟨_, a₁, w₁, hq, .pass (x := .inLoop c) rfl (fun _ _ => .inl (by simp)) harr⟩
  | goto l => exact ⟨_, a₁, w₁, hq, .pass (x := .inLoop c) rfl (fun _ _ => .inl (by simp)) harr⟩
  | ret => exact ⟨_, a₁, w₁, hq, .pass (x := .inLoop c) rfl (fun _ _ => .inl (by simp)) harr⟩
  | panic ch => exact ⟨_, a₁, w₁, hq, .pass (x := .inLoop c) rfl (fun _ _ => .inl (by simp)) harr⟩
  | outgrown => exact ⟨_, a₁, w₁, hq, .pass (x := .inLoop c) rfl (fun _ _ => .inl (by simp)) harr⟩

def CodeOK (P : Program) (known : Nat → Bool) (base : Nat) (w0 : World) (call : Rec) (n : Nat) : Prop :=
  ∀ (rd : Option Nat) (c : Code) (π0 π : Pi) (σ : AS) (w : World) (α : AA) (a : Act) (x : AX) (α' : AA) (σ' : AS), (rd ≠ none → calm c = true) → π0.le π → HR known base w0 π σ w → ActR π α a →
    evCode P known call n c α σ = some (x, α', σ') → c.wpIn (FF rd) 0 P (ExitR known base w0 π0 x α' σ') a w
def LoopOK (P : Program) (known : Nat → Bool) (base : Nat) (w0 : World) (call : Rec) (n : Nat) : Prop :=
  ∀ (rd : Option Nat) (c : Code) (π0 π : Pi) (σ : AS) (w : World) (α : AA) (a : Act) (x : AX) (α' : AA) (σ' : AS), (rd ≠ none → calm c = true) → π0.le π → HR known base w0 π σ w → ActR π α a →
    evCode P known call n (.loop c) α σ = some (x, α', σ') → LoopWp rd P c (ExitR known base w0 π0 x α' σ') a w
theorem calmOps_spec : ∀ {l : List Oper}, calmOps l = true → ∀ (i : Nat) (o : Oper), l[i]? = some o → ∀ c, o.op ≠ .defer c
  | [], _, i, o, h => by simp at h
  | x :: r, hc, i, o, h => by
    unfold calmOps at hc
    split at hc
    · cases hc
    · rename_i hnd
      cases i with
      | zero =>
        simp only [List.getElem?_cons_zero, Option.some.injEq] at h
        subst h
        exact fun c => hnd c
      | succ i => exact calmOps_spec hc i o (by simpa using h)

theorem ExitR.notNormal {π0 : Pi} {x : AX} {α' : AA} {σ' : AS} {K : Act → World → Prop} {X : Exit} {a : Act} {w : World} (hx : x ≠ .normal) (h : ExitR known base w0 π0 x α' σ' X a w) :
    Exit.then K (ExitR known base w0 π0 x α' σ') X a w := by
  have hX : X ≠ .normal := by
    rintro rfl
    obtain ⟨π', _, _, _, hx'⟩ := h
    cases x with
    | normal => exact hx rfl
    | panic ch => obtain ⟨ch', h1, _⟩ := hx'; cases h1
    | _ => cases hx'
  cases X <;> first | exact absurd rfl hX | exact h

theorem jump_sound {π0 : Pi} {n : Nat} {c : Code} {x : AX} {α : AA} {σ1 : AS} (hx : (c = .ret ∧ x = .ret) ∨ ∃ id, c = .exit id ∧ x = .exit id) {a : Act} {w : World}
    (h : ∃ π', π0.le π' ∧ HR known base w0 π' σ1 w ∧ ActR π' α a) : c.wpIn (FF none) n P (ExitR known base w0 π0 x α σ1) a w := by
  obtain ⟨π', h1, h2, h3⟩ := h
  rcases hx with ⟨rfl, rfl⟩ | ⟨id, rfl, rfl⟩
  · exact wpIn_ret ⟨π', h1, h2, h3, rfl⟩
  · exact wpIn_exit ⟨π', h1, h2, h3, rfl⟩
theorem rangeFunc_sound {call : Rec} (hc : CallOK P known base w0 call) {g : Operand} {ps : Array Tmp} {assign body : Code} {π0 π : Pi} {σ : AS} {w : World} {α : AA} {a : Act} {x : AX} {α' : AA} {σ' : AS} (h0 : π0.le π)
    (hH : HR known base w0 π σ w) (hA : ActR π α a) {f : FuncId} {fst caps : List AV} (hg : opd known α.look g = some (.func f fst caps)) {f' : FuncId} {args : List AV} {σ2 : AS}
    (hcf : callF P ((σ.push .dfr).push (.loop α.tmps α.n ps.toList assign body .ready none)) f (fst ++ [.yield (σ.push .dfr).next] ++ caps) = some (.enter f' args σ2))
    (h : rangeEnd (σ.push .dfr).next (AA.mk α.tmps α.n (.mark σ.next :: α.defers)) (call none f' args σ2) = some (x, α', σ')) :
    (Code.rangeFunc g ps assign body).wpIn (FF none) 0 P (ExitR known base w0 π0 x α' σ') a w := by
  refine wpIn_rangeFunc (fun fn _ => ?_)
  have hρ := hA.rho hH
  have hv := hρ _ _ hg
  simp only [VR] at hv
  obtain ⟨pv, cv, hv, hps, hcs⟩ := hv
  -- the two blocks
  have hH1 : HR known base w0 (π.add σ.next (w.heap.size, 0, 0)) (σ.push .dfr) (w.alloc (.deferred (some []))) :=
    hH.new .dfr _ 0 ⟨w.heap.size, 0, Pi.add_same _ _ _, World.alloc_heap_new w _⟩
  have le1 : π.le (π.add σ.next (w.heap.size, 0, 0)) := hH.le_add _
  let R : Loop := { state := .ready, pending := none, fn := fn, tmps := a.tmps, params := ps, assign := assign, body := body, defers := w.heap.size }
  have hH2 : HR known base w0 ((π.add σ.next (w.heap.size, 0, 0)).add (σ.push .dfr).next (w.heap.size + 1, 0, 0)) ((σ.push .dfr).push (.loop α.tmps α.n ps.toList assign body .ready none))
      ((w.alloc (.deferred (some []))).alloc (.loop R)) := by
    have hsz : (w.alloc (.deferred (some []))).heap.size = w.heap.size + 1 := by rw [World.size_alloc]
    have := hH1.new (.loop α.tmps α.n ps.toList assign body .ready none) (.loop R) 0 (by
      refine ⟨_, 0, R, Pi.add_same _ _ _, World.alloc_heap_new _ _, ⟨rfl, rfl, rfl, rfl, rfl, hA.size, fun t => ?_⟩⟩
      obtain ⟨v, h1, h2⟩ := hA.look t
      have h3 : v = (T.get α.tmps t).getD (.tuple []) := by
        unfold AA.look at h1
        cases hq : T.get α.tmps t with
        | none => rw [hq] at h1; simpa [oM_none] using h1.symm
        | some q => rw [hq] at h1; simpa [oM_some] using h1.symm
      rw [← h3]
      exact VR.mono (Pi.le_trans le1 (hH1.le_add _)) _ _ h2)
    rw [hsz] at this
    exact this
  generalize hπ2 : (π.add σ.next (w.heap.size, 0, 0)).add (σ.push .dfr).next (w.heap.size + 1, 0, 0) = π2 at hH2
  have le2 : (π.add σ.next (w.heap.size, 0, 0)).le π2 := by
    have := hH1.le_add (w.heap.size + 1, 0, 0)
    rw [hπ2] at this
    exact this
  have hpl : π2 (σ.push .dfr).next = some (w.heap.size + 1, 0, 0) := by rw [← hπ2]; exact Pi.add_same _ _ _
  have hpd : π2 σ.next = some (w.heap.size, 0, 0) := le2 _ _ (Pi.add_same _ _ _)
  have hle : π.le π2 := Pi.le_trans le1 le2
  -- the call
  have hx : VRL π2 (fst ++ [.yield (σ.push .dfr).next] ++ caps) (pv ++ [.func (.yield (w.heap.size + 1)) #[] #[]] ++ cv) :=
    ((VRL.mono hle _ _ hps).append (VRL.cons (by simp only [VR]; exact ⟨_, _, hpl, rfl⟩) VRL.nil)).append (VRL.mono hle _ _ hcs)
  have hl := callF_sound (vs := ⟨pv ++ [.func (.yield (w.heap.size + 1)) #[] #[]] ++ cv⟩) (s := callFunc f ⟨pv ++ [.func (.yield (w.heap.size + 1)) #[] #[]] ++ cv⟩) hH2 hx (fun R hR => hR) hcf
  obtain ⟨args', r1, r2, r3, _⟩ := hl
  rw [← r3] at hH2
  refine ⟨w.heap.size + 1, [{ target := .collected w.heap.size, args := #[] }], (w.alloc (.deferred (some []))).alloc (.loop R), ⟨.fn (.func f) ⟨cv⟩, ⟨pv⟩ ++ #[.func (.yield (w.heap.size + 1)) #[] #[]]⟩, (w.alloc (.deferred (some []))).alloc (.loop R), f', args', (w.alloc (.deferred (some []))).alloc (.loop R), run_enterLoop_outer fn a.tmps ps assign body, ?_,
    fun _ _ => trivial, ?_, fun h => (by cases h), ?_⟩
  · simp only [resolve, rangeCall, hv, Deferred.ofValue]
    simp [Act.eval]
  · have : (⟨pv⟩ ++ #[.func (.yield (w.heap.size + 1)) #[] #[]] ++ ⟨cv⟩ : Array Value) = ⟨pv ++ [.func (.yield (w.heap.size + 1)) #[] #[]] ++ cv⟩ := by simp
    simp only [invoke, this]
    exact r1
  · cases hcl : call none f' args σ2 with
    | none => rw [hcl] at h; cases h
    | some r =>
      obtain ⟨e, σ3⟩ := r
      rw [hcl] at h
      have hcall : CallsIn Fence.wide (0 - 1) P f' args' _ _ := callsIn_wide.2 (hc.fn _ _ _ _ _ hcl π2 _ args' hH2 r2)
      refine CallsIn.mono (F := Fence.wide) hcall (fun E w3 hE => ?_)
      obtain ⟨π3, hle3, hH3, hvv⟩ := hE
      have hA3 : ActR π3 (AA.mk α.tmps α.n (.mark σ.next :: α.defers)) { a with defers := [{ target := .collected w.heap.size, args := #[] }] ++ a.defers } := by
        have h4 := hA.mono (Pi.le_trans hle hle3)
        refine ⟨h4.size, h4.look, ?_⟩
        simp only [DL, List.singleton_append]
        exact ⟨_, _, rfl, ⟨_, _, hle3 _ _ hpd, rfl⟩, h4.defers⟩
      cases e with
      | panicked ch =>
        cases E with
        | panicked ch' =>
          simp only [rangeEnd, Option.some.injEq, Prod.mk.injEq] at h
          obtain ⟨rfl, rfl, rfl⟩ := h
          exact ⟨π3, Pi.le_trans h0 (Pi.le_trans hle hle3), hH3, hA3, _, rfl, hvv⟩
        | _ => exact hvv.elim
      | returned v =>
        cases E with
        | returned u =>
          simp only [rangeEnd] at h
          split at h
          · rename_i tm n ps' ag bo st pd hb
            obtain ⟨rb, rs, r, b1, b2, b3⟩ := hH3.blk _ _ hb
            rw [hle3 _ _ hpl] at b1
            simp only [Option.some.injEq, Prod.mk.injEq] at b1
            obtain ⟨rfl, _, rfl⟩ := b1
            split at h
            · cases h
            · rename_i hnb
              have hbusy : r.state ≠ .busy := by rw [b3.state]; exact fun hh => hnb hh
              have hend := run_endLoop (P := P) b2 hbusy
              have hH4 : HR known base w0 π3 (σ3.put (σ.push .dfr).next (.loop tm n ps' ag bo .exhausted pd)) (w3.putObj (w.heap.size + 1) (.loop { r with state := .exhausted })) :=
                hH3.obj (o' := .loop { r with state := .exhausted }) hb rfl rfl (hle3 _ _ hpl) (fun w' hw' => ⟨_, _, _, hle3 _ _ hpl, hw', ⟨b3.params, b3.assign, b3.body, rfl, b3.pending, b3.size, b3.tmps⟩⟩)
              have fin : ∃ π', π0.le π' ∧ HR known base w0 π' (σ3.put (σ.push .dfr).next (.loop tm n ps' ag bo .exhausted pd)) (w3.putObj (w.heap.size + 1) (.loop { r with state := .exhausted })) ∧
                  ActR π' (AA.mk α.tmps α.n (.mark σ.next :: α.defers)) { a with defers := [{ target := .collected w.heap.size, args := #[] }] ++ a.defers } :=
                ⟨π3, Pi.le_trans h0 (Pi.le_trans hle hle3), hH4, hA3⟩
              refine ⟨r.pending, _, hend, ?_⟩
              rw [b3.pending] at fin ⊢
              split at h
              · simp only [AS.upd_eq, Option.some.injEq, Prod.mk.injEq] at h
                obtain ⟨rfl, rfl, rfl⟩ := h
                obtain ⟨π', f1, f2, f3⟩ := fin
                exact ⟨π', f1, f2, f3, rfl⟩
              · simp only [AS.upd_eq, Option.some.injEq, Prod.mk.injEq] at h
                obtain ⟨rfl, rfl, rfl⟩ := h
                exact jump_sound (.inl ⟨rfl, rfl⟩) fin
              · simp only [AS.upd_eq, Option.some.injEq, Prod.mk.injEq] at h
                obtain ⟨rfl, rfl, rfl⟩ := h
                exact jump_sound (.inr ⟨_, rfl, rfl⟩) fin
              · cases h
          · cases h
        | _ => exact hvv.elim
theorem evCode_sound (hm : P.follows .mixedOrders = true) {call : Rec} (hc : CallOK P known base w0 call) : ∀ n, CodeOK P known base w0 call n ∧ LoopOK P known base w0 call n
  | 0 => ⟨fun rd c π0 π σ w α a x α' σ' _ _ _ _ h => (by cases h), fun rd c π0 π σ w α a x α' σ' _ _ _ _ h => (by cases h)⟩
  | n + 1 => by
    obtain ⟨ih, il⟩ := evCode_sound hm hc n
    have loopOK : LoopOK P known base w0 call (n + 1) := by
      intro rd c π0 π σ w α a x α' σ' hcl h0 hH hA h
      simp only [evCode] at h
      apply LoopWp.round
      cases hb : evCode P known call n c α σ with
      | none => rw [hb] at h; cases h
      | some r =>
        obtain ⟨x1, α1, σ1⟩ := r
        rw [hb] at h
        have h1 := ih rd c π0 π σ w α a x1 α1 σ1 hcl h0 hH hA hb
        cases x1 with
        | normal =>
          dsimp only at h
          refine wpIn_mono h1 (fun X a1 w1 hX => ?_)
          obtain ⟨π', hle, hH', hA', hx⟩ := hX
          cases hx
          exact il rd c π0 π' σ1 w1 α1 a1 x α' σ' hcl hle hH' hA' h
        | _ =>
          simp only [Option.some.injEq, Prod.mk.injEq] at h
          obtain ⟨rfl, rfl, rfl⟩ := h
          exact wpIn_mono h1 (fun X a1 w1 hX => hX.notNormal (by intro h; cases h))
    refine ⟨?_, loopOK⟩
    intro rd c π0 π σ w α a x α' σ' hcl h0 hH hA h
    cases c with
    | skip =>
      simp only [evCode, Option.some.injEq, Prod.mk.injEq] at h
      obtain ⟨rfl, rfl, rfl⟩ := h
      exact wpIn_skip ⟨π, h0, hH, hA, rfl⟩
    | label l =>
      simp only [evCode, Option.some.injEq, Prod.mk.injEq] at h
      obtain ⟨rfl, rfl, rfl⟩ := h
      exact wpIn_label ⟨π, h0, hH, hA, rfl⟩
    | exit id =>
      simp only [evCode, Option.some.injEq, Prod.mk.injEq] at h
      obtain ⟨rfl, rfl, rfl⟩ := h
      exact wpIn_exit ⟨π, h0, hH, hA, rfl⟩
    | ret =>
      simp only [evCode, Option.some.injEq, Prod.mk.injEq] at h
      obtain ⟨rfl, rfl, rfl⟩ := h
      exact wpIn_ret ⟨π, h0, hH, hA, rfl⟩
    | seq p q =>
      simp only [evCode] at h
      apply wpIn_seq
      cases hb : evCode P known call n p α σ with
      | none => rw [hb] at h; cases h
      | some r =>
        obtain ⟨x1, α1, σ1⟩ := r
        rw [hb] at h
        have h1 := ih rd p π0 π σ w α a x1 α1 σ1 (fun h => (by have := hcl h; simp only [calm, Bool.and_eq_true] at this; exact this.1)) h0 hH hA hb
        cases x1 with
        | normal =>
          dsimp only at h
          refine wpIn_mono h1 (fun X a1 w1 hX => ?_)
          obtain ⟨π', hle, hH', hA', hx⟩ := hX
          cases hx
          exact ih rd q π0 π' σ1 w1 α1 a1 x α' σ' (fun h => (by have := hcl h; simp only [calm, Bool.and_eq_true] at this; exact this.2)) hle hH' hA' h
        | _ =>
          simp only [Option.some.injEq, Prod.mk.injEq] at h
          obtain ⟨rfl, rfl, rfl⟩ := h
          exact wpIn_mono h1 (fun X a1 w1 hX => hX.notNormal (by intro h; cases h))
    | cond cnd p q =>
      simp only [evCode] at h
      have hρ := hA.rho hH
      split at h
      · rename_i hcnd
        exact wpIn_cond_true (hρ _ _ hcnd).bool (ih rd p π0 π σ w α a x α' σ' (fun h => (by have := hcl h; simp only [calm, Bool.and_eq_true] at this; exact this.1)) h0 hH hA h)
      · rename_i hcnd
        exact wpIn_cond_false (hρ _ _ hcnd).bool (ih rd q π0 π σ w α a x α' σ' (fun h => (by have := hcl h; simp only [calm, Bool.and_eq_true] at this; exact this.2)) h0 hH hA h)
      · cases h
    | block id p =>
      simp only [evCode] at h
      apply wpIn_block
      cases hb : evCode P known call n p α σ with
      | none => rw [hb] at h; cases h
      | some r =>
        obtain ⟨x1, α1, σ1⟩ := r
        rw [hb] at h
        have h1 := ih rd p π0 π σ w α a x1 α1 σ1 (fun h => hcl h) h0 hH hA hb
        cases x1 with
        | exit id' =>
          dsimp only at h
          split at h
          · rename_i he
            have he' : id' = id := by simpa using he
            subst he'
            simp only [Option.some.injEq, Prod.mk.injEq] at h
            obtain ⟨rfl, rfl, rfl⟩ := h
            refine wpIn_mono h1 (fun X a1 w1 hX => ?_)
            obtain ⟨π', hle, hH', hA', hx⟩ := hX
            cases hx
            simp only [Exit.inBlock, if_true]
            exact ⟨π', hle, hH', hA', rfl⟩
          · rename_i he
            have he' : id' ≠ id := by intro e; subst e; simp at he
            simp only [Option.some.injEq, Prod.mk.injEq] at h
            obtain ⟨rfl, rfl, rfl⟩ := h
            refine wpIn_mono h1 (fun X a1 w1 hX => ?_)
            have hX' := hX
            obtain ⟨π', hle, hH', hA', hx⟩ := hX
            cases hx
            simp only [Exit.inBlock, if_neg he']
            exact hX'
        | _ =>
          simp only [Option.some.injEq, Prod.mk.injEq] at h
          obtain ⟨rfl, rfl, rfl⟩ := h
          refine wpIn_mono h1 (fun X a1 w1 hX => ?_)
          have hX' := hX
          obtain ⟨π', hle, hH', hA', hx⟩ := hX
          first
            | (cases hx; exact hX')
            | (obtain ⟨ch', rfl, _⟩ := hx; exact hX')
    | loop p => exact (loopOK rd p π0 π σ w α a x α' σ' (fun h => hcl h) h0 hH hA h).loop
    | region id ops d =>
      cases d with
      | false =>
        simp only [evCode] at h
        apply wpIn_region
        have := runOps_sound hc (ops := ops) (rd := rd) (fun h i o hi => calmOps_spec (hcl h) i o (by rw [Array.getElem?_toList]; exact hi)) ops.toList 0 (fun j o hj => by rw [Nat.zero_add, ← Array.getElem?_toList]; exact hj) h0 hH hA h
        rw [List.range_eq_range']
        simpa using this
      | true =>
        simp only [evCode] at h
        exact drawRegion_sound hm hc (fun h i o hi => calmOps_spec (hcl h) i o (by rw [Array.getElem?_toList]; exact hi)) h0 hH hA h
    | scope p =>
      cases rd with
      | some l => have := hcl (by simp); cases this
      | none =>
      simp only [evCode] at h
      refine wpIn_wide.2 (wp_scope_straight (wpIn_wide (n := 0).1 ?_))
      cases hb : evCode P known call n p α σ with
      | none => rw [hb] at h; cases h
      | some r =>
        obtain ⟨x1, α1, σ1⟩ := r
        rw [hb] at h
        have h1 := ih none p π0 π σ w α a x1 α1 σ1 (fun h => (absurd rfl h)) h0 hH hA hb
        cases x1 with
        | goto l => cases h
        | _ =>
          simp only [Option.some.injEq, Prod.mk.injEq] at h
          obtain ⟨rfl, rfl, rfl⟩ := h
          refine wpIn_mono h1 (fun X a1 w1 hX => ?_)
          have hX' := hX
          obtain ⟨π', hle, hH', hA', hx⟩ := hX
          first
            | (cases hx; exact hX')
            | (obtain ⟨ch', rfl, _⟩ := hx; exact hX')
    | rangeFunc g ps assign body =>
      cases rd with
      | some l => have := hcl (by simp); cases this
      | none =>
      simp only [evCode] at h
      rw [gB_iff] at h
      obtain ⟨_, h⟩ := h
      split at h
      · rename_i f fst caps hg
        rw [AS.new_eq, AS.new_eq] at h
        split at h
        · rename_i f' args σ2 hcf
          exact rangeFunc_sound hc h0 hH hA hg hcf h
        · cases h
      · cases h
    | _ => cases h
end Go.Proofs.YtjagjjdkgidkjaaGreatDoor.Ev
set_option linter.all false
namespace Go.Proofs.YtjagjjdkgidkjaaGreatDoor.Ev
open Go Go.RowKit

variable {P : Program} {known : Nat → Bool} {base : Nat} {w0 : World} {π : Pi} {σ : AS} {w : World} {ρ : Rho}

/-- One result: what a function with just this result gives. -/
noncomputable def resOne (tmps : Array Value) (x : ResultVar) : Sem Value := results { (default : Func) with results := #[x] } tmps
theorem resOne_tmp (tmps : Array Value) (t : Nat) : (resOne tmps (.tmp t)).run P w = .ok (tmps.getD t undef) w := by
  simp [resOne, results]
theorem resOne_cell (tmps : Array Value) (a : Nat) (t : TypeId) {ad : Addr} (h : tmps.getD a undef = .pointer (some ad)) {u : Value} (hl : (loadVar t ad).run P w = .ok u w) : (resOne tmps (.cell a t)).run P w = .ok u w := by
  simp only [Array.getD_eq_getD_getElem?] at h
  simp [resOne, results, h, asAddr, hl]
theorem results_run {fn : Func} {tmps : Array Value} {vs : List Value} (h : (fn.results.toList.mapM (resOne tmps)).run P w = .ok vs w) :
    (results fn tmps).run P w = .ok (if hs : (⟨vs⟩ : Array Value).size = 1 then (⟨vs⟩ : Array Value)[0] else .tuple ⟨vs⟩) w := by
  have key : ∀ f : ResultVar → Sem Value, (∀ x, f x = resOne tmps x) → fn.results.toList.mapM f = fn.results.toList.mapM (resOne tmps) := fun f hf => by rw [funext hf]
  unfold results
  rw [Sem.run_bind, Array.mapM_eq_mapM_toList]
  simp only [map_eq_pure_bind, Sem.run_bind]
  rw [key _ (fun x => by cases x <;> simp [resOne, results])]
  rw [h]
  rfl
theorem resultsA_sound (hH : HR known base w0 π σ w) {α : AA} {a : Act} (hA : ActR π α a) : ∀ {l : List ResultVar} {xs : List AV}, resultsA P σ α l = some xs →
    ∃ vs, (l.mapM (resOne a.tmps)).run P w = .ok vs w ∧ VRL π xs vs
  | [], xs, h => by
    simp only [resultsA, Option.some.injEq] at h
    subst h
    exact ⟨[], rfl, VRL.nil⟩
  | .tmp t :: l, xs, h => by
    simp only [resultsA] at h
    rw [oB_iff] at h; obtain ⟨v, hv, h⟩ := h
    rw [oB_iff] at h; obtain ⟨vs, hvs, h⟩ := h
    simp only [Option.some.injEq] at h
    subst h
    obtain ⟨us, h1, h2⟩ := resultsA_sound hH hA hvs
    obtain ⟨v', h3, h4⟩ := hA.look t
    rw [hv] at h3; cases h3
    refine ⟨_ :: us, ?_, VRL.cons h4 h2⟩
    rw [List.mapM_cons]
    have h7 := resOne_tmp (P := P) (w := w) a.tmps t
    simp only [Sem.run_bind, h7, Result.andThen_ok, h1, Sem.run_pure]
  | .cell x t :: l, xs, h => by
    simp only [resultsA] at h
    split at h
    · rename_i b o hx
      split at h
      · rename_i v vs hv hvs
        simp only [Option.some.injEq] at h
        subst h
        obtain ⟨us, h1, h2⟩ := resultsA_sound hH hA hvs
        obtain ⟨v', h3, h4⟩ := hA.look x
        rw [hx] at h3; cases h3
        obtain ⟨u, h5, h6⟩ := load_gives hH hv h4
        simp only [VR] at h4
        obtain ⟨rb, δ, rs, hp, hq⟩ := h4
        rw [hq] at h5
        have h5' : (loadVar t ⟨rb, δ + o, none⟩).run P w = .ok u w := h5
        refine ⟨u :: us, ?_, VRL.cons h6 h2⟩
        rw [List.mapM_cons]
        have h7 := resOne_cell (P := P) (w := w) a.tmps x t hq h5'
        simp only [Sem.run_bind, h7, Result.andThen_ok, h1, Sem.run_pure]
      · cases h
    · cases h
theorem resultA_sound (hH : HR known base w0 π σ w) {α : AA} {a : Act} (hA : ActR π α a) {fn : Func} {v : AV} (h : resultA P σ α fn = some v) : ∃ u, (results fn a.tmps).run P w = .ok u w ∧ VR π v u := by
  unfold resultA at h
  have key : ∀ {xs : List AV}, resultsA P σ α fn.results.toList = some xs → ∃ vs : Array Value, VRL π xs vs.toList ∧ ∀ K : Value → Value, (results fn a.tmps).run P w = .ok (if h : vs.size = 1 then vs[0] else .tuple vs) w := by
    intro xs hx
    obtain ⟨vs, h1, h2⟩ := resultsA_sound hH hA hx
    refine ⟨⟨vs⟩, h2, fun _ => ?_⟩
    exact results_run h1
  split at h
  · rename_i x hx
    simp only [Option.some.injEq] at h
    subst h
    obtain ⟨vs, h1, h2⟩ := key hx
    simp only [VRL] at h1
    obtain ⟨u, t, hvs, hu, rfl⟩ := h1
    obtain rfl := list1 hvs
    exact ⟨u, h2 id, hu⟩
  · rename_i l hne hx
    simp only [Option.some.injEq] at h
    subst h
    obtain ⟨vs, h1, h2⟩ := key hx
    have hsz : ¬ vs.size = 1 := by
      intro hs
      have hl := h1.length
      rw [Array.length_toList, hs] at hl
      match l, hl with
      | [y], _ => exact hne y rfl
    refine ⟨.tuple vs, ?_, by simp only [VR]; exact ⟨vs.toList, rfl, h1⟩⟩
    rw [h2 id, dif_neg hsz]
  · cases h

theorem start_rel {fn : Func} {xs : List AV} {args : Array Value} (h : VRL π xs args.toList) :
    ActR π (AA.start fn xs) { tmps := args ++ Array.replicate (fn.ntmps - args.size) undef, defers := [] } := by
  have hl : xs.length = args.size := by rw [← h.length]; simp
  have he : AA.start fn xs = ⟨lay xs 0 .nil, max fn.ntmps xs.length, []⟩ := by
    show fNat (max fn.ntmps xs.length) _ = _
    rw [fNat_eq]
    show T.seq _ _ = _
    rw [T.seq_eq]
  rw [he]
  refine ⟨by simp; omega, fun t => ?_, by simp [DL]⟩
  by_cases ht : t < xs.length
  · obtain ⟨x, hx⟩ : ∃ x, xs[t]? = some x := ⟨xs[t], List.getElem?_eq_getElem ht⟩
    obtain ⟨u, hu, hr⟩ := h.get t x hx
    refine ⟨x, ?_, ?_⟩
    · show oM (T.get (lay xs 0 .nil) t) _ _ = _
      rw [get_lay, if_pos ⟨by omega, by omega⟩, Nat.sub_zero, hx]; rfl
    · have ht' : t < args.size := by omega
      have : (args ++ Array.replicate (fn.ntmps - args.size) undef).getD t undef = u := by
        have hu' : args[t]? = some u := by rw [← Array.getElem?_toList]; exact hu
        rw [Array.getD_eq_getD_getElem?, Array.getElem?_append_left ht', hu']; rfl
      rw [this]; exact hr
  · refine ⟨.tuple [], ?_, ?_⟩
    · show oM (T.get (lay xs 0 .nil) t) _ _ = _
      rw [get_lay, if_neg (by omega), T.get_nil]; rfl
    · have : (args ++ Array.replicate (fn.ntmps - args.size) undef).getD t undef = undef := by
        rw [Array.getD_eq_getD_getElem?, Array.getElem?_append_right (by omega)]
        by_cases h2 : t - args.size < fn.ntmps - args.size
        · simp [h2]
        · simp [h2]
      rw [this]
      simp only [VR]; exact ⟨[], rfl, VRL.nil⟩
end Go.Proofs.YtjagjjdkgidkjaaGreatDoor.Ev
