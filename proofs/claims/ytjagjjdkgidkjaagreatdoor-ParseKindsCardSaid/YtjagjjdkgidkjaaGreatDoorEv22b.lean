/- Part Ev22b of a verified evaluator of closed calls: of no program; no condition. -/
import Derived.Test.YtjagjjdkgidkjaaGreatDoorEv22a
set_option linter.all false
namespace Go.Proofs.YtjagjjdkgidkjaaGreatDoor.Ev
open Go Go.RowKit

variable {P : Program} {known : Nat → Bool} {base : Nat} {w0 : World}

/-! ### the run that was made -/
def StepOK (P : Program) (known : Nat → Bool) (call : Rec) (ops : Array Oper) (o : Oper) (α α' : AA) (σ σ' : AS) (v : Option AV) : Prop :=
  (wantedA (lookIn (looksAt ops o) α.look) ops o = true ∧ ∃ x, v = some x ∧ doOp P known call (lookIn (looksAt ops o) α.look) σ o = some (.val x σ') ∧ α.put o.dst x = some α') ∨
  (wantedA (lookIn (looksAt ops o) α.look) ops o = false ∧ v = none ∧ σ' = σ ∧ α.put o.dst (.tuple []) = some α')

theorem runDraw_spec {call : Rec} {ops : Array Oper} : ∀ (l : List Oper) (i : Nat) (α : AA) (σ : AS) (acc : List Done) (α' : AA) (σ' : AS) (ds : List Done), runDraw P known call ops l i α σ acc = some (α', σ', ds) →
    ∃ (A : Nat → AA) (S : Nat → AS) (V : Nat → Option AV), A i = α ∧ S i = σ ∧ A (i + l.length) = α' ∧ S (i + l.length) = σ' ∧
      (∀ k o, l[k]? = some o → StepOK P known call ops o (A (i + k)) (A (i + k + 1)) (S (i + k)) (S (i + k + 1)) (V (i + k))) ∧ (∀ d ∈ acc, d ∈ ds) ∧
      (∀ k, k < l.length → (⟨i + k, A (i + k), S (i + k), S (i + k + 1), V (i + k)⟩ : Done) ∈ ds)
  | [], i, α, σ, acc, α', σ', ds, h => by
    simp only [runDraw, Option.some.injEq, Prod.mk.injEq] at h
    obtain ⟨rfl, rfl, rfl⟩ := h
    exact ⟨fun _ => α, fun _ => σ, fun _ => none, rfl, rfl, rfl, rfl, fun k o hk => by simp at hk, fun d hd => hd, fun k hk => by simp at hk⟩
  | o :: l, i, α, σ, acc, α', σ', ds, h => by
    simp only [runDraw] at h
    rw [bM_iff] at h
    have main : ∀ (v : Option AV) (α1 : AA) (σ1 : AS), StepOK P known call ops o α α1 σ σ1 v → runDraw P known call ops l (Nat.succ i) α1 σ1 (⟨i, α, σ, σ1, v⟩ :: acc) = some (α', σ', ds) →
        ∃ (A : Nat → AA) (S : Nat → AS) (V : Nat → Option AV), A i = α ∧ S i = σ ∧ A (i + (o :: l).length) = α' ∧ S (i + (o :: l).length) = σ' ∧
        (∀ k o', (o :: l)[k]? = some o' → StepOK P known call ops o' (A (i + k)) (A (i + k + 1)) (S (i + k)) (S (i + k + 1)) (V (i + k))) ∧ (∀ d ∈ acc, d ∈ ds) ∧
        (∀ k, k < (o :: l).length → (⟨i + k, A (i + k), S (i + k), S (i + k + 1), V (i + k)⟩ : Done) ∈ ds) := by
      intro v α1 σ1 hst hr
      obtain ⟨A, S, V, a1, a2, a3, a4, a5, a6, a7⟩ := runDraw_spec l (i + 1) α1 σ1 _ α' σ' ds hr
      have hA : ∀ j, i < j → (fun j => if j = i then α else A j) j = A j := fun j hj => by simp; omega
      have hS : ∀ j, i < j → (fun j => if j = i then σ else S j) j = S j := fun j hj => by simp; omega
      have hV : ∀ j, i < j → (fun j => if j = i then v else V j) j = V j := fun j hj => by simp; omega
      have hA0 : (fun j => if j = i then α else A j) i = α := by simp
      have hS0 : (fun j => if j = i then σ else S j) i = σ := by simp
      have hV0 : (fun j => if j = i then v else V j) i = v := by simp
      generalize (fun j => if j = i then α else A j) = A' at *
      generalize (fun j => if j = i then σ else S j) = S' at *
      generalize (fun j => if j = i then v else V j) = V' at *
      refine ⟨A', S', V', hA0, hS0, ?_, ?_, ?_, fun d hd => a6 d (List.mem_cons_of_mem _ hd), ?_⟩
      · rw [hA _ (by simp), List.length_cons, show i + (l.length + 1) = i + 1 + l.length by omega]; exact a3
      · rw [hS _ (by simp), List.length_cons, show i + (l.length + 1) = i + 1 + l.length by omega]; exact a4
      · intro k o' hk
        cases k with
        | zero =>
          simp only [List.getElem?_cons_zero, Option.some.injEq] at hk
          subst hk
          rw [Nat.add_zero, hA0, hS0, hV0, hA _ (by omega), hS _ (by omega), a1, a2]
          exact hst
        | succ k =>
          have := a5 k o' (by simpa using hk)
          rw [hA _ (by omega), hA _ (by omega), hS _ (by omega), hS _ (by omega), hV _ (by omega), show i + (k + 1) = i + 1 + k by omega]
          exact this
      · intro k hk
        cases k with
        | zero =>
          rw [Nat.add_zero, hA0, hS0, hV0, hS _ (by omega), a2]
          exact a6 _ (List.mem_cons_self)
        | succ k =>
          have := a7 k (by simpa using hk)
          rw [hA _ (by omega), hS _ (by omega), hS _ (by omega), hV _ (by omega), show i + (k + 1) = i + 1 + k by omega]
          exact this
    split at h
    · rename_i hw
      rw [oB_iff] at h; obtain ⟨r, hr, h⟩ := h
      cases r with
      | val v σ1 =>
        dsimp only at h
        rw [oB_iff] at h; obtain ⟨α1, hp, h⟩ := h
        exact main (some v) α1 σ1 (.inl ⟨hw, v, rfl, hr, hp⟩) h
      | defer d σ1 => cases h
      | panic ch σ1 => cases h
    · rename_i hw
      rw [oB_iff] at h; obtain ⟨α1, hp, h⟩ := h
      exact main none α1 σ (.inr ⟨by simpa using hw, rfl, rfl, hp⟩) h

mutual
theorem eqAV_eq : ∀ (x y : AV), eqAV x y = true → x = y := by
  intro x y h
  cases x <;> cases y <;> simp only [eqAV, Bool.and_eq_true, beq_iff_eq, Nat.beq_eq] at h <;> first
    | rfl
    | (cases h; done)
    | (obtain rfl := h; rfl)
    | skip
  case int.int k n j m =>
    split at h
    · rename_i hk
      obtain rfl := kindEq_true hk
      rw [eqF_eq] at h
      simp only [decide_eq_true_eq, beq_iff_eq] at h
      rw [h]
    · cases h
  case float.float k n j m =>
    obtain ⟨h1, h2⟩ := h
    simp only [decide_eq_true_eq] at h1
    rw [h1, h2]
  case str.str a b =>
    rw [eqL_eq] at h
    simp only [beq_iff_eq] at h
    rw [h]
  case ptr.ptr a b c d =>
    obtain ⟨rfl, rfl⟩ := h; rfl
  case slice.slice =>
    obtain ⟨⟨⟨⟨⟨rfl, rfl⟩, rfl⟩, rfl⟩, rfl⟩, rfl⟩ := h; rfl
  case func.func f p a g q b =>
    obtain ⟨⟨rfl, h1⟩, h2⟩ := h
    rw [eqAVs_eq p q h1, eqAVs_eq a b h2]
  case iface.iface t a u b =>
    obtain ⟨rfl, h2⟩ := h
    rw [eqAV_eq a b h2]
  case agg.agg a b => rw [eqAVs_eq a b h]
  case tuple.tuple a b => rw [eqAVs_eq a b h]
theorem eqAVs_eq : ∀ (x y : List AV), eqAVs x y = true → x = y := by
  intro x y h
  cases x with
  | nil => cases y with
    | nil => rfl
    | cons => simp [eqAVs] at h
  | cons a x => cases y with
    | nil => simp [eqAVs] at h
    | cons b y =>
      simp only [eqAVs] at h
      split at h
      · rename_i h1
        rw [eqAV_eq a b h1, eqAVs_eq x y h]
      · cases h
end
theorem windowsOk_spec {ops : Array Oper} {ms : List Nat} {all : List Done} : ∀ {ds : List Done}, windowsOk P known ops ms all ds = true → ∀ d ∈ ds, ∀ o f, ops[d.i]? = some o → headOf o.op P = .reads f →
    ∀ e ∈ all, ∀ x, ops[e.i]? = some x → isLoud P x = true → windowOk P known ops ms o d e = true
  | [], h, d, hd => by cases hd
  | c :: ds, h, d, hd => by
    intro o f ho hf e he x hx hl
    simp only [windowsOk] at h
    cases hc : ops[c.i]? with
    | none => rw [hc] at h; cases h
    | some oc =>
      rw [hc] at h
      dsimp only at h
      have rest : windowsOk P known ops ms all ds = true := by
        split at h
        · split at h
          · exact h
          · cases h
        · exact h
      rcases List.mem_cons.1 hd with rfl | hd
      · rw [ho] at hc
        cases hc
        rw [hf] at h
        dsimp only at h
        split at h
        · rename_i hall
          have := List.all_eq_true.1 hall e he
          rw [hx] at this
          simpa [hl] using this
        · cases h
      · exact windowsOk_spec rest d hd o f ho hf e he x hx hl
theorem stays_spec {ops : Array Oper} {o : Oper} {d : Done} {σ : AS} {f : Program → Rho → AS → Option AV} {v : AV} (hf : headOf o.op P = .reads f) (hv : d.v = some v) (h : stays P known ops o d σ = true) :
    f P (opd known (lookIn (looksAt ops o) d.α.look)) σ = some v := by
  unfold stays at h
  rw [hv] at h
  dsimp only at h
  rw [hf] at h
  dsimp only at h
  split at h
  · rename_i u hu
    rw [hu, eqAV_eq v u h]
  · cases h
end Go.Proofs.YtjagjjdkgidkjaaGreatDoor.Ev
