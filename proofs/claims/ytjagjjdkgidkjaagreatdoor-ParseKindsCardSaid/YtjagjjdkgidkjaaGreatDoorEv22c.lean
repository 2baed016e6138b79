/- Part Ev22c of a verified evaluator of closed calls: of no program; no condition. -/
import Derived.Test.YtjagjjdkgidkjaaGreatDoorEv22b
set_option linter.all false
namespace Go.Proofs.YtjagjjdkgidkjaaGreatDoor.Ev
open Go Go.RowKit

variable {P : Program} {known : Nat → Bool} {base : Nat} {w0 : World}

theorem put_look {α α' : AA} {dst : Option Nat} {v : AV} (h : α.put dst v = some α') (t : Nat) : α'.look t = (if dst = some t then some v else α.look t) ∧ α'.n = α.n ∧ α'.defers = α.defers := by
  cases dst with
  | none =>
    have : some α = some α' := h
    cases this
    simp
  | some d =>
    have hp' : gB (Nat.blt d α.n) (T.seq (T.set α.tmps d v) fun t => some (AA.mk t α.n α.defers)) = some α' := h
    rw [gB_iff, T.seq_eq] at hp'
    obtain ⟨hlt, hp'⟩ := hp'
    simp only [Option.some.injEq] at hp'
    subst hp'
    refine ⟨?_, rfl, rfl⟩
    show oM (T.get (T.set α.tmps d v) t) _ _ = _
    by_cases e : d = t
    · subst e; rw [T.get_set, if_pos rfl]; rfl
    · rw [T.get_set_ne _ _ (Ne.symm e), if_neg (by simpa using e)]; rfl
theorem put_lt {α α' : AA} {d : Nat} {v : AV} (h : α.put (some d) v = some α') : d < α.n := by
  have hp' : gB (Nat.blt d α.n) (T.seq (T.set α.tmps d v) fun t => some (AA.mk t α.n α.defers)) = some α' := h
  rw [gB_iff] at hp'
  have := hp'.1
  simp [Nat.blt] at this; omega

theorem notLoud_val {call : Rec} {look : Nat → Option AV} {σ σ' : AS} {o : Oper} {v : AV} (hl : isLoud P o = false) (h : doOp P known call look σ o = some (.val v σ')) :
    σ' = σ ∧ ((∃ f, headOf o.op P = .quiet f ∧ f P (opd known look) = some v) ∨ (∃ f, headOf o.op P = .reads f ∧ f P (opd known look) σ = some v)) := by
  unfold doOp at h
  unfold isLoud at hl
  generalize hh : headOf o.op P = hd at h hl
  cases hd with
  | quiet f =>
    have h' : valO (f P (opd known look)) σ = some (.val v σ') := h
    unfold valO at h'
    rw [oB_iff] at h'; obtain ⟨u, hu, h'⟩ := h'
    simp only [Option.some.injEq, AO.val.injEq] at h'
    obtain ⟨rfl, rfl⟩ := h'
    exact ⟨rfl, .inl ⟨f, rfl, hu⟩⟩
  | reads f =>
    have h' : valO (f P (opd known look) σ) σ = some (.val v σ') := h
    unfold valO at h'
    rw [oB_iff] at h'; obtain ⟨u, hu, h'⟩ := h'
    simp only [Option.some.injEq, AO.val.injEq] at h'
    obtain ⟨rfl, rfl⟩ := h'
    exact ⟨rfl, .inr ⟨f, rfl, hu⟩⟩
  | loud f => cases hl
  | off => cases hl
theorem quiet_val {call : Rec} {look : Nat → Option AV} {σ : AS} {o : Oper} {v : AV} {f : Program → Rho → Option AV} (hh : headOf o.op P = .quiet f) (hf : f P (opd known look) = some v) : doOp P known call look σ o = some (.val v σ) := by
  unfold doOp
  rw [hh]
  show valO (f P (opd known look)) σ = _
  rw [hf]; rfl
theorem reads_val {call : Rec} {look : Nat → Option AV} {σ : AS} {o : Oper} {v : AV} {f : Program → Rho → AS → Option AV} (hh : headOf o.op P = .reads f) (hf : f P (opd known look) σ = some v) : doOp P known call look σ o = some (.val v σ) := by
  unfold doOp
  rw [hh]
  show valO (f P (opd known look) σ) σ = _
  rw [hf]; rfl

/-! ### any order -/
def dstAt (ops : Array Oper) (k : Nat) : Option Nat := (ops[k]?).bind (·.dst)
noncomputable def loudAt (P : Program) (ops : Array Oper) (k : Nat) : Bool := match ops[k]? with
  | some o => isLoud P o
  | none => false
/-- What a temporary holds once the operations of a set were done. -/
noncomputable def VA (ops : Array Oper) (A0 : AA) (V : Nat → Option AV) (L : Nat → Bool) (t : Nat) : Nat → Option AV
  | 0 => A0.look t
  | k + 1 => if L k = true ∧ dstAt ops k = some t then some ((V k).getD (.tuple [])) else VA ops A0 V L t k
/-- The heap once the operations of a set were done. -/
noncomputable def SA (P : Program) (ops : Array Oper) (S : Nat → AS) (L : Nat → Bool) : Nat → AS
  | 0 => S 0
  | k + 1 => if L k = true ∧ loudAt P ops k = true then S (k + 1) else SA P ops S L k

structure Draw (P : Program) (known : Nat → Bool) (call : Rec) (ops : Array Oper) (ms : List Nat) (A : Nat → AA) (S : Nat → AS) (V : Nat → Option AV) : Prop where
  step : ∀ k o, ops[k]? = some o → StepOK P known call ops o (A k) (A (k + 1)) (S k) (S (k + 1)) (V k)
  pairs : ∀ i j x o, i < j → ops[i]? = some x → ops[j]? = some o → bitOf (ms.getD j 0) i = true ∨ pairOk P ops x o = true
  closed : Closed ops ms
  edges : ∀ j o, ops[j]? = some o → ∀ e ∈ bindsOf o, e < j
  win : ∀ j o f v, ops[j]? = some o → headOf o.op P = .reads f → V j = some v → ∀ g x, ops[g]? = some x → isLoud P x = true →
    (j < g → bitOf (ms.getD g 0) j = true ∨ f P (opd known (lookIn (looksAt ops o) (A j).look)) (S (g + 1)) = some v) ∧
    (g < j → bitOf (ms.getD j 0) g = true ∨ f P (opd known (lookIn (looksAt ops o) (A j).look)) (S g) = some v)

section
variable {call : Rec} {ops : Array Oper} {ms : List Nat} {A : Nat → AA} {S : Nat → AS} {V : Nat → Option AV}

theorem Draw.stepLook (D : Draw P known call ops ms A S V) {k : Nat} {o : Oper} (ho : ops[k]? = some o) (t : Nat) :
    (A (k + 1)).look t = (if dstAt ops k = some t then some ((V k).getD (.tuple [])) else (A k).look t) ∧ (A (k + 1)).n = (A k).n ∧ (A (k + 1)).defers = (A k).defers := by
  have hd : dstAt ops k = o.dst := by simp [dstAt, ho]
  rw [hd]
  rcases D.step k o ho with ⟨_, x, hv, _, hp⟩ | ⟨_, hv, _, hp⟩
  · rw [hv]; exact put_look hp t
  · rw [hv]; exact put_look hp t
theorem Draw.stepHeap (D : Draw P known call ops ms A S V) {k : Nat} {o : Oper} (ho : ops[k]? = some o) (hl : isLoud P o = false) : S (k + 1) = S k := by
  rcases D.step k o ho with ⟨_, x, hv, hd, hp⟩ | ⟨_, hv, hs, hp⟩
  · exact (notLoud_val hl hd).1
  · exact hs
theorem Draw.same (D : Draw P known call ops ms A S V) : ∀ k, k ≤ ops.size → (A k).n = (A 0).n ∧ (A k).defers = (A 0).defers
  | 0, _ => ⟨rfl, rfl⟩
  | k + 1, h => by
    have hlt : k < ops.size := by omega
    obtain ⟨_, h1, h2⟩ := D.stepLook (Array.getElem?_eq_getElem hlt) 0
    obtain ⟨h3, h4⟩ := D.same k (by omega)
    exact ⟨h1.trans h3, h2.trans h4⟩
theorem Draw.VA_all (D : Draw P known call ops ms A S V) {L : Nat → Bool} (hL : ∀ k, k < ops.size → L k = true) (t : Nat) : ∀ k, k ≤ ops.size → VA ops (A 0) V L t k = (A k).look t
  | 0, _ => rfl
  | k + 1, h => by
    have hlt : k < ops.size := by omega
    rw [(D.stepLook (Array.getElem?_eq_getElem hlt) t).1]
    simp only [VA, hL k hlt, true_and]
    rw [D.VA_all hL t k (by omega)]
theorem Draw.SA_all (D : Draw P known call ops ms A S V) {L : Nat → Bool} (hL : ∀ k, k < ops.size → L k = true) : ∀ k, k ≤ ops.size → SA P ops S L k = S k
  | 0, _ => rfl
  | k + 1, h => by
    have hlt : k < ops.size := by omega
    simp only [SA, hL k hlt, true_and, D.SA_all hL k (by omega)]
    by_cases hl : loudAt P ops k = true
    · rw [if_pos hl]
    · rw [if_neg hl]
      have : isLoud P ops[k] = false := by simpa [loudAt, Array.getElem?_eq_getElem hlt] using hl
      exact (D.stepHeap (Array.getElem?_eq_getElem hlt) this).symm

/-- j may be done now. -/
structure Ready (ops : Array Oper) (L : Nat → Bool) (j : Nat) (o : Oper) : Prop where
  op : ops[j]? = some o
  out : L j = false
  edges : ∀ e ∈ bindsOf o, L e = true
  down : Down ops L
  inside : ∀ k, L k = true → k < ops.size

variable {L : Nat → Bool} {j : Nat} {o : Oper}

theorem Ready.to (R : Ready ops L j o) (D : Draw P known call ops ms A S V) {i : Nat} (h : bitOf (ms.getD j 0) i = true) : L i = true :=
  Down.mask D.closed R.down R.inside (j + 1) j o i (by omega) R.op R.edges h
theorem Ready.from (R : Ready ops L j o) (D : Draw P known call ops ms A S V) {k : Nat} (hk : L k = true) (h : bitOf (ms.getD k 0) j = true) : False := by
  have hlt := R.inside k hk
  have := Down.mask D.closed R.down R.inside (k + 1) k ops[k] j (by omega) (Array.getElem?_eq_getElem hlt) (R.down k _ (Array.getElem?_eq_getElem hlt) hk) h
  rw [R.out] at this; cases this
theorem Ready.lt (R : Ready ops L j o) : j < ops.size := (Array.getElem?_eq_some_iff.1 R.op).1

theorem Ready.VA_low (R : Ready ops L j o) (D : Draw P known call ops ms A S V) {t : Nat} (ht : t ∈ looksAt ops o) : ∀ k, k ≤ j → VA ops (A 0) V L t k = (A k).look t
  | 0, _ => rfl
  | k + 1, h => by
    have hj := R.lt
    have hlt : k < ops.size := by omega
    have hk := Array.getElem?_eq_getElem hlt
    rw [(D.stepLook hk t).1]
    simp only [VA]
    by_cases hd : dstAt ops k = some t
    · have hL : L k = true := by
        rcases D.pairs k j _ o (by omega) hk R.op with h1 | h1
        · exact R.to D h1
        · have hd' : ops[k].dst = some t := by simpa [dstAt, hk] using hd
          exact absurd ht ((pairOk_spec h1).1 t hd')
      simp [hL, hd]
    · simp only [hd, and_false, if_false]
      exact R.VA_low D ht k (by omega)
theorem Ready.VA_high (R : Ready ops L j o) (D : Draw P known call ops ms A S V) {t : Nat} (ht : t ∈ looksAt ops o) : ∀ k, j ≤ k → k ≤ ops.size → VA ops (A 0) V L t k = (A j).look t
  | 0, h, _ => by
    have : j = 0 := by omega
    subst this
    exact R.VA_low D ht 0 (Nat.le_refl 0)
  | k + 1, h, hn => by
    by_cases e : j = k + 1
    · subst e; exact R.VA_low D ht _ (Nat.le_refl _)
    · have hlt : k < ops.size := by omega
      have hk := Array.getElem?_eq_getElem hlt
      simp only [VA]
      rw [if_neg]
      · exact R.VA_high D ht k (by omega) (by omega)
      · rintro ⟨hL, hd⟩
        have hd' : ops[k].dst = some t := by simpa [dstAt, hk] using hd
        by_cases e2 : j = k
        · subst e2; rw [R.out] at hL; cases hL
        · rcases D.pairs j k o _ (by omega) R.op hk with h1 | h1
          · exact R.from D hL h1
          · exact (pairOk_spec h1).2.1 t hd' ht

theorem Ready.SA_loud (R : Ready ops L j o) (D : Draw P known call ops ms A S V) (hl : isLoud P o = true) : ∀ k, k ≤ j → SA P ops S L k = S k
  | 0, _ => rfl
  | k + 1, h => by
    have hj := R.lt
    have hlt : k < ops.size := by omega
    have hk := Array.getElem?_eq_getElem hlt
    simp only [SA, R.SA_loud D hl k (by omega)]
    by_cases hd : isLoud P ops[k] = true
    · have hL : L k = true := by
        rcases D.pairs k j _ o (by omega) hk R.op with h1 | h1
        · exact R.to D h1
        · rcases (pairOk_spec h1).2.2.2 with h2 | h2
          · rw [h2] at hd; cases hd
          · rw [h2] at hl; cases hl
      rw [if_pos ⟨hL, by simpa [loudAt, hk] using hd⟩]
    · rw [if_neg (fun h => hd (by simpa [loudAt, hk] using h.2)), D.stepHeap hk (by simpa using hd)]
theorem Ready.SA_after (R : Ready ops L j o) (D : Draw P known call ops ms A S V) (hl : isLoud P o = true) : ∀ k, j ≤ k → k ≤ ops.size → SA P ops S L k = S j
  | 0, h, _ => by
    have : j = 0 := by omega
    subst this; rfl
  | k + 1, h, hn => by
    by_cases e : j = k + 1
    · subst e; exact R.SA_loud D hl _ (Nat.le_refl _)
    · have hlt : k < ops.size := by omega
      have hk := Array.getElem?_eq_getElem hlt
      simp only [SA]
      rw [if_neg]
      · exact R.SA_after D hl k (by omega) (by omega)
      · rintro ⟨hL, hd⟩
        have hd' : isLoud P ops[k] = true := by simpa [loudAt, hk] using hd
        by_cases e2 : j = k
        · subst e2; rw [R.out] at hL; cases hL
        · rcases D.pairs j k o _ (by omega) R.op hk with h1 | h1
          · exact R.from D hL h1
          · rcases (pairOk_spec h1).2.2.2 with h2 | h2
            · rw [h2] at hl; cases hl
            · rw [h2] at hd'; cases hd'
/-- A set's heap, up to k: that of the whole run, or the one ahead of a loud operation that is not in the set. -/
theorem Draw.SA_some (D : Draw P known call ops ms A S V) (hd : Down ops L) (hin : ∀ k, L k = true → k < ops.size) : ∀ k, k ≤ ops.size → SA P ops S L k = S k ∨ ∃ g x, g < k ∧ ops[g]? = some x ∧ isLoud P x = true ∧ L g = false ∧ SA P ops S L k = S g
  | 0, _ => .inl rfl
  | k + 1, h => by
    have hlt : k < ops.size := by omega
    have hk := Array.getElem?_eq_getElem hlt
    have hla : loudAt P ops k = isLoud P ops[k] := by simp [loudAt, hk]
    simp only [SA, hla]
    rcases D.SA_some hd hin k (by omega) with h1 | ⟨g, x, g1, g2, g3, g4, g5⟩
    · by_cases hl : isLoud P ops[k] = true
      · cases hL : L k with
        | true => left; simp [hl]
        | false => right; exact ⟨k, _, by omega, hk, hl, hL, by simp [h1]⟩
      · left
        rw [if_neg (fun h => hl h.2), h1, D.stepHeap hk (by simpa using hl)]
    · right
      refine ⟨g, x, by omega, g2, g3, g4, ?_⟩
      rw [if_neg]
      · exact g5
      · rintro ⟨hL, hl⟩
        rcases D.pairs g k x _ g1 g2 hk with h2 | h2
        · have := Down.mask D.closed hd hin (k + 1) k ops[k] g (by omega) hk (hd k _ hk hL) h2
          rw [g4] at this; cases this
        · rcases (pairOk_spec h2).2.2.2 with h3 | h3
          · rw [h3] at g3; cases g3
          · rw [h3] at hl; cases hl
theorem Ready.reads (R : Ready ops L j o) (D : Draw P known call ops ms A S V) {f : Program → Rho → AS → Option AV} {v : AV} (hf : headOf o.op P = .reads f) (hv : V j = some v)
    (h0 : f P (opd known (lookIn (looksAt ops o) (A j).look)) (S j) = some v) : ∀ k, j ≤ k → k ≤ ops.size → f P (opd known (lookIn (looksAt ops o) (A j).look)) (SA P ops S L k) = some v := by
  have hnl : isLoud P o = false := by simp [isLoud, hf]
  have low : f P (opd known (lookIn (looksAt ops o) (A j).look)) (SA P ops S L j) = some v := by
    rcases D.SA_some R.down R.inside j (Nat.le_of_lt R.lt) with h1 | ⟨g, x, g1, g2, g3, g4, g5⟩
    · rw [h1]; exact h0
    · rw [g5]
      rcases (D.win j o f v R.op hf hv g x g2 g3).2 g1 with h2 | h2
      · have := R.to D h2
        rw [g4] at this; cases this
      · exact h2
  intro k
  induction k with
  | zero =>
    intro h _
    have : j = 0 := by omega
    subst this; exact low
  | succ k ih =>
    intro h hn
    by_cases e : j = k + 1
    · subst e; exact low
    · have hlt : k < ops.size := by omega
      have hk := Array.getElem?_eq_getElem hlt
      simp only [SA]
      split
      · rename_i hc
        obtain ⟨hL, hd⟩ := hc
        have hd' : isLoud P ops[k] = true := by simpa [loudAt, hk] using hd
        have hne : j ≠ k := by intro e2; subst e2; rw [R.out] at hL; cases hL
        rcases (D.win j o f v R.op hf hv k _ hk hd').1 (by omega) with h1 | h1
        · exact (R.from D hL h1).elim
        · exact h1
      · exact ih (by omega) (by omega)

theorem Ready.VA_set (R : Ready ops L j o) (D : Draw P known call ops ms A S V) {L' : Nat → Bool} (hL' : ∀ k, L' k = if k = j then true else L k) (t : Nat) : ∀ k, k ≤ ops.size →
    VA ops (A 0) V L' t k = if j < k ∧ dstAt ops j = some t then some ((V j).getD (.tuple [])) else VA ops (A 0) V L t k
  | 0, _ => by simp [VA]
  | k + 1, h => by
    have hlt : k < ops.size := by omega
    have hk := Array.getElem?_eq_getElem hlt
    simp only [VA, R.VA_set D hL' t k (by omega), hL' k]
    by_cases e : k = j
    · subst e
      by_cases hd : dstAt ops k = some t
      · simp [hd]
      · simp [hd]
    · rw [if_neg e]
      by_cases hd : dstAt ops j = some t
      · by_cases hjk : j < k
        · have hnot : ¬ (L k = true ∧ dstAt ops k = some t) := by
            rintro ⟨hL, hdk⟩
            rcases D.pairs j k o _ hjk R.op hk with h1 | h1
            · exact R.from D hL h1
            · have h2 : o.dst = some t := by simpa [dstAt, R.op] using hd
              have h3 : ops[k].dst = some t := by simpa [dstAt, hk] using hdk
              exact (pairOk_spec h1).2.2.1 t h2 h3
          rw [if_neg hnot, if_pos ⟨hjk, hd⟩, if_pos ⟨by omega, hd⟩]
        · have h1 : ¬ j < k + 1 := by omega
          simp [hjk, h1]
      · simp [hd]
theorem Ready.SA_set (R : Ready ops L j o) (D : Draw P known call ops ms A S V) {L' : Nat → Bool} (hL' : ∀ k, L' k = if k = j then true else L k) : ∀ k, k ≤ ops.size →
    SA P ops S L' k = if j < k ∧ isLoud P o = true then S (j + 1) else SA P ops S L k
  | 0, _ => by simp [SA]
  | k + 1, h => by
    have hlt : k < ops.size := by omega
    have hk := Array.getElem?_eq_getElem hlt
    have hla : loudAt P ops k = isLoud P ops[k] := by simp [loudAt, hk]
    simp only [SA, R.SA_set D hL' k (by omega), hL' k, hla]
    by_cases e : k = j
    · subst e
      have ho : ops[k] = o := by have := R.op; rw [hk] at this; simpa using this
      rw [ho]
      cases isLoud P o <;> simp [R.out]
    · rw [if_neg e]
      by_cases hl : isLoud P o = true
      · by_cases hjk : j < k
        · have hnot : ¬ (L k = true ∧ isLoud P ops[k] = true) := by
            rintro ⟨hL, hlk⟩
            rcases D.pairs j k o _ hjk R.op hk with h1 | h1
            · exact R.from D hL h1
            · rcases (pairOk_spec h1).2.2.2 with h2 | h2
              · rw [h2] at hl; cases hl
              · rw [h2] at hlk; cases hlk
          rw [if_neg hnot, if_pos ⟨hjk, hl⟩, if_pos ⟨by omega, hl⟩]
        · have h1 : ¬ j < k + 1 := by omega
          simp [hjk, h1]
      · simp [hl]
end
end Go.Proofs.YtjagjjdkgidkjaaGreatDoor.Ev
