/- Part Ev22a of a verified evaluator of closed calls: of no program; no condition. -/
import Derived.Test.YtjagjjdkgidkjaaGreatDoorEv21
set_option linter.all false
namespace Go.Proofs.YtjagjjdkgidkjaaGreatDoor.Ev
open Go Go.RowKit

variable {P : Program} {known : Nat → Bool} {base : Nat} {w0 : World}

/-! ### masks -/
theorem bitOf_eq (m i : Nat) : bitOf m i = Nat.testBit m i := by
  unfold bitOf
  rw [Nat.testBit_eq_decide_div_mod_eq]
  show Nat.beq ((m >>> i) % 2) 1 = _
  rw [Nat.shiftRight_eq_div_pow]
  generalize m / 2 ^ i % 2 = x
  rcases Nat.decEq x 1 with h | h
  · rw [decide_eq_false h]
    cases hb : Nat.beq x 1
    · rfl
    · exact absurd (Nat.eq_of_beq_eq_true hb) h
  · subst h; rfl
theorem maskOf_bit (acc : List Nat) (j i : Nat) : ∀ (l : List Nat) (m : Nat), bitOf (maskOf acc j l m) i = true → bitOf m i = true ∨ ∃ e ∈ l, i = e ∨ (e < j ∧ bitOf (acc.getD (j - 1 - e) 0) i = true)
  | [], m, h => .inl h
  | e :: l, m, h => by
    have h' : bitOf (maskOf acc j l (Nat.lor (Nat.lor m (Nat.pow 2 e)) (match Nat.blt e j with | true => acc.getD (j - 1 - e) 0 | false => 0))) i = true := h
    rcases maskOf_bit acc j i l _ h' with h1 | ⟨e', he, h2⟩
    · rw [bitOf_eq] at h1
      have h3 : (m ||| 2 ^ e ||| (match Nat.blt e j with | true => acc.getD (j - 1 - e) 0 | false => 0)).testBit i = true := h1
      rw [Nat.testBit_or, Nat.testBit_or] at h3
      simp only [Bool.or_eq_true] at h3
      rcases h3 with (h3 | h3) | h3
      · exact .inl (by rw [bitOf_eq]; exact h3)
      · right
        refine ⟨e, List.mem_cons_self, .inl ?_⟩
        rw [Nat.testBit_two_pow] at h3
        have : e = i := by simpa using h3
        exact this.symm
      · right
        split at h3
        · rename_i hlt
          have hlt' : e < j := by simp [Nat.blt] at hlt; omega
          exact ⟨e, List.mem_cons_self, .inr ⟨hlt', by rw [bitOf_eq]; exact h3⟩⟩
        · simp at h3
    · exact .inr ⟨e', List.mem_cons_of_mem _ he, h2⟩
/-- A mask list that is closed: each bit is an edge, or a bit of an edge's own mask. -/
def Closed (ops : Array Oper) (ms : List Nat) : Prop :=
  ∀ j o i, ops[j]? = some o → bitOf (ms.getD j 0) i = true → ∃ e ∈ bindsOf o, i = e ∨ (e < j ∧ bitOf (ms.getD e 0) i = true)
theorem masksL_spec : ∀ (l : List Oper) (j : Nat) (acc : List Nat), acc.length = j → ∃ ms, masksL l j acc = acc.reverse ++ ms ∧ ms.length = l.length ∧
    ∀ k o i, l[k]? = some o → bitOf ((acc.reverse ++ ms).getD (j + k) 0) i = true → ∃ e ∈ bindsOf o, i = e ∨ (e < j + k ∧ bitOf ((acc.reverse ++ ms).getD e 0) i = true)
  | [], j, acc, h => ⟨[], by simp [masksL], rfl, fun k o i hk => by simp at hk⟩
  | o :: l, j, acc, h => by
    have hun : masksL (o :: l) j acc = masksL l (j + 1) (maskOf acc j (bindsOf o) 0 :: acc) := by
      show fNat _ _ = _
      rw [fNat_eq]
    obtain ⟨ms, h1, h2, h3⟩ := masksL_spec l (j + 1) (maskOf acc j (bindsOf o) 0 :: acc) (by simp [h])
    have he : (maskOf acc j (bindsOf o) 0 :: acc).reverse ++ ms = acc.reverse ++ (maskOf acc j (bindsOf o) 0 :: ms) := by simp
    refine ⟨maskOf acc j (bindsOf o) 0 :: ms, by rw [hun, h1, he], by simp [h2], fun k o' i hk hb => ?_⟩
    rw [he] at h3
    cases k with
    | zero =>
      simp only [List.getElem?_cons_zero, Option.some.injEq] at hk
      subst hk
      have hj : (acc.reverse ++ (maskOf acc j (bindsOf o) 0 :: ms)).getD (j + 0) 0 = maskOf acc j (bindsOf o) 0 := by
        rw [List.getD_eq_getElem?_getD, List.getElem?_append_right (by simp [h])]
        simp [h]
      rw [hj] at hb
      rcases maskOf_bit acc j i _ _ hb with h4 | ⟨e, he1, h4⟩
      · rw [bitOf_eq] at h4; simp at h4
      · refine ⟨e, he1, h4.imp id (fun ⟨h5, h6⟩ => ⟨h5, ?_⟩)⟩
        have : (acc.reverse ++ (maskOf acc j (bindsOf o) 0 :: ms)).getD e 0 = acc.getD (j - 1 - e) 0 := by
          rw [List.getD_eq_getElem?_getD, List.getElem?_append_left (by simp; omega), List.getElem?_reverse (by omega), List.getD_eq_getElem?_getD, h]
        rw [this]; exact h6
    | succ k =>
      have := h3 k o' i (by simpa using hk) (by rw [show j + 1 + k = j + (k + 1) by omega]; exact hb)
      rw [show j + 1 + k = j + (k + 1) by omega] at this
      exact this
theorem masks_closed (ops : Array Oper) : Closed ops (masks ops) := by
  obtain ⟨ms, h1, h2, h3⟩ := masksL_spec ops.toList 0 [] rfl
  intro j o i ho hb
  have hm : masks ops = ms := by unfold masks; rw [h1]; simp
  rw [hm] at hb ⊢
  have := h3 j o i (by rw [Array.getElem?_toList]; exact ho) (by simpa using hb)
  simpa using this

/-- A set of operations, closed under the edges. -/
def Down (ops : Array Oper) (L : Nat → Bool) : Prop := ∀ k o, ops[k]? = some o → L k = true → ∀ e ∈ bindsOf o, L e = true
theorem Down.mask {ops : Array Oper} {L : Nat → Bool} {ms : List Nat} (hc : Closed ops ms) (hd : Down ops L) (hin : ∀ k, L k = true → k < ops.size) :
    ∀ (n j : Nat) (o : Oper) (i : Nat), j < n → ops[j]? = some o → (∀ e ∈ bindsOf o, L e = true) → bitOf (ms.getD j 0) i = true → L i = true
  | 0, j, o, i, hj, _, _, _ => by omega
  | n + 1, j, o, i, hj, ho, hl, hb => by
    obtain ⟨e, he, h⟩ := hc j o i ho hb
    rcases h with rfl | ⟨hlt, h2⟩
    · exact hl _ he
    · have hle := hl e he
      have hes := hin e hle
      exact Down.mask hc hd hin n e ops[e] i (by omega) (Array.getElem?_eq_getElem hes) (hd e _ (Array.getElem?_eq_getElem hes) hle) h2

/-! ### what a region's check says -/
theorem edgesOk_spec : ∀ {l : List Oper} {j : Nat}, edgesOk l j = true → ∀ k o, l[k]? = some o → ∀ e ∈ bindsOf o, e < j + k
  | [], j, h, k, o, hk => by simp at hk
  | x :: l, j, h, k, o, hk => by
    simp only [edgesOk] at h
    split at h
    · rename_i hall
      cases k with
      | zero =>
        simp only [List.getElem?_cons_zero, Option.some.injEq] at hk
        subst hk
        intro e he
        have := List.all_eq_true.1 hall e he
        simp [Nat.blt] at this
        omega
      | succ k =>
        intro e he
        have := edgesOk_spec h k o (by simpa using hk) e he
        omega
    · cases h
theorem pairsOk_spec {ops : Array Oper} {y : Oper} {m : Nat} : ∀ {l : List Oper} {i : Nat}, pairsOk P ops y m l i = true → ∀ k x, l[k]? = some x → bitOf m (i + k) = true ∨ pairOk P ops x y = true
  | [], i, h, k, x, hk => by simp at hk
  | z :: l, i, h, k, x, hk => by
    simp only [pairsOk] at h
    split at h
    · rename_i hz
      cases k with
      | zero =>
        simp only [List.getElem?_cons_zero, Option.some.injEq] at hk
        subst hk
        simpa using hz
      | succ k =>
        have := pairsOk_spec h k x (by simpa using hk)
        rw [show i + (k + 1) = Nat.succ i + k by omega]; exact this
    · cases h
theorem regionOkL_spec {ops : Array Oper} {all : List Oper} : ∀ {l : List Oper} {ms : List Nat} {j : Nat}, regionOkL P ops all l ms j = true → ∀ k o, l[k]? = some o →
    ∀ i x, i < j + k → all[i]? = some x → bitOf (ms.getD k 0) i = true ∨ pairOk P ops x o = true
  | [], ms, j, h, k, o, hk => by simp at hk
  | y :: l, [], j, h, k, o, hk => by simp [regionOkL] at h
  | y :: l, m :: ms, j, h, k, o, hk => by
    simp only [regionOkL] at h
    split at h
    · rename_i hp
      cases k with
      | zero =>
        simp only [List.getElem?_cons_zero, Option.some.injEq] at hk
        subst hk
        intro i x hi hx
        have := pairsOk_spec hp i x (by rw [List.getElem?_take, if_pos (by omega)]; exact hx)
        simpa using this
      | succ k =>
        intro i x hi hx
        have := regionOkL_spec h k o (by simpa using hk) i x (by omega) hx
        simpa using this
    · cases h
theorem memN_iff {x : Nat} : ∀ {l : List Nat}, memN x l = true ↔ x ∈ l
  | [] => by simp [memN]
  | y :: l => by
    simp only [memN, List.mem_cons]
    split
    · rename_i h
      have : x = y := by simpa using h
      simp [this]
    · rename_i h
      have : x ≠ y := by intro e; subst e; simp at h
      rw [memN_iff]; simp [this]
theorem pairOk_spec {ops : Array Oper} {x y : Oper} (h : pairOk P ops x y = true) :
    (∀ d, x.dst = some d → d ∉ looksAt ops y) ∧ (∀ d, y.dst = some d → d ∉ looksAt ops x) ∧ (∀ d, x.dst = some d → y.dst ≠ some d) ∧ (isLoud P x = false ∨ isLoud P y = false) := by
  unfold pairOk at h
  simp only [Bool.and_eq_true, Bool.not_eq_true'] at h
  obtain ⟨⟨⟨h1, h2⟩, h3⟩, h4⟩ := h
  refine ⟨fun d hd hm => ?_, fun d hd hm => ?_, fun d hd hy => ?_, ?_⟩
  · rw [hd] at h1; simp only [touches] at h1; rw [memN_iff.2 hm] at h1; cases h1
  · rw [hd] at h2; simp only [touches] at h2; rw [memN_iff.2 hm] at h2; cases h2
  · rw [hd, hy] at h3; simp [sameDst] at h3
  · cases hx : isLoud P x
    · exact .inl rfl
    · right; rw [hx] at h4; simpa using h4
end Go.Proofs.YtjagjjdkgidkjaaGreatDoor.Ev
