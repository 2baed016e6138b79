/- Part Ev3 of a verified evaluator of closed calls: of no program; no condition. -/
import Derived.Test.YtjagjjdkgidkjaaGreatDoorEv2
import Derived.Below
import Derived.WalkKit
set_option linter.all false
namespace Go.Proofs.YtjagjjdkgidkjaaGreatDoor.Ev
open Go Go.RowKit

/-- Where an abstract block lies: the real block, the first cell, how many cells the real block has. -/
abbrev Pi := Nat → Option (Nat × Nat × Nat)

mutual
/-- An abstract value and a real one. -/
def VR (π : Pi) : AV → Value → Prop
  | .bool b, v => v = .bool b
  | .int k n, v => v = .int k n
  | .float k b, v => v = .float k b
  | .str l, v => ∃ s, v = .string s ∧ bytesOf s = l
  | .nilptr, v => v = .pointer none
  | .ptr b o, v => ∃ rb δ rs, π b = some (rb, δ, rs) ∧ v = .pointer (some ⟨rb, δ + o, none⟩)
  | .nilslice, v => v = .slice none 0 0
  | .slice b o len cap esz ex, v => ∃ rb δ rs off cap', π b = some (rb, δ, rs) ∧ v = .slice (some ⟨rb, off, none⟩) len cap' ∧
      (off = δ + o ∨ (len = 0 ∧ cap' = 0)) ∧ cap ≤ cap' ∧ (ex = true → cap' = cap) ∧ off + cap' * esz ≤ rs
  | .nilmap, v => v = .map none
  | .map r, v => ∃ rb δ rs, π r = some (rb, δ, rs) ∧ v = .map (some rb)
  | .func f fst caps, v => ∃ ps cs, v = .func (.func f) ⟨ps⟩ ⟨cs⟩ ∧ VRL π fst ps ∧ VRL π caps cs
  | .nilFunc, v => v = .nilFunc
  | .iface t x, v => ∃ y, v = .iface t y ∧ VR π x y
  | .nilIface, v => v = .nilIface
  | .agg xs, v => ∃ ys, v = .agg ⟨ys⟩ ∧ VRL π xs ys
  | .tuple xs, v => ∃ ys, v = .tuple ⟨ys⟩ ∧ VRL π xs ys
  | .ostr cs, v => ∃ s, v = .string s ∧ bytesOf s ∉ cs
def VRL (π : Pi) : List AV → List Value → Prop
  | [], ys => ys = []
  | x :: xs, ys => ∃ y r, ys = y :: r ∧ VR π x y ∧ VRL π xs r
end

def Pi.le (π π' : Pi) : Prop := ∀ b p, π b = some p → π' b = some p
theorem Pi.le_refl (π : Pi) : π.le π := fun _ _ h => h
theorem Pi.le_trans {a b c : Pi} (h : a.le b) (k : b.le c) : a.le c := fun i p e => k i p (h i p e)

mutual
theorem VR.mono {π π' : Pi} (h : π.le π') : ∀ (x : AV) (v : Value), VR π x v → VR π' x v
  | .bool _, _, e => by simpa [VR] using e
  | .int _ _, _, e => by simpa [VR] using e
  | .float _ _, _, e => by simpa [VR] using e
  | .str _, _, e => by simpa [VR] using e
  | .nilptr, _, e => by simpa [VR] using e
  | .ptr _ _, _, e => by
    simp only [VR] at e ⊢
    obtain ⟨rb, δ, rs, e1, e2⟩ := e
    exact ⟨rb, δ, rs, h _ _ e1, e2⟩
  | .nilslice, _, e => by simpa [VR] using e
  | .slice .., _, e => by
    simp only [VR] at e ⊢
    obtain ⟨rb, δ, rs, off, cap', e1, e2⟩ := e
    exact ⟨rb, δ, rs, off, cap', h _ _ e1, e2⟩
  | .nilmap, _, e => by simpa [VR] using e
  | .map _, _, e => by
    simp only [VR] at e ⊢
    obtain ⟨rb, δ, rs, e1, e2⟩ := e
    exact ⟨rb, δ, rs, h _ _ e1, e2⟩
  | .func _ fst caps, _, e => by
    simp only [VR] at e ⊢
    obtain ⟨ps, cs, e1, e2, e3⟩ := e
    exact ⟨ps, cs, e1, VRL.mono h fst ps e2, VRL.mono h caps cs e3⟩
  | .nilFunc, _, e => by simpa [VR] using e
  | .iface _ x, _, e => by
    simp only [VR] at e ⊢
    obtain ⟨y, e1, e2⟩ := e
    exact ⟨y, e1, VR.mono h x y e2⟩
  | .nilIface, _, e => by simpa [VR] using e
  | .ostr _, _, e => by simpa [VR] using e
  | .agg xs, _, e => by
    simp only [VR] at e ⊢
    obtain ⟨ys, e1, e2⟩ := e
    exact ⟨ys, e1, VRL.mono h xs ys e2⟩
  | .tuple xs, _, e => by
    simp only [VR] at e ⊢
    obtain ⟨ys, e1, e2⟩ := e
    exact ⟨ys, e1, VRL.mono h xs ys e2⟩
theorem VRL.mono {π π' : Pi} (h : π.le π') : ∀ (xs : List AV) (vs : List Value), VRL π xs vs → VRL π' xs vs
  | [], _, e => by simpa [VRL] using e
  | x :: xs, _, e => by
    simp only [VRL] at e ⊢
    obtain ⟨y, r, e1, e2, e3⟩ := e
    exact ⟨y, r, e1, VR.mono h x y e2, VRL.mono h xs r e3⟩
end

/-! ### lists of related values -/
theorem VRL.length {π : Pi} : ∀ {xs : List AV} {vs : List Value}, VRL π xs vs → vs.length = xs.length
  | [], _, e => by simp only [VRL] at e; subst e; rfl
  | x :: xs, _, e => by
    simp only [VRL] at e
    obtain ⟨y, r, rfl, _, e3⟩ := e
    simp [VRL.length e3]
theorem VRL.get {π : Pi} : ∀ {xs : List AV} {vs : List Value}, VRL π xs vs → ∀ (i : Nat) (x : AV), xs[i]? = some x → ∃ v, vs[i]? = some v ∧ VR π x v
  | [], _, _, i, x, hx => by simp at hx
  | x :: xs, _, e, i, y, hy => by
    simp only [VRL] at e
    obtain ⟨v, r, rfl, e2, e3⟩ := e
    cases i with
    | zero => simp at hy; subst hy; exact ⟨v, by simp, e2⟩
    | succ i => simp at hy; obtain ⟨u, hu, hv⟩ := VRL.get e3 i y hy; exact ⟨u, by simpa using hu, hv⟩
theorem VRL.append {π : Pi} : ∀ {xs ys : List AV} {vs us : List Value}, VRL π xs vs → VRL π ys us → VRL π (xs ++ ys) (vs ++ us)
  | [], _, _, _, e, k => by simp only [VRL] at e; subst e; simpa using k
  | x :: xs, ys, _, us, e, k => by
    simp only [VRL] at e
    obtain ⟨v, r, rfl, e2, e3⟩ := e
    simp only [List.cons_append, VRL]
    exact ⟨v, r ++ us, rfl, e2, VRL.append e3 k⟩
theorem VRL.take {π : Pi} : ∀ (n : Nat) {xs : List AV} {vs : List Value}, VRL π xs vs → VRL π (xs.take n) (vs.take n)
  | 0, _, _, _ => by simp [VRL]
  | n + 1, [], _, e => by simp only [VRL] at e; subst e; simp [VRL]
  | n + 1, x :: xs, _, e => by
    simp only [VRL] at e
    obtain ⟨v, r, rfl, e2, e3⟩ := e
    simp only [List.take_succ_cons, VRL]
    exact ⟨v, _, rfl, e2, VRL.take n e3⟩
theorem VRL.drop {π : Pi} : ∀ (n : Nat) {xs : List AV} {vs : List Value}, VRL π xs vs → VRL π (xs.drop n) (vs.drop n)
  | 0, _, _, e => by simpa using e
  | n + 1, [], _, e => by simp only [VRL] at e; subst e; simp [VRL]
  | n + 1, x :: xs, _, e => by
    simp only [VRL] at e
    obtain ⟨v, r, rfl, e2, e3⟩ := e
    simpa using VRL.drop n e3
theorem VRL.nil {π : Pi} : VRL π [] [] := by simp [VRL]
theorem VRL.cons {π : Pi} {x : AV} {xs : List AV} {v : Value} {vs : List Value} (h : VR π x v) (k : VRL π xs vs) : VRL π (x :: xs) (v :: vs) := by
  simp only [VRL]; exact ⟨v, vs, rfl, h, k⟩

/-! ### the trie -/
theorem T.seq_eq {α β : Type} (u : T α) (k : T α → β) : T.seq u k = k u := by cases u <;> rfl
section
variable {α : Type} (p q : Way) (v : Option α) (l r : T α) (x : α)
theorem put_here_nil : T.put .here .nil x = .node (some x) .nil .nil := rfl
theorem put_here : T.put .here (.node v l r) x = .node (some x) l r := rfl
theorem put_lo_nil : T.put (.lo p) .nil x = .node none (T.put p .nil x) .nil := T.seq_eq (T.put p .nil x) fun l => T.node none l .nil
theorem put_lo : T.put (.lo p) (.node v l r) x = .node v (T.put p l x) r := T.seq_eq (T.put p l x) fun l => T.node v l r
theorem put_hi_nil : T.put (.hi p) .nil x = .node none .nil (T.put p .nil x) := T.seq_eq (T.put p .nil x) fun r => T.node none .nil r
theorem put_hi : T.put (.hi p) (.node v l r) x = .node v l (T.put p r x) := T.seq_eq (T.put p r x) fun r => T.node v l r
theorem at_nil : T.at p (.nil : T α) = none := by cases p <;> rfl
theorem at_here : T.at .here (.node v l r) = v := rfl
theorem at_lo : T.at (.lo p) (.node v l r) = T.at p l := rfl
theorem at_hi : T.at (.hi p) (.node v l r) = T.at p r := rfl
end
theorem at_put_same {α : Type} (p : Way) : ∀ (t : T α) (x : α), T.at p (T.put p t x) = some x := by
  induction p with
  | here => intro t x; cases t <;> rfl
  | lo p ih => intro t x; cases t <;> simp only [put_lo_nil, put_lo, at_lo, ih]
  | hi p ih => intro t x; cases t <;> simp only [put_hi_nil, put_hi, at_hi, ih]
theorem at_put_ne {α : Type} (p : Way) : ∀ (q : Way) (t : T α) (x : α), q ≠ p → T.at q (T.put p t x) = T.at q t := by
  induction p with
  | here => intro q t x h; cases q <;> cases t <;> first | exact absurd rfl h | simp only [put_here_nil, put_here, at_lo, at_hi, at_nil]
  | lo p ih =>
    intro q t x h
    cases q with
    | here => cases t <;> simp only [put_lo_nil, put_lo, at_here, at_nil]
    | hi q => cases t <;> simp only [put_lo_nil, put_lo, at_hi, at_nil]
    | lo q =>
      have hq : q ≠ p := fun e => h (by rw [e])
      cases t <;> simp only [put_lo_nil, put_lo, at_lo, ih _ _ _ hq, at_nil]
  | hi p ih =>
    intro q t x h
    cases q with
    | here => cases t <;> simp only [put_hi_nil, put_hi, at_here, at_nil]
    | lo q => cases t <;> simp only [put_hi_nil, put_hi, at_lo, at_nil]
    | hi q =>
      have hq : q ≠ p := fun e => h (by rw [e])
      cases t <;> simp only [put_hi_nil, put_hi, at_hi, ih _ _ _ hq, at_nil]
theorem wayN_zero (f : Nat) : wayN (f + 1) 0 = .here := rfl
theorem wayN_succ (f m : Nat) : wayN (f + 1) (m + 1) = if m % 2 = 0 then .lo (wayN f (m / 2)) else .hi (wayN f (m / 2)) := by
  show (Nat.rec (motive := fun _ => Way) (Way.lo (wayN f (m / 2))) (fun _ _ => Way.hi (wayN f (m / 2))) (m % 2)) = _
  cases h : m % 2 with
  | zero => rw [if_pos rfl]; rfl
  | succ k => rw [if_neg (by omega)]
theorem wayN_inj : ∀ (f g a b : Nat), a < f → b < g → wayN f a = wayN g b → a = b := by
  intro f
  induction f with
  | zero => intro g a b ha; omega
  | succ f ih =>
    intro g a b ha hb h
    obtain ⟨g, rfl⟩ : ∃ k, g = k + 1 := ⟨g - 1, by omega⟩
    cases a with
    | zero =>
      cases b with
      | zero => rfl
      | succ k => rw [wayN_zero, wayN_succ] at h; split at h <;> cases h
    | succ m =>
      cases b with
      | zero => rw [wayN_zero, wayN_succ] at h; split at h <;> cases h
      | succ k =>
        rw [wayN_succ, wayN_succ] at h
        split at h <;> split at h
        · injection h with h
          have := ih g (m / 2) (k / 2) (by omega) (by omega) h
          omega
        · cases h
        · cases h
        · injection h with h
          have := ih g (m / 2) (k / 2) (by omega) (by omega) h
          omega
theorem way_inj {a b : Nat} (h : way a = way b) : a = b := wayN_inj _ _ _ _ (Nat.lt_succ_self a) (Nat.lt_succ_self b) h
theorem T.get_set {α : Type} (t : T α) (n : Nat) (x : α) : (t.set n x).get n = some x := at_put_same _ _ _
theorem T.get_set_ne {α : Type} (t : T α) {n m : Nat} (x : α) (h : m ≠ n) : (t.set n x).get m = t.get m := at_put_ne _ _ _ _ (fun e => h (way_inj e))
theorem T.get_nil {α : Type} (n : Nat) : (T.nil : T α).get n = none := at_nil _
theorem fNat_eq {β : Type} (n : Nat) (k : Nat → β) : fNat n k = k n := by cases n <;> rfl
theorem fInt_eq {β : Type} (n : Int) (k : Int → β) : fInt n k = k n := by cases n <;> (rename_i m; cases m <;> rfl)
theorem fNats_eq {β : Type} (l : List Nat) : ∀ (k : List Nat → β), fNats l k = k l := by
  induction l with
  | nil => intro k; rfl
  | cons x xs ih =>
    intro k
    show fNat x (fun x => fNats xs fun xs => k (x :: xs)) = _
    rw [fNat_eq, ih]
theorem fBool_eq {β : Type} (b : Bool) (k : Bool → β) : fBool b k = k b := by cases b <;> rfl
theorem oB_some {α β : Type} {x : Option α} {s : α → Option β} {y : β} (h : oB x s = some y) : ∃ a, x = some a ∧ s a = some y := by
  cases x with
  | none => cases h
  | some a => exact ⟨a, rfl, h⟩
theorem gB_some {β : Type} {b : Bool} {y : Option β} {z : β} (h : gB b y = some z) : b = true ∧ y = some z := by
  cases b with
  | false => cases h
  | true => exact ⟨rfl, h⟩
theorem oB_iff {α β : Type} {x : Option α} {s : α → Option β} {y : β} : oB x s = some y ↔ ∃ a, x = some a ∧ s a = some y :=
  ⟨oB_some, fun ⟨a, h1, h2⟩ => by subst h1; exact h2⟩
theorem gB_iff {β : Type} {b : Bool} {y : Option β} {z : β} : gB b y = some z ↔ b = true ∧ y = some z :=
  ⟨gB_some, fun ⟨h1, h2⟩ => by subst h1; exact h2⟩
end Go.Proofs.YtjagjjdkgidkjaaGreatDoor.Ev
