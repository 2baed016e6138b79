/- Part Ev4 of a verified evaluator of closed calls: of no program; no condition. -/
import Derived.Test.YtjagjjdkgidkjaaGreatDoorEv3
import Derived.Deep.MidRow
set_option linter.all false
namespace Go.Proofs.YtjagjjdkgidkjaaGreatDoor.Ev
open Go Go.RowKit

theorem gB_true {β : Type} {b : Bool} {y : Option β} {z : β} (h : gB b y = some z) : b = true := (gB_some h).1
theorem lR_nil {α β : Type} (z : β) (f : α → β → β) : lR z f [] = z := rfl
theorem lR_cons {α β : Type} (z : β) (f : α → β → β) (x : α) (l : List α) : lR z f (x :: l) = f x (lR z f l) := rfl
theorem bM_eq {β : Type} (b : Bool) (y n : β) : bM b y n = if b then y else n := by cases b <;> rfl
theorem oM_none {α β : Type} (n : β) (s : α → β) : oM none n s = n := rfl
theorem oM_some {α β : Type} (a : α) (n : β) (s : α → β) : oM (some a) n s = s a := rfl

theorem lay_nil (i : Nat) (t : T AV) : lay [] i t = t := rfl
theorem lay_cons (x : AV) (xs : List AV) (i : Nat) (t : T AV) : lay (x :: xs) i t = lay xs (i + 1) (t.set i x) := by
  show fNat i (fun i => T.seq (T.set t i x) fun t => lay xs (Nat.succ i) t) = _
  rw [fNat_eq, T.seq_eq]
theorem get_lay : ∀ (xs : List AV) (o : Nat) (t : T AV) (i : Nat), (lay xs o t).get i = if o ≤ i ∧ i < o + xs.length then xs[i - o]? else t.get i
  | [], o, t, i => by rw [lay_nil, if_neg (by simp)]
  | x :: xs, o, t, i => by
    rw [lay_cons, get_lay xs (o + 1) (t.set o x) i]
    by_cases h : i = o
    · subst h
      rw [if_neg (by omega), if_pos ⟨by omega, by simp⟩, T.get_set]
      simp
    · by_cases h2 : o + 1 ≤ i ∧ i < o + 1 + xs.length
      · rw [if_pos h2, if_pos ⟨by omega, by simp; omega⟩]
        obtain ⟨k, hk⟩ : ∃ k, i - o = k + 1 := ⟨i - o - 1, by omega⟩
        rw [hk, show i - (o + 1) = k by omega]
        simp
      · rw [if_neg h2, T.get_set_ne _ _ h]
        rw [if_neg]
        simp
        omega
theorem readN_some {c : T AV} : ∀ {n o : Nat} {xs : List AV}, readN c n o = some xs → xs.length = n ∧ ∀ j, j < n → c.get (o + j) = xs[j]?
  | 0, o, xs, h => by simp only [readN, Option.some.injEq] at h; subst h; exact ⟨rfl, fun j hj => by omega⟩
  | n + 1, o, xs, h => by
    simp only [readN, fNat_eq] at h
    obtain ⟨x, hx, h⟩ := oB_some h
    obtain ⟨r, hr, h⟩ := oB_some h
    simp only [Option.some.injEq] at h
    subst h
    obtain ⟨h1, h2⟩ := readN_some hr
    refine ⟨by simp [h1], fun j hj => ?_⟩
    cases j with
    | zero => simpa using hx
    | succ j => have := h2 j (by omega); simp only [Nat.succ_eq_add_one] at this; rw [show o + (j + 1) = o + 1 + j by omega, this]; simp
theorem allOne_cons {x : AV} {xs : List AV} (h : allOne (x :: xs) = true) : x.one = true ∧ allOne xs = true := by
  have h' : bM x.one (allOne xs) false = true := h
  rw [bM_eq] at h'
  cases hx : x.one <;> simp_all
theorem allOne_one {π : Pi} : ∀ {xs : List AV} {vs : List Value}, allOne xs = true → VRL π xs vs → ∀ v ∈ vs, v.oneCell' = true
  | [], _, _, e, v, hv => by simp only [VRL] at e; subst e; simp at hv
  | x :: xs, _, h, e, v, hv => by
    simp only [VRL] at e
    obtain ⟨y, r, rfl, e2, e3⟩ := e
    obtain ⟨h1, h2⟩ := allOne_cons h
    rcases List.mem_cons.1 hv with rfl | hv
    · cases x <;> simp only [VR] at e2 <;> simp only [AV.one] at h1 <;> first
        | (subst e2; rfl)
        | (obtain ⟨s, rfl, _⟩ := e2; rfl)
        | (obtain ⟨_, _, _, _, rfl⟩ := e2; rfl)
        | (obtain ⟨_, _, rfl, _⟩ := e2; rfl)
        | (obtain ⟨_, _, _, _, _, _, rfl, _⟩ := e2; rfl)
        | cases h1
    · exact allOne_one h2 e3 v hv

/-! ### the worlds -/
theorem setCells_heap (b : Nat) : ∀ (vs : List Value) (o : Nat) (w : World) (cs : Array Value) (e : TypeId) (fr : Nat × Nat), w.heap[b]? = some (.cells cs e fr) →
    ∃ cs' : Array Value, (w.setCells b o vs).heap[b]? = some (.cells cs' e fr) ∧ cs'.size = cs.size ∧ ∀ i, cs'[i]? = if o ≤ i ∧ i < o + vs.length ∧ i < cs.size then vs[i - o]? else cs[i]?
  | [], o, w, cs, e, fr, h => ⟨cs, h, rfl, fun i => by rw [if_neg (by simp; omega)]⟩
  | v :: r, o, w, cs, e, fr, h => by
    have h1 : (w.setCell ⟨b, o, none⟩ v).heap[b]? = some (.cells (cs.setIfInBounds o v) e fr) := by
      simp [World.setCell, Array.getElem?_modify, h]
    obtain ⟨cs', a1, a2, a3⟩ := setCells_heap b r (o + 1) _ _ _ _ h1
    refine ⟨cs', by rw [World.setCells]; exact a1, by simpa using a2, fun i => ?_⟩
    rw [a3 i]
    simp only [Array.size_setIfInBounds]
    by_cases hi : i = o
    · subst hi
      rw [if_neg (by omega)]
      by_cases hs : i < cs.size
      · rw [if_pos ⟨by omega, by simp, hs⟩]; simp [hs]
      · rw [if_neg (by omega)]; rw [Array.getElem?_eq_none (by simp; omega), Array.getElem?_eq_none (by omega)]
    · by_cases h2 : o + 1 ≤ i ∧ i < o + 1 + r.length ∧ i < cs.size
      · rw [if_pos h2, if_pos ⟨by omega, by simp; omega, h2.2.2⟩]
        obtain ⟨k, hk⟩ : ∃ k, i - o = k + 1 := ⟨i - o - 1, by omega⟩
        rw [hk, show i - (o + 1) = k by omega]; simp
      · rw [if_neg h2, if_neg (by simp; omega)]
        rw [Array.getElem?_setIfInBounds_ne (by omega)]
theorem setCells_other (b : Nat) : ∀ (vs : List Value) (o : Nat) (w : World) (k : Nat), k ≠ b → (w.setCells b o vs).heap[k]? = w.heap[k]?
  | [], _, _, _, _ => rfl
  | v :: r, o, w, k, h => by rw [World.setCells, setCells_other b r _ _ k h]; exact Below.heap_setCell _ _ _ _ h
theorem setCells_size (b : Nat) : ∀ (vs : List Value) (o : Nat) (w : World), (w.setCells b o vs).heap.size = w.heap.size
  | [], _, _ => rfl
  | v :: r, o, w => by rw [World.setCells, setCells_size b r]; simp [World.setCell]
theorem setCells_below {B : Nat} {w0 : World} (b : Nat) (hb : B ≤ b) : ∀ (vs : List Value) (o : Nat) (w : World), Below B w0 w → Below B w0 (w.setCells b o vs)
  | [], _, _, h => h
  | v :: r, o, w, h => by rw [World.setCells]; exact setCells_below b hb r _ _ (h.setCell hb _)

def EL (π : Pi) : List (AV × AV × Nat) → List MapEntry → Prop
  | [], es => es = []
  | (k, v, n) :: r, es => ∃ e t, es = e :: t ∧ VR π k e.key ∧ VR π v e.val ∧ e.born = n ∧ EL π r t
theorem EL.length {π : Pi} : ∀ {l : List (AV × AV × Nat)} {es : List MapEntry}, EL π l es → es.length = l.length
  | [], _, h => by simp only [EL] at h; simp [h]
  | (k, v, n) :: l, _, h => by
    simp only [EL] at h
    obtain ⟨e, t, rfl, _, _, _, h4⟩ := h
    simp [EL.length h4]
theorem EL.mono {π π' : Pi} (h : π.le π') : ∀ {l : List (AV × AV × Nat)} {es : List MapEntry}, EL π l es → EL π' l es
  | [], _, e => e
  | (k, v, n) :: r, _, e => by
    simp only [EL] at e ⊢
    obtain ⟨x, t, rfl, h1, h2, h3, h4⟩ := e
    exact ⟨x, t, rfl, VR.mono h _ _ h1, VR.mono h _ _ h2, h3, EL.mono h h4⟩

/-- What an abstract block says of the real heap. -/
def BR (π : Pi) (b : Nat) (B : ABlk) (w : World) : Prop :=
  match B with
  | .cells c size elem frz own whole => ∃ (rb δ rs : Nat) (cs : Array Value) (fr : Nat × Nat), π b = some (rb, δ, rs) ∧ (∃ el, w.heap[rb]? = some (.cells cs el fr) ∧ (own = true → el = elem)) ∧ cs.size = rs ∧ δ + size ≤ rs ∧
      (∀ i, i < size → ∃ x v, c.get i = some x ∧ cs[δ + i]? = some v ∧ VR π x v) ∧ (own = true → ∀ o, o < rs → fr.1 ≤ o → o < fr.2 → o < δ + frz) ∧ (whole = .whole → δ = 0 ∧ size = rs) ∧ (own = true → whole.near = true → δ = 0 ∧ (fr.1 = fr.2 ∨ fr.2 ≤ frz))
  | .dead => True
  | .map es clock => ∃ (rb δ rs : Nat) (es' : Array MapEntry), π b = some (rb, δ, rs) ∧ w.heap[rb]? = some (.map es' clock) ∧ EL π es es'.toList
  | .siter s pos => ∃ (rb rs : Nat) (s' : ByteArray), π b = some (rb, 0, rs) ∧ w.heap[rb]? = some (.stringIter s' pos) ∧ bytesOf s' = s
  | .miter m since seen last => ∃ (rb rs rm δ rs' : Nat), π b = some (rb, 0, rs) ∧ π m = some (rm, δ, rs') ∧ w.heap[rb]? = some (.mapIter (some rm) since seen.toArray last)
  | .niter => ∃ (rb rs : Nat), π b = some (rb, 0, rs) ∧ w.heap[rb]? = some (.mapIter none 0 #[] 0)
def ABlk.live : ABlk → Bool
  | .dead => false
  | _ => true
def ABlk.mine : ABlk → Bool
  | .cells _ _ _ _ own _ => own
  | .dead => false
  | _ => true
theorem BR.mono {π π' : Pi} (h : π.le π') {b : Nat} {B : ABlk} {w w' : World} (hw : ∀ p, π b = some p → w'.heap[p.1]? = w.heap[p.1]?) (e : BR π b B w) : BR π' b B w' := by
  cases B with
  | cells c size elem frz own whole =>
    obtain ⟨rb, δ, rs, cs, fr, h1, h2, h3, h4, h5, h6, h7⟩ := e
    obtain ⟨el, h2, h2e⟩ := h2
    refine ⟨rb, δ, rs, cs, fr, h _ _ h1, ⟨el, by rw [hw _ h1]; exact h2, h2e⟩, h3, h4, fun i hi => ?_, h6, h7⟩
    obtain ⟨x, v, a1, a2, a3⟩ := h5 i hi
    exact ⟨x, v, a1, a2, VR.mono h _ _ a3⟩
  | dead => trivial
  | map es clock =>
    obtain ⟨rb, δ, rs, es', h1, h2, h3⟩ := e
    exact ⟨rb, δ, rs, es', h _ _ h1, by rw [hw _ h1]; exact h2, EL.mono h h3⟩
  | siter s pos =>
    obtain ⟨rb, rs, s', h1, h2, h3⟩ := e
    exact ⟨rb, rs, s', h _ _ h1, by rw [hw _ h1]; exact h2, h3⟩
  | miter m since seen last =>
    obtain ⟨rb, rs, rm, δ, rs', h1, h2, h3⟩ := e
    exact ⟨rb, rs, rm, δ, rs', h _ _ h1, h _ _ h2, by rw [hw _ h1]; exact h3⟩
  | niter =>
    obtain ⟨rb, rs, h1, h2⟩ := e
    exact ⟨rb, rs, h _ _ h1, by rw [hw _ h1]; exact h2⟩

/-- The abstract heap and the real one. 'base': the blocks below it are not this run's. -/
structure HR (known : Nat → Bool) (base : Nat) (w0 : World) (π : Pi) (σ : AS) (w : World) : Prop where
  blk : ∀ b B, σ.get b = some B → BR π b B w
  inj : ∀ b c B C p q, σ.get b = some B → σ.get c = some C → B.mine = true → C.live = true → π b = some p → π c = some q → p.1 = q.1 → b = c
  fresh : ∀ b, σ.next ≤ b → σ.get b = none ∧ π b = none
  bnd : ∀ b p, π b = some p → p.1 < w.heap.size
  mine : ∀ b B p, σ.get b = some B → B.mine = true → π b = some p → base ≤ p.1
  low : base ≤ w.heap.size
  below : Below base w0 w
  glob : ∀ g, known g = true → ∃ rs, π g = some (g, 0, rs)

variable {known : Nat → Bool} {base : Nat} {w0 : World} {π : Pi} {σ : AS} {w : World}

theorem HR.drew (h : HR known base w0 π σ w) : HR known base w0 π σ { w with drawn := w.drawn + 1 } :=
  ⟨fun b B hb => BR.mono (Pi.le_refl π) (fun _ _ => rfl) (h.blk b B hb), h.inj, h.fresh, h.bnd, h.mine, h.low, h.below.drew, h.glob⟩

def Pi.add (π : Pi) (n : Nat) (p : Nat × Nat × Nat) : Pi := fun b => if b = n then some p else π b
theorem HR.le_add (h : HR known base w0 π σ w) (p : Nat × Nat × Nat) : π.le (π.add σ.next p) := fun b q e => by
  by_cases hb : b = σ.next
  · subst hb; rw [(h.fresh _ (Nat.le_refl _)).2] at e; cases e
  · simp [Pi.add, hb, e]
theorem Pi.add_same (π : Pi) (n : Nat) (p : Nat × Nat × Nat) : π.add n p n = some p := by simp [Pi.add]
theorem Pi.add_ne (π : Pi) {n b : Nat} (p : Nat × Nat × Nat) (h : b ≠ n) : π.add n p b = π b := by simp [Pi.add, h]

noncomputable def AS.put (σ : AS) (b : Nat) (B : ABlk) : AS := ⟨σ.heap.set b B, σ.next⟩
noncomputable def AS.push (σ : AS) (B : ABlk) : AS := ⟨σ.heap.set σ.next B, σ.next + 1⟩
theorem AS.upd_eq (σ : AS) (b : Nat) (B : ABlk) : σ.upd b B = σ.put b B := by
  show T.seq (σ.heap.set b B) _ = _
  rw [T.seq_eq]; rfl
theorem AS.new_eq {β : Type} (σ : AS) (B : ABlk) (k : Nat → AS → β) : σ.new B k = k σ.next (σ.push B) := by
  show fNat σ.next _ = _
  rw [fNat_eq]
  show T.seq _ _ = _
  rw [T.seq_eq]; rfl
theorem AS.row_eq {β : Type} (σ : AS) (e : TypeId) (cs : List AV) (wh : BK) (k : Nat → AS → β) :
    σ.row e cs wh k = k σ.next (σ.push (.cells (lay cs 0 .nil) cs.length e 0 true wh)) := by
  show fNat cs.length _ = _
  rw [fNat_eq]
  show T.seq _ _ = _
  rw [T.seq_eq, AS.new_eq]
theorem AS.get_put (σ : AS) (b : Nat) (B : ABlk) : (σ.put b B).get b = some B := T.get_set _ _ _
theorem AS.get_put_ne (σ : AS) {b c : Nat} (B : ABlk) (h : c ≠ b) : (σ.put b B).get c = σ.get c := T.get_set_ne _ _ h
theorem AS.get_push (σ : AS) (B : ABlk) : (σ.push B).get σ.next = some B := T.get_set _ _ _
theorem AS.get_push_ne (σ : AS) {c : Nat} (B : ABlk) (h : c ≠ σ.next) : (σ.push B).get c = σ.get c := T.get_set_ne _ _ h

/-- A new block. -/
theorem HR.new (h : HR known base w0 π σ w) (B : ABlk) (o : Obj) (rs : Nat) (hB : BR (π.add σ.next (w.heap.size, 0, rs)) σ.next B (w.alloc o)) :
    HR known base w0 (π.add σ.next (w.heap.size, 0, rs)) (σ.push B) (w.alloc o) := by
  have hle := h.le_add (w.heap.size, 0, rs)
  refine ⟨fun b C hb => ?_, fun b c B' C p q hb hc lb lc pb pc e => ?_, fun b hb => ?_, fun b p hb => ?_, fun b C p hb hm hp => ?_, ?_, h.below.alloc h.low o, fun g hg => ?_⟩
  · by_cases e : b = σ.next
    · subst e; rw [AS.get_push] at hb; cases hb; exact hB
    · rw [AS.get_push_ne _ _ e] at hb
      exact BR.mono hle (fun p hp => Below.heap_alloc w o _ (h.bnd b p hp)) (h.blk b C hb)
  · by_cases eb : b = σ.next <;> by_cases ec : c = σ.next
    · rw [eb, ec]
    · subst eb
      rw [Pi.add_same] at pb; rw [Pi.add_ne _ _ ec] at pc
      have := h.bnd c q pc
      cases pb; simp at e; omega
    · subst ec
      rw [Pi.add_same] at pc; rw [Pi.add_ne _ _ eb] at pb
      have := h.bnd b p pb
      cases pc; simp at e; omega
    · rw [Pi.add_ne _ _ eb] at pb; rw [Pi.add_ne _ _ ec] at pc
      rw [AS.get_push_ne _ _ eb] at hb; rw [AS.get_push_ne _ _ ec] at hc
      exact h.inj b c B' C p q hb hc lb lc pb pc e
  · have hb' : σ.next + 1 ≤ b := hb
    rw [AS.get_push_ne _ _ (by omega), Pi.add_ne _ _ (by omega)]
    exact h.fresh b (by omega)
  · by_cases e : b = σ.next
    · subst e; rw [Pi.add_same] at hb; cases hb; simp
    · rw [Pi.add_ne _ _ e] at hb
      have := h.bnd b p hb
      simp; omega
  · by_cases e : b = σ.next
    · subst e; rw [Pi.add_same] at hp; cases hp; exact h.low
    · rw [Pi.add_ne _ _ e] at hp; rw [AS.get_push_ne _ _ e] at hb
      exact h.mine b C p hb hm hp
  · have := h.low; simp; omega
  · obtain ⟨rs', hr⟩ := h.glob g hg
    exact ⟨rs', hle _ _ hr⟩
/-- A new row of cells. -/
theorem HR.row (h : HR known base w0 π σ w) (e : TypeId) {xs : List AV} {vs : List Value} (hx : VRL π xs vs) (spare : List Value) (wh : BK) (hw : wh = .whole → spare = []) (frz : Nat := 0) :
    HR known base w0 (π.add σ.next (w.heap.size, 0, vs.length + spare.length)) (σ.push (.cells (lay xs 0 .nil) xs.length e frz true wh)) (w.alloc (.cells (vs ++ spare).toArray e)) := by
  have hl := hx.length
  refine h.new _ _ _ ⟨w.heap.size, 0, vs.length + spare.length, (vs ++ spare).toArray, (0, 0), Pi.add_same _ _ _, ⟨e, ?_, fun _ => rfl⟩, by simp, by omega, fun i hi => ?_, fun _ o _ _ h2 => by simp at h2, fun hwh => ⟨rfl, by rw [hw hwh]; simp [hl]⟩, fun _ _ => ⟨rfl, .inl rfl⟩⟩
  · show (w.heap.push _)[w.heap.size]? = _
    simp
  · obtain ⟨x, hx'⟩ : ∃ x, xs[i]? = some x := ⟨xs[i], List.getElem?_eq_getElem hi⟩
    obtain ⟨v, hv, hr⟩ := hx.get i x hx'
    refine ⟨x, v, ?_, ?_, VR.mono (h.le_add _) _ _ hr⟩
    · rw [get_lay, if_pos ⟨by omega, by omega⟩]; simpa using hx'
    · have hlt : i < vs.length := by omega
      simp only [Nat.zero_add, List.getElem?_toArray]
      rw [List.getElem?_append_left hlt]; exact hv

theorem mine_live {B : ABlk} (h : B.mine = true) : B.live = true := by cases B <;> first | rfl | cases h
/-- A block is turned, another stays. -/
theorem HR.turn (h : HR known base w0 π σ w) {b : Nat} {B B' : ABlk} {w' : World} {p : Nat × Nat × Nat} (hb : σ.get b = some B) (mb : B.mine = true) (hp : π b = some p)
    (lb' : B'.mine = true → B.mine = true) (hB : BR π b B' w') (hk : ∀ k, k ≠ p.1 → w'.heap[k]? = w.heap[k]?) (hs : w'.heap.size = w.heap.size) (hbel : Below base w0 w') :
    HR known base w0 π (σ.put b B') w' := by
  refine ⟨fun c C hc => ?_, fun c d C D p' q' hc hd lc ld pc pd e => ?_, fun c hc => ?_, fun c q hc => ?_, fun c C q hc hm hq => ?_, by rw [hs]; exact h.low, hbel, h.glob⟩
  · by_cases e : c = b
    · subst e; rw [AS.get_put] at hc; cases hc; exact hB
    · rw [AS.get_put_ne _ _ e] at hc
      cases C with
      | dead => trivial
      | _ =>
        refine BR.mono (Pi.le_refl π) (fun q hq => hk _ (fun e1 => e ?_)) (h.blk c _ hc)
        exact (h.inj b c _ _ p q hb hc mb rfl hp hq e1.symm).symm
  · have key : ∀ x X, (σ.put b B').get x = some X → X.live = true → ∃ Y, σ.get x = some Y ∧ Y.live = true := by
      intro x X hx lx
      by_cases e : x = b
      · subst e; exact ⟨B, hb, mine_live mb⟩
      · rw [AS.get_put_ne _ _ e] at hx; exact ⟨X, hx, lx⟩
    have keym : ∀ x X, (σ.put b B').get x = some X → X.mine = true → ∃ Y, σ.get x = some Y ∧ Y.mine = true := by
      intro x X hx lx
      by_cases e : x = b
      · subst e; exact ⟨B, hb, mb⟩
      · rw [AS.get_put_ne _ _ e] at hx; exact ⟨X, hx, lx⟩
    obtain ⟨Y, hY, lY⟩ := keym c C hc lc
    obtain ⟨Z, hZ, lZ⟩ := key d D hd ld
    exact h.inj c d Y Z p' q' hY hZ lY lZ pc pd e
  · have hn := h.fresh c hc
    refine ⟨?_, hn.2⟩
    rw [AS.get_put_ne _ _ (fun e => by subst e; rw [hb] at hn; exact absurd hn.1 (by simp))]; exact hn.1
  · rw [hs]; exact h.bnd c q hc
  · by_cases e : c = b
    · subst e; rw [AS.get_put] at hc; cases hc; exact h.mine c B q hb (lb' hm) hq
    · rw [AS.get_put_ne _ _ e] at hc; exact h.mine c C q hc hm hq

/-- A cell that is read. -/
theorem HR.cell (h : HR known base w0 π σ w) {b : Nat} {c : T AV} {size : Nat} {e : TypeId} {frz : Nat} {own : Bool} {wh : BK} (hb : σ.get b = some (.cells c size e frz own wh)) :
    ∃ rb δ rs, π b = some (rb, δ, rs) ∧ δ + size ≤ rs ∧ ∀ i, i < size → ∃ x v, c.get i = some x ∧ w.cell? ⟨rb, δ + i, none⟩ = some v ∧ VR π x v := by
  obtain ⟨rb, δ, rs, cs, fr, h1, ⟨el, h2, _⟩, h3, h4, h5, _, _⟩ := h.blk b _ hb
  refine ⟨rb, δ, rs, h1, h4, fun i hi => ?_⟩
  obtain ⟨x, v, a1, a2, a3⟩ := h5 i hi
  exact ⟨x, v, a1, by simp [World.cell?, h2, a2], a3⟩
/-- Cells that are read. -/
theorem HR.cells (h : HR known base w0 π σ w) {b : Nat} {c : T AV} {size : Nat} {e : TypeId} {frz : Nat} {own : Bool} {wh : BK} (hb : σ.get b = some (.cells c size e frz own wh))
    {n o : Nat} {xs : List AV} (hr : readN c n o = some xs) (ho : o + n ≤ size) :
    ∃ rb δ rs vs, π b = some (rb, δ, rs) ∧ VRL π xs vs ∧ vs.length = n ∧ w.rangeAt rb (δ + o) vs ∧ δ + size ≤ rs := by
  obtain ⟨rb, δ, rs, h1, h4, h5⟩ := h.cell hb
  obtain ⟨hl, hg⟩ := readN_some hr
  have : ∀ (m : Nat) (ys : List AV) (k : Nat), ys.length = m → k + m ≤ n → (∀ j, j < m → c.get (o + (k + j)) = ys[j]?) →
      ∃ vs, VRL π ys vs ∧ vs.length = m ∧ w.rangeAt rb (δ + o + k) vs := by
    intro m
    induction m with
    | zero => intro ys k hy _ _; cases ys with
      | nil => exact ⟨[], VRL.nil, rfl, fun j v hv => by simp at hv⟩
      | cons => simp at hy
    | succ m ih =>
      intro ys k hy hk hj
      cases ys with
      | nil => simp at hy
      | cons y ys =>
        obtain ⟨vs, a1, a2, a3⟩ := ih ys (k + 1) (by simpa using hy) (by omega) (fun j hjm => by
          have := hj (j + 1) (by omega)
          rw [show k + 1 + j = k + (j + 1) by omega, this]; simp)
        obtain ⟨x, v, b1, b2, b3⟩ := h5 (o + k) (by omega)
        have h0 := hj 0 (by omega)
        simp only [Nat.add_zero, List.getElem?_cons_zero] at h0
        rw [b1] at h0
        cases h0
        refine ⟨v :: vs, VRL.cons b3 a1, by simp [a2], fun j u hu => ?_⟩
        cases j with
        | zero => simp at hu; subst hu; simpa [Nat.add_assoc] using b2
        | succ j => simp at hu; have := a3 j u hu; rw [show δ + o + k + (j + 1) = δ + o + (k + 1) + j by omega]; exact this
  obtain ⟨vs, a1, a2, a3⟩ := this n xs 0 hl (by omega) (fun j hj => by simpa using hg j hj)
  exact ⟨rb, δ, rs, vs, h1, a1, a2, by simpa using a3, h4⟩
/-- Cells that are written. -/
theorem HR.write (h : HR known base w0 π σ w) {b o : Nat} {xs : List AV} {σ' : AS} (hw : writeL σ b o xs = some σ') {vs : List Value} (hx : VRL π xs vs) :
    ∃ rb δ rs, π b = some (rb, δ, rs) ∧ w.there rb (δ + o) vs.length ∧ (∀ v ∈ vs, v.oneCell' = true) ∧ HR known base w0 π σ' (w.setCells rb (δ + o) vs) := by
  unfold writeL at hw
  split at hw
  case h_2 => cases hw
  case h_1 c size e frz wh hb =>
    obtain ⟨g1, hw⟩ := gB_some hw
    obtain ⟨g2, hw⟩ := gB_some hw
    obtain ⟨g3, hw⟩ := gB_some hw
    rw [T.seq_eq, AS.upd_eq] at hw
    simp only [Option.some.injEq] at hw
    subst hw
    have hl := hx.length
    have hle : o + xs.length ≤ size := by simpa using g1
    have hfz : frz ≤ o := by simpa using g2
    obtain ⟨rb, δ, rs, cs, fr, h1, ⟨el, h2, h2e⟩, h3, h4, h5, h6, h7⟩ := h.blk b _ hb
    rw [h2e rfl] at h2
    have hmine := h.mine b _ _ hb rfl h1
    refine ⟨rb, δ, rs, h1, fun j hj => ⟨?_, ?_⟩, allOne_one g3 hx, ?_⟩
    · obtain ⟨x, v, _, a2, _⟩ := h5 (o + j) (by omega)
      simp [World.cell?, h2, Nat.add_assoc, a2]
    · cases hf : w.frozen? ⟨rb, δ + o + j, none⟩ with
      | false => rfl
      | true =>
        simp only [World.frozen?, h2] at hf
        obtain ⟨lo, hi⟩ := fr
        simp at hf
        have := h6 rfl (δ + o + j) (by omega) hf.1 hf.2
        omega
    · obtain ⟨cs', a1, a2, a3⟩ := setCells_heap rb vs (δ + o) w cs e fr h2
      refine h.turn hb rfl h1 (fun _ => rfl) ⟨rb, δ, rs, cs', fr, h1, ⟨_, a1, fun _ => rfl⟩, by omega, h4, fun i hi => ?_, h6, h7⟩ (fun k hk => setCells_other rb vs _ w k hk) (setCells_size rb vs _ w) (setCells_below rb hmine vs _ w h.below)
      rw [a3]
      by_cases hin : o ≤ i ∧ i < o + xs.length
      · obtain ⟨x, hx'⟩ : ∃ x, xs[i - o]? = some x := ⟨xs[i - o]'(by omega), List.getElem?_eq_getElem (by omega)⟩
        obtain ⟨v, hv, hr⟩ := hx.get _ x hx'
        refine ⟨x, v, ?_, ?_, hr⟩
        · rw [get_lay, if_pos hin]; exact hx'
        · rw [if_pos ⟨by omega, by omega, by omega⟩, show δ + i - (δ + o) = i - o by omega]; exact hv
      · obtain ⟨x, v, b1, b2, b3⟩ := h5 i hi
        refine ⟨x, v, ?_, ?_, b3⟩
        · rw [get_lay, if_neg hin]; exact b1
        · rw [if_neg (by omega)]; exact b2
end Go.Proofs.YtjagjjdkgidkjaaGreatDoor.Ev
