/- A verified evaluator of closed calls, of no program: a part (Ev6 Ev7 Ev8 Ev9 Ev10 Ev11 Ev12) of the proof that the law ParseParts answers true. No condition. -/
import Derived.Test.YtjagjjdkgidkjaaGreatDoorPtE1
import Derived.Great.BuildSlice
import Derived.Laws.MakeOwn
import Derived.Laws.RangeString
import Derived.Lib.UnsafeStr
import Derived.Laws.Append
import Derived.Laws.StructEq
import Derived.RangeFuncRecord
set_option linter.all false
set_option linter.all false
namespace Go.Proofs.YtjagjjdkgidkjaaGreatDoor.Ev
open Go Go.RowKit

variable {P : Program} {known : Nat → Bool} {base : Nat} {w0 : World} {π : Pi} {σ : AS} {w : World}

theorem VR.int {k : IntKind} {n : Int} {v : Value} (h : VR π (.int k n) v) : v = .int k n := by simpa [VR] using h
theorem VR.bool {b : Bool} {v : Value} (h : VR π (.bool b) v) : v = .bool b := by simpa [VR] using h
theorem VR.nilIface {v : Value} (h : VR π .nilIface v) : v = .nilIface := by simpa [VR] using h
theorem kindEq_true {k k' : IntKind} (h : kindEq k k' = true) : k = k' := by simpa [kindEq] using h

theorem equal_step (t : TypeId) (x y : Value) : ∃ d, Op.equal t x y = Op.equalIn (d + 1) t x y := ⟨9999, rfl⟩
theorem eqNil_gives {t : TypeId} {d : TypeDesc} (hd : P.underlying t = some d) {a b : AV} {va vb : Value} {r : Bool} (h : eqNil P d a b = some r) (ha : VR π a va) (hb : VR π b vb) :
    (Op.equal t va vb).run P w = .ok r w ∧ (∀ op x y, (eqGuard op t x y va vb).run P w = .ok () w) := by
  unfold eqNil at h
  split at h
  case h_1 e b o b' o' =>
    simp only [VR] at ha hb
    obtain ⟨rb, δ, rs, p1, rfl⟩ := ha
    obtain ⟨rb', δ', rs', p2, rfl⟩ := hb
    split at h
    · rename_i n hbb hn
      have hbb' : b = b' := by simpa using hbb
      subst hbb'
      rw [p1] at p2
      simp only [Option.some.injEq, Prod.mk.injEq] at p2
      obtain ⟨rfl, rfl, rfl⟩ := p2
      simp only [Option.some.injEq] at h
      refine ⟨?_, fun op x y => by cases op <;> rfl⟩
      have hsz := sizeOfT_run hn w
      obtain ⟨k, hk⟩ := equal_step t (.pointer (some ⟨rb, δ + o, none⟩)) (.pointer (some ⟨rb, δ + o', none⟩))
      rw [hk]
      simp only [Op.equalIn, Sem.run_bind, run_underlying hd, Result.andThen_ok, hsz]
      simp [sameAddr, ← h]
      rw [Bool.eq_iff_iff]; simp
    · cases h
  all_goals (try (cases h; done))
  all_goals
    simp only [Option.some.injEq] at h
    subst h
    simp only [VR] at ha hb
    (repeat' (first | (obtain ⟨_, _, _, _, _, _, rfl, _⟩ := ha) | (obtain ⟨_, _, _, _, rfl⟩ := ha) | (obtain ⟨_, rfl, _⟩ := ha) | (obtain ⟨_, _, rfl, _⟩ := ha) | subst ha))
    (repeat' (first | (obtain ⟨_, _, _, _, _, _, rfl, _⟩ := hb) | (obtain ⟨_, _, _, _, rfl⟩ := hb) | (obtain ⟨_, rfl, _⟩ := hb) | (obtain ⟨_, _, rfl, _⟩ := hb) | subst hb))
    refine ⟨?_, fun op x y => by cases op <;> rfl⟩
    obtain ⟨k, hk⟩ := equal_step t _ _
    rw [hk]
    simp only [Op.equalIn, Sem.run_bind, run_underlying hd, Result.andThen_ok]
    rfl

theorem flatBin_gives {op : BinOp} {t : TypeId} {x y : Operand} {a b : AV} {va vb : Value} {r : AV} (h : binFlat P op t x y a b = some r) (ha : VR π a va) (hb : VR π b vb) :
    Gives P π w (do eqGuard op t x y va vb; binOp op t va vb) r := by
  unfold binFlat at h
  obtain ⟨ua, hua, h⟩ := oB_some h
  obtain ⟨ub, hub, h⟩ := oB_some h
  obtain rfl := flat_eq hua ha
  obtain rfl := flat_eq hub hb
  exact viaPure_run h w
theorem rest_gives {op : BinOp} {t : TypeId} {x y : Operand} {a b : AV} {va vb : Value} {r : AV} (h : binRest P op t x y a b = some r) (ha : VR π a va) (hb : VR π b vb)
    (hk : ∀ (f : BinOp), f = .eql ∨ f = .neq → ∀ d r, P.underlying t = some d → eqNil P d a b = some r →
      (binOp f t va vb).run P w = .ok (.bool (if f = .eql then r else !r)) w) :
    Gives P π w (do eqGuard op t x y va vb; binOp op t va vb) r := by
  unfold binRest at h
  split at h
  · obtain ⟨d, hd, h⟩ := oB_some h
    cases he : eqNil P d a b with
    | none => rw [he] at h; exact flatBin_gives h ha hb
    | some q =>
      rw [he] at h
      refine Gives.bool h ?_
      have h1 := eqNil_gives (w := w) hd he ha hb
      have h2 := hk .eql (.inl rfl) d q hd he
      simp only [Sem.run_bind, h1.2, Result.andThen_ok, h2, if_true]
  · obtain ⟨d, hd, h⟩ := oB_some h
    cases he : eqNil P d a b with
    | none => rw [he] at h; exact flatBin_gives h ha hb
    | some q =>
      rw [he] at h
      refine Gives.bool h ?_
      have h1 := eqNil_gives (w := w) hd he ha hb
      have h2 := hk .neq (.inr rfl) d q hd he
      simp only [Sem.run_bind, h1.2, Result.andThen_ok, h2]
      rfl
  · exact flatBin_gives h ha hb
/-- '==' and '!=' where neither operand is an integer, a float, a complex number or a string, and both are of the kinds that 'eqNil' knows. -/
theorem binOp_eq {t : TypeId} {d : TypeDesc} {a b : AV} {va vb : Value} {q : Bool} (hd : P.underlying t = some d) (he : eqNil P d a b = some q) (ha : VR π a va) (hb : VR π b vb) (f : BinOp) (hf : f = .eql ∨ f = .neq) :
    (binOp f t va vb).run P w = .ok (.bool (if f = .eql then q else !q)) w := by
  have h1 := (eqNil_gives (w := w) hd he ha hb).1
  unfold eqNil at he
  split at he <;> (try (cases he; done))
  all_goals
    simp only [VR] at ha hb
    (repeat' (first | (obtain ⟨_, _, _, _, _, _, rfl, _⟩ := ha) | (obtain ⟨_, _, _, _, rfl⟩ := ha) | (obtain ⟨_, rfl, _⟩ := ha) | (obtain ⟨_, _, rfl, _⟩ := ha) | subst ha))
    (repeat' (first | (obtain ⟨_, _, _, _, _, _, rfl, _⟩ := hb) | (obtain ⟨_, _, _, _, rfl⟩ := hb) | (obtain ⟨_, rfl, _⟩ := hb) | (obtain ⟨_, _, rfl, _⟩ := hb) | subst hb))
    rcases hf with rfl | rfl
    · simp only [binOp, Sem.run_bind, h1, Result.andThen_ok, Sem.run_pure, if_true]
    · simp only [binOp, Sem.run_bind, h1, Result.andThen_ok, Sem.run_pure]; rfl
theorem eqGuard_plain {op : BinOp} {t : TypeId} {x y : Operand} {va vb : Value} (h : (∀ cs, va ≠ .agg cs) ∧ va ≠ .nilIface) : (eqGuard op t x y va vb).run P w = .ok () w := by
  unfold eqGuard
  cases op <;> first
    | rfl
    | (cases va <;> first
        | exact absurd rfl (h.1 _)
        | exact absurd rfl h.2
        | rfl)
theorem memL_mem {x : List Nat} : ∀ {l : List (List Nat)}, memL x l = true → x ∈ l
  | [], h => by cases h
  | y :: l, h => by
    simp only [memL] at h
    split at h
    · rename_i he
      rw [eqL_eq] at he
      have : x = y := by simpa using he
      subst this; exact List.mem_cons_self
    · exact List.mem_cons_of_mem _ (memL_mem h)
theorem bin_gives {op : BinOp} {t : TypeId} {x y : Operand} {a b : AV} {va vb : Value} {r : AV} (h : bin P op t x y a b = some r) (ha : VR π a va) (hb : VR π b vb) :
    Gives P π w (do eqGuard op t x y va vb; binOp op t va vb) r := by
  unfold bin at h
  split at h
  · rename_i cs
    split at h
    · rename_i n
      simp only [VR] at ha hb
      obtain ⟨s, rfl, hs⟩ := ha
      obtain ⟨u, rfl, rfl⟩ := hb
      have hg : (eqGuard op t x y (.string s) (.string u)).run P w = .ok () w := eqGuard_plain ⟨fun _ => by simp, by simp⟩
      unfold binOther at h
      split at h
      · rename_i hm
        have hne : eqL (bytesOf s) (bytesOf u) = false := by
          rw [eqL_eq]
          have := memL_mem hm
          have hd : bytesOf s ≠ bytesOf u := fun e => hs (e ▸ this)
          simpa using hd
        have key : binStr op (bytesOf s) (bytesOf u) = some r := by
          split at h
          · simp only [binStr, hne]; rw [boolI, fBool_eq]; exact h
          · simp only [binStr, hne]; rw [boolI, fBool_eq]; exact h
          · cases h
        obtain ⟨v, e1, e2⟩ := binStr_gives (P := P) (π := π) (w := w) (t := t) key
        exact ⟨v, by simp only [Sem.run_bind, hg, Result.andThen_ok, e1], e2⟩
      · cases h
    · cases h
  · rename_i m
    split at h
    · rename_i z
      split at h
      · rename_i hlt
        simp only [VR] at ha
        obtain ⟨q, hq, rfl⟩ := ha
        obtain rfl := hb.int
        have hlt' : z < m := by simp [Nat.blt] at hlt; omega
        have hg : (eqGuard op t x y (.int .i64 (.ofNat q)) (.int .i64 (.ofNat z))).run P w = .ok () w := eqGuard_plain ⟨fun _ => by simp, by simp⟩
        have hne : eqF (.ofNat q) (.ofNat z) = false := by
          rw [eqF_eq]
          simp; omega
        have key : binInt op .i64 (.ofNat q) (.ofNat z) = some r := by
          split at h
          · simp only [binInt, hne]; rw [boolI, fBool_eq]; exact h
          · simp only [binInt, hne]; rw [boolI, fBool_eq]; exact h
          · cases h
        obtain ⟨v, e1, e2⟩ := binInt_gives (P := P) (π := π) (w := w) (t := t) key
        exact ⟨v, by simp only [Sem.run_bind, hg, Result.andThen_ok, e1], e2⟩
      · cases h
    · cases h
  · rename_i k m
    split at h
    · rename_i k' n
      obtain rfl := ha.int
      obtain rfl := hb.int
      have hg : (eqGuard op t x y (.int k m) (.int k' n)).run P w = .ok () w := eqGuard_plain ⟨fun _ => by simp, by simp⟩
      have key : Gives P π w (binOp op t (.int k m) (.int k' n)) r := by
        unfold binII at h
        split at h
        case h_9 =>
          obtain ⟨h1, h2⟩ := gB_some h
          obtain rfl := kindEq_true h1
          exact binInt_gives h2
        all_goals exact viaPure_run h w
      obtain ⟨v, e1, e2⟩ := key
      exact ⟨v, by simp only [Sem.run_bind, hg, Result.andThen_ok, e1], e2⟩
    · cases h
  · rename_i m
    split at h
    · rename_i n
      simp only [VR] at ha hb
      obtain ⟨s, rfl, rfl⟩ := ha
      obtain ⟨u, rfl, rfl⟩ := hb
      have hg : (eqGuard op t x y (.string s) (.string u)).run P w = .ok () w := eqGuard_plain ⟨fun _ => by simp, by simp⟩
      obtain ⟨v, e1, e2⟩ := binStr_gives (P := P) (π := π) (w := w) (t := t) h
      exact ⟨v, by simp only [Sem.run_bind, hg, Result.andThen_ok, e1], e2⟩
    · cases h
  · rename_i m
    split at h
    · rename_i n
      obtain rfl := ha.bool
      obtain rfl := hb.bool
      have hg : (eqGuard op t x y (.bool m) (.bool n)).run P w = .ok () w := eqGuard_plain ⟨fun _ => by simp, by simp⟩
      unfold binBB at h
      split at h
      · rename_i hu
        refine Gives.bool h ?_
        obtain ⟨k, hk⟩ := equal_step t (.bool m) (.bool n)
        simp only [Sem.run_bind, hg, Result.andThen_ok, binOp, hk, Op.equalIn, run_underlying hu]
        rfl
      · rename_i hu
        refine Gives.bool h ?_
        obtain ⟨k, hk⟩ := equal_step t (.bool m) (.bool n)
        simp only [Sem.run_bind, hg, Result.andThen_ok, binOp, hk, Op.equalIn, run_underlying hu]
        rfl
      · cases h
    · cases h
  · split at h
    · obtain rfl := ha.nilIface
      obtain rfl := hb.nilIface
      unfold binNN at h
      split at h
      · rename_i ms hu hcc
        refine Gives.bool h ?_
        have hg : (eqGuard .eql t x y .nilIface .nilIface).run P w = .ok () w := by
          cases x <;> cases y <;> first
            | rfl
            | (simp [isConst] at hcc)
        obtain ⟨k, hk⟩ := equal_step t .nilIface .nilIface
        simp only [Sem.run_bind, hg, Result.andThen_ok, binOp, hk, Op.equalIn, run_underlying hu]
        rfl
      · rename_i ms hu hcc
        refine Gives.bool h ?_
        have hg : (eqGuard .neq t x y .nilIface .nilIface).run P w = .ok () w := by
          cases x <;> cases y <;> first
            | rfl
            | (simp [isConst] at hcc)
        obtain ⟨k, hk⟩ := equal_step t .nilIface .nilIface
        simp only [Sem.run_bind, hg, Result.andThen_ok, binOp, hk, Op.equalIn, run_underlying hu]
        rfl
      · cases h
    · exact rest_gives h ha hb (fun f hf d q hd he => binOp_eq hd he ha hb f hf)
  · exact rest_gives h ha hb (fun f hf d q hd he => binOp_eq hd he ha hb f hf)
end Go.Proofs.YtjagjjdkgidkjaaGreatDoor.Ev
set_option linter.all false
namespace Go.Proofs.YtjagjjdkgidkjaaGreatDoor.Ev
open Go Go.RowKit

variable {P : Program} {known : Nat → Bool} {base : Nat} {w0 : World} {π : Pi} {σ : AS} {w : World}

/-- The operands' readings. -/
def RhoR (π : Pi) (ρ : Rho) (e : Operand → Value) : Prop := ∀ x v, ρ x = some v → VR π v (e x)

theorem argsA_rel {ρ : Rho} {e : Operand → Value} (hρ : RhoR π ρ e) : ∀ {l : List Operand} {xs : List AV}, argsA ρ l = some xs → VRL π xs (l.map e)
  | [], xs, h => by simp only [argsA, Option.some.injEq] at h; subst h; exact VRL.nil
  | x :: r, xs, h => by
    simp only [argsA] at h
    split at h
    · cases h
    · rename_i v hv
      split at h
      · cases h
      · rename_i l hl
        simp only [Option.some.injEq] at h
        subst h
        exact VRL.cons (hρ _ _ hv) (argsA_rel hρ hl)
/-- Numbered parts. -/
def PL (π : Pi) : List (Nat × AV) → List (Nat × Value) → Prop
  | [], vs => vs = []
  | (i, x) :: r, vs => ∃ v t, vs = (i, v) :: t ∧ VR π x v ∧ PL π r t
theorem partsA_rel {ρ : Rho} {e : Operand → Value} (hρ : RhoR π ρ e) : ∀ {l : List (Nat × Operand)} {xs : List (Nat × AV)}, partsA ρ l = some xs → PL π xs (l.map fun (i, x) => (i, e x))
  | [], xs, h => by simp only [partsA, Option.some.injEq] at h; subst h; simp [PL]
  | (i, x) :: r, xs, h => by
    simp only [partsA] at h
    split at h
    · cases h
    · rename_i v hv
      split at h
      · cases h
      · rename_i l hl
        simp only [Option.some.injEq] at h
        subst h
        simp only [PL, List.map_cons]
        exact ⟨_, _, rfl, hρ _ _ hv, partsA_rel hρ hl⟩

theorem cells_rel {x : AV} {v : Value} (h : VR π x v) : VRL π x.cells v.cells.toList := by
  cases x with
  | agg cs => simp only [VR] at h; obtain ⟨ys, rfl, h2⟩ := h; exact h2
  | tuple cs => have h' := h; simp only [VR] at h'; obtain ⟨ys, rfl, h2⟩ := h'; exact VRL.cons h VRL.nil
  | str l => have h' := h; simp only [VR] at h'; obtain ⟨s, rfl, _⟩ := h'; exact VRL.cons h VRL.nil
  | ostr l => have h' := h; simp only [VR] at h'; obtain ⟨s, rfl, _⟩ := h'; exact VRL.cons h VRL.nil
  | ptr b o => have h' := h; simp only [VR] at h'; obtain ⟨_, _, _, _, rfl⟩ := h'; exact VRL.cons h VRL.nil
  | slice b o l c s e => have h' := h; simp only [VR] at h'; obtain ⟨_, _, _, _, _, _, rfl, _⟩ := h'; exact VRL.cons h VRL.nil
  | map r => have h' := h; simp only [VR] at h'; obtain ⟨_, _, _, _, rfl⟩ := h'; exact VRL.cons h VRL.nil
  | func f p c => have h' := h; simp only [VR] at h'; obtain ⟨_, _, rfl, _⟩ := h'; exact VRL.cons h VRL.nil
  | iface t y => have h' := h; simp only [VR] at h'; obtain ⟨_, rfl, _⟩ := h'; exact VRL.cons h VRL.nil
  | yield b => have h' := h; simp only [VR] at h'; obtain ⟨_, _, _, rfl⟩ := h'; exact VRL.cons h VRL.nil
  | any => have h' := h; simp only [VR] at h'; obtain ⟨h', _⟩ := h'; cases v <;> first | (exact VRL.cons h VRL.nil) | cases h'
  | least n => have h' := h; simp only [VR] at h'; obtain ⟨_, _, rfl⟩ := h'; exact VRL.cons h VRL.nil
  | _ => have h' := h; simp only [VR] at h'; subst h'; exact VRL.cons h VRL.nil
theorem cells_size {x : AV} {v : Value} (h : VR π x v) : v.cells.size = x.cells.length := by
  have := (cells_rel h).length; simpa using this

theorem fold_set (off : Nat) : ∀ (l : List Value) (k : Nat) (cs : Array Value), ((l.zipIdx k).foldl (fun cs (c, j) => cs.setIfInBounds (off + j) c) cs).size = cs.size ∧
    ∀ i, ((l.zipIdx k).foldl (fun cs (c, j) => cs.setIfInBounds (off + j) c) cs)[i]? = if off + k ≤ i ∧ i < off + k + l.length ∧ i < cs.size then l[i - (off + k)]? else cs[i]?
  | [], k, cs => ⟨rfl, fun i => by simp; omega⟩
  | v :: l, k, cs => by
    simp only [List.zipIdx_cons, List.foldl_cons]
    obtain ⟨h1, h2⟩ := fold_set off l (k + 1) (cs.setIfInBounds (off + k) v)
    refine ⟨by rw [h1]; simp, fun i => ?_⟩
    rw [h2 i]
    simp only [Array.size_setIfInBounds]
    by_cases hi : i = off + k
    · subst hi
      rw [if_neg (by omega)]
      by_cases hs : off + k < cs.size
      · rw [if_pos ⟨by omega, by simp, hs⟩]; simp [hs]
      · rw [if_neg (by omega)]; rw [Array.getElem?_eq_none (by simp; omega), Array.getElem?_eq_none (by omega)]
    · by_cases h3 : off + (k + 1) ≤ i ∧ i < off + (k + 1) + l.length ∧ i < cs.size
      · rw [if_pos h3, if_pos ⟨by omega, by simp; omega, h3.2.2⟩]
        obtain ⟨j, hj⟩ : ∃ j, i - (off + k) = j + 1 := ⟨i - (off + k) - 1, by omega⟩
        rw [hj, show i - (off + (k + 1)) = j by omega]; simp
      · rw [if_neg h3, if_neg (by simp; omega), Array.getElem?_setIfInBounds_ne (by omega)]
theorem splice_rel {cs vs : List AV} {off : Nat} {c' : Array Value} {v' : Array Value} (hc : VRL π cs c'.toList) (hv : VRL π vs v'.toList) (hle : off + vs.length ≤ cs.length) :
    VRL π (splice cs off vs) (v'.zipIdx.foldl (fun cs (c, j) => cs.setIfInBounds (off + j) c) c').toList := by
  have e : v'.zipIdx.foldl (fun cs (c, j) => cs.setIfInBounds (off + j) c) c' = (v'.toList.zipIdx 0).foldl (fun cs (c, j) => cs.setIfInBounds (off + j) c) c' := by
    rw [← Array.foldl_toList, Array.toList_zipIdx]
  rw [e]
  obtain ⟨h1, h2⟩ := fold_set off v'.toList 0 c'
  have lc := hc.length
  have lv := hv.length
  have : ((v'.toList.zipIdx 0).foldl (fun cs (c, j) => cs.setIfInBounds (off + j) c) c').toList = c'.toList.take off ++ v'.toList ++ c'.toList.drop (off + vs.length) := by
    apply List.ext_getElem?
    intro i
    rw [Array.getElem?_toList, h2 i]
    simp only [Nat.add_zero]
    by_cases a1 : i < off
    · rw [if_neg (by omega)]
      rw [List.append_assoc, List.getElem?_append_left (by simp; simp at lc; omega), List.getElem?_take_of_lt a1, Array.getElem?_toList]
    · by_cases a2 : i < off + vs.length
      · rw [if_pos ⟨by omega, by omega, by simp at lc; omega⟩]
        rw [List.append_assoc, List.getElem?_append_right (by simp; omega), List.getElem?_append_left (by simp; simp at lc lv; omega)]
        congr 1
        simp; simp at lc; omega
      · rw [if_neg (by omega)]
        rw [List.getElem?_append_right (by simp; simp at lc lv; omega), List.getElem?_drop]
        rw [Array.getElem?_toList]
        congr 1
        simp; simp at lc lv; omega
  rw [this]
  exact VRL.append (VRL.append (VRL.take _ hc) hv) (VRL.drop _ hc)
theorem fillA_rel {pa : Nat → Option (Nat × Nat)} {place : Nat → Option (Nat × Nat)} (hp : ∀ i p, pa i = some p → place i = some p) :
    ∀ {parts : List (Nat × AV)} {cs out : List AV} {c' : Array Value} {ps : List (Nat × Value)}, fillA pa cs parts = some out → VRL π cs c'.toList → PL π parts ps →
      ∃ o', Instr.fill place c' ps = some o' ∧ VRL π out o'.toList
  | [], cs, out, c', ps, h, hc, hs => by
    simp only [fillA, Option.some.injEq] at h
    simp only [PL] at hs
    subst h; subst hs
    exact ⟨c', rfl, hc⟩
  | (i, v) :: rest, cs, out, c', ps, h, hc, hs => by
    simp only [PL] at hs
    obtain ⟨u, t, rfl, hu, ht⟩ := hs
    simp only [fillA] at h
    split at h
    · cases h
    · rename_i off size hpi
      split at h
      · rename_i b1 b2
        have b1' : v.cells.length = size := by simpa using b1
        have b2' : off + size ≤ cs.length := by simpa using b2
        have lc := hc.length
        have lu := cells_size hu
        simp at lc
        simp only [Instr.fill, hp _ _ hpi]
        have hcond : (u.cells.size != size || decide (off + u.cells.size > c'.size)) = false := by
          simp; exact ⟨by omega, by omega⟩
        rw [show (decide (u.cells.size ≠ size) || decide (off + u.cells.size > c'.size)) = false by simp; exact ⟨by omega, by omega⟩]
        exact fillA_rel hp h (splice_rel hc (cells_rel hu) (by omega)) ht
      · cases h
theorem places_some (w : World) : ∀ (fs : List Field), (∀ f ∈ fs, (sizeOfT P f.type).isSome = true) →
    ∃ places, fs.mapM (fun f => (P.info? f.type).map fun i => (f.offset, i.size)) = some places ∧
      ∀ (i : Nat) (f : Field) (n : Nat), fs[i]? = some f → sizeOfT P f.type = some n → places[i]? = some (f.offset, n)
  | [], _ => ⟨[], by simp, fun i f n h => by simp at h⟩
  | g :: fs, h => by
    obtain ⟨ps, h1, h2⟩ := places_some w fs (fun f hf => h f (List.mem_cons_of_mem _ hf))
    obtain ⟨n, hn⟩ := Option.isSome_iff_exists.1 (h g List.mem_cons_self)
    have hg : (P.info? g.type).map (fun i => (g.offset, i.size)) = some (g.offset, n) := by
      unfold sizeOfT at hn
      cases hi : P.info? g.type with
      | none => simp [hi] at hn
      | some i => simp [hi] at hn ⊢; exact hn
    refine ⟨(g.offset, n) :: ps, by simp [List.mapM_cons, hg, h1], fun i f m hi hm => ?_⟩
    cases i with
    | zero => simp at hi; subst hi; rw [hn] at hm; cases hm; rfl
    | succ i => simp at hi ⊢; exact h2 i f m hi hm
theorem build_gives {t : TypeId} {l : List (Nat × AV)} {ps : Array (Nat × Value)} {x : AV} (h : buildA P t l = some x) (hl : PL π l ps.toList) : Gives P π w (Instr.build t ps) x := by
  unfold buildA at h
  split at h
  · rename_i z fs hz hu
    split at h
    · rename_i hall
      split at h
      · rename_i cs hcs
        simp only [Option.some.injEq] at h
        subst h
        unfold zeroOfT at hz
        cases hi : P.info? t with
        | none => simp [hi] at hz
        | some it =>
          simp only [hi] at hz
          cases hzz : it.zero with
          | none => simp [hzz] at hz
          | some zv =>
            simp only [hzz] at hz
            have hzr := ofValue_rel (π := π) hz
            have hall' : ∀ f ∈ fs.toList, (sizeOfT P f.type).isSome = true := fun f hf => (Array.all_eq_true_iff_forall_mem.1 hall) f (by simpa using hf)
            obtain ⟨places, p1, p2⟩ := places_some w fs.toList hall'
            have hp : ∀ i p, placesA P fs i = some p → places.toArray[i]? = some p := by
              intro i p hip
              unfold placesA at hip
              split at hip
              · rename_i f hf
                split at hip
                · rename_i n hn
                  simp only [Option.some.injEq] at hip
                  subst hip
                  simpa using p2 i f n (by simpa using hf) hn
                · cases hip
              · cases hip
            obtain ⟨o', q1, q2⟩ := fillA_rel hp hcs (cells_rel hzr) hl
            refine ⟨.agg o', run_build w t ps o' ?_, ?_⟩
            · simp only [Program.built, hi, hu, hzz, p1]
              exact q1
            · simp only [VR]; exact ⟨o'.toList, by simp, q2⟩
      · cases h
    · cases h
  · rename_i z n e hz hu
    split at h
    · rename_i m hm
      split at h
      · rename_i cs hcs
        simp only [Option.some.injEq] at h
        subst h
        unfold zeroOfT at hz
        cases hi : P.info? t with
        | none => simp [hi] at hz
        | some it =>
          simp only [hi] at hz
          cases hzz : it.zero with
          | none => simp [hzz] at hz
          | some zv =>
            simp only [hzz] at hz
            have hzr := ofValue_rel (π := π) hz
            cases hie : P.info? e with
            | none => simp [sizeOfT, hie] at hm
            | some ie =>
              have hms : ie.size = m := by simpa [sizeOfT, hie] using hm
              obtain ⟨o', q1, q2⟩ := fillA_rel (place := fun i => some (i * ie.size, ie.size)) (fun i p hip => by rw [hms]; exact hip) hcs (cells_rel hzr) hl
              refine ⟨.agg o', run_build w t ps o' ?_, ?_⟩
              · simp only [Program.built, hi, hu, hzz, hie]
                exact q1
              · simp only [VR]; exact ⟨o'.toList, by simp, q2⟩
      · cases h
    · cases h
  · cases h
end Go.Proofs.YtjagjjdkgidkjaaGreatDoor.Ev
set_option linter.all false
namespace Go.Proofs.YtjagjjdkgidkjaaGreatDoor.Ev
open Go Go.RowKit

variable {P : Program} {known : Nat → Bool} {base : Nat} {w0 : World} {π : Pi} {σ : AS} {w : World}

theorem natI_some {x : AV} {n : Nat} (h : natI x = some n) : ∃ k, x = .int k (.ofNat n) := by
  unfold natI at h
  split at h
  · rename_i k m; rw [fNat_eq] at h; simp only [Option.some.injEq] at h; subst h; exact ⟨k, rfl⟩
  · cases h
theorem part_gives {t : TypeId} {cs : List AV} {c' : Array Value} {off : Nat} {x : AV} (h : partA P t cs off = some x) (hc : VRL π cs c'.toList) : Gives P π w (part t c' off) x := by
  unfold partA at h
  have lc := hc.length
  simp at lc
  split at h
  · rename_i ha
    split at h
    · rename_i n hn
      split at h
      · rename_i hle
        have hle' : off + n ≤ cs.length := by simpa using hle
        simp only [Option.some.injEq] at h
        subst h
        refine ⟨.agg (c'.extract off (off + n)), ?_, ?_⟩
        · simp [part, isAggT_run ha, sizeOfT_run hn]
        · simp only [VR]
          refine ⟨(c'.toList.drop off).take n, ?_, VRL.take n (VRL.drop off hc)⟩
          congr 1
          apply Array.ext'
          simp [Array.toList_extract]
      · cases h
    · cases h
  · rename_i ha
    obtain ⟨v, hv, hr⟩ := hc.get off x h
    refine ⟨v, ?_, hr⟩
    simp only [part, Sem.run_bind, isAggT_run ha, Result.andThen_ok, Bool.false_eq_true, if_false]
    rw [Array.getElem?_toList] at hv
    rw [hv]; rfl
  · cases h

/-- A bound of a slice expression. -/
theorem bound_gives {x : Option AV} {v : Option Value} {dflt most n : Nat} (hx : ∀ a, x = some a → ∃ u, v = some u ∧ VR π a u) (hn : x = none → v = none) (h : boundA x dflt most = some n) (code : BoundsCode) :
    (match v with | some u => Instr.sliceBound u most code | none => pure dflt).run P w = .ok n w ∧ (x ≠ none → n ≤ most) ∧ (x = none → n = dflt) := by
  unfold boundA at h
  split at h
  · simp only [Option.some.injEq] at h
    subst h
    rw [hn rfl]
    exact ⟨rfl, (fun h => absurd rfl h), fun _ => rfl⟩
  · rename_i a
    obtain ⟨u, rfl, hu⟩ := hx a rfl
    split at h
    · rename_i m hm
      split at h
      · rename_i hle
        simp only [Option.some.injEq] at h
        subst h
        obtain ⟨k, rfl⟩ := natI_some hm
        obtain rfl := hu.int
        have hle' : m ≤ most := by simpa using hle
        refine ⟨?_, (fun _ => hle'), (fun h => by cases h)⟩
        have h0 : (0 : Int) ≤ Int.ofNat m ∧ Int.ofNat m ≤ (most : Int) := ⟨by simp, by simp; omega⟩
        simp only [Instr.sliceBound, asIntOf, Sem.run_bind, Sem.run_pure, Result.andThen_ok]
        rw [if_pos h0]
        rfl
      · cases h
    · cases h
theorem optA_rel {ρ : Rho} {e : Operand → Value} (hρ : RhoR π ρ e) {x : Option Operand} {a : Option AV} (h : optA ρ x = some a) :
    (∀ b, a = some b → ∃ u, x.map e = some u ∧ VR π b u) ∧ (a = none → x.map e = none) := by
  unfold optA at h
  split at h
  · simp only [Option.some.injEq] at h; subst h; exact ⟨(fun b hb => by cases hb), fun _ => rfl⟩
  · rename_i y
    split at h
    · rename_i v hv
      simp only [Option.some.injEq] at h
      subst h
      exact ⟨(fun b hb => by cases hb; exact ⟨_, rfl, hρ _ _ hv⟩), (fun hb => by cases hb)⟩
    · cases h

theorem add_eq (b o n : Nat) : (⟨b, o, none⟩ : Addr).add n = ⟨b, o + n, none⟩ := Addr.add_mid b o n

theorem extract_bytes (s : ByteArray) (l h : Nat) : bytesOf (s.extract l h) = ((bytesOf s).take h).drop l := by
  simp only [bytesOf, Lib.extract_data, ← List.map_take, ← List.map_drop, List.drop_take]

theorem bounds_gives {sl : Bool} {len cap h l : Nat} {vl vh : Option Value}
    (b1 : (match vh with | some u => Instr.sliceBound u cap (if sl then .sliceAcap else .sliceAlen) | none => pure len).run P w = .ok h w)
    (c1 : (match vl with | some u => Instr.sliceBound u h .sliceB | none => pure 0).run P w = .ok l w) : (Instr.sliceBounds sl len cap vl vh none).run P w = .ok (l, h, cap) w := by
  unfold Instr.sliceBounds
  cases vh with
  | none =>
    simp only [Sem.run_pure, Result.ok.injEq, and_true] at b1
    subst b1
    cases vl with
    | none => simp only [Sem.run_pure, Result.ok.injEq, and_true] at c1; subst c1; rfl
    | some u => simp only at c1; simp [c1]
  | some u =>
    simp only at b1
    cases vl with
    | none => simp only [Sem.run_pure, Result.ok.injEq, and_true] at c1; subst c1; simp [b1]
    | some v => simp only at c1; simp [b1, c1]
theorem boundA_more {a : Option AV} {d m m' n : Nat} (h : boundA a d m = some n) (hm : m ≤ m') : boundA a d m' = some n := by
  unfold boundA at h ⊢
  split at h
  · exact h
  · split at h
    · rename_i k hk
      split at h
      · rename_i hle
        have : k.ble m' = true := by simp at hle ⊢; omega
        simp only [hk, this]; exact h
      · cases h
    · cases h
def Opt (π : Pi) (a : Option AV) (v : Option Value) : Prop := (∀ b, a = some b → ∃ u, v = some u ∧ VR π b u) ∧ (a = none → v = none)

theorem slice_gives {t : TypeId} {x : AV} {lo hi : Option AV} {v : Value} {vl vh : Option Value} {r : AV} (h : sliceA P t x lo hi = some r) (hx : VR π x v)
    (hl : Opt π lo vl) (hh : Opt π hi vh) : Gives P π w (Instr.sliceAt t v vl vh none) r := by
  unfold sliceA at h
  split at h
  · -- a string
    rename_i s
    split at h
    · rename_i hu
      simp only [VR] at hx
      obtain ⟨s', rfl, rfl⟩ := hx
      obtain ⟨n, hn, h⟩ := oB_some h
      obtain ⟨l, hlo, h⟩ := oB_some h
      rw [strI_some h]
      rw [bytesOf_length] at hn
      obtain ⟨b1, _, _⟩ := bound_gives (P := P) (w := w) hh.1 hh.2 hn .sliceAlen
      obtain ⟨c1, _, _⟩ := bound_gives (P := P) (w := w) hl.1 hl.2 hlo .sliceB
      refine ⟨.string (s'.extract l n), ?_, by simp only [VR]; exact ⟨_, rfl, extract_bytes s' l n⟩⟩
      have e1 : (Instr.sliceBounds false s'.size s'.size vl vh none).run P w = .ok (l, n, s'.size) w := bounds_gives b1 c1
      simp [Instr.sliceAt, run_underlying hu, Instr.slice, e1]
    · cases h
  · -- a nil slice
    split at h
    · rename_i e hu
      obtain ⟨n1, hs, h⟩ := oB_some h
      obtain ⟨n2, hn, h⟩ := oB_some h
      obtain ⟨z2, h⟩ := gB_some h
      obtain ⟨n3, hlo, h⟩ := oB_some h
      obtain ⟨z3, h⟩ := gB_some h
      simp only [Option.some.injEq] at h
      subst h
      obtain rfl : n2 = 0 := by simpa using z2
      obtain rfl : n3 = 0 := by simpa using z3
      simp only [VR] at hx
      subst hx
      obtain ⟨b1, _, _⟩ := bound_gives (P := P) (w := w) hh.1 hh.2 hn .sliceAcap
      obtain ⟨c1, _, _⟩ := bound_gives (P := P) (w := w) hl.1 hl.2 hlo .sliceB
      refine ⟨.slice none 0 0, ?_, by simp [VR]⟩
      have e1 : (Instr.sliceBounds true 0 0 vl vh none).run P w = .ok (0, 0, 0) w := bounds_gives b1 c1
      simp [Instr.sliceAt, run_underlying hu, Instr.slice, e1, sizeOfT_run hs]
    · cases h
  · -- a slice
    rename_i b o len cap esz ex
    simp only [VR] at hx
    obtain ⟨rb, δ, rs, off, cap', hp, rfl, hoff, hcap, hex, hrs⟩ := hx
    split at h
    · rename_i e hu
      obtain ⟨n, hs, h⟩ := oB_some h
      obtain ⟨hes, h⟩ := gB_some h
      obtain rfl : n = esz := by simpa using hes
      obtain ⟨k, hn, h⟩ := oB_some h
      obtain ⟨hk, h⟩ := gB_some h
      have hk' : k ≤ cap := by simpa using hk
      obtain ⟨l, hlo, h⟩ := oB_some h
      obtain ⟨hlk, h⟩ := gB_some h
      have hlk' : l ≤ k := by simpa using hlk
      obtain ⟨b1, _, b3⟩ := bound_gives (P := P) (w := w) hh.1 hh.2 (boundA_more hn hcap) .sliceAcap
      obtain ⟨c1, _, _⟩ := bound_gives (P := P) (w := w) hl.1 hl.2 hlo .sliceB
      have e1 : (Instr.sliceBounds true len cap' vl vh none).run P w = .ok (l, k, cap') w := bounds_gives b1 c1
      have e2 : (Instr.sliceAt t (.slice (some ⟨rb, off, none⟩) len cap') vl vh none).run P w =
          .ok (.slice (if cap' = l then some ⟨rb, off, none⟩ else some ⟨rb, off + l * n, none⟩) (k - l) (cap' - l)) w := by
        simp [Instr.sliceAt, run_underlying hu, Instr.slice, e1, sizeOfT_run hs, add_eq]
      have hmul : l * n + (cap' - l) * n = cap' * n := by rw [← Nat.add_mul]; congr 1; omega
      refine ⟨_, e2, ?_⟩
      rw [bM_eq] at h
      split at h
      · rename_i hc
        simp only [Option.some.injEq] at h
        subst h
        simp only [Bool.and_eq_true] at hc
        have hcl : cap = l := by simpa using hc.2
        have hcc := hex hc.1
        have : cap' = l := by omega
        subst this
        rw [if_pos rfl]
        simp only [VR]
        refine ⟨rb, δ, rs, off, 0, hp, ?_, ?_, by omega, fun _ => rfl, by omega⟩
        · rw [show k - cap' = 0 by omega, show cap' - cap' = 0 by omega]
        · rcases hoff with h1 | h1
          · exact .inl h1
          · exact .inr ⟨by simp, by simp⟩
      · rename_i hc
        simp only [fNat_eq, Option.some.injEq] at h
        subst h
        simp only [VR]
        by_cases hcl : cap' = l
        · rw [if_pos hcl]
          refine ⟨rb, δ, rs, off, cap' - l, hp, rfl, .inr ⟨by omega, by omega⟩, by omega, fun he => ?_, by rw [show cap' - l = 0 by omega]; omega⟩
          have := hex he; omega
        · rw [if_neg hcl]
          refine ⟨rb, δ, rs, off + l * n, cap' - l, hp, rfl, ?_, by omega, fun he => ?_, by omega⟩
          · rcases hoff with h1 | h1
            · exact .inl (by omega)
            · omega
          · have := hex he; omega
    · cases h
  · cases h
theorem bounds3_gives {len cap m h l : Nat} {vl : Option Value} {vh vm : Value} (a1 : (Instr.sliceBound vm cap .slice3Acap).run P w = .ok m w) (b1 : (Instr.sliceBound vh m .slice3B).run P w = .ok h w)
    (c1 : (match vl with | some u => Instr.sliceBound u h .slice3C | none => pure 0).run P w = .ok l w) : (Instr.sliceBounds true len cap vl (some vh) (some vm)).run P w = .ok (l, h, m) w := by
  unfold Instr.sliceBounds
  cases vl with
  | none => simp only [Sem.run_pure, Result.ok.injEq, and_true] at c1; subst c1; simp [a1, b1]
  | some v => simp only at c1; simp [a1, b1, c1]
theorem one_opt {x : AV} {v : Value} (h : VR π x v) : (∀ b, some x = some b → ∃ u, some v = some u ∧ VR π b u) ∧ (some x = none → some v = none) :=
  ⟨fun b hb => ⟨v, rfl, by cases hb; exact h⟩, fun hb => by cases hb⟩
theorem slice3_gives {t : TypeId} {x hi mx : AV} {lo : Option AV} {v vh vm : Value} {vl : Option Value} {r : AV} (h : slice3A P t x lo hi mx = some r) (hx : VR π x v)
    (hl : Opt π lo vl) (hh : VR π hi vh) (hm : VR π mx vm) : Gives P π w (Instr.sliceAt t v vl (some vh) (some vm)) r := by
  unfold slice3A at h
  split at h
  · rename_i b o len cap esz ex
    simp only [VR] at hx
    obtain ⟨rb, δ, rs, off, cap', hp, rfl, hoff, hcap, hex, hrs⟩ := hx
    split at h
    · rename_i e hu
      obtain ⟨n, hs, h⟩ := oB_some h
      obtain ⟨hes, h⟩ := gB_some h
      obtain rfl : n = esz := by simpa using hes
      obtain ⟨m, hmx, h⟩ := oB_some h
      obtain ⟨k, hn, h⟩ := oB_some h
      obtain ⟨l, hlo, h⟩ := oB_some h
      obtain ⟨hlk, h⟩ := gB_some h
      have hlk' : l ≤ k := by simpa using hlk
      obtain ⟨a1, a2, _⟩ := bound_gives (P := P) (w := w) (one_opt hm).1 (one_opt hm).2 (boundA_more hmx hcap) .slice3Acap
      obtain ⟨_, a3, _⟩ := bound_gives (P := P) (w := w) (one_opt hm).1 (one_opt hm).2 hmx .slice3Acap
      obtain ⟨b1, b2, _⟩ := bound_gives (P := P) (w := w) (one_opt hh).1 (one_opt hh).2 hn .slice3B
      obtain ⟨c1, _, _⟩ := bound_gives (P := P) (w := w) hl.1 hl.2 hlo .slice3C
      have hmc : m ≤ cap := a3 (by simp)
      have hkm : k ≤ m := b2 (by simp)
      have e1 : (Instr.sliceBounds true len cap' vl (some vh) (some vm)).run P w = .ok (l, k, m) w := bounds3_gives a1 b1 c1
      have e2 : (Instr.sliceAt t (.slice (some ⟨rb, off, none⟩) len cap') vl (some vh) (some vm)).run P w =
          .ok (.slice (if m = l then some ⟨rb, off, none⟩ else some ⟨rb, off + l * n, none⟩) (k - l) (m - l)) w := by
        simp [Instr.sliceAt, run_underlying hu, Instr.slice, e1, sizeOfT_run hs, add_eq]
      have hmul : l * n + (m - l) * n = m * n := by rw [← Nat.add_mul]; congr 1; omega
      have hmul2 : m * n ≤ cap' * n := Nat.mul_le_mul_right n (by omega)
      refine ⟨_, e2, ?_⟩
      rw [bM_eq] at h
      split at h
      · rename_i hc
        have hml : m = l := by simpa using hc
        simp only [Option.some.injEq] at h
        subst h
        subst hml
        rw [if_pos rfl]
        simp only [VR]
        refine ⟨rb, δ, rs, off, 0, hp, ?_, ?_, by omega, fun _ => rfl, by omega⟩
        · rw [show k - m = 0 by omega, show m - m = 0 by omega]
        · rcases hoff with h1 | h1
          · exact .inl h1
          · exact .inr ⟨by simp, by simp⟩
      · rename_i hc
        have hml : m ≠ l := by simpa using hc
        simp only [fNat_eq, Option.some.injEq] at h
        subst h
        rw [if_neg hml]
        simp only [VR]
        refine ⟨rb, δ, rs, off + l * n, m - l, hp, rfl, ?_, by omega, fun _ => rfl, by omega⟩
        rcases hoff with h1 | h1
        · exact .inl (by omega)
        · omega
    · cases h
  · cases h
theorem sliceArr_gives (hH : HR known base w0 π σ w) {t arr e : TypeId} {n size b o : Nat} {lo hi : Option AV} {v : Value} {vl vh : Option Value} {r : AV} (h : sliceArr σ n size b o lo hi = some r) (hx : VR π (.ptr b o) v)
    (hl : Opt π lo vl) (hh : Opt π hi vh) (hs : sizeOfT P e = some size)
    (hu : P.underlying t = some (.array n e) ∨ (P.underlying t = some (.pointer arr) ∧ P.underlying arr = some (.array n e))) : Gives P π w (Instr.sliceAt t v vl vh none) r := by
  unfold sliceArr at h
  split at h
  · rename_i c bs e' frz own wh hb
    obtain ⟨g1, h⟩ := gB_some h
    have g1' : o + n * size ≤ bs := by simpa using g1
    obtain ⟨k, hn, h⟩ := oB_some h
    obtain ⟨hk, h⟩ := gB_some h
    have hk' : k ≤ n := by simpa using hk
    obtain ⟨l, hlo, h⟩ := oB_some h
    obtain ⟨hlk, h⟩ := gB_some h
    have hlk' : l ≤ k := by simpa using hlk
    obtain ⟨rb, δ, rs, hp, hle, _⟩ := hH.cell hb
    simp only [VR] at hx
    obtain ⟨rb', δ', rs', hp', rfl⟩ := hx
    rw [hp] at hp'
    simp only [Option.some.injEq, Prod.mk.injEq] at hp'
    obtain ⟨rfl, rfl, rfl⟩ := hp'
    obtain ⟨b1, _, _⟩ := bound_gives (P := P) (w := w) hh.1 hh.2 hn .sliceAlen
    obtain ⟨c1, _, _⟩ := bound_gives (P := P) (w := w) hl.1 hl.2 hlo .sliceB
    have e1 : (Instr.sliceBounds false n n vl vh none).run P w = .ok (l, k, n) w := bounds_gives b1 c1
    have e2 : (Instr.sliceAt t (.pointer (some ⟨rb, δ + o, none⟩)) vl vh none).run P w =
        .ok (.slice (some (if n = l then ⟨rb, δ + o, none⟩ else ⟨rb, δ + o + l * size, none⟩)) (k - l) (n - l)) w := by
      rcases hu with hu | ⟨hu, hu2⟩
      · simp [Instr.sliceAt, run_underlying hu, Instr.sureAddr, e1, sizeOfT_run hs, add_eq]
      · simp [Instr.sliceAt, run_underlying hu, run_underlying hu2, Instr.slice, asAddr, e1, sizeOfT_run hs, add_eq]
    have hmul : l * size + (n - l) * size = n * size := by rw [← Nat.add_mul]; congr 1; omega
    refine ⟨_, e2, ?_⟩
    rw [bM_eq] at h
    split at h
    · rename_i hc
      simp only [Option.some.injEq] at h
      subst h
      have hcl : n = l := by simpa using hc
      subst hcl
      rw [if_pos rfl]
      simp only [VR]
      refine ⟨rb, δ, rs, δ + o, 0, hp, ?_, .inl rfl, by omega, fun _ => rfl, by omega⟩
      rw [show k - n = 0 by omega, show n - n = 0 by omega]
    · rename_i hc
      simp only [fNat_eq, Option.some.injEq] at h
      subst h
      have hcl : ¬ n = l := by simpa using hc
      rw [if_neg hcl]
      simp only [VR]
      exact ⟨rb, δ, rs, δ + o + l * size, n - l, hp, rfl, .inl (by omega), by omega, fun _ => rfl, by omega⟩
  · cases h
end Go.Proofs.YtjagjjdkgidkjaaGreatDoor.Ev
set_option linter.all false
namespace Go.Proofs.YtjagjjdkgidkjaaGreatDoor.Ev
open Go Go.RowKit

variable {P : Program} {known : Nat → Bool} {base : Nat} {w0 : World} {π : Pi} {σ : AS} {w : World}

theorem indexAddr_gives {t : TypeId} {x i r : AV} {v vi : Value} (h : indexAddrA P t x i = some r) (hx : VR π x v) (hi : VR π i vi) : Gives P π w (Instr.indexAt t v vi) r := by
  unfold indexAddrA at h
  split at h
  · rename_i n e b o len cap esz ex hn hu
    obtain ⟨k, rfl⟩ := natI_some hn
    obtain rfl := hi.int
    split at h
    · rename_i m hm
      split at h
      · rename_i h1 h2
        rw [fNat_eq] at h
        simp only [Option.some.injEq] at h
        subst h
        have h1' : m = esz := by simpa using h1
        have h2' : n < len := by simp [Nat.blt] at h2; omega
        simp only [VR] at hx
        obtain ⟨rb, δ, rs, off, cap', hp, rfl, hoff, hcap, hex, hrs⟩ := hx
        have ho : off = δ + o := by rcases hoff with h | h <;> omega
        subst ho
        refine ⟨.pointer (some ⟨rb, δ + (o + n * m), none⟩), ?_, by simp only [VR]; exact ⟨rb, δ, rs, hp, rfl⟩⟩
        have hc : (0 : Int) ≤ Int.ofNat n ∧ Int.ofNat n < (len : Int) := ⟨by simp, by simp; omega⟩
        simp only [Instr.indexAt, asIntOf, Sem.run_bind, Sem.run_pure, Result.andThen_ok, run_underlying hu]
        rw [if_pos hc]
        simp [sizeOfT_run hm, add_eq, Nat.add_assoc]
      · cases h
    · cases h
  · rename_i n len e b o hn hu
    obtain ⟨k, rfl⟩ := natI_some hn
    obtain rfl := hi.int
    split at h
    · rename_i m hm
      split at h
      · rename_i h2
        rw [fNat_eq] at h
        simp only [Option.some.injEq] at h
        subst h
        have h2' : n < len := by simp [Nat.blt] at h2; omega
        simp only [VR] at hx
        obtain ⟨rb, δ, rs, hp, rfl⟩ := hx
        refine ⟨.pointer (some ⟨rb, δ + (o + n * m), none⟩), ?_, by simp only [VR]; exact ⟨rb, δ, rs, hp, rfl⟩⟩
        have hc : (0 : Int) ≤ Int.ofNat n ∧ Int.ofNat n < (len : Int) := ⟨by simp, by simp; omega⟩
        simp only [Instr.indexAt, asIntOf, Sem.run_bind, Sem.run_pure, Result.andThen_ok, run_underlying hu, Instr.sureAddr]
        rw [if_pos hc]
        simp [sizeOfT_run hm, add_eq, Nat.add_assoc]
      · cases h
    · cases h
  · cases h
theorem index_gives {t : TypeId} {x i r : AV} {v vi : Value} (h : indexA P t x i = some r) (hx : VR π x v) (hi : VR π i vi) : Gives P π w (Instr.index t v vi) r := by
  unfold indexA at h
  split at h
  · rename_i n s hn hu
    obtain ⟨k, rfl⟩ := natI_some hn
    obtain rfl := hi.int
    split at h
    · rename_i b hb
      rw [fNat_eq] at h
      simp only [Option.some.injEq] at h
      subst h
      simp only [VR] at hx
      obtain ⟨s', rfl, rfl⟩ := hx
      obtain ⟨c, hc, rfl⟩ : ∃ c, s'.data.toList[n]? = some c ∧ c.toNat = b := by
        simp only [bytesOf, List.getElem?_map, Option.map_eq_some_iff] at hb
        exact hb
      refine ⟨.int .u8 c.toNat, ?_, by simp [VR]⟩
      have hc' : s'[n]? = some c := by
        rw [Array.getElem?_toList] at hc
        exact hc
      simp only [Instr.index, asIntOf, Sem.run_bind, Sem.run_pure, Result.andThen_ok, run_underlying hu]
      simp [hc']
    · cases h
  · rename_i n len e cs hn hu
    obtain ⟨k, rfl⟩ := natI_some hn
    obtain rfl := hi.int
    split at h
    · rename_i m hm
      split at h
      · rename_i h2
        have h2' : n < len := by simp [Nat.blt] at h2; omega
        simp only [VR] at hx
        obtain ⟨ys, rfl, hys⟩ := hx
        obtain ⟨v, e1, e2⟩ := part_gives (P := P) (w := w) (c' := ⟨ys⟩) h hys
        refine ⟨v, ?_, e2⟩
        have hc : (0 : Int) ≤ Int.ofNat n ∧ Int.ofNat n < (len : Int) := ⟨by simp, by simp; omega⟩
        simp only [Instr.index, asIntOf, Sem.run_bind, Sem.run_pure, Result.andThen_ok, run_underlying hu]
        rw [if_pos hc]
        simp only [Sem.run_bind, sizeOfT_run hm, Result.andThen_ok]
        exact e1
      · cases h
    · cases h
  · cases h
theorem conv_gives {s d : TypeId} {x r : AV} {v : Value} (h : convA P s d x = some r) (hx : VR π x v) : Gives P π w (convert s d v) r := by
  unfold convA at h
  split at h
  · rename_i us k k' n hs hu
    obtain rfl := hx.int
    rw [wrapF_eq] at h
    refine Gives.int h ?_
    simp [convert, run_underlying hs, run_underlying hu, Conv.intToInt]
  · rename_i us l hs hu
    simp only [Option.some.injEq] at h
    subst h
    have hx' := hx
    simp only [VR] at hx'
    obtain ⟨s', rfl, _⟩ := hx'
    refine ⟨.string s', ?_, hx⟩
    cases us <;> simp [convert, run_underlying hs, run_underlying hu]
  · rename_i t hs hu
    simp only [Option.some.injEq] at h
    subst h
    have hx' := hx
    simp only [VR] at hx'
    subst hx'
    exact ⟨.pointer none, by simp [convert, run_underlying hs, run_underlying hu, Conv.unsafePointer], hx⟩
  · rename_i t hs hu
    simp only [Option.some.injEq] at h
    subst h
    have hx' := hx
    simp only [VR] at hx'
    subst hx'
    exact ⟨.pointer none, by simp [convert, run_underlying hs, run_underlying hu, Conv.unsafePointer], hx⟩
  · split at h
    · rename_i u hu
      obtain rfl := flat_eq hu hx
      exact viaPure_run h w
    · cases h
theorem len_gives {t : TypeId} {ts : List TypeId} {ty : TypeId} {x r : AV} {v : Value} (h : lenA P t x = some r) (hx : VR π x v) : Gives P π w (Builtin.len_ (t :: ts).toArray ty #[v]) r := by
  unfold lenA at h
  split at h
  · rename_i l hu
    rw [fNat_eq] at h
    simp only [Option.some.injEq] at h
    subst h
    simp only [VR] at hx
    obtain ⟨s', rfl, rfl⟩ := hx
    exact ⟨.int .i64 s'.size, by simp [Builtin.len_, run_underlying hu, goInt], by simp [VR, bytesOf_length]⟩
  · rename_i hu
    simp only [Option.some.injEq] at h
    subst h
    simp only [VR] at hx
    obtain ⟨rb, δ, rs, off, cap', hp, rfl, _⟩ := hx
    exact ⟨_, by simp [Builtin.len_, run_underlying hu, goInt]; rfl, by simp [VR]⟩
  · rename_i hu
    simp only [Option.some.injEq] at h
    subst h
    simp only [VR] at hx
    subst hx
    exact ⟨_, by simp [Builtin.len_, run_underlying hu, goInt]; rfl, by simp [VR]⟩
  · rename_i hu
    simp only [Option.some.injEq] at h
    subst h
    simp only [VR] at hx
    subst hx
    exact ⟨_, by simp [Builtin.len_, run_underlying hu, goInt]; rfl, by simp [VR]⟩
  · rename_i hu
    simp only [Option.some.injEq] at h
    subst h
    exact ⟨_, by simp [Builtin.len_, run_underlying hu, goInt]; rfl, by simp [VR]⟩
  · rename_i hu
    split at h
    · rename_i hu2
      simp only [Option.some.injEq] at h
      subst h
      exact ⟨_, by simp [Builtin.len_, run_underlying hu, run_underlying hu2, goInt]; rfl, by simp [VR]⟩
    · cases h
  · cases h
theorem cap_gives {t : TypeId} {ts : List TypeId} {ty : TypeId} {x r : AV} {v : Value} (h : capA P t x = some r) (hx : VR π x v) : Gives P π w (Builtin.cap_ (t :: ts).toArray ty #[v]) r := by
  unfold capA at h
  split at h
  · rename_i hu
    simp only [Option.some.injEq] at h
    subst h
    simp only [VR] at hx
    subst hx
    exact ⟨.int .i64 0, by simp [Builtin.cap_, run_underlying hu, goInt], by simp [VR]⟩
  · rename_i c hu
    simp only [Option.some.injEq] at h
    subst h
    simp only [VR] at hx
    obtain ⟨rb, δ, rs, off, cap', hp, rfl, _, _, hex, _⟩ := hx
    have := hex trivial
    subst this
    exact ⟨_, by simp [Builtin.cap_, run_underlying hu, goInt]; rfl, by simp [VR]⟩
  · rename_i c hu
    simp only [Option.some.injEq] at h
    subst h
    simp only [VR] at hx
    obtain ⟨rb, δ, rs, off, cap', hp, rfl, _, hc, _, _⟩ := hx
    exact ⟨.int .i64 cap', by simp [Builtin.cap_, run_underlying hu, goInt], by simp only [VR]; exact ⟨cap', hc, rfl⟩⟩
  · cases h
theorem mm2_gives {mx : Bool} {x y r : AV} {v u : Value} (h : mm2 mx x y = some r) (hx : VR π x v) (hy : VR π y u) : Gives P π w (if mx then Builtin.max2 v u else Builtin.min2 v u) r := by
  unfold mm2 at h
  split at h
  · rename_i k a j b
    obtain rfl := hx.int
    obtain rfl := hy.int
    have iv : ∀ (k : IntKind) (n : Int), VR π (.int k n) (.int k n) := fun _ _ => by simp only [VR]
    split at h
    · split at h <;> rename_i hlt <;> simp only [Option.some.injEq] at h <;> subst h <;> rw [ltF_eq] at hlt <;> refine ⟨_, ?_, iv _ _⟩ <;> simp only [if_true, Builtin.max2, Sem.run_pure]
      · rw [if_pos (by simpa using hlt)]
      · rw [if_neg (by simpa using hlt)]
    · split at h <;> rename_i hlt <;> simp only [Option.some.injEq] at h <;> subst h <;> rw [ltF_eq] at hlt <;> refine ⟨_, ?_, iv _ _⟩ <;> simp only [Builtin.min2, Sem.run_pure, Bool.false_eq_true, if_false]
      · rw [if_pos (by simpa using hlt)]
      · rw [if_neg (by simpa using hlt)]
  · cases h
theorem mmL_gives {mx : Bool} : ∀ {l : List AV} {x r : AV} {v : Value} {us : List Value}, mmL mx x l = some r → VR π x v → VRL π l us →
    Gives P π w (us.foldlM (fun a b => if mx then Builtin.max2 a b else Builtin.min2 a b) v) r
  | [], x, r, v, us, h, hx, hl => by
    simp only [mmL, Option.some.injEq] at h
    simp only [VRL] at hl
    subst h; subst hl
    exact ⟨v, rfl, hx⟩
  | y :: l, x, r, v, us, h, hx, hl => by
    simp only [VRL] at hl
    obtain ⟨u, t, rfl, hu, ht⟩ := hl
    simp only [mmL] at h
    split at h
    · rename_i z hz
      obtain ⟨z', e1, e2⟩ := mm2_gives (P := P) (w := w) hz hx hu
      obtain ⟨q, e3, e4⟩ := mmL_gives h e2 ht
      exact ⟨q, by simp only [List.foldlM_cons, Sem.run_bind, e1, Result.andThen_ok, e3], e4⟩
    · cases h
theorem assert_gives {x r : AV} {v : Value} {xt a : TypeId} {ok : Bool} (h : assertA P x a ok = some r) (hx : VR π x v) : Gives P π w (Instr.typeAssert v xt a ok) r := by
  unfold assertA at h
  split at h
  · rename_i t y d hu
    have hx' := hx
    simp only [VR] at hx'
    obtain ⟨z, rfl, hz⟩ := hx'
    split at h
    · rename_i want
      split at h
      · rename_i i hi
        split at h
        · rename_i hm
          simp only [Option.some.injEq] at h
          subst h
          cases ok with
          | true => exact ⟨.tuple #[.iface t z, .bool true], by simp [Instr.typeAssert, run_underlying hu, typeInfo, hi, hm], by simp only [VR]; exact ⟨_, rfl, VRL.cons hx (VRL.cons (by simp [VR]) VRL.nil)⟩⟩
          | false => exact ⟨.iface t z, by simp [Instr.typeAssert, run_underlying hu, typeInfo, hi, hm], hx⟩
        · rename_i m hm
          split at h
          · split at h
            · rename_i zz hzz
              simp only [Option.some.injEq] at h
              subst h
              obtain ⟨zv, e1, e2⟩ := zeroOfT_run (π := π) hzz w
              exact ⟨.tuple #[zv, .bool false], by simp [Instr.typeAssert, run_underlying hu, typeInfo, hi, hm, e1], by simp only [VR]; exact ⟨_, rfl, VRL.cons e2 (VRL.cons (by simp [VR]) VRL.nil)⟩⟩
            · cases h
          · cases h
      · cases h
    · rename_i hni
      split at h
      · rename_i ht
        have ht' : t = a := by simpa using ht
        subst ht'
        simp only [Option.some.injEq] at h
        subst h
        cases ok with
        | true => exact ⟨.tuple #[z, .bool true], by cases d <;> first | exact absurd rfl (hni _) | simp [Instr.typeAssert, run_underlying hu], by simp only [VR]; exact ⟨_, rfl, VRL.cons hz (VRL.cons (by simp [VR]) VRL.nil)⟩⟩
        | false => exact ⟨z, by cases d <;> first | exact absurd rfl (hni _) | simp [Instr.typeAssert, run_underlying hu], hz⟩
      · rename_i ht
        have ht' : ¬ t = a := by intro e; subst e; simp at ht
        split at h
        · split at h
          · rename_i zz hzz
            simp only [Option.some.injEq] at h
            subst h
            obtain ⟨zv, e1, e2⟩ := zeroOfT_run (π := π) hzz w
            exact ⟨.tuple #[zv, .bool false], by cases d <;> first | exact absurd rfl (hni _) | simp [Instr.typeAssert, run_underlying hu, ht', e1], by simp only [VR]; exact ⟨_, rfl, VRL.cons e2 (VRL.cons (by simp [VR]) VRL.nil)⟩⟩
          · cases h
        · cases h
  · rename_i d hu
    obtain rfl := hx.nilIface
    split at h
    · split at h
      · rename_i zz hzz
        simp only [Option.some.injEq] at h
        subst h
        obtain ⟨zv, e1, e2⟩ := zeroOfT_run (π := π) hzz w
        exact ⟨.tuple #[zv, .bool false], by cases d <;> simp [Instr.typeAssert, run_underlying hu, e1], by simp only [VR]; exact ⟨_, rfl, VRL.cons e2 (VRL.cons (by simp [VR]) VRL.nil)⟩⟩
      · cases h
    · cases h
  · cases h
end Go.Proofs.YtjagjjdkgidkjaaGreatDoor.Ev
set_option linter.all false
namespace Go.Proofs.YtjagjjdkgidkjaaGreatDoor.Ev
open Go Go.RowKit

variable {P : Program} {known : Nat → Bool} {base : Nat} {w0 : World} {π : Pi} {σ : AS} {w : World} {ρ : Rho}

/-- An operation that gives a value and turns nothing. -/
def Quiet (P : Program) (π : Pi) (w : World) (e : Operand → Value) (o : Oper) (x : AV) : Prop := ∃ v, (execOp e o).run P w = .ok (.value v) w ∧ VR π x v
theorem Gives.quiet {e : Operand → Value} {o : Oper} {x : AV} {s : Sem Value} (h : Gives P π w s x) (ho : execOp e o = (do pure (.value (← s)))) : Quiet P π w e o x := by
  obtain ⟨v, h1, h2⟩ := h
  exact ⟨v, by rw [ho]; simp [h1], h2⟩

theorem map_eval (e : Operand → Value) (a : Array Operand) : a.map e = (a.toList.map e).toArray := by
  apply Array.ext'; simp

theorem quiet_sound {e : Operand → Value} {o : Oper} {f : Program → Rho → Option AV} {x : AV} (hh : headOf o.op P = .quiet f) (hf : f P ρ = some x) (hρ : RhoR π ρ e) : Quiet P π w e o x := by
  obtain ⟨dst, op, type, pos, after, guard⟩ := o
  dsimp only at hh
  cases op with
  | move y => cases hh; exact ⟨_, rfl, hρ _ _ hf⟩
  | assign y => cases hh; exact ⟨_, rfl, hρ _ _ hf⟩
  | pick c a b =>
    cases hh
    unfold qPick at hf
    split at hf
    · rename_i hc
      have := hρ _ _ hc
      obtain hb := this.bool
      exact ⟨e a, by simp [execOp, hb, asBool], hρ _ _ hf⟩
    · rename_i hc
      have := hρ _ _ hc
      obtain hb := this.bool
      exact ⟨e b, by simp [execOp, hb, asBool], hρ _ _ hf⟩
    · cases hf
  | alloc => cases hh
  | box => cases hh
  | build t ps =>
    cases hh
    unfold qBuild at hf
    split at hf
    · rename_i l hl
      exact (build_gives (w := w) (ps := ps.map fun (i, x) => (i, e x)) hf (by simpa using partsA_rel hρ hl)).quiet rfl
    · cases hf
  | buildSlice => cases hh
  | insert => cases hh
  | load => cases hh
  | store => cases hh
  | ready => cases hh
  | waits => cases hh
  | nilCheck y =>
    cases hh
    unfold qNilCheck at hf
    split at hf <;> (try (cases hf; done)) <;> rename_i hy <;> simp only [Option.some.injEq] at hf <;> subst hf <;> have hv := hρ _ _ hy
    · have hv' := hv; simp only [VR] at hv'; obtain ⟨_, _, _, _, h2⟩ := hv'
      exact ⟨e y, by simp [execOp, h2], hv⟩
    · have hv' := hv; simp only [VR] at hv'; obtain ⟨_, _, h2, _⟩ := hv'
      exact ⟨e y, by simp [execOp, h2], hv⟩
    · have hv' := hv; simp only [VR] at hv'; obtain ⟨_, _, _, h2⟩ := hv'
      exact ⟨e y, by simp [execOp, h2], hv⟩
    · have hv' := hv; simp only [VR] at hv'; obtain ⟨_, h2, _⟩ := hv'
      exact ⟨e y, by simp [execOp, h2], hv⟩
    · have hv' := hv.int
      exact ⟨e y, by simp [execOp, hv'], hv⟩
  | binOp op t a b u =>
    cases hh
    unfold qBin at hf
    split at hf
    · rename_i xa ha
      split at hf
      · rename_i xb hb
        exact (bin_gives (w := w) hf (hρ _ _ ha) (hρ _ _ hb)).quiet rfl
      · cases hf
    · cases hf
  | unOp op t a =>
    cases hh
    unfold qUn at hf
    split at hf
    · rename_i b ha
      have hv := (hρ _ _ ha).bool
      exact (Gives.bool (P := P) (π := π) (w := w) (s := Op.unary .not (e a)) hf (by rw [hv]; rfl)).quiet rfl
    · rename_i k n ha
      have hv := (hρ _ _ ha).int
      rw [wrapF_eq] at hf
      exact (Gives.int (P := P) (π := π) (w := w) (s := Op.unary .neg (e a)) hf (by rw [hv]; rfl)).quiet rfl
    · rename_i xa h1 h2 ha
      split at hf
      · rename_i u hu
        have := flat_eq hu (hρ _ _ ha)
        obtain ⟨v, h3, h4⟩ := viaPure_run (π := π) hf w
        exact Gives.quiet (s := Op.unary _ (e a)) ⟨v, by rw [this]; exact h3, h4⟩ rfl
      · cases hf
    · cases hf
  | convert s d y =>
    change hdConv s d y P = _ at hh
    unfold hdConv at hh
    split at hh
    · cases hh
      unfold qConv at hf
      split at hf
      · rename_i xa ha
        exact (conv_gives (w := w) hf (hρ _ _ ha)).quiet rfl
      · cases hf
    · cases hh
  | sliceToArrayPointer => cases hh
  | makeInterface t y =>
    cases hh
    unfold qIface at hf
    split at hf
    · cases hf
    · rename_i d xa hni hu hy
      simp only [Option.some.injEq] at hf
      subst hf
      refine Gives.quiet (s := Instr.makeInterface t (e y)) ⟨.iface t (e y), ?_, by simp only [VR]; exact ⟨_, rfl, hρ _ _ hy⟩⟩ rfl
      cases d <;> first | exact absurd rfl (hni _) | simp [Instr.makeInterface, run_underlying hu]
    · cases hf
  | makeFunc fn first captured =>
    cases hh
    unfold qFunc at hf
    split at hf
    · rename_i g p l hfirst hl
      simp only [Option.some.injEq] at hf
      subst hf
      refine Gives.quiet (s := Instr.makeFunc (.func g) (first.map e) (captured.map e)) ⟨.func (.func g) ⟨first.toList.map e⟩ ⟨captured.toList.map e⟩, ?_, by simp only [VR]; exact ⟨_, _, rfl, argsA_rel hρ hfirst, argsA_rel hρ hl⟩⟩ rfl
      simp [Instr.makeFunc, map_eval]
    · cases hf
  | makeMap => cases hh
  | makeChan => cases hh
  | makeSlice => cases hh
  | slice t y lo hi mx =>
    change hdSlice t y lo hi mx P = _ at hh
    unfold hdSlice at hh
    have key : qSlice t y lo hi mx P ρ = some x → Quiet P π w e { dst, op := .slice t y lo hi mx, type, pos, after, guard } x := by
      intro hf
      unfold qSlice at hf
      cases mx with
      | some m =>
        rw [oM_some] at hf
        obtain ⟨xa, ha, hf⟩ := oB_some hf
        obtain ⟨xl, hl, hf⟩ := oB_some hf
        cases hi with
        | none => cases hf
        | some h0 =>
        have hf' : (oB (ρ h0) fun h => oB (ρ m) fun m => slice3A P t xa xl h m) = some x := hf
        obtain ⟨xh, hhh, hf⟩ := oB_some hf'
        obtain ⟨xm, hmm, hf⟩ := oB_some hf
        exact (slice3_gives (w := w) hf (hρ _ _ ha) (optA_rel hρ hl) (hρ _ _ hhh) (hρ _ _ hmm)).quiet rfl
      | none =>
        rw [oM_none] at hf
        obtain ⟨xa, ha, hf⟩ := oB_some hf
        obtain ⟨xl, hl, hf⟩ := oB_some hf
        obtain ⟨xh, hhh, hf⟩ := oB_some hf
        exact (slice_gives (w := w) hf (hρ _ _ ha) (optA_rel hρ hl) (optA_rel hρ hhh)).quiet rfl
    split at hh
    · cases hh; exact key hf
    · cases hh; exact key hf
    · cases hh
  | fieldAddr s y f =>
    cases hh
    unfold qFieldAddr at hf
    split at hf
    · rename_i b o fs hy hu
      split at hf
      · rename_i fd hfd
        split at hf
        · rename_i n hn
          rw [fNat_eq] at hf
          simp only [Option.some.injEq] at hf
          subst hf
          have hv := hρ _ _ hy
          simp only [VR] at hv
          obtain ⟨rb, δ, rs, hp, h2⟩ := hv
          refine Gives.quiet (s := Instr.fieldAt s (e y) f) ⟨.pointer (some ⟨rb, δ + (o + fd.offset), none⟩), ?_, by simp only [VR]; exact ⟨rb, δ, rs, hp, rfl⟩⟩ rfl
          rw [h2]
          simp [Instr.fieldAt, run_underlying hu, hfd, Instr.sureAddr, fieldPlace, sizeOfT_run hn, add_eq, Nat.add_assoc]
        · cases hf
      · cases hf
    · cases hf
  | field t y f =>
    cases hh
    unfold qField at hf
    split at hf
    · rename_i cs fs hy hu
      split at hf
      · rename_i fd hfd
        have hv := hρ _ _ hy
        simp only [VR] at hv
        obtain ⟨ys, h2, h3⟩ := hv
        obtain ⟨v, e1, e2⟩ := part_gives (P := P) (w := w) (c' := ⟨ys⟩) hf h3
        refine Gives.quiet (s := Instr.field t (e y) f) ⟨v, ?_, e2⟩ rfl
        rw [h2]
        simp [Instr.field, run_underlying hu, hfd, asAgg, e1]
      · cases hf
    · cases hf
  | indexAddr t y ix =>
    cases hh
    unfold qIndexAddr at hf
    split at hf
    · rename_i a i ha hi
      exact (indexAddr_gives (w := w) hf (hρ _ _ ha) (hρ _ _ hi)).quiet rfl
    · cases hf
  | index t y ix =>
    cases hh
    unfold qIndex at hf
    split at hf
    · rename_i a i ha hi
      exact (index_gives (w := w) hf (hρ _ _ ha) (hρ _ _ hi)).quiet rfl
    · cases hf
  | lookup => cases hh
  | mapUpdate => cases hh
  | mapEntry => cases hh
  | entryStore => cases hh
  | range => cases hh
  | next => cases hh
  | entry => cases hh
  | typeAssert y t a ok =>
    cases hh
    unfold qAssert at hf
    split at hf
    · rename_i xa ha
      exact (assert_gives (w := w) hf (hρ _ _ ha)).quiet rfl
    · cases hf
  | extract t i =>
    cases hh
    unfold qExtract at hf
    split at hf
    · rename_i vs ht
      have hv := hρ _ _ ht
      simp only [VR] at hv
      obtain ⟨ys, h2, h3⟩ := hv
      obtain ⟨v, hv, hr⟩ := h3.get i x hf
      refine Gives.quiet (s := Instr.extract (e t) i) ⟨v, ?_, hr⟩ rfl
      rw [h2]
      simp [Instr.extract, hv]
    · cases hf
  | call c =>
    change hdCall c P = _ at hh
    unfold hdCall at hh
    obtain ⟨callee, args, ts⟩ := c
    dsimp only at hh
    split at hh <;> (try (cases hh; done))
    · cases hlm : lenOfMap P ⟨.builtin .len, args, ts⟩ with
      | true => rw [hlm] at hh; cases hh
      | false =>
      rw [hlm] at hh
      cases hh
      unfold qLen at hf
      split at hf
      · rename_i y t tr ha ht
        split at hf
        · rename_i xa hxa
          have h1 : args = #[y] := by apply Array.ext'; simpa using ha
          have h2 : ts = (t :: tr).toArray := by apply Array.ext'; simpa using ht
          subst h1; subst h2
          obtain ⟨v, e1, e2⟩ := len_gives (w := w) (ty := type) (ts := tr) hf (hρ _ _ hxa)
          refine ⟨v, ?_, e2⟩
          simp only [execOp, resolve, invoke, builtin, Sem.run_bind, Sem.run_pure, Result.andThen_ok]
          simp only [List.map_toArray, List.map_cons, List.map_nil, e1, Result.andThen_ok, Sem.run_pure]
        · cases hf
      · cases hf
    · cases hh
      unfold qMm at hf
      split at hf
      · rename_i y r hl
        have hr := argsA_rel hρ hl
        simp only [VRL] at hr
        obtain ⟨v, us, h1, h2, h3⟩ := hr
        obtain ⟨q, e1, e2⟩ := mmL_gives (P := P) (w := w) hf h2 h3
        refine ⟨q, ?_, e2⟩
        simp only [execOp, resolve, invoke, builtin, Sem.run_bind, Sem.run_pure, Result.andThen_ok, Builtin.max_]
        have : (args.map e).toList = v :: us := by simpa using h1
        rw [this]
        simp only [if_true] at e1
        simp [e1]
      · cases hf
    · cases hh
      unfold qMm at hf
      split at hf
      · rename_i y r hl
        have hr := argsA_rel hρ hl
        simp only [VRL] at hr
        obtain ⟨v, us, h1, h2, h3⟩ := hr
        obtain ⟨q, e1, e2⟩ := mmL_gives (P := P) (w := w) hf h2 h3
        refine ⟨q, ?_, e2⟩
        simp only [execOp, resolve, invoke, builtin, Sem.run_bind, Sem.run_pure, Result.andThen_ok, Builtin.min_]
        have : (args.map e).toList = v :: us := by simpa using h1
        rw [this]
        simp only [Bool.false_eq_true, if_false] at e1
        simp [e1]
      · cases hf
    · cases hh
      unfold qCap at hf
      split at hf
      · rename_i y t tr ha ht
        split at hf
        · rename_i xa hxa
          have h1 : args = #[y] := by apply Array.ext'; simpa using ha
          have h2 : ts = (t :: tr).toArray := by apply Array.ext'; simpa using ht
          subst h1; subst h2
          obtain ⟨v, e1, e2⟩ := cap_gives (w := w) (ty := type) (ts := tr) hf (hρ _ _ hxa)
          refine ⟨v, ?_, e2⟩
          simp only [execOp, resolve, invoke, builtin, Sem.run_bind, Sem.run_pure, Result.andThen_ok]
          simp only [List.map_toArray, List.map_cons, List.map_nil, e1, Result.andThen_ok, Sem.run_pure]
        · cases hf
      · cases hf
  | go => cases hh
  | defer c =>
    change hdDefer c P = _ at hh
    unfold hdDefer at hh
    split at hh <;> cases hh
  | panic => cases hh
  | send => cases hh
  | recv => cases hh
  | select => cases hh
end Go.Proofs.YtjagjjdkgidkjaaGreatDoor.Ev
set_option linter.all false
namespace Go.Proofs.YtjagjjdkgidkjaaGreatDoor.Ev
open Go Go.RowKit

variable {P : Program} {known : Nat → Bool} {base : Nat} {w0 : World} {π : Pi} {σ : AS} {w : World} {ρ : Rho}

/-! ### reading -/
theorem load_gives (hH : HR known base w0 π σ w) {t : TypeId} {b o : Nat} {r : AV} {v : Value} (h : loadA P σ t b o = some r) (hx : VR π (.ptr b o) v) : Gives P π w (Instr.loadAt t v) r := by
  simp only [VR] at hx
  obtain ⟨rb, δ, rs, hp, rfl⟩ := hx
  unfold loadA at h
  split at h
  · rename_i c size e frz own wh hb ha
    split at h
    · rename_i n hn
      split at h
      · rename_i hle
        have hle' : o + n ≤ size := by simpa using hle
        split at h
        · rename_i xs hxs
          simp only [Option.some.injEq] at h
          subst h
          obtain ⟨rb', δ', rs', vs, h1, h2, h3, h4, _⟩ := hH.cells hb hxs hle'
          rw [hp] at h1
          simp only [Option.some.injEq, Prod.mk.injEq] at h1
          obtain ⟨rfl, rfl, rfl⟩ := h1
          obtain ⟨d, hu, hd⟩ := isAggT_row ha
          exact ⟨.agg vs.toArray, run_loadAt_mid w rb (δ + o) t vs d h4 hu hd (by rw [sizeOfT_info hn, h3]), by simp only [VR]; exact ⟨vs, rfl, h2⟩⟩
        · cases h
      · cases h
    · cases h
  · rename_i c size e frz own wh hb ha
    split at h
    · rename_i hlt
      have hlt' : o < size := by simp [Nat.blt] at hlt; omega
      obtain ⟨rb', δ', rs', h1, _, h5⟩ := hH.cell hb
      rw [hp] at h1
      simp only [Option.some.injEq, Prod.mk.injEq] at h1
      obtain ⟨rfl, rfl, rfl⟩ := h1
      obtain ⟨x, v, a1, a2, a3⟩ := h5 o hlt'
      rw [a1] at h
      simp only [Option.some.injEq] at h
      subst h
      exact ⟨v, by simp [Instr.loadAt, Instr.sureAddr, loadVar, isAggT_run ha, a2], a3⟩
    · cases h
  · cases h

theorem kinds_of_key {kt : TypeId} {k : AV} {vk : Value} (h : keyOk P kt k = true) (hk : VR π k vk) :
    (P.underlying kt = some .string ∧ ∃ s, vk = .string s ∧ k = .str (bytesOf s)) ∨ (∃ j n, P.underlying kt = some (.int j) ∧ vk = .int j n ∧ k = .int j n) := by
  unfold keyOk at h
  split at h
  · rename_i hu
    simp only [VR] at hk
    obtain ⟨s, rfl, rfl⟩ := hk
    exact .inl ⟨hu, s, rfl, rfl⟩
  · rename_i j j' n hu
    obtain rfl := kindEq_true h
    obtain rfl := hk.int
    exact .inr ⟨j, n, hu, rfl, rfl⟩
  · cases h
theorem keyIs_rel {d : TypeDesc} {k e : AV} {vk ve : Value} {b : Bool} (hd : (d = .string ∧ ∃ s, vk = .string s ∧ k = .str (bytesOf s)) ∨ (∃ j n, d = .int j ∧ vk = .int j n ∧ k = .int j n))
    (h : keyIs k e = some b) (he : VR π e ve) : Instr.sameNow d vk ve = some b := by
  rcases hd with ⟨rfl, s, rfl, rfl⟩ | ⟨j, m, rfl, rfl, rfl⟩
  · unfold keyIs at h
    dsimp only at h
    split at h
    · simp only [Option.some.injEq] at h
      subst h
      simp only [VR] at he
      obtain ⟨u, rfl, rfl⟩ := he
      rw [eqL_eq, bytesOf_inj]
      simp only [Instr.sameNow, Option.some.injEq]
      exact beq_toListBytes s u
    · cases h
  · unfold keyIs at h
    dsimp only at h
    split at h
    · obtain ⟨h1, h2⟩ := gB_some h
      obtain rfl := kindEq_true h1
      simp only [Option.some.injEq] at h2
      obtain rfl := he.int
      rw [← h2, eqF_eq]
      simp [Instr.sameNow]
    · cases h
def FR (π : Pi) (r : Option (Nat × AV)) (q : Option (Nat × Value)) : Prop :=
  match r with
  | none => q = none
  | some (i, v) => ∃ u, q = some (i, u) ∧ VR π v u
theorem findNow_rel {d : TypeDesc} {k : AV} {vk : Value} (hd : (d = .string ∧ ∃ s, vk = .string s ∧ k = .str (bytesOf s)) ∨ (∃ j n, d = .int j ∧ vk = .int j n ∧ k = .int j n)) :
    ∀ {l : List (AV × AV × Nat)} {es : List MapEntry} {i : Nat} {r : Option (Nat × AV)}, findA k l i = some r → EL π l es → ∃ q, Instr.findNow d vk es i = some q ∧ FR π r q
  | [], es, i, r, h, he => by
    simp only [findA, Option.some.injEq] at h
    simp only [EL] at he
    subst h; subst he
    exact ⟨none, rfl, rfl⟩
  | (e, v, n) :: l, es, i, r, h, he => by
    simp only [EL] at he
    obtain ⟨x, t, rfl, hk, hv, hn, ht⟩ := he
    simp only [findA] at h
    obtain ⟨b, hb, h2⟩ := oB_some h
    have hs := keyIs_rel hd hb hk
    rw [bM_eq] at h2
    split at h2
    · rename_i hbt
      subst hbt
      simp only [Option.some.injEq] at h2
      subst h2
      exact ⟨some (i, x.val), by simp [Instr.findNow, hs], x.val, rfl, hv⟩
    · rename_i hbt
      have hbf : b = false := by simpa using hbt
      subst hbf
      obtain ⟨q, h3, h4⟩ := findNow_rel hd h2 ht
      exact ⟨q, by simp only [Instr.findNow, hs]; exact h3, h4⟩
theorem find_run {kt : TypeId} {k : AV} {vk : Value} (hko : keyOk P kt k = true) (hk : VR π k vk) {l : List (AV × AV × Nat)} {es : List MapEntry} {r : Option (Nat × AV)} (h : findA k l 0 = some r) (he : EL π l es) :
    (∀ em w, (Instr.checkKey em 10000 kt vk).run P w = .ok () w) ∧ ∃ q, (∀ w, (Instr.findKey kt vk es).run P w = .ok q w) ∧ FR π r q := by
  rcases kinds_of_key hko hk with ⟨hu, s, rfl, rfl⟩ | ⟨j, m, hu, rfl, rfl⟩
  · obtain ⟨q, h1, h2⟩ := findNow_rel (d := .string) (.inl ⟨rfl, s, rfl, rfl⟩) h he
    refine ⟨fun em w => ?_, q, fun w => ?_, h2⟩
    · rw [show (10000 : Nat) = 9999 + 1 from rfl]
      generalize 9999 = N
      simp [Instr.checkKey, run_underlying hu]
    · simp [Instr.findKey, run_underlying hu, h1]
  · obtain ⟨q, h1, h2⟩ := findNow_rel (d := .int j) (.inr ⟨j, m, rfl, rfl, rfl⟩) h he
    refine ⟨fun em w => ?_, q, fun w => ?_, h2⟩
    · rw [show (10000 : Nat) = 9999 + 1 from rfl]
      generalize 9999 = N
      simp [Instr.checkKey, run_underlying hu]
    · simp [Instr.findKey, run_underlying hu, h1]
theorem run_getObj_map {rb clock : Nat} {es : Array MapEntry} (h : w.heap[rb]? = some (.map es clock)) : (getObj rb).run P w = .ok (.map es clock) w := by
  simp [getObj, Sem.run, h]
theorem entries_gives (hH : HR known base w0 π σ w) {m : AV} {l : List (AV × AV × Nat)} {vm : Value} (h : entriesA σ m = some l) (hm : VR π m vm) :
    (vm = .map none ∧ l = []) ∨ ∃ rb clock es, vm = .map (some rb) ∧ w.heap[rb]? = some (.map es clock) ∧ EL π l es.toList := by
  unfold entriesA at h
  split at h
  · simp only [VR] at hm
    simp only [Option.some.injEq] at h
    exact .inl ⟨hm, h.symm⟩
  · rename_i r
    split at h
    · rename_i es clock hb
      simp only [Option.some.injEq] at h
      subst h
      simp only [VR] at hm
      obtain ⟨rb, δ, rs, hp, rfl⟩ := hm
      obtain ⟨rb', δ', rs', es', h1, h2, h3⟩ := hH.blk r _ hb
      rw [hp] at h1
      simp only [Option.some.injEq, Prod.mk.injEq] at h1
      obtain ⟨rfl, rfl, rfl⟩ := h1
      exact .inr ⟨_, _, _, rfl, h2, h3⟩
    · cases h
  · cases h
theorem lookup_gives (hH : HR known base w0 π σ w) {t : TypeId} {m k r : AV} {ok : Bool} {vm vk : Value} (h : lookupA P σ t m k ok = some r) (hm : VR π m vm) (hk : VR π k vk) : Gives P π w (Instr.lookup t vm vk ok) r := by
  unfold lookupA at h
  split at h
  · rename_i kt et hu
    obtain ⟨hko, h1⟩ := gB_some h
    obtain ⟨l, hl, h2⟩ := oB_some h1
    obtain ⟨p, hf, h3⟩ := oB_some h2
    have main : ∀ (es : Array MapEntry), EL π l es.toList → ((vm = .map none ∧ es = #[]) ∨ ∃ rb clock, vm = .map (some rb) ∧ w.heap[rb]? = some (.map es clock)) → Gives P π w (Instr.lookup t vm vk ok) r := by
      intro es he hv
      obtain ⟨c1, q, c2, c3⟩ := find_run hko hk hf he
      have hck : ∀ em, (Instr.checkKey em 10000 kt vk).run P w = .ok () w := fun em => c1 em w
      have hfk := c2 w
      cases p with
      | none =>
        have c3' : q = none := c3
        subst c3'
        rw [oM_none] at h3
        obtain ⟨z, hz, h4⟩ := oB_some h3
        obtain ⟨zv, z1, z2⟩ := zeroOfT_run (π := π) hz w
        simp only [Option.some.injEq] at h4
        refine ⟨if ok then .tuple #[zv, .bool false] else zv, ?_, ?_⟩
        · rcases hv with ⟨rfl, rfl⟩ | ⟨rb, clock, rfl, hb⟩
          · simp only [Instr.lookup, Sem.run_bind, run_underlying hu, Result.andThen_ok, Sem.run_pure, hck, hfk, z1]
          · simp only [Instr.lookup, Sem.run_bind, run_underlying hu, Result.andThen_ok, Sem.run_pure, run_getObj_map hb, hck, hfk, z1]
        · subst h4
          cases ok with
          | true => simp only [bM_eq, if_true, VR]; exact ⟨_, rfl, VRL.cons z2 (VRL.cons (by simp [VR]) VRL.nil)⟩
          | false => exact z2
      | some p =>
        obtain ⟨i, v⟩ := p
        obtain ⟨u, hq, hvu⟩ := c3
        subst hq
        rw [oM_some] at h3
        simp only [Option.some.injEq] at h3
        refine ⟨if ok then .tuple #[u, .bool true] else u, ?_, ?_⟩
        · rcases hv with ⟨rfl, rfl⟩ | ⟨rb, clock, rfl, hb⟩
          · simp only [Instr.lookup, Sem.run_bind, run_underlying hu, Result.andThen_ok, Sem.run_pure, hck, hfk]
          · simp only [Instr.lookup, Sem.run_bind, run_underlying hu, Result.andThen_ok, Sem.run_pure, run_getObj_map hb, hck, hfk]
        · subst h3
          cases ok with
          | true => simp only [bM_eq, if_true, VR]; exact ⟨_, rfl, VRL.cons hvu (VRL.cons (by simp [VR]) VRL.nil)⟩
          | false => exact hvu
    rcases entries_gives hH hl hm with ⟨h5, h6⟩ | ⟨rb, clock, es, h5, h6, h7⟩
    · subst h6
      exact main #[] (by simp [EL]) (.inl ⟨h5, rfl⟩)
    · exact main es h7 (.inr ⟨rb, clock, h5, h6⟩)
  · cases h

theorem findBorn_rel {n : Nat} {k v : AV} : ∀ {l : List (AV × AV × Nat)} {es : List MapEntry}, EL π l es → findBorn n l = some (k, v) → ∃ e, es.find? (fun e => e.born == n) = some e ∧ VR π k e.key ∧ VR π v e.val
  | [], _, _, hf => by cases hf
  | (k', v', m) :: l, _, h, hf => by
    simp only [EL] at h
    obtain ⟨e, t, rfl, h1, h2, h3, h4⟩ := h
    unfold findBorn at hf
    split at hf
    · rename_i hm
      simp only [Option.some.injEq, Prod.mk.injEq] at hf
      obtain ⟨rfl, rfl⟩ := hf
      have hm' : m = n := Nat.eq_of_beq_eq_true hm
      exact ⟨e, by rw [List.find?_cons_of_pos (by simp [h3, hm'])], h1, h2⟩
    · rename_i hm
      have hm' : m ≠ n := fun hh => by subst hh; simp at hm
      obtain ⟨e', g1, g2⟩ := findBorn_rel h4 hf
      exact ⟨e', by rw [List.find?_cons_of_neg (by simp [h3, hm'])]; exact g1, g2⟩
theorem lastOf_back : ∀ {l : List Nat} {n : Nat}, lastOf l = some n → l.toArray.back? = some n
  | [], _, h => by cases h
  | [m], _, h => by cases h; rfl
  | m :: k :: r, n, h => by
    have h' : lastOf (k :: r) = some n := h
    have ih := lastOf_back h'
    simp only [List.back?_toArray] at ih ⊢
    rw [List.getLast?_cons_cons]
    exact ih
theorem reads_sound (hH : HR known base w0 π σ w) {e : Operand → Value} {o : Oper} {f : Program → Rho → AS → Option AV} {x : AV} (hh : headOf o.op P = .reads f) (hf : f P ρ σ = some x) (hρ : RhoR π ρ e) : Quiet P π w e o x := by
  obtain ⟨dst, op, type, pos, after, guard⟩ := o
  dsimp only at hh
  cases op <;> try (cases hh; done)
  case load t a =>
    cases hh
    unfold rLoad at hf
    split at hf
    · rename_i b o hab
      exact (load_gives hH hf (hρ _ _ hab)).quiet rfl
    · cases hf
  case convert s d y =>
    change hdConv s d y P = _ at hh
    unfold hdConv at hh
    split at hh <;> cases hh
  case slice t y lo hi mx =>
    change hdSlice t y lo hi mx P = _ at hh
    unfold hdSlice at hh
    split at hh
    · cases hh
    · cases hh
    · cases hh
      unfold rSliceArr at hf
      cases mx with
      | some m => cases hf
      | none =>
        rw [oM_none] at hf
        obtain ⟨xa, ha, h1⟩ := oB_some hf
        obtain ⟨xl, hl, h2⟩ := oB_some h1
        obtain ⟨xh, hh, h3⟩ := oB_some h2
        split at h3
        · rename_i b o n e' hu
          obtain ⟨size, hs, h4⟩ := oB_some h3
          exact (sliceArr_gives (t := t) (arr := 0) hH h4 (hρ _ _ ha) (optA_rel hρ hl) (optA_rel hρ hh) hs (.inl hu)).quiet rfl
        · rename_i b o arr hu
          split at h3
          · rename_i n e' hu2
            obtain ⟨size, hs, h4⟩ := oB_some h3
            exact (sliceArr_gives (t := t) hH h4 (hρ _ _ ha) (optA_rel hρ hl) (optA_rel hρ hh) hs (.inr ⟨hu, hu2⟩)).quiet rfl
          · cases h3
        · cases h3
  case lookup t m k ok =>
    cases hh
    unfold rLookup at hf
    split at hf
    · rename_i xm xk hm hk
      exact (lookup_gives hH hf (hρ _ _ hm) (hρ _ _ hk)).quiet rfl
    · cases hf
  case entry it =>
    cases hh
    unfold rEntry at hf
    split at hf
    · rename_i b hit
      split at hf
      · rename_i m since seen last hb
        split at hf
        · rename_i es clock n hbm hlast
          split at hf
          · rename_i k v hcl hfb
            simp only [Option.some.injEq] at hf
            subst hf
            have hv := hρ _ _ hit
            simp only [VR] at hv
            obtain ⟨rb, δ, rs, hp, hv⟩ := hv
            obtain ⟨rb', rs', rm, δm, rsm, h1, h2, h3⟩ := hH.blk b _ hb
            rw [hp] at h1
            simp only [Option.some.injEq, Prod.mk.injEq] at h1
            obtain ⟨rfl, rfl, rfl⟩ := h1
            obtain ⟨rm', δm', rsm', es', k1, k2, k3⟩ := hH.blk m _ hbm
            rw [h2] at k1
            simp only [Option.some.injEq, Prod.mk.injEq] at k1
            obtain ⟨rfl, rfl, rfl⟩ := k1
            obtain ⟨en, g1, g2, g3⟩ := findBorn_rel k3 hfb
            have hcl' : clock = last := Nat.eq_of_beq_eq_true hcl
            subst hcl'
            have hback := lastOf_back hlast
            have hf' : es'.find? (fun e => e.born == n) = some en := by rw [← Array.find?_toList]; exact g1
            have r1 : (getObj rb).run P w = .ok (.mapIter (some rm) since seen.toArray clock) w := by simp [getObj, Sem.run, h3]
            have r2 : (getObj rm).run P w = .ok (.map es' clock) w := by simp [getObj, Sem.run, k2]
            refine Gives.quiet (s := Instr.entry (e it)) ⟨.tuple #[en.key, en.val], ?_, by simp only [VR]; exact ⟨_, rfl, VRL.cons g2 (VRL.cons g3 VRL.nil)⟩⟩ rfl
            rw [hv]
            simp only [Nat.add_zero, Instr.entry, Sem.run_bind, r1, Result.andThen_ok, hback, r2]
            simp [hf']
          · cases hf
        · cases hf
      · cases hf
    · cases hf
  case call c =>
    change hdCall c P = _ at hh
    unfold hdCall at hh
    split at hh <;> (try (cases hh; done))
    rename_i hc
    cases hlm : lenOfMap P c with
    | false => rw [hlm] at hh; cases hh
    | true =>
    rw [hlm] at hh
    cases hh
    obtain ⟨callee, args, ts⟩ := c
    dsimp only at hc hf
    subst hc
    unfold rLenMap at hf
    split at hf
    · rename_i t tr m ht ha
      split at hf
      · rename_i kt et es clock hu hb
        rw [fNat_eq] at hf
        simp only [Option.some.injEq] at hf
        subst hf
        have hl := argsA_rel hρ ha
        simp only [VRL, VR] at hl
        obtain ⟨v, r, hv, ⟨rm, δ, rs, hp, rfl⟩, rfl⟩ := hl
        obtain ⟨rb', δ', rs', es', h1, h2, h3⟩ := hH.blk m _ hb
        rw [hp] at h1
        simp only [Option.some.injEq, Prod.mk.injEq] at h1
        obtain ⟨rfl, rfl, rfl⟩ := h1
        have hargs : args.map e = #[.map (some rm)] := by apply Array.ext'; simp [hv]
        have h2' : ts = (t :: tr).toArray := by apply Array.ext'; simpa using ht
        subst h2'
        have hget : (getObj rm).run P w = .ok (.map es' clock) w := by simp [getObj, Sem.run, h2]
        refine ⟨.int .i64 es'.size, ?_, ?_⟩
        · simp only [execOp, resolve, invoke, builtin, Sem.run_bind, Sem.run_pure, Result.andThen_ok, hargs]
          simp [Builtin.len_, run_underlying hu, hget, goInt]
        · have := EL.length h3
          simp only [VR]
          rw [← this]; simp
      · cases hf
    · rename_i t tr ht ha
      split at hf
      · rename_i kt et hu
        simp only [Option.some.injEq] at hf
        subst hf
        have hl := argsA_rel hρ ha
        simp only [VRL, VR] at hl
        obtain ⟨v, r, hv, rfl, rfl⟩ := hl
        have hargs : args.map e = #[.map none] := by apply Array.ext'; simp [hv]
        have h2' : ts = (t :: tr).toArray := by apply Array.ext'; simpa using ht
        subst h2'
        refine ⟨.int .i64 0, ?_, ?_⟩
        · simp only [execOp, resolve, invoke, builtin, Sem.run_bind, Sem.run_pure, Result.andThen_ok, hargs]
          simp [Builtin.len_, run_underlying hu, goInt]
        · simp only [VR]
      · cases hf
    · cases hf
  case defer c =>
    change hdDefer c P = _ at hh
    unfold hdDefer at hh
    split at hh <;> cases hh
end Go.Proofs.YtjagjjdkgidkjaaGreatDoor.Ev
set_option linter.all false
namespace Go.Proofs.YtjagjjdkgidkjaaGreatDoor.Ev
open Go Go.RowKit

variable {P : Program} {known : Nat → Bool} {base : Nat} {w0 : World} {π : Pi} {σ : AS} {w : World} {ρ : Rho}

def ValR (π : Pi) (v : AV) (nx : Next) : Prop := (∃ u, nx = .value u ∧ VR π v u) ∨ (nx = .skip ∧ v = .tuple [])
/-- A deferred call. -/
def DR (π : Pi) : ADef → Deferred → Prop
  | .call f args, d' => ∃ (cap xs : Array Value), d' = ⟨.fn (.func f) cap, xs⟩ ∧ VRL π args (xs ++ cap).toList
  | .mark b, d' => ∃ rb rs, π b = some (rb, 0, rs) ∧ d' = { target := .collected rb, args := #[] }
/-- What a loud operation's law says. -/
def LoudR (P : Program) (known : Nat → Bool) (base : Nat) (w0 : World) (π : Pi) (σ : AS) (w : World) (s : Sem Next) : AR → Prop
  | .val v σ' => ∃ π' w' nx, s.run P w = .ok nx w' ∧ ValR π' v nx ∧ π.le π' ∧ HR known base w0 π' σ' w'
  | .defer d σ' => ∃ d', s.run P w = .ok (.defer d') w ∧ DR π d d' ∧ σ' = σ
  | .enter f args σ' => ∃ args', s.run P w = .ok (.enter f args') w ∧ VRL π args args'.toList ∧ σ' = σ ∧ ∃ fn c, P.funcs[f]? = some fn ∧ fn.body = some c
  | .round b args σ' => ∃ (rb rs : Nat) (r : Loop) (args' : Array Value), π b = some (rb, 0, rs) ∧ w.heap[rb]? = some (.loop r) ∧
      s.run P w = .ok (.round rb r.fn ((r.params.zip args').foldl (fun tmps (t, a) => tmps.setIfInBounds t a) r.tmps) r.assign r.body) w ∧ VRL π args args'.toList ∧ σ' = σ
  | .panic v σ' => ∃ v', s.run P w = .halt (.panic v') w ∧ VR π v v' ∧ σ' = σ
/-- A value of a law on values. -/
theorem LoudR.ofGives {s : Sem Value} {v : AV} (hH : HR known base w0 π σ w) (h : Gives P π w s v) : LoudR P known base w0 π σ w (do pure (.value (← s))) (.val v σ) := by
  obtain ⟨u, h1, h2⟩ := h
  exact ⟨π, w, .value u, by simp [h1], .inl ⟨u, rfl, h2⟩, Pi.le_refl π, hH⟩

theorem range_zeros (zc : Array Value) : ∀ n, ((List.range (n * zc.size)).map fun i => zc[i % zc.size]!) = (List.replicate n zc.toList).flatten
  | 0 => by simp
  | n + 1 => by
    have hstep : (n + 1) * zc.size = zc.size + n * zc.size := by rw [Nat.add_mul]; omega
    rw [hstep, List.range_add, List.map_append, List.replicate_succ, List.flatten_cons]
    congr 1
    · apply List.ext_getElem?
      intro i
      by_cases hi : i < zc.size
      · simp [hi, Nat.mod_eq_of_lt hi]
      · simp [hi]
    · rw [List.map_map, ← range_zeros zc n]
      apply List.map_congr_left
      intro i _
      simp [Function.comp]
theorem zeros_toList (zc : Array Value) (n : Nat) : ((Array.range (n * zc.size)).map fun i => zc[i % zc.size]!).toList = (List.replicate n zc.toList).flatten := by
  rw [Array.toList_map, Array.toList_range]; exact range_zeros zc n
theorem VRL.replicate {xs : List AV} {vs : List Value} (h : VRL π xs vs) : ∀ n, VRL π (List.replicate n xs).flatten (List.replicate n vs).flatten
  | 0 => by simp [VRL]
  | n + 1 => by simp only [List.replicate_succ, List.flatten_cons]; exact h.append (VRL.replicate h n)

/-- A new row, as an operation's end. -/
theorem row_sound (hH : HR known base w0 π σ w) {s : Sem Next} {e : TypeId} {xs : List AV} {vs spare : List Value} (hx : VRL π xs vs) {wh : BK} (hw : wh = .whole → spare = []) {v : AV} {u : Value}
    (hr : s.run P w = .ok (.value u) (w.alloc (.cells (vs ++ spare).toArray e)))
    (hv : VR (π.add σ.next (w.heap.size, 0, vs.length + spare.length)) v u) : LoudR P known base w0 π σ w s (.val v (σ.push (.cells (lay xs 0 .nil) xs.length e 0 true wh))) :=
  ⟨_, _, _, hr, .inl ⟨u, rfl, hv⟩, hH.le_add _, hH.row e hx spare wh hw⟩

theorem alloc_sound (hH : HR known base w0 π σ w) {e : Operand → Value} {t : TypeId} {o : Oper} {r : AR} (ho : o.op = .alloc t) (h : lAlloc t P ρ σ = some r) : LoudR P known base w0 π σ w (execOp e o) r := by
  unfold lAlloc at h
  split at h
  · rename_i z hz
    rw [AS.row_eq] at h
    simp only [Option.some.injEq] at h
    subst h
    obtain ⟨zv, z1, z2⟩ := zeroOfT_run (π := π) hz w
    refine row_sound (spare := []) (vs := zv.cells.toList) (u := .pointer (some ⟨w.heap.size, 0, none⟩)) hH (cells_rel z2) (fun _ => rfl) ?_ ?_
    · simp only [execOp, ho]
      simp [Instr.alloc, z1, newVar, newRow]
    · simp only [VR]; exact ⟨_, _, _, Pi.add_same _ _ _, rfl⟩
  · cases h
theorem box_sound (hH : HR known base w0 π σ w) {e : Operand → Value} (hρ : RhoR π ρ e) {t : TypeId} {x : Operand} {o : Oper} {r : AR} (ho : o.op = .box t x) (h : lBox t x P ρ σ = some r) : LoudR P known base w0 π σ w (execOp e o) r := by
  unfold lBox at h
  split at h
  · rename_i v hv
    rw [AS.row_eq] at h
    simp only [Option.some.injEq] at h
    subst h
    refine row_sound (spare := []) (vs := (e x).cells.toList) (u := .pointer (some ⟨w.heap.size, 0, none⟩)) hH (cells_rel (hρ _ _ hv)) (fun _ => rfl) ?_ ?_
    · simp only [execOp, ho]
      simp [Instr.box, newVar, newRow]
    · simp only [VR]; exact ⟨_, _, _, Pi.add_same _ _ _, rfl⟩
  · cases h
theorem buildSlice_sound (hH : HR known base w0 π σ w) {e : Operand → Value} (hρ : RhoR π ρ e) {t : TypeId} {n : Nat} {ps : Array (Nat × Operand)} {o : Oper} {r : AR} (ho : o.op = .buildSlice t n ps)
    (h : lBuildSlice t n ps P ρ σ = some r) : LoudR P known base w0 π σ w (execOp e o) r := by
  unfold lBuildSlice at h
  split at h
  · rename_i el l hu hl
    split at h
    · rename_i size z hs hz
      split at h
      · rename_i g1 g2
        have g1' : n * size ≤ 16777216 := by simpa using g1
        have g2' : z.cells.length = size := by simpa using g2
        split at h
        · rename_i cs hcs
          rw [AS.row_eq, fNat_eq] at h
          simp only [Option.some.injEq] at h
          subst h
          have hpl := partsA_rel hρ hl
          have hlen : ∀ (ps : List (Nat × AV)) (cs out : List AV) (pl : Nat → Option (Nat × Nat)), fillA pl cs ps = some out → out.length = cs.length := by
            intro ps
            induction ps with
            | nil => intro cs out pl h; simp only [fillA, Option.some.injEq] at h; rw [← h]
            | cons p ps ih =>
              intro cs out pl h
              obtain ⟨i, v⟩ := p
              simp only [fillA] at h
              split at h
              · cases h
              · split at h
                · rename_i b1 b2
                  have := ih _ _ _ h
                  rw [this, splice]
                  simp at b1 b2 ⊢
                  omega
                · cases h
          have hl2 := hlen _ _ _ _ hcs
          have hl3 : (List.replicate n z.cells).flatten.length = n * size := by simp [g2']
          cases hi : P.info? el with
          | none => simp [sizeOfT, hi] at hs
          | some ie =>
            have hsz : ie.size = size := by simpa [sizeOfT, hi] using hs
            unfold zeroOfT at hz
            simp only [hi] at hz
            cases hzz : ie.zero with
            | none => simp [hzz] at hz
            | some zv =>
              simp only [hzz] at hz
              have hzr := ofValue_rel (π := π) hz
              have hzs := cells_size hzr
              have hzl := (cells_rel hzr).replicate n
              rw [← zeros_toList, hzs, g2'] at hzl
              obtain ⟨o', q1, q2⟩ := fillA_rel (place := fun i => some (i * ie.size, ie.size)) (fun i p hip => by rw [hsz]; exact hip) hcs hzl hpl
              have lq := q2.length
              refine row_sound (spare := []) (vs := o'.toList) (u := .slice (some ⟨w.heap.size, 0, none⟩) n n) hH q2 (fun _ => rfl) ?_ ?_
              · have hr : (Instr.buildSlice t n (ps.map fun (i, x) => (i, e x))).run P w = .ok (.slice (some ⟨w.heap.size, 0, none⟩) n n) (w.alloc (.cells o' el)) := by
                  by_cases hz0 : n * ie.size = 0
                  · have : ((Array.range (n * size)).map fun i => zv.cells[i % size]!) = #[] := by rw [← hsz, hz0]; simp
                    rw [this] at q1
                    have q1' : Instr.fill (fun i => some (i * ie.size, ie.size)) #[] (ps.map fun (i, x) => (i, e x)).toList = some o' := by rw [Array.toList_map]; exact q1
                    have hempty : ((Array.range (n * ie.size)).map ((#[] : Array Value)[· % (#[] : Array Value).size]!)) = #[] := by rw [hz0]; simp
                    simp only [Instr.buildSlice, Sem.run_bind, run_underlying hu, Result.andThen_ok, sizeOf, typeInfo, run_program, hi]
                    have hsm : ¬ n * ie.size > 2 ^ 24 := by omega
                    have hr0 : Array.range 0 = #[] := by simp [Array.range]
                    have q1'' : Instr.fill (fun i => some (i * ie.size, ie.size)) #[] (List.map (fun x => (x.fst, e x.snd)) ps.toList) = some o' := q1
                    simp [hsm, hz0, hr0, q1'', newRow]
                  · refine run_buildSlice w t el n _ o' ie zv hu hi hzz (by rw [hsz]; omega) hz0 ?_
                    rw [Array.toList_map]
                    rw [← hsz] at q1
                    rw [hzs, g2', ← hsz]
                    exact q1
                simp only [execOp, ho]
                simp [hr]
              · simp only [VR]
                refine ⟨_, _, _, 0, n, Pi.add_same _ _ _, rfl, .inl rfl, Nat.le_refl _, fun _ => rfl, ?_⟩
                simp only [List.length_nil, Nat.add_zero, lq, hl2, hl3]
                omega
        · cases h
      · cases h
    · cases h
  · cases h
theorem store_sound (hH : HR known base w0 π σ w) {e : Operand → Value} (hρ : RhoR π ρ e) {t : TypeId} {a x : Operand} {o : Oper} {r : AR} (ho : o.op = .store t a x)
    (h : lStore t a x P ρ σ = some r) : LoudR P known base w0 π σ w (execOp e o) r := by
  unfold lStore at h
  split at h
  · rename_i b off v n ha hx hs
    split at h
    · rename_i g
      have g' : v.cells.length = n := by simpa using g
      split at h
      · rename_i σ' hw
        simp only [Option.some.injEq] at h
        subst h
        have hva := hρ _ _ ha
        have hvx := hρ _ _ hx
        simp only [VR] at hva
        obtain ⟨rb, δ, rs, hp, hea⟩ := hva
        obtain ⟨rb', δ', rs', h1, h2, h3, h4⟩ := hH.write hw (cells_rel hvx)
        rw [hp] at h1
        simp only [Option.some.injEq, Prod.mk.injEq] at h1
        obtain ⟨rfl, rfl, rfl⟩ := h1
        refine ⟨π, _, .skip, ?_, .inr ⟨rfl, rfl⟩, Pi.le_refl π, h4⟩
        have hcs := cells_size hvx
        have hst := run_storeCells_cells (P := P) rb (δ + off) (e x).cells.toList 0 w (fun j hj => by simpa using (h2 j hj).1) (fun j hj => by simpa using (h2 j hj).2) h3
        simp only [execOp, ho, hea]
        simp only [Instr.storeAt, Instr.sureAddr, storeVar, Sem.run_bind, Sem.run_pure, Result.andThen_ok, sizeOfT_run hs]
        rw [if_neg (by omega)]
        simp [hst]
      · cases h
    · cases h
  · cases h

theorem makeSlice_sound (hH : HR known base w0 π σ w) {e : Operand → Value} (hρ : RhoR π ρ e) {t : TypeId} {l c : Operand} {o : Oper} {r : AR} (ho : o.op = .makeSlice t l c)
    (h : lMakeSlice t l c P ρ σ = some r) : LoudR P known base w0 π σ w (execOp e o) r := by
  unfold lMakeSlice at h
  split at h
  · rename_i el a b hu ha hb
    split at h
    · rename_i n m size bytes z hn hm hs hby hz
      split at h
      · rename_i g1 g2 g3
        have g1' : n ≤ m := by simpa using g1
        have g2' : bytes * m ≤ 281474976710656 := by simpa using g2
        have g3' : z.cells.length = size := by simpa using g3
        split at h
        · rename_i g4
          have g4' : m ≤ 1000000 := by simpa using g4
          rw [AS.row_eq] at h
          simp only [Option.some.injEq] at h
          subst h
          obtain ⟨kl, rfl⟩ := natI_some hn
          obtain ⟨kc, rfl⟩ := natI_some hm
          have el1 := (hρ _ _ ha).int
          have ec1 := (hρ _ _ hb).int
          cases hi : P.info? el with
          | none => simp [sizeOfT, hi] at hs
          | some ie =>
            have hsz : ie.size = size := by simpa [sizeOfT, hi] using hs
            have hbz : ie.bytes = bytes := by simpa [bytesOfT, hi] using hby
            unfold zeroOfT at hz
            simp only [hi] at hz
            cases hzz : ie.zero with
            | none => simp [hzz] at hz
            | some zv =>
              simp only [hzz] at hz
              have hzr := ofValue_rel (π := π) hz
              have hzs := cells_size hzr
              have hzl := (cells_rel hzr).replicate m
              have hb0 : ((ie.bytes * m : Nat) : Int) ≤ 281474976710656 := by rw [hbz]; omega
              rw [Int.natCast_mul] at hb0
              have hr := run_make (P := P) w t el ie zv hu hi hzz kl kc (n : Int) (m : Int) (by omega) (by omega) hb0 (by omega)
              have hmc : (madeCells zv.cells ((m : Int).toNat * ie.size)).toList = (List.replicate m zv.cells.toList).flatten := by
                rw [Int.toNat_natCast, hsz, ← g3', ← hzs]
                exact zeros_toList zv.cells m
              refine row_sound (spare := []) (vs := (madeCells zv.cells ((m : Int).toNat * ie.size)).toList) (u := .slice (some ⟨w.heap.size, 0, none⟩) n m) hH (by rw [hmc]; exact hzl) (fun _ => rfl) ?_ ?_
              · simp only [execOp, ho, el1, ec1]
                simp [hr]
              · simp only [VR]
                refine ⟨_, _, _, 0, m, Pi.add_same _ _ _, rfl, .inl rfl, Nat.le_refl _, fun _ => rfl, ?_⟩
                have : (madeCells zv.cells ((m : Int).toNat * ie.size)).toList.length = m * size := by simp [size_madeCells, hsz]
                simp only [List.length_nil, Nat.add_zero, this]
                omega
        · cases h
      · cases h
    · cases h
  · cases h
theorem makeMap_sound (hH : HR known base w0 π σ w) {e : Operand → Value} (hρ : RhoR π ρ e) {t : TypeId} {x : Option Operand} {o : Oper} {r : AR} (ho : o.op = .makeMap t x)
    (h : lMakeMap t x P ρ σ = some r) : LoudR P known base w0 π σ w (execOp e o) r := by
  have key : ∀ hr : (Instr.makeMap t (x.map e)).run P w = .ok (.map (some w.heap.size)) (w.alloc (.map #[] 0)), LoudR P known base w0 π σ w (execOp e o) (.val (.map σ.next) (σ.push (.map [] 0))) := by
    intro hr
    refine ⟨π.add σ.next (w.heap.size, 0, 0), w.alloc (.map #[] 0), .value (.map (some w.heap.size)), ?_, .inl ⟨_, rfl, ?_⟩, hH.le_add _, hH.new _ _ 0 ⟨w.heap.size, 0, 0, #[], Pi.add_same _ _ _, ?_, by simp [EL]⟩⟩
    · simp only [execOp, ho]; simp [hr]
    · simp only [VR]; exact ⟨_, _, _, Pi.add_same _ _ _, rfl⟩
    · show (w.heap.push _)[w.heap.size]? = _
      simp
  unfold lMakeMap at h
  split at h
  · rw [AS.new_eq] at h
    simp only [Option.some.injEq] at h
    subst h
    exact key rfl
  · rename_i kt et y hu
    split at h
    · rename_i k n hy
      rw [AS.new_eq] at h
      simp only [Option.some.injEq] at h
      subst h
      have hv := (hρ _ _ hy).int
      refine key ?_
      simp only [Option.map_some, hv, Instr.makeMap, Sem.run_bind, run_underlying hu, Result.andThen_ok]
      rfl
    · cases h
  · cases h
theorem defer_sound {e : Operand → Value} (hρ : RhoR π ρ e) {f : Operand} {args : Array Operand} {c : Call} {o : Oper} {r : AR} (ho : o.op = .defer c) (hc : c.callee = .value f) (ha : c.args = args)
    (h : lDefer f args P ρ σ = some r) : LoudR P known base w0 π σ w (execOp e o) r := by
  unfold lDefer at h
  split at h
  · rename_i g fst caps l hf hl
    simp only [Option.some.injEq] at h
    subst h
    have hv := hρ _ _ hf
    simp only [VR] at hv
    obtain ⟨ps, cs, hv, hps, hcs⟩ := hv
    refine ⟨⟨.fn (.func g) ⟨cs⟩, ⟨ps⟩ ++ args.map e⟩, ?_, ⟨⟨cs⟩, ⟨ps⟩ ++ args.map e, rfl, ?_⟩, rfl⟩
    · simp only [execOp, ho, resolve, hc, ha, hv, Deferred.ofValue, Sem.run_bind, Sem.run_pure, Result.andThen_ok]
    · have := (hps.append (argsA_rel hρ hl)).append hcs
      simpa using this
  · cases h
theorem panic_sound {e : Operand → Value} (hρ : RhoR π ρ e) {x : Operand} {o : Oper} {r : AR} (ho : o.op = .panic x) (h : lPanic x P ρ σ = some r) : LoudR P known base w0 π σ w (execOp e o) r := by
  unfold lPanic at h
  split at h
  · rename_i t v hx
    simp only [Option.some.injEq] at h
    subst h
    have hv := hρ _ _ hx
    have hv' := hv
    simp only [VR] at hv'
    obtain ⟨y, hy, _⟩ := hv'
    refine ⟨e x, ?_, hv, rfl⟩
    simp only [execOp, ho, hy, Instr.panic]
    simp [goPanic]
  · cases h
theorem range_sound (hH : HR known base w0 π σ w) {e : Operand → Value} (hρ : RhoR π ρ e) {t : TypeId} {x : Operand} {o : Oper} {r : AR} (ho : o.op = .range t x)
    (h : lRange t x P ρ σ = some r) : LoudR P known base w0 π σ w (execOp e o) r := by
  unfold lRange at h
  split at h
  · rename_i l hu hx
    rw [AS.new_eq] at h
    simp only [Option.some.injEq] at h
    subst h
    have hv := hρ _ _ hx
    simp only [VR] at hv
    obtain ⟨s, hs, hl⟩ := hv
    refine ⟨π.add σ.next (w.heap.size, 0, 0), w.alloc (.stringIter s 0), .value (.pointer (some ⟨w.heap.size, 0, none⟩)), ?_, .inl ⟨_, rfl, ?_⟩, hH.le_add _, hH.new _ _ 0 ⟨w.heap.size, 0, s, Pi.add_same _ _ _, ?_, hl⟩⟩
    · have := run_range_string (P := P) w t s hu
      simp only [execOp, ho, hs]
      simp [this, World.iter]
    · simp only [VR]; exact ⟨_, _, _, Pi.add_same _ _ _, rfl⟩
    · show (w.heap.push _)[w.heap.size]? = _
      simp
  · rename_i kt et m hu hx
    split at h
    · rename_i es clock hb
      rw [AS.new_eq] at h
      simp only [Option.some.injEq] at h
      subst h
      have hv := hρ _ _ hx
      simp only [VR] at hv
      obtain ⟨rm, δ, rs, hp, hm⟩ := hv
      obtain ⟨rb', δ', rs', es', h1, h2, h3⟩ := hH.blk m _ hb
      rw [hp] at h1
      simp only [Option.some.injEq, Prod.mk.injEq] at h1
      obtain ⟨rfl, rfl, rfl⟩ := h1
      refine ⟨π.add σ.next (w.heap.size, 0, 0), w.alloc (.mapIter (some rm) clock #[] clock), .value (.pointer (some ⟨w.heap.size, 0, none⟩)), ?_, .inl ⟨_, rfl, ?_⟩, hH.le_add _,
        hH.new _ _ 0 ⟨w.heap.size, 0, rm, δ, rs, Pi.add_same _ _ _, hH.le_add _ _ _ hp, ?_⟩⟩
      · simp only [execOp, ho, hm]
        simp only [Instr.range, Sem.run_bind, run_underlying hu, Result.andThen_ok, run_getObj_map h2]
        rfl
      · simp only [VR]; exact ⟨_, _, _, Pi.add_same _ _ _, rfl⟩
      · show (w.heap.push _)[w.heap.size]? = _
        simp
    · cases h
  · rename_i kt et hu hx
    rw [AS.new_eq] at h
    simp only [Option.some.injEq] at h
    subst h
    have hv := hρ _ _ hx
    simp only [VR] at hv
    refine ⟨π.add σ.next (w.heap.size, 0, 0), w.alloc (.mapIter none 0 #[] 0), .value (.pointer (some ⟨w.heap.size, 0, none⟩)), ?_, .inl ⟨_, rfl, ?_⟩, hH.le_add _,
      hH.new _ _ 0 ⟨w.heap.size, 0, Pi.add_same _ _ _, ?_⟩⟩
    · simp only [execOp, ho, hv]
      simp only [Instr.range, Sem.run_bind, run_underlying hu, Result.andThen_ok]
      rfl
    · simp only [VR]; exact ⟨_, _, _, Pi.add_same _ _ _, rfl⟩
    · show (w.heap.push _)[w.heap.size]? = _
      simp
  · cases h
theorem setObj_run {rb : Nat} {o o' : Obj} (h : w.heap[rb]? = some o) (hc : ∀ c e f, o ≠ .cells c e f) : (setObj rb o').run P w = .ok () { w with heap := w.heap.setIfInBounds rb o' } := by
  cases o <;> first
    | exact absurd rfl (hc _ _ _)
    | simp [setObj, Sem.run, h]
theorem HR.obj (h : HR known base w0 π σ w) {b : Nat} {B B' : ABlk} {p : Nat × Nat × Nat} {o' : Obj} (hb : σ.get b = some B) (lb : B.live = true) (mb : B.mine = true) (hp : π b = some p)
    (hB : ∀ w' : World, w'.heap[p.1]? = some o' → BR π b B' w') : HR known base w0 π (σ.put b B') { w with heap := w.heap.setIfInBounds p.1 o' } := by
  have hlt := h.bnd b p hp
  have hm := h.mine b B p hb mb hp
  refine h.turn hb mb hp (fun _ => mb) (hB _ ?_) (fun k hk => ?_) (by simp) (h.below.trans ⟨rfl, rfl, rfl, by simp, fun k hk => ?_⟩)
  · show (w.heap.setIfInBounds p.1 o')[p.1]? = _
    simp [hlt]
  · show (w.heap.setIfInBounds p.1 o')[k]? = _
    rw [Array.getElem?_setIfInBounds_ne (Ne.symm hk)]
  · show (w.heap.setIfInBounds p.1 o')[k]? = _
    rw [Array.getElem?_setIfInBounds_ne (by omega)]
theorem memN_mem12 (x : Nat) : ∀ l : List Nat, memN x l = true ↔ x ∈ l
  | [] => by simp [memN]
  | y :: r => by
    have ih := memN_mem12 x r
    by_cases h : x = y
    · subst h; simp [memN]
    · have : Nat.beq x y = false := by cases hb : Nat.beq x y with | false => rfl | true => exact absurd (Nat.eq_of_beq_eq_true hb) h
      simp [memN, this, ih, h]
theorem leftL_rel {seen : List Nat} : ∀ {l : List (AV × AV × Nat)} {es : List MapEntry}, EL π l es → EL π (leftL seen l) (es.filter fun e => !seen.toArray.contains e.born)
  | [], _, h => by simp only [EL] at h; subst h; simp [leftL, EL]
  | (k, v, n) :: l, _, h => by
    simp only [EL] at h
    obtain ⟨e, t, rfl, h1, h2, h3, h4⟩ := h
    have ih := leftL_rel (seen := seen) h4
    subst h3
    unfold leftL
    cases hm : memN e.born seen with
    | true =>
      have : e.born ∈ seen := (memN_mem12 _ _).1 hm
      simpa [this, hm] using ih
    | false =>
      have : e.born ∉ seen := fun h => by rw [(memN_mem12 _ _).2 h] at hm; cases hm
      simp only [List.contains_toArray, List.contains_eq_mem, hm] at ih ⊢
      rw [List.filter_cons_of_pos (by simp [this])]
      exact ⟨e, _, rfl, h1, h2, rfl, ih⟩
theorem allNew_rel {last : Nat} : ∀ {l : List (AV × AV × Nat)} {es : List MapEntry}, EL π l es → allNew last l = es.all (fun e => decide (e.born ≥ last))
  | [], _, h => by simp only [EL] at h; subst h; rfl
  | (k, v, n) :: l, _, h => by
    simp only [EL] at h
    obtain ⟨e, t, rfl, h1, h2, h3, h4⟩ := h
    subst h3
    unfold allNew
    rw [List.all_cons, ← allNew_rel h4]
    by_cases hb : last ≤ e.born
    · have : Nat.ble last e.born = true := by simpa using hb
      simp [this, hb]
    · have : Nat.ble last e.born = false := by cases hc : Nat.ble last e.born with | false => rfl | true => exact absurd (by simpa using hc) hb
      simp [this, hb]
theorem isNilL_eq {α : Type} (l : List α) : isNilL l = l.isEmpty := by cases l <;> rfl
theorem EL.isEmpty {l : List (AV × AV × Nat)} {es : List MapEntry} (h : EL π l es) : es.isEmpty = l.isEmpty := by
  have := EL.length h
  cases l <;> cases es <;> simp_all
theorem next_map_over {rb rm since last clock : Nat} {seen : Array Nat} {es : Array MapEntry} {ty : TypeId} (h : w.heap[rb]? = some (.mapIter (some rm) since seen last)) (hm : w.heap[rm]? = some (.map es clock))
    (hc : (!seen.isEmpty && !es.isEmpty && es.all fun e => decide (e.born ≥ last)) = false) (hl : (es.filter fun e => !seen.contains e.born) = #[]) :
    (Instr.next (.pointer (some ⟨rb, 0, none⟩)) false ty).run P w = .ok (.tuple #[.bool false]) w := by
  have h1 : (getObj rb).run P w = .ok (.mapIter (some rm) since seen last) w := by simp [getObj, Sem.run, h]
  have h2 : (getObj rm).run P w = .ok (.map es clock) w := by simp [getObj, Sem.run, hm]
  simp only [Instr.next, Sem.run_bind, h1, Result.andThen_ok, h2, hc, hl]
  simp [choose, Sem.run, Question.forced]
theorem next_map_one {rb rm since last clock : Nat} {seen : Array Nat} {es : Array MapEntry} {ty : TypeId} {e : MapEntry} (h : w.heap[rb]? = some (.mapIter (some rm) since seen last)) (hm : w.heap[rm]? = some (.map es clock))
    (hc : (!seen.isEmpty && !es.isEmpty && es.all fun e => decide (e.born ≥ last)) = false) (hl : (es.filter fun e => !seen.contains e.born) = #[e]) (he : e.born < since) :
    (Instr.next (.pointer (some ⟨rb, 0, none⟩)) false ty).run P w = .ok (.tuple #[.bool true, e.key, e.val]) { w with heap := w.heap.setIfInBounds rb (.mapIter (some rm) since (seen.push e.born) clock) } := by
  have h1 : (getObj rb).run P w = .ok (.mapIter (some rm) since seen last) w := by simp [getObj, Sem.run, h]
  have h2 : (getObj rm).run P w = .ok (.map es clock) w := by simp [getObj, Sem.run, hm]
  have hset := setObj_run (P := P) (o' := .mapIter (some rm) since (seen.push e.born) clock) h (by intro c e f h; cases h)
  have hge : ¬ since ≤ e.born := by omega
  have f1 : (#[e].filter fun x => decide (x.born < since)) = #[e] := by simp [he]
  have f2 : (#[e].filter fun x => decide (x.born ≥ since)) = #[] := by simp [he]
  simp only [Instr.next, Sem.run_bind, h1, Result.andThen_ok, h2, hc, hl, f1, f2]
  simp [choose, Sem.run, Question.forced, hset]
theorem next_sound (hH : HR known base w0 π σ w) {e : Operand → Value} (hρ : RhoR π ρ e) {it : Operand} {str : Bool} {o : Oper} {r : AR} (ho : o.op = .next it str)
    (h : lNext it str P ρ σ = some r) : LoudR P known base w0 π σ w (execOp e o) r := by
  unfold lNext at h
  split at h
  · rename_i b hit
    split at h
    · rename_i s pos hb
      have hv := hρ _ _ hit
      simp only [VR] at hv
      obtain ⟨rb, δ, rs, hp, hv⟩ := hv
      obtain ⟨rb', rs', s', h1, h2, h3⟩ := hH.blk b _ hb
      rw [hp] at h1
      simp only [Option.some.injEq, Prod.mk.injEq] at h1
      obtain ⟨rfl, rfl, rfl⟩ := h1
      have hsz : s.length = s'.size := by rw [← h3, bytesOf_length]
      have hget : (getObj rb).run P w = .ok (.stringIter s' pos) w := by simp [getObj, Sem.run, h2]
      split at h
      · rename_i g
        have g' : ¬ pos < s'.size := by
          intro hlt
          have : Nat.blt pos s.length = true := by simp [Nat.blt]; omega
          rw [this] at g; cases g
        simp only [Option.some.injEq] at h
        subst h
        refine ⟨π, w, .value (.tuple #[.bool false]), ?_, .inl ⟨_, rfl, ?_⟩, Pi.le_refl π, hH⟩
        · simp only [execOp, ho, hv, Instr.next]
          simp [hget, g']
        · simp only [VR]; exact ⟨_, rfl, VRL.cons (by simp [VR]) VRL.nil⟩
      · rename_i g
        have g' : pos < s'.size := by simp [Nat.blt] at g; omega
        have fin : ∀ (c wd : Nat), Utf8.decode s' pos = (c, wd) →
            LoudR P known base w0 π σ w (execOp e o) (.val (.tuple [.bool true, .int .i64 (.ofNat pos), .int .i32 (.ofNat c)]) (σ.put b (.siter s (pos + wd)))) := by
          intro c wd hd
          have hset := setObj_run (P := P) (o' := .stringIter s' (pos + wd)) h2 (by intro c e f h; cases h)
          refine ⟨π, _, .value (.tuple #[.bool true, goInt pos, .int .i32 c]), ?_, .inl ⟨_, rfl, ?_⟩, Pi.le_refl π,
            hH.obj (o' := .stringIter s' (pos + wd)) hb rfl rfl hp (fun w' hw' => ⟨rb, rs, s', hp, hw', h3⟩)⟩
          · simp only [execOp, ho, hv, Instr.next]
            simp [hget, g', hd, hset]
          · simp only [VR]; exact ⟨_, rfl, VRL.cons (by simp [VR]) (VRL.cons (by simp [VR, goInt]) (VRL.cons (by simp [VR]) VRL.nil))⟩
        split at h
        · rename_i c hc
          have hlt : pos < s'.size := g'
          obtain ⟨u, hu, hcu⟩ : ∃ u, s'.data.toList[pos]? = some u ∧ u.toNat = c := by
            rw [← h3] at hc
            simp only [bytesOf, List.getElem?_map, Option.map_eq_some_iff] at hc
            exact hc
          have hgu : s'[pos]'hlt = u := by
            rw [Array.getElem?_toList] at hu
            have := (Array.getElem?_eq_some_iff.1 hu).2
            exact this
          split at h
          · rename_i hasc
            have hasc' : c < 128 := by simp [Nat.blt] at hasc; omega
            simp only [fNat_eq, AS.upd_eq, Option.some.injEq] at h
            subst h
            have hd := decode_ascii s' pos hlt (by rw [hgu, hcu]; exact hasc')
            rw [hgu, hcu] at hd
            exact fin c 1 hd
          · split at h
            rename_i c' wd hd
            simp only [fNat_eq, AS.upd_eq, Option.some.injEq] at h
            subst h
            rw [← h3, bytes_back] at hd
            exact fin c' wd hd
        · cases h
    · cases h
  · rename_i b hit
    have hv := hρ _ _ hit
    simp only [VR] at hv
    obtain ⟨rb, δ, rs, hp, hv⟩ := hv
    split at h
    · rename_i hb
      simp only [Option.some.injEq] at h
      subst h
      obtain ⟨rb', rs', h1, h2⟩ := hH.blk b _ hb
      rw [hp] at h1
      simp only [Option.some.injEq, Prod.mk.injEq] at h1
      obtain ⟨rfl, rfl, rfl⟩ := h1
      have hget : (getObj rb).run P w = .ok (.mapIter none 0 #[] 0) w := by simp [getObj, Sem.run, h2]
      refine ⟨π, w, .value (.tuple #[.bool false]), ?_, .inl ⟨_, rfl, ?_⟩, Pi.le_refl π, hH⟩
      · simp only [execOp, ho, hv, Instr.next]
        simp [hget]
      · simp only [VR]; exact ⟨_, rfl, VRL.cons (by simp [VR]) VRL.nil⟩
    · rename_i m since seen last hb
      split at h
      · rename_i es clock hbm
        obtain ⟨rb', rs', rm, δm, rsm, h1, h2, h3⟩ := hH.blk b _ hb
        rw [hp] at h1
        simp only [Option.some.injEq, Prod.mk.injEq] at h1
        obtain ⟨rfl, rfl, rfl⟩ := h1
        obtain ⟨rm', δm', rsm', es', k1, k2, k3⟩ := hH.blk m _ hbm
        rw [h2] at k1
        simp only [Option.some.injEq, Prod.mk.injEq] at k1
        obtain ⟨rfl, rfl, rfl⟩ := k1
        unfold nextMap at h
        split at h
        · rename_i hst
          have hc : (!seen.toArray.isEmpty && !es'.isEmpty && es'.all fun e => decide (e.born ≥ last)) = false := by
            rw [allNew_rel k3, isNilL_eq, isNilL_eq, ← k3.isEmpty] at hst
            rw [← Array.isEmpty_toList, ← Array.isEmpty_toList, ← Array.all_toList]
            revert hst
            cases seen.isEmpty <;> cases es'.toList.isEmpty <;> simp
          have hl := leftL_rel (seen := seen) k3
          have hfe : (es'.filter fun e => !seen.toArray.contains e.born).toList = es'.toList.filter fun e => !seen.toArray.contains e.born := by simp
          rw [← hfe] at hl
          split at h
          · rename_i hln
            simp only [Option.some.injEq] at h
            subst h
            rw [hln] at hl
            simp only [EL] at hl
            have hl' : (es'.filter fun e => !seen.toArray.contains e.born) = #[] := by apply Array.ext'; simpa using hl
            refine ⟨π, w, .value (.tuple #[.bool false]), ?_, .inl ⟨_, rfl, ?_⟩, Pi.le_refl π, hH⟩
            · simp only [execOp, ho, hv, Nat.add_zero, Sem.run_bind]
              rw [next_map_over h3 k2 hc hl']
              rfl
            · simp only [VR]; exact ⟨_, rfl, VRL.cons (by simp [VR]) VRL.nil⟩
          · rename_i k v n hln
            rw [hln] at hl
            simp only [EL] at hl
            obtain ⟨e, t, hl, a1, a2, a3, rfl⟩ := hl
            have hl' : (es'.filter fun e => !seen.toArray.contains e.born) = #[e] := by apply Array.ext'; simpa using hl
            split at h
            · rename_i hlt
              simp only [fNat_eq, AS.upd_eq, Option.some.injEq] at h
              subst h
              have hlt' : e.born < since := by rw [a3]; simp [Nat.blt] at hlt; omega
              refine ⟨π, _, .value (.tuple #[.bool true, e.key, e.val]), ?_, .inl ⟨_, rfl, ?_⟩, Pi.le_refl π,
                hH.obj (o' := .mapIter (some rm) since (seen.toArray.push e.born) clock) hb rfl rfl hp (fun w' hw' => ⟨rb, rs, rm, δm, rsm, hp, h2, by rw [hw', a3]; simp⟩)⟩
              · simp only [execOp, ho, hv, Nat.add_zero, Sem.run_bind]
                rw [next_map_one h3 k2 hc hl' hlt']
                rfl
              · simp only [VR]; exact ⟨_, rfl, VRL.cons (by simp [VR]) (VRL.cons a1 (VRL.cons a2 VRL.nil))⟩
            · cases h
          · cases h
        · cases h
      · cases h
    · cases h
  · cases h
end Go.Proofs.YtjagjjdkgidkjaaGreatDoor.Ev
