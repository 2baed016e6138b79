/- Part Ev5 of a verified evaluator of closed calls: of no program; no condition. -/
import Derived.Test.YtjagjjdkgidkjaaGreatDoorEv4
import Derived.WalkSpells
import Derived.Lib.Strings
import Derived.Sort.Walk0
import Derived.IntWalk
set_option linter.all false
namespace Go.Proofs.YtjagjjdkgidkjaaGreatDoor.Ev
open Go Go.RowKit

variable {P : Program} {known : Nat → Bool} {base : Nat} {w0 : World} {π : Pi} {σ : AS} {w : World}

/-! ### flat values -/
theorem bytes_back (s : ByteArray) : unbytes (bytesOf s) = s := by
  obtain ⟨⟨l⟩⟩ := s
  simp only [unbytes, bytesOf]
  congr 1
  simp [Function.comp_def]
mutual
theorem flatN_eq : ∀ (d : Nat) (x : AV) (u v : Value), flatN d x = some u → VR π x v → v = u
  | 0, _, _, _, h, _ => by simp [flatN] at h
  | d + 1, x, u, v, h, r => by
    cases x <;> simp only [flatN, VR] at h r
    case bool => simp only [Option.some.injEq] at h; rw [r, h]
    case int => simp only [Option.some.injEq] at h; rw [r, h]
    case float => simp only [Option.some.injEq] at h; rw [r, h]
    case str => obtain ⟨s, rfl, rfl⟩ := r; simp only [Option.some.injEq] at h; rw [← h, bytes_back]
    case nilptr => simp only [Option.some.injEq] at h; rw [r, h]
    case nilslice => simp only [Option.some.injEq] at h; rw [r, h]
    case nilmap => simp only [Option.some.injEq] at h; rw [r, h]
    case nilFunc => simp only [Option.some.injEq] at h; rw [r, h]
    case nilIface => simp only [Option.some.injEq] at h; rw [r, h]
    case ptr => cases h
    case ostr => cases h
    case slice => cases h
    case map => cases h
    case func => cases h
    case iface t y =>
      obtain ⟨z, rfl, hz⟩ := r
      split at h
      · rename_i u' hu
        simp only [Option.some.injEq] at h
        rw [← h, flatN_eq d y _ _ hu hz]
      · cases h
    case agg xs =>
      obtain ⟨ys, rfl, hz⟩ := r
      split at h
      · rename_i us hu
        simp only [Option.some.injEq] at h
        rw [← h, flats_eq d xs _ _ hu hz]
      · cases h
    case tuple xs =>
      obtain ⟨ys, rfl, hz⟩ := r
      split at h
      · rename_i us hu
        simp only [Option.some.injEq] at h
        rw [← h, flats_eq d xs _ _ hu hz]
      · cases h
theorem flats_eq : ∀ (d : Nat) (xs : List AV) (us vs : List Value), flats (flatN d) xs = some us → VRL π xs vs → vs = us
  | _, [], us, vs, h, r => by simp only [flats, Option.some.injEq, VRL] at h r; rw [r, h]
  | d, x :: xs, us, vs, h, r => by
    simp only [VRL] at r
    obtain ⟨y, t, rfl, h1, h2⟩ := r
    simp only [flats] at h
    split at h
    · cases h
    · rename_i u hu
      split at h
      · cases h
      · rename_i us' hus
        simp only [Option.some.injEq] at h
        rw [← h, flatN_eq d x _ _ hu h1, flats_eq d xs _ _ hus h2]
end
theorem flat_eq {x : AV} {u v : Value} (h : flat x = some u) (r : VR π x v) : v = u := flatN_eq 8 x u v h r

theorem ofValues_rel {f : Value → Option AV} (hf : ∀ v x, f v = some x → VR π x v) : ∀ (vs : List Value) (xs : List AV), ofValues f vs = some xs → VRL π xs vs
  | [], xs, h => by simp only [ofValues, Option.some.injEq] at h; subst h; exact VRL.nil
  | v :: vs, xs, h => by
    simp only [ofValues] at h
    split at h
    · cases h
    · rename_i x hx
      split at h
      · cases h
      · rename_i ys hy
        simp only [Option.some.injEq] at h
        subst h
        exact VRL.cons (hf _ _ hx) (ofValues_rel hf vs ys hy)
theorem ofValueN_rel : ∀ (d : Nat) (v : Value) (x : AV), ofValueN d v = some x → VR π x v
  | 0, _, _, h => by simp [ofValueN] at h
  | d + 1, v, x, h => by
    simp only [ofValueN] at h
    split at h
    case h_4 s => rw [fNats_eq] at h; simp only [Option.some.injEq] at h; subst h; exact ⟨s, rfl, rfl⟩
    case h_10 f => simp only [Option.some.injEq] at h; subst h; simp only [VR]; exact ⟨[], [], rfl, VRL.nil, VRL.nil⟩
    case h_11 cs =>
      split at h
      · rename_i xs hx
        simp only [Option.some.injEq] at h; subst h
        simp only [VR]; exact ⟨cs.toList, by simp, ofValues_rel (fun v x => ofValueN_rel d v x) _ _ hx⟩
      · cases h
    case h_12 cs =>
      split at h
      · rename_i xs hx
        simp only [Option.some.injEq] at h; subst h
        simp only [VR]; exact ⟨cs.toList, by simp, ofValues_rel (fun v x => ofValueN_rel d v x) _ _ hx⟩
      · cases h
    case h_13 t y =>
      split at h
      · rename_i z hz
        simp only [Option.some.injEq] at h; subst h
        simp only [VR]; exact ⟨y, rfl, ofValueN_rel d _ _ hz⟩
      · cases h
    case h_14 => cases h
    all_goals (simp only [Option.some.injEq] at h; subst h; simp only [VR])
theorem ofValue_rel {v : Value} {x : AV} (h : ofValue v = some x) : VR π x v := ofValueN_rel 8 v x h

theorem pureRun_run {α : Type} : ∀ (s : Sem α) (a : α) (w : World), pureRun P s = some a → s.run P w = .ok a w
  | .pure a, b, w, h => by simp only [pureRun, Option.some.injEq] at h; subst h; rfl
  | .program k, b, w, h => by simp only [pureRun] at h; exact pureRun_run (k P) b w h
  | .mark _ k, b, w, h => by simp only [pureRun] at h; exact pureRun_run k b w h
  | .choose q k, b, w, h => by
    simp only [pureRun] at h
    by_cases hq : q.forced = true
    · rw [if_pos hq] at h
      simp only [Sem.run, hq, if_true]
      exact pureRun_run (k 0) b w h
    · rw [if_neg hq] at h; cases h
  | .load .., _, _, h => by simp [pureRun] at h
  | .store .., _, _, h => by simp [pureRun] at h
  | .new .., _, _, h => by simp [pureRun] at h
  | .shape .., _, _, h => by simp [pureRun] at h
  | .freeze .., _, _, h => by simp [pureRun] at h
  | .frozen .., _, _, h => by simp [pureRun] at h
  | .getObj .., _, _, h => by simp [pureRun] at h
  | .setObj .., _, _, h => by simp [pureRun] at h
  | .sys .., _, _, h => by simp [pureRun] at h
  | .halt _, _, _, h => by simp [pureRun] at h
theorem viaPure_run {s : Sem Value} {x : AV} (h : viaPure P s = some x) (w : World) : ∃ v, s.run P w = .ok v w ∧ VR π x v := by
  unfold viaPure at h
  split at h
  · rename_i v hv
    exact ⟨v, pureRun_run s v w hv, ofValue_rel h⟩
  · cases h

/-! ### types -/
theorem sizeOfT_run {t : TypeId} {n : Nat} (h : sizeOfT P t = some n) (w : World) : (sizeOf t).run P w = .ok n w := by
  unfold sizeOfT at h
  cases hi : P.info? t with
  | none => simp [hi] at h
  | some i => simp [hi] at h; simp [sizeOf, typeInfo, hi, h]
theorem sizeOfT_info {t : TypeId} {n : Nat} (h : sizeOfT P t = some n) : (P.info? t).map (·.size) = some n := h
theorem zeroOfT_run {t : TypeId} {z : AV} (h : zeroOfT P t = some z) (w : World) : ∃ v, (zeroValue t).run P w = .ok v w ∧ VR π z v := by
  unfold zeroOfT at h
  cases hi : P.info? t with
  | none => simp [hi] at h
  | some i =>
    simp only [hi] at h
    cases hz : i.zero with
    | none => simp [hz] at h
    | some v => simp only [hz] at h; exact ⟨v, by simp [zeroValue, typeInfo, hi, hz], ofValue_rel h⟩
theorem isAggT_run {t : TypeId} {b : Bool} (h : isAggT P t = some b) (w : World) : (isAgg t).run P w = .ok b w := by
  unfold isAggT at h
  split at h
  · rename_i fs hu; simp only [Option.some.injEq] at h; subst h; simp [isAgg, run_underlying hu]
  · rename_i fs hu; simp only [Option.some.injEq] at h; subst h; simp [isAgg, run_underlying hu]
  · rename_i d hn1 hn2 hu
    simp only [Option.some.injEq] at h; subst h
    simp only [isAgg, Sem.run_bind, run_underlying hu, Result.andThen_ok]
    cases d <;> first | rfl | exact absurd rfl (hn1 _) | exact absurd rfl (hn2 _ _)
  · cases h
theorem isAggT_row {t : TypeId} (h : isAggT P t = some true) : ∃ d, P.underlying t = some d ∧ d.isRow = true := by
  unfold isAggT at h
  split at h
  · rename_i fs hu; exact ⟨_, hu, rfl⟩
  · rename_i fs hu; exact ⟨_, hu, rfl⟩
  · cases h
  · cases h

/-! ### integers -/
theorem wrap_id (k : IntKind) (n : Int) (h : (n < 0 → k.signed = true ∧ -n - 1 ≤ maxOf k) ∧ n ≤ maxOf k) : k.wrap n = n := by
  cases k <;> simp only [maxOf, IntKind.signed, Bool.false_eq_true, false_and, true_and, imp_false] at h
  · exact IntWalk.i8_in n (by omega)
  · exact IntWalk.i16_in n (by omega)
  · exact IntWalk.i32_in n (by omega)
  · exact IntWalk.i64_in n (by omega)
  · exact IntWalk.u8_in n (by omega)
  · exact IntWalk.u16_in n (by omega)
  · exact IntWalk.u32_in n (by omega)
  · exact IntWalk.u64_in n (by omega)
theorem wrapF_eq (k : IntKind) (n : Int) : wrapF k n = k.wrap n := by
  cases n with
  | ofNat m =>
    unfold wrapF
    dsimp only
    split
    · rename_i h
      have h' : m ≤ maxOf k := by simpa using h
      exact (wrap_id k _ ⟨fun hn => by simp at hn; omega, by simp; omega⟩).symm
    · rfl
  | negSucc m =>
    unfold wrapF
    dsimp only
    split
    · rename_i h1 h
      have h' : m ≤ maxOf k := by simpa using h
      exact (wrap_id k _ ⟨fun _ => ⟨h1, by rw [Int.negSucc_eq]; omega⟩, by rw [Int.negSucc_eq]; omega⟩).symm
    · rfl
theorem ltF_eq (a b : Int) : ltF a b = decide (a < b) := by
  cases a <;> cases b <;> simp only [ltF] <;> rw [Bool.eq_iff_iff] <;> simp [Nat.blt] <;> omega
theorem eqF_eq (a b : Int) : eqF a b = (a == b) := by
  cases a <;> cases b <;> simp only [eqF] <;> rw [Bool.eq_iff_iff] <;> simp <;> omega
theorem eqL_eq : ∀ (x y : List Nat), eqL x y = (x == y)
  | [], [] => rfl
  | [], _ :: _ => rfl
  | _ :: _, [] => rfl
  | a :: x, b :: y => by
    simp only [eqL]
    split
    · rename_i h; rw [eqL_eq x y]; simp at h; simp [h]
    · rename_i h; rw [Bool.eq_iff_iff]; simp; intro e; subst e; simp at h
theorem ltL_eq : ∀ (x y : List UInt8), ltL (x.map UInt8.toNat) (y.map UInt8.toNat) = Op.bytesLess x y
  | _, [] => by cases ‹List UInt8› <;> rfl
  | [], _ :: _ => rfl
  | a :: x, b :: y => by
    simp only [List.map_cons, ltL, Op.bytesLess]
    rw [ltL_eq x y]
    by_cases h1 : a < b
    · have : Nat.blt a.toNat b.toNat = true := by simp [Nat.blt]; exact UInt8.lt_iff_toNat_lt.1 h1
      simp [this, h1]
    · have : Nat.blt a.toNat b.toNat = false := by
        cases hb : Nat.blt a.toNat b.toNat with
        | false => rfl
        | true => exact absurd (UInt8.lt_iff_toNat_lt.2 (by simp [Nat.blt] at hb; omega)) h1
      rw [this]
      by_cases h2 : a = b
      · subst h2; simp
      · have : Nat.beq a.toNat b.toNat = false := by
          cases hb : Nat.beq a.toNat b.toNat with
          | false => rfl
          | true => exact absurd (UInt8.toNat_inj.1 (by simpa using hb)) h2
        rw [this]; simp [h1, h2]
theorem bytesOf_inj {s t : ByteArray} : (bytesOf s == bytesOf t) = (s.toList == t.toList) := by
  rw [ByteArray.toList_eq, ByteArray.toList_eq, Bool.eq_iff_iff]
  simp only [beq_iff_eq, bytesOf]
  constructor
  · intro h
    exact (List.map_inj_right (fun a b e => UInt8.toNat_inj.1 e)).1 h
  · intro h; rw [h]
theorem bytesOf_length (s : ByteArray) : (bytesOf s).length = s.size := by simp [bytesOf]
theorem bytesOf_append (s t : ByteArray) : bytesOf (s ++ t) = bytesOf s ++ bytesOf t := by simp [bytesOf]

theorem intI_some {k : IntKind} {n : Int} {x : AV} (h : intI k n = some x) : x = .int k n := by
  rw [intI, fInt_eq] at h; exact (Option.some.inj h).symm
theorem boolI_some {b : Bool} {x : AV} (h : boolI b = some x) : x = .bool b := by
  rw [boolI, fBool_eq] at h; exact (Option.some.inj h).symm
theorem strI_some {l : List Nat} {x : AV} (h : strI l = some x) : x = .str l := by
  rw [strI, fNats_eq] at h; exact (Option.some.inj h).symm

/-- What a binary operation's law gives. -/
def Gives (P : Program) (π : Pi) (w : World) (s : Sem Value) (x : AV) : Prop := ∃ v, s.run P w = .ok v w ∧ VR π x v
theorem Gives.int {s : Sem Value} {k : IntKind} {n : Int} {x : AV} (h : intI k n = some x) (e : s.run P w = .ok (.int k n) w) : Gives P π w s x := by
  rw [intI_some h]; exact ⟨_, e, by simp [VR]⟩
theorem Gives.bool {s : Sem Value} {b : Bool} {x : AV} (h : boolI b = some x) (e : s.run P w = .ok (.bool b) w) : Gives P π w s x := by
  rw [boolI_some h]; exact ⟨_, e, by simp [VR]⟩

theorem binInt_gives {op : BinOp} {k : IntKind} {m n : Int} {t : TypeId} {x : AV} (h : binInt op k m n = some x) : Gives P π w (binOp op t (.int k m) (.int k n)) x := by
  cases op <;> simp only [binInt] at h
  case add => exact Gives.int h (by simp [binOp, Op.intArith, wrapF_eq])
  case sub => exact Gives.int h (by simp [binOp, Op.intArith, wrapF_eq])
  case mul => exact Gives.int h (by simp [binOp, Op.intArith, wrapF_eq])
  case eql => rw [eqF_eq] at h; exact Gives.bool h (by simp [binOp, Op.intCmp])
  case neq => rw [eqF_eq] at h; exact Gives.bool h (by simp [binOp, Op.intCmp]; rfl)
  case lss => rw [ltF_eq] at h; exact Gives.bool h (by simp [binOp, Op.intCmp])
  case gtr => rw [ltF_eq] at h; exact Gives.bool h (by simp [binOp, Op.intCmp])
  case leq => rw [ltF_eq] at h; exact Gives.bool h (by simp [binOp, Op.intCmp]; rw [Bool.eq_iff_iff]; simp)
  case geq => rw [ltF_eq] at h; exact Gives.bool h (by simp [binOp, Op.intCmp]; rw [Bool.eq_iff_iff]; simp)
  all_goals cases h
theorem binStr_gives {op : BinOp} {s u : ByteArray} {t : TypeId} {x : AV} (h : binStr op (bytesOf s) (bytesOf u) = some x) : Gives P π w (binOp op t (.string s) (.string u)) x := by
  have hlt : ∀ a b : ByteArray, ltL (bytesOf a) (bytesOf b) = Op.bytesLess a.toList b.toList := fun a b => by
    rw [ByteArray.toList_eq, ByteArray.toList_eq]; exact ltL_eq _ _
  have htri : ∀ a b : ByteArray, (!Op.bytesLess b.toList a.toList) = (Op.bytesLess a.toList b.toList || a.toList == b.toList) := fun a b => by
    rw [Go.Proofs.bytesLess_eq, Go.Proofs.bytesLess_eq, Bool.eq_iff_iff]
    simp only [Bool.not_eq_true', decide_eq_false_iff_not, Bool.or_eq_true, decide_eq_true_eq, beq_iff_eq]
    constructor
    · intro hn
      by_cases h1 : a.toList < b.toList
      · exact .inl h1
      · exact .inr (List.le_antisymm (List.not_lt.1 hn) (List.not_lt.1 h1))
    · rintro (h1 | h1)
      · exact List.lt_asymm h1
      · rw [h1]; exact List.lt_irrefl _
  cases op <;> simp only [binStr] at h
  case eql => rw [eqL_eq, bytesOf_inj] at h; exact Gives.bool h (by simp [binOp, Op.stringOp])
  case neq => rw [eqL_eq, bytesOf_inj] at h; exact Gives.bool h (by simp [binOp, Op.stringOp])
  case lss => rw [hlt] at h; exact Gives.bool h (by simp [binOp, Op.stringOp])
  case gtr => rw [hlt] at h; refine Gives.bool h ?_; simp only [binOp, Op.stringOp, Sem.run_pure]; rw [← htri]; simp
  case leq => rw [hlt] at h; refine Gives.bool h ?_; simp only [binOp, Op.stringOp, Sem.run_pure]; rw [← htri]
  case geq => rw [hlt] at h; exact Gives.bool h (by simp [binOp, Op.stringOp])
  case add =>
    split at h
    · rename_i hb
      rw [strI_some h]
      have hb' : s.size + u.size < 9223372036854775807 := by simp [Nat.blt, bytesOf_length] at hb; omega
      refine ⟨.string (s ++ u), ?_, ?_⟩
      · have : ¬ (((s.size + u.size : Nat) : Int) > IntKind.i64.max) := by simp [IntKind.max, IntKind.bits, IntKind.signed]; omega
        simp only [binOp, Op.stringOp]
        rw [if_neg this]; rfl
      · simp only [VR]; exact ⟨_, rfl, bytesOf_append s u⟩
    · cases h
  all_goals cases h
end Go.Proofs.YtjagjjdkgidkjaaGreatDoor.Ev
