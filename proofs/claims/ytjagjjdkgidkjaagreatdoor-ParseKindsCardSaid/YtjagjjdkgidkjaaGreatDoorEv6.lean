/- Part Ev6 of a verified evaluator of closed calls: of no program; no condition. -/
import Derived.Test.YtjagjjdkgidkjaaGreatDoorEv5
set_option linter.all false
namespace Go.Proofs.YtjagjjdkgidkjaaGreatDoor.Ev
open Go Go.RowKit

variable {P : Program} {known : Nat → Bool} {base : Nat} {w0 : World} {π : Pi} {σ : AS} {w : World}

theorem VR.int {k : IntKind} {n : Int} {v : Value} (h : VR π (.int k n) v) : v = .int k n := by simpa [VR] using h
theorem VR.bool {b : Bool} {v : Value} (h : VR π (.bool b) v) : v = .bool b := by simpa [VR] using h
theorem VR.nilIface {v : Value} (h : VR π .nilIface v) : v = .nilIface := by simpa [VR] using h
theorem kindEq_true {k k' : IntKind} (h : kindEq k k' = true) : k = k' := by simpa [kindEq] using h

theorem equal_step (t : TypeId) (x y : Value) : ∃ d, Op.equal t x y = Op.equalIn (d + 1) t x y := ⟨9999, rfl⟩
theorem eqNil_gives {t : TypeId} {d : TypeDesc} (hd : P.underlying t = some d) {a b : AV} {va vb : Value} {r : Bool} (h : eqNil P d a b = some r) (ha : VR π a va) (hb : VR π b vb) :
    (Op.equal t va vb).run P w = .ok r w ∧ (∀ op x y, (eqGuard op t x y va vb).run P w = .ok () w) := by
  unfold eqNil at h
  split at h
  case h_1 e b o b' o' =>
    simp only [VR] at ha hb
    obtain ⟨rb, δ, rs, p1, rfl⟩ := ha
    obtain ⟨rb', δ', rs', p2, rfl⟩ := hb
    split at h
    · rename_i n hbb hn
      have hbb' : b = b' := by simpa using hbb
      subst hbb'
      rw [p1] at p2
      simp only [Option.some.injEq, Prod.mk.injEq] at p2
      obtain ⟨rfl, rfl, rfl⟩ := p2
      simp only [Option.some.injEq] at h
      refine ⟨?_, fun op x y => by cases op <;> rfl⟩
      have hsz := sizeOfT_run hn w
      obtain ⟨k, hk⟩ := equal_step t (.pointer (some ⟨rb, δ + o, none⟩)) (.pointer (some ⟨rb, δ + o', none⟩))
      rw [hk]
      simp only [Op.equalIn, Sem.run_bind, run_underlying hd, Result.andThen_ok, hsz]
      simp [sameAddr, ← h]
      rw [Bool.eq_iff_iff]; simp
    · cases h
  all_goals (try (cases h; done))
  all_goals
    simp only [Option.some.injEq] at h
    subst h
    simp only [VR] at ha hb
    (repeat' (first | (obtain ⟨_, _, _, _, _, _, rfl, _⟩ := ha) | (obtain ⟨_, _, _, _, rfl⟩ := ha) | (obtain ⟨_, rfl, _⟩ := ha) | (obtain ⟨_, _, rfl, _⟩ := ha) | subst ha))
    (repeat' (first | (obtain ⟨_, _, _, _, _, _, rfl, _⟩ := hb) | (obtain ⟨_, _, _, _, rfl⟩ := hb) | (obtain ⟨_, rfl, _⟩ := hb) | (obtain ⟨_, _, rfl, _⟩ := hb) | subst hb))
    refine ⟨?_, fun op x y => by cases op <;> rfl⟩
    obtain ⟨k, hk⟩ := equal_step t _ _
    rw [hk]
    simp only [Op.equalIn, Sem.run_bind, run_underlying hd, Result.andThen_ok]
    rfl

theorem flatBin_gives {op : BinOp} {t : TypeId} {x y : Operand} {a b : AV} {va vb : Value} {r : AV} (h : binFlat P op t x y a b = some r) (ha : VR π a va) (hb : VR π b vb) :
    Gives P π w (do eqGuard op t x y va vb; binOp op t va vb) r := by
  unfold binFlat at h
  obtain ⟨ua, hua, h⟩ := oB_some h
  obtain ⟨ub, hub, h⟩ := oB_some h
  obtain rfl := flat_eq hua ha
  obtain rfl := flat_eq hub hb
  exact viaPure_run h w
theorem rest_gives {op : BinOp} {t : TypeId} {x y : Operand} {a b : AV} {va vb : Value} {r : AV} (h : binRest P op t x y a b = some r) (ha : VR π a va) (hb : VR π b vb)
    (hk : ∀ (f : BinOp), f = .eql ∨ f = .neq → ∀ d r, P.underlying t = some d → eqNil P d a b = some r →
      (binOp f t va vb).run P w = .ok (.bool (if f = .eql then r else !r)) w) :
    Gives P π w (do eqGuard op t x y va vb; binOp op t va vb) r := by
  unfold binRest at h
  split at h
  · obtain ⟨d, hd, h⟩ := oB_some h
    cases he : eqNil P d a b with
    | none => rw [he] at h; exact flatBin_gives h ha hb
    | some q =>
      rw [he] at h
      refine Gives.bool h ?_
      have h1 := eqNil_gives (w := w) hd he ha hb
      have h2 := hk .eql (.inl rfl) d q hd he
      simp only [Sem.run_bind, h1.2, Result.andThen_ok, h2, if_true]
  · obtain ⟨d, hd, h⟩ := oB_some h
    cases he : eqNil P d a b with
    | none => rw [he] at h; exact flatBin_gives h ha hb
    | some q =>
      rw [he] at h
      refine Gives.bool h ?_
      have h1 := eqNil_gives (w := w) hd he ha hb
      have h2 := hk .neq (.inr rfl) d q hd he
      simp only [Sem.run_bind, h1.2, Result.andThen_ok, h2]
      rfl
  · exact flatBin_gives h ha hb
/-- '==' and '!=' where neither operand is an integer, a float, a complex number or a string, and both are of the kinds that 'eqNil' knows. -/
theorem binOp_eq {t : TypeId} {d : TypeDesc} {a b : AV} {va vb : Value} {q : Bool} (hd : P.underlying t = some d) (he : eqNil P d a b = some q) (ha : VR π a va) (hb : VR π b vb) (f : BinOp) (hf : f = .eql ∨ f = .neq) :
    (binOp f t va vb).run P w = .ok (.bool (if f = .eql then q else !q)) w := by
  have h1 := (eqNil_gives (w := w) hd he ha hb).1
  unfold eqNil at he
  split at he <;> (try (cases he; done))
  all_goals
    simp only [VR] at ha hb
    (repeat' (first | (obtain ⟨_, _, _, _, _, _, rfl, _⟩ := ha) | (obtain ⟨_, _, _, _, rfl⟩ := ha) | (obtain ⟨_, rfl, _⟩ := ha) | (obtain ⟨_, _, rfl, _⟩ := ha) | subst ha))
    (repeat' (first | (obtain ⟨_, _, _, _, _, _, rfl, _⟩ := hb) | (obtain ⟨_, _, _, _, rfl⟩ := hb) | (obtain ⟨_, rfl, _⟩ := hb) | (obtain ⟨_, _, rfl, _⟩ := hb) | subst hb))
    rcases hf with rfl | rfl
    · simp only [binOp, Sem.run_bind, h1, Result.andThen_ok, Sem.run_pure, if_true]
    · simp only [binOp, Sem.run_bind, h1, Result.andThen_ok, Sem.run_pure]; rfl
theorem eqGuard_plain {op : BinOp} {t : TypeId} {x y : Operand} {va vb : Value} (h : (∀ cs, va ≠ .agg cs) ∧ va ≠ .nilIface) : (eqGuard op t x y va vb).run P w = .ok () w := by
  unfold eqGuard
  cases op <;> first
    | rfl
    | (cases va <;> first
        | exact absurd rfl (h.1 _)
        | exact absurd rfl h.2
        | rfl)
theorem memL_mem {x : List Nat} : ∀ {l : List (List Nat)}, memL x l = true → x ∈ l
  | [], h => by cases h
  | y :: l, h => by
    simp only [memL] at h
    split at h
    · rename_i he
      rw [eqL_eq] at he
      have : x = y := by simpa using he
      subst this; exact List.mem_cons_self
    · exact List.mem_cons_of_mem _ (memL_mem h)
theorem bin_gives {op : BinOp} {t : TypeId} {x y : Operand} {a b : AV} {va vb : Value} {r : AV} (h : bin P op t x y a b = some r) (ha : VR π a va) (hb : VR π b vb) :
    Gives P π w (do eqGuard op t x y va vb; binOp op t va vb) r := by
  unfold bin at h
  split at h
  · rename_i cs
    split at h
    · rename_i n
      simp only [VR] at ha hb
      obtain ⟨s, rfl, hs⟩ := ha
      obtain ⟨u, rfl, rfl⟩ := hb
      have hg : (eqGuard op t x y (.string s) (.string u)).run P w = .ok () w := eqGuard_plain ⟨fun _ => by simp, by simp⟩
      unfold binOther at h
      split at h
      · rename_i hm
        have hne : eqL (bytesOf s) (bytesOf u) = false := by
          rw [eqL_eq]
          have := memL_mem hm
          have hd : bytesOf s ≠ bytesOf u := fun e => hs (e ▸ this)
          simpa using hd
        have key : binStr op (bytesOf s) (bytesOf u) = some r := by
          split at h
          · simp only [binStr, hne]; rw [boolI, fBool_eq]; exact h
          · simp only [binStr, hne]; rw [boolI, fBool_eq]; exact h
          · cases h
        obtain ⟨v, e1, e2⟩ := binStr_gives (P := P) (π := π) (w := w) (t := t) key
        exact ⟨v, by simp only [Sem.run_bind, hg, Result.andThen_ok, e1], e2⟩
      · cases h
    · cases h
  · rename_i k m
    split at h
    · rename_i k' n
      obtain rfl := ha.int
      obtain rfl := hb.int
      have hg : (eqGuard op t x y (.int k m) (.int k' n)).run P w = .ok () w := eqGuard_plain ⟨fun _ => by simp, by simp⟩
      have key : Gives P π w (binOp op t (.int k m) (.int k' n)) r := by
        unfold binII at h
        split at h
        case h_9 =>
          obtain ⟨h1, h2⟩ := gB_some h
          obtain rfl := kindEq_true h1
          exact binInt_gives h2
        all_goals exact viaPure_run h w
      obtain ⟨v, e1, e2⟩ := key
      exact ⟨v, by simp only [Sem.run_bind, hg, Result.andThen_ok, e1], e2⟩
    · cases h
  · rename_i m
    split at h
    · rename_i n
      simp only [VR] at ha hb
      obtain ⟨s, rfl, rfl⟩ := ha
      obtain ⟨u, rfl, rfl⟩ := hb
      have hg : (eqGuard op t x y (.string s) (.string u)).run P w = .ok () w := eqGuard_plain ⟨fun _ => by simp, by simp⟩
      obtain ⟨v, e1, e2⟩ := binStr_gives (P := P) (π := π) (w := w) (t := t) h
      exact ⟨v, by simp only [Sem.run_bind, hg, Result.andThen_ok, e1], e2⟩
    · cases h
  · rename_i m
    split at h
    · rename_i n
      obtain rfl := ha.bool
      obtain rfl := hb.bool
      have hg : (eqGuard op t x y (.bool m) (.bool n)).run P w = .ok () w := eqGuard_plain ⟨fun _ => by simp, by simp⟩
      unfold binBB at h
      split at h
      · rename_i hu
        refine Gives.bool h ?_
        obtain ⟨k, hk⟩ := equal_step t (.bool m) (.bool n)
        simp only [Sem.run_bind, hg, Result.andThen_ok, binOp, hk, Op.equalIn, run_underlying hu]
        rfl
      · rename_i hu
        refine Gives.bool h ?_
        obtain ⟨k, hk⟩ := equal_step t (.bool m) (.bool n)
        simp only [Sem.run_bind, hg, Result.andThen_ok, binOp, hk, Op.equalIn, run_underlying hu]
        rfl
      · cases h
    · cases h
  · split at h
    · obtain rfl := ha.nilIface
      obtain rfl := hb.nilIface
      unfold binNN at h
      split at h
      · rename_i ms hu hcc
        refine Gives.bool h ?_
        have hg : (eqGuard .eql t x y .nilIface .nilIface).run P w = .ok () w := by
          cases x <;> cases y <;> first
            | rfl
            | (simp [isConst] at hcc)
        obtain ⟨k, hk⟩ := equal_step t .nilIface .nilIface
        simp only [Sem.run_bind, hg, Result.andThen_ok, binOp, hk, Op.equalIn, run_underlying hu]
        rfl
      · rename_i ms hu hcc
        refine Gives.bool h ?_
        have hg : (eqGuard .neq t x y .nilIface .nilIface).run P w = .ok () w := by
          cases x <;> cases y <;> first
            | rfl
            | (simp [isConst] at hcc)
        obtain ⟨k, hk⟩ := equal_step t .nilIface .nilIface
        simp only [Sem.run_bind, hg, Result.andThen_ok, binOp, hk, Op.equalIn, run_underlying hu]
        rfl
      · cases h
    · exact rest_gives h ha hb (fun f hf d q hd he => binOp_eq hd he ha hb f hf)
  · exact rest_gives h ha hb (fun f hf d q hd he => binOp_eq hd he ha hb f hf)
end Go.Proofs.YtjagjjdkgidkjaaGreatDoor.Ev
