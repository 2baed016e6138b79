/- Part Ev17 of a verified evaluator of closed calls: of no program; no condition. -/
import Derived.Test.YtjagjjdkgidkjaaGreatDoorEv16
set_option linter.all false
namespace Go.Proofs.YtjagjjdkgidkjaaGreatDoor.Ev
open Go Go.RowKit

variable {P : Program} {known : Nat → Bool} {base : Nat} {w0 : World} {π : Pi} {σ : AS} {w : World} {ρ : Rho}

theorem same_of_sameNow {d : TypeDesc} {k : AV} {vk ve : Value} (hd : (d = .string ∧ ∃ s, vk = .string s ∧ k = .str (bytesOf s)) ∨ (∃ j n, d = .int j ∧ vk = .int j n ∧ k = .int j n))
    {e : AV} (h : keyIs k e = some true) (he : VR π e ve) : ve = vk := by
  rcases hd with ⟨rfl, s, rfl, rfl⟩ | ⟨j, m, rfl, rfl, rfl⟩
  · unfold keyIs at h
    dsimp only at h
    split at h
    · simp only [Option.some.injEq] at h
      simp only [VR] at he
      obtain ⟨u, rfl, rfl⟩ := he
      rw [eqL_eq] at h
      have h2 : bytesOf s = bytesOf u := by simpa using h
      have := congrArg unbytes h2
      rw [bytes_back, bytes_back] at this
      rw [this]
    · cases h
  · unfold keyIs at h
    dsimp only at h
    split at h
    · obtain ⟨h1, h2⟩ := gB_some h
      obtain rfl := kindEq_true h1
      simp only [Option.some.injEq] at h2
      obtain rfl := he.int
      rw [eqF_eq] at h2
      simp only [decide_eq_true_eq, beq_iff_eq] at h2
      rw [h2]
    · cases h
theorem setAt_rel {d : TypeDesc} {k v : AV} {vk vv : Value} (hd : (d = .string ∧ ∃ s, vk = .string s ∧ k = .str (bytesOf s)) ∨ (∃ j n, d = .int j ∧ vk = .int j n ∧ k = .int j n)) (hv : VR π v vv) :
    ∀ {l : List (AV × AV × Nat)} {es : List MapEntry} {i m : Nat} {u : AV}, findA k l i = some (some (m, u)) → EL π l es →
      ∃ j x, m = i + j ∧ es[j]? = some x ∧ x.key = vk ∧ EL π (setAt l j v) (es.modify j fun e => { e with key := vk, val := vv })
  | [], es, i, m, u, h, he => by simp [findA] at h
  | (e, x, n) :: l, es, i, m, u, h, he => by
    simp only [EL] at he
    obtain ⟨y, t, rfl, hk, hx, hn, ht⟩ := he
    simp only [findA] at h
    rw [oB_iff] at h; obtain ⟨b, hb, h⟩ := h
    rw [bM_eq] at h
    split at h
    · rename_i hbt
      subst hbt
      simp only [Option.some.injEq, Prod.mk.injEq] at h
      have hs := same_of_sameNow hd hb hk
      refine ⟨0, y, by omega, rfl, hs, ?_⟩
      simp only [setAt, List.modify_zero_cons, EL]
      exact ⟨_, _, rfl, by rw [← hs]; exact hk, hv, hn, ht⟩
    · obtain ⟨j, z, h1, h2, h3, h4⟩ := setAt_rel hd hv h ht
      refine ⟨j + 1, z, by omega, by simpa using h2, h3, ?_⟩
      simp only [setAt, List.modify_succ_cons, EL]
      exact ⟨_, _, rfl, hk, hx, hn, h4⟩
theorem EL.append {l l' : List (AV × AV × Nat)} {es es' : List MapEntry} (h : EL π l es) (h' : EL π l' es') : EL π (l ++ l') (es ++ es') := by
  induction l generalizing es with
  | nil => simp only [EL] at h; subst h; exact h'
  | cons a l ih =>
    obtain ⟨k, v, n⟩ := a
    simp only [EL] at h
    obtain ⟨e, t, rfl, h1, h2, h3, h4⟩ := h
    simp only [List.cons_append, EL]
    exact ⟨_, _, rfl, h1, h2, h3, ih h4⟩

theorem mapUpdate_sound (hH : HR known base w0 π σ w) {e : Operand → Value} (hρ : RhoR π ρ e) {t : TypeId} {m k x : Operand} {o : Oper} {r : AR} (ho : o.op = .mapUpdate t m k x ∨ o.op = .insert t m k x)
    (h : lMapUpdate t m k x P ρ σ = some r) : LoudR P known base w0 π σ w (execOp e o) r := by
  have hex : execOp e o = (do Instr.mapUpdate t (e m) (e k) (e x); pure .skip) := by
    rcases ho with ho | ho <;> simp only [execOp, ho]
  unfold lMapUpdate at h
  split at h
  · rename_i kt et r' ka va hu hm hk hx
    split at h
    · rename_i es clock hko hb
      have hvm := hρ _ _ hm
      have hvk := hρ _ _ hk
      have hvx := hρ _ _ hx
      simp only [VR] at hvm
      obtain ⟨rb, δ, rs, hp, hvm⟩ := hvm
      obtain ⟨rb', δ', rs', es', h1, h2, h3⟩ := hH.blk r' _ hb
      rw [hp] at h1
      simp only [Option.some.injEq, Prod.mk.injEq] at h1
      obtain ⟨rfl, rfl, rfl⟩ := h1
      have hget := run_getObj_map (P := P) h2
      split at h
      · rename_i i u hf
        rw [AS.upd_eq] at h
        simp only [Option.some.injEq] at h
        subst h
        obtain ⟨c1, q, c2, c3⟩ := find_run hko hvk hf h3
        obtain ⟨u', hq, hu'⟩ := c3
        subst hq
        obtain ⟨d, hd⟩ : ∃ d, (d = TypeDesc.string ∧ ∃ s, e k = .string s ∧ ka = .str (bytesOf s)) ∨ (∃ j n, d = .int j ∧ e k = .int j n ∧ ka = .int j n) := by
          rcases kinds_of_key hko hvk with ⟨_, s, a, b⟩ | ⟨j, n, _, a, b⟩
          · exact ⟨_, .inl ⟨rfl, s, a, b⟩⟩
          · exact ⟨_, .inr ⟨j, n, rfl, a, b⟩⟩
        obtain ⟨j, y, j1, j2, j3, j4⟩ := setAt_rel hd hvx hf h3
        rw [Nat.zero_add] at j1
        subst j1
        have hsame : Instr.sameBits 10000 (e k) (e k) = true := by
          rcases hd with ⟨_, s, a, _⟩ | ⟨j', n, _, a, _⟩ <;> rw [a] <;> rw [show (10000 : Nat) = 9999 + 1 from rfl] <;> simp [Instr.sameBits, beq_toListBytes]
        have hold : ((es'[i]?).map (·.key)).getD (e k) = e k := by
          have : es'[i]? = some y := by rw [← Array.getElem?_toList]; exact j2
          simp [this, j3]
        have hset := setObj_run (P := P) (o' := .map (es'.modify i fun z => { z with key := e k, val := e x }) clock) h2 (by intro c e f h; cases h)
        refine ⟨π, _, .skip, ?_, .inr ⟨rfl, rfl⟩, Pi.le_refl π, hH.obj (o' := .map (es'.modify i fun z => { z with key := e k, val := e x }) clock) hb rfl rfl hp (fun w' hw' => ⟨rb, δ, rs, _, hp, hw', by simpa using j4⟩)⟩
        rw [hex]
        simp [Instr.mapUpdate, run_underlying hu, hvm, hget, c1, c2, hold, Instr.keyThatStays, hsame, hset]
      · rename_i hf
        rw [AS.upd_eq] at h
        simp only [Option.some.injEq] at h
        subst h
        obtain ⟨c1, q, c2, c3⟩ := find_run hko hvk hf h3
        have c3' : q = none := c3
        subst c3'
        have hset := setObj_run (P := P) (o' := .map (es'.push ⟨e k, e x, clock⟩) (clock + 1)) h2 (by intro c e f h; cases h)
        refine ⟨π, _, .skip, ?_, .inr ⟨rfl, rfl⟩, Pi.le_refl π, hH.obj (o' := .map (es'.push ⟨e k, e x, clock⟩) (clock + 1)) hb rfl rfl hp (fun w' hw' => ⟨rb, δ, rs, _, hp, hw', ?_⟩)⟩
        · rw [hex]
          simp [Instr.mapUpdate, run_underlying hu, hvm, hget, c1, c2, hset]
        · rw [Array.toList_push]
          exact h3.append (by simp only [EL]; exact ⟨_, _, rfl, hvk, hvx, rfl, rfl⟩)
      · cases h
    · cases h
  · cases h
end Go.Proofs.YtjagjjdkgidkjaaGreatDoor.Ev
