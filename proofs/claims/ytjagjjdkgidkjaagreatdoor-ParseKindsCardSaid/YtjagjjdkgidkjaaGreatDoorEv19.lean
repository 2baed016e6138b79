/- Part Ev19 of a verified evaluator of closed calls: of no program; no condition. -/
import Derived.Test.YtjagjjdkgidkjaaGreatDoorEv18
set_option linter.all false
namespace Go.Proofs.YtjagjjdkgidkjaaGreatDoor.Ev
open Go Go.RowKit

variable {P : Program} {known : Nat → Bool} {base : Nat} {w0 : World} {π : Pi} {σ : AS} {w : World} {ρ : Rho}

theorem list2 {α : Type} {l : Array α} {a b : α} (h : l.toList = [a, b]) : l = #[a, b] := by apply Array.ext'; simp [h]
theorem list1 {α : Type} {l : Array α} {a : α} (h : l.toList = [a]) : l = #[a] := by apply Array.ext'; simp [h]

theorem elems_zero {size : Nat} {x : AV} {xs : List AV} (h : elems σ size x 0 = some xs) : xs = [] := by
  unfold elems at h
  split at h
  · simpa using h.symm
  · split at h
    · rw [Nat.zero_mul] at h
      split at h
      · simp only [readN, Option.some.injEq] at h; exact h.symm
      · cases h
    · cases h
  · simpa using h.symm
  · cases h
theorem builtin_sound (hH : HR known base w0 π σ w) {b : Builtin} {ts : Array TypeId} {ty : TypeId} {cs : Array Bool} {xs : List AV} {vs : Array Value} {r : AR} {s : Sem Next} (hx : VRL π xs vs.toList)
    (hse : ∀ R, (builtin b ts ty cs vs).run P w = R → s.run P w = R) (h : builtinA P σ b ts.toList xs = some r) : LoudR P known base w0 π σ w s r := by
  unfold builtinA at h
  split at h
  · -- append
    split at h
    · rename_i st xt sa xa hts
      simp only [VRL] at hx
      obtain ⟨sv, _, hvs, hsv, xv, _, rfl, hxv, rfl⟩ := hx
      obtain rfl := list2 hvs
      obtain rfl := list2 hts
      split at h
      · rename_i e hu
        rw [gB_iff] at h; obtain ⟨g, h⟩ := h
        rw [oB_iff] at h; obtain ⟨size, hs, h⟩ := h
        rw [oB_iff] at h; obtain ⟨n, hn, h⟩ := h
        rw [oB_iff] at h; obtain ⟨ys, hys, h⟩ := h
        obtain ⟨d, hd, hd2⟩ : ∃ d, P.underlying xt = some d ∧ ((∃ e', d = .slice e') ∨ d = .string) := by
          split at g
          · rename_i e' he; exact ⟨_, he, .inl ⟨_, rfl⟩⟩
          · rename_i he; exact ⟨_, he, .inr rfl⟩
          · cases g
        refine append_sound (ty := ty) hH hu hd hd2 hs hxv hsv hn hys (fun v w' hr => hse _ ?_) h
        simp [builtin, hr]
      · cases h
    · cases h
  · -- copy
    split at h
    · rename_i dt st da sa hts
      simp only [VRL] at hx
      obtain ⟨dv, _, hvs, hdv, sv, _, rfl, hsv, rfl⟩ := hx
      obtain rfl := list2 hvs
      obtain rfl := list2 hts
      split at h
      · rename_i e hu
        split at h
        · rename_i size m hs hm
          simp only [Option.some.injEq] at h
          subst h
          simp only [VR] at hdv
          subst hdv
          have hln := lenOf_run (P := P) hm hsv
          refine ⟨π, w, .value (goInt 0), hse _ ?_, .inl ⟨_, rfl, by simp [VR, goInt]⟩, Pi.le_refl π, hH⟩
          simp [builtin, Builtin.copy_, run_underlying hu, hln, sizeOfT_run hs]
          have hz : ∃ q, (Builtin.firstCells size 0 sv).run P w = .ok q w := by
            unfold lenOfA at hm
            split at hm
            · simp only [VR] at hsv; subst hsv; exact ⟨_, run_firstCells_none _ _ _ _ _⟩
            · simp only [VR] at hsv; obtain ⟨rb, δ, rs, off, cap', hp, rfl, _⟩ := hsv
              exact ⟨_, run_firstCells_some (P := P) w size 0 ⟨rb, off, none⟩ _ cap' [] (by simp) (fun j v h => by simp at h)⟩
            · simp only [VR] at hsv; obtain ⟨s', rfl, _⟩ := hsv
              exact ⟨_, rfl⟩
            · cases hm
          obtain ⟨q, hz⟩ := hz
          rw [hz]; rfl
        · rename_i size m b o dn dc esz ex hs hm
          rw [fNat_eq] at h
          have run : ∀ v w', (Builtin.copy_ #[dt, st] ty #[dv, sv]).run P w = .ok v w' → s.run P w = .ok (.value v) w' := fun v w' hr => hse _ (by simp [builtin, hr])
          split at h
          · rename_i he
            simp only [Option.some.injEq] at h
            exact copy_sound (ty := ty) hH hu hs hdv hsv hm rfl he run (.inl ⟨rfl, rfl⟩) h.symm
          · rename_i ys hne he
            split at h
            · rename_i σ' hw
              simp only [Option.some.injEq] at h
              refine copy_sound (ty := ty) hH hu hs hdv hsv hm rfl he run (.inr ⟨?_, hw⟩) h.symm
              rcases Nat.eq_zero_or_pos dn with h0 | h0
              · subst h0
                rw [Nat.min_zero] at he
                exact absurd (elems_zero he) (fun e => hne e)
              · exact h0
            · cases h
          · cases h
        · cases h
      · cases h
    · cases h
  · -- panic
    split at h
    · rename_i t v
      simp only [Option.some.injEq] at h
      subst h
      simp only [VRL] at hx
      obtain ⟨u, _, hvs, hv, rfl⟩ := hx
      obtain rfl := list1 hvs
      have hv' := hv
      simp only [VR] at hv'
      obtain ⟨y, rfl, _⟩ := hv'
      refine ⟨_, hse _ ?_, hv, rfl⟩
      simp [builtin, Instr.panic, goPanic]
    · cases h
  · -- unsafe.SliceData
    split at h
    · simp only [Option.some.injEq] at h
      subst h
      simp only [VRL] at hx
      obtain ⟨u, _, hvs, hv, rfl⟩ := hx
      obtain rfl := list1 hvs
      simp only [VR] at hv
      subst hv
      refine ⟨π, w, .value (.pointer none), hse _ ?_, .inl ⟨_, rfl, by simp [VR]⟩, Pi.le_refl π, hH⟩
      simp [builtin, Lib.run_unsafeSliceData_nil]
    · rename_i b o len cap esz ex
      split at h
      · cases h
      · simp only [Option.some.injEq] at h
        subst h
        simp only [VRL] at hx
        obtain ⟨u, _, hvs, hv, rfl⟩ := hx
        obtain rfl := list1 hvs
        simp only [VR] at hv
        obtain ⟨rb, δ, rs, off, cap', hp, rfl, hoff, hcap, hex, hrs⟩ := hv
        have hc : cap' ≠ 0 := by omega
        have ho : off = δ + o := by
          rcases hoff with h1 | h1
          · exact h1
          · omega
        subst ho
        refine ⟨π, w, .value (.pointer (some ⟨rb, δ + o, none⟩)), hse _ ?_, .inl ⟨_, rfl, by simp only [VR]; exact ⟨_, _, _, hp, rfl⟩⟩, Pi.le_refl π, hH⟩
        simp [builtin, Lib.run_unsafeSliceData_row _ _ _ _ _ _ hc]
    · cases h
  · -- unsafe.String
    split at h
    · rename_i pt it p n hts
      obtain rfl := list2 hts
      split at h
      · rename_i hle
        have hle' : n ≤ 9223372036854775807 := by simpa using hle
        rw [fNat_eq] at h
        simp only [VRL] at hx
        obtain ⟨pv, _, hvs, hp, iv, _, rfl, hi, rfl⟩ := hx
        obtain rfl := hi.int
        obtain rfl := list2 hvs
        exact unsafeStr_sound (ty := ty) hH hp hle' (fun v w' hr => hse _ (by have hr' : (Builtin.unsafeString_ #[pt, it] ty #[pv, Value.int .i64 ((n : Nat) : Int)]).run P w = .ok v w' := hr; simp only [Int.ofNat_eq_natCast]; simp [builtin, hr'])) h
      · cases h
    · cases h
  · -- len of a map
    split at h
    · rename_i t tr m hts
      simp only [VRL] at hx
      obtain ⟨mv, _, hvs, hm, rfl⟩ := hx
      obtain rfl := list1 hvs
      split at h
      · rename_i kt et es clock hu hb
        rw [fNat_eq] at h
        simp only [Option.some.injEq] at h
        subst h
        simp only [VR] at hm
        obtain ⟨rb, δ, rs, hp, rfl⟩ := hm
        obtain ⟨rb', δ', rs', es', h1, h2, h3⟩ := hH.blk _ _ hb
        rw [hp] at h1
        simp only [Option.some.injEq, Prod.mk.injEq] at h1
        obtain ⟨rfl, rfl, rfl⟩ := h1
        have hget := run_getObj_map (P := P) h2
        have hl : es'.size = es.length := by
          have : ∀ {l : List (AV × AV × Nat)} {es : List MapEntry}, EL π l es → es.length = l.length := by
            intro l
            induction l with
            | nil => intro es h; simp only [EL] at h; simp [h]
            | cons a l ih =>
              intro es h
              obtain ⟨k, v, n⟩ := a
              simp only [EL] at h
              obtain ⟨e, t, rfl, _, _, _, h4⟩ := h
              simp [ih h4]
          rw [← this h3]; simp
        have ht0 : ts[0]? = some t := by rw [← Array.getElem?_toList, hts]; rfl
        refine ⟨π, w, .value (goInt es'.size), hse _ ?_, .inl ⟨_, rfl, by simp [VR, goInt, hl]⟩, Pi.le_refl π, hH⟩
        simp [builtin, Builtin.len_, ht0, run_underlying hu, hget]
      · cases h
    · cases h
  · cases h

theorem loud_sound (hH : HR known base w0 π σ w) {e : Operand → Value} (hρ : RhoR π ρ e) {o : Oper} {f : Program → Rho → AS → Option AR} {r : AR} (hh : headOf o.op P = .loud f) (h : f P ρ σ = some r) : LoudR P known base w0 π σ w (execOp e o) r := by
  obtain ⟨dst, op, type, pos, after, guard⟩ := o
  dsimp only at hh
  cases op with
  | alloc t => cases hh; exact alloc_sound hH rfl h
  | box t x => cases hh; exact box_sound hH hρ rfl h
  | buildSlice t n ps => cases hh; exact buildSlice_sound hH hρ rfl h
  | insert t m k x => cases hh; exact mapUpdate_sound hH hρ (.inr rfl) h
  | store t a x => cases hh; exact store_sound hH hρ rfl h
  | makeMap t r => cases hh; exact makeMap_sound hH hρ rfl h
  | makeSlice t l c => cases hh; exact makeSlice_sound hH hρ rfl h
  | mapUpdate t m k x => cases hh; exact mapUpdate_sound hH hρ (.inl rfl) h
  | range t x => cases hh; exact range_sound hH hρ rfl h
  | next it st => cases hh; exact next_sound hH hρ rfl h
  | panic x => cases hh; exact panic_sound hρ rfl h
  | convert sx d x =>
    have hh' : hdConv sx d x P = .loud f := hh
    unfold hdConv at hh'
    split at hh'
    · cases hh'
    · cases hh'
      unfold lConv at h
      split at h
      · rename_i a ha
        exact byteConv_sound hH (hρ _ _ ha) (fun v w' hr => by simp [execOp, hr]) h
      · cases h
  | slice t x lo hi mx =>
    have hh' : hdSlice t x lo hi mx P = .loud f := hh
    unfold hdSlice at hh'
    split at hh' <;> cases hh'
  | call c =>
    have hh' : hdCall c P = .loud f := hh
    unfold hdCall at hh'
    split at hh' <;> (try (cases hh'; done)) <;> (try (cases hlm : lenOfMap P c <;> rw [hlm] at hh' <;> cases hh'; done))
    · rename_i g hc
      cases hh'
      exact call_sound hH hρ rfl hc h
    · rename_i b hc
      cases hh'
      unfold lCallB at h
      split at h
      · rename_i l hl
        refine builtin_sound (ty := type) (cs := c.args.map fun | .const _ => true | _ => false) (vs := c.args.map e) hH ?_ (fun R hR => ?_) h
        · simpa using argsA_rel hρ hl
        · rw [call_builtin rfl hc]; exact hR
      · cases h
  | defer c =>
    have hh' : hdDefer c P = .loud f := hh
    unfold hdDefer at hh'
    split at hh'
    · rename_i g hc
      cases hh'
      exact defer_sound hρ rfl hc rfl h
    · cases hh'
  | _ => cases hh
end Go.Proofs.YtjagjjdkgidkjaaGreatDoor.Ev
