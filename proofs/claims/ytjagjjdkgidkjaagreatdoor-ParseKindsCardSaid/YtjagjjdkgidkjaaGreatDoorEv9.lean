/- Part Ev9 of a verified evaluator of closed calls: of no program; no condition. -/
import Derived.Test.YtjagjjdkgidkjaaGreatDoorEv8
set_option linter.all false
namespace Go.Proofs.YtjagjjdkgidkjaaGreatDoor.Ev
open Go Go.RowKit

variable {P : Program} {known : Nat → Bool} {base : Nat} {w0 : World} {π : Pi} {σ : AS} {w : World}

theorem indexAddr_gives {t : TypeId} {x i r : AV} {v vi : Value} (h : indexAddrA P t x i = some r) (hx : VR π x v) (hi : VR π i vi) : Gives P π w (Instr.indexAt t v vi) r := by
  unfold indexAddrA at h
  split at h
  · rename_i n e b o len cap esz ex hn hu
    obtain ⟨k, rfl⟩ := natI_some hn
    obtain rfl := hi.int
    split at h
    · rename_i m hm
      split at h
      · rename_i h1 h2
        rw [fNat_eq] at h
        simp only [Option.some.injEq] at h
        subst h
        have h1' : m = esz := by simpa using h1
        have h2' : n < len := by simp [Nat.blt] at h2; omega
        simp only [VR] at hx
        obtain ⟨rb, δ, rs, off, cap', hp, rfl, hoff, hcap, hex, hrs⟩ := hx
        have ho : off = δ + o := by rcases hoff with h | h <;> omega
        subst ho
        refine ⟨.pointer (some ⟨rb, δ + (o + n * m), none⟩), ?_, by simp only [VR]; exact ⟨rb, δ, rs, hp, rfl⟩⟩
        have hc : (0 : Int) ≤ Int.ofNat n ∧ Int.ofNat n < (len : Int) := ⟨by simp, by simp; omega⟩
        simp only [Instr.indexAt, asIntOf, Sem.run_bind, Sem.run_pure, Result.andThen_ok, run_underlying hu]
        rw [if_pos hc]
        simp [sizeOfT_run hm, add_eq, Nat.add_assoc]
      · cases h
    · cases h
  · rename_i n len e b o hn hu
    obtain ⟨k, rfl⟩ := natI_some hn
    obtain rfl := hi.int
    split at h
    · rename_i m hm
      split at h
      · rename_i h2
        rw [fNat_eq] at h
        simp only [Option.some.injEq] at h
        subst h
        have h2' : n < len := by simp [Nat.blt] at h2; omega
        simp only [VR] at hx
        obtain ⟨rb, δ, rs, hp, rfl⟩ := hx
        refine ⟨.pointer (some ⟨rb, δ + (o + n * m), none⟩), ?_, by simp only [VR]; exact ⟨rb, δ, rs, hp, rfl⟩⟩
        have hc : (0 : Int) ≤ Int.ofNat n ∧ Int.ofNat n < (len : Int) := ⟨by simp, by simp; omega⟩
        simp only [Instr.indexAt, asIntOf, Sem.run_bind, Sem.run_pure, Result.andThen_ok, run_underlying hu, Instr.sureAddr]
        rw [if_pos hc]
        simp [sizeOfT_run hm, add_eq, Nat.add_assoc]
      · cases h
    · cases h
  · cases h
theorem index_gives {t : TypeId} {x i r : AV} {v vi : Value} (h : indexA P t x i = some r) (hx : VR π x v) (hi : VR π i vi) : Gives P π w (Instr.index t v vi) r := by
  unfold indexA at h
  split at h
  · rename_i n s hn hu
    obtain ⟨k, rfl⟩ := natI_some hn
    obtain rfl := hi.int
    split at h
    · rename_i b hb
      rw [fNat_eq] at h
      simp only [Option.some.injEq] at h
      subst h
      simp only [VR] at hx
      obtain ⟨s', rfl, rfl⟩ := hx
      obtain ⟨c, hc, rfl⟩ : ∃ c, s'.data.toList[n]? = some c ∧ c.toNat = b := by
        simp only [bytesOf, List.getElem?_map, Option.map_eq_some_iff] at hb
        exact hb
      refine ⟨.int .u8 c.toNat, ?_, by simp [VR]⟩
      have hc' : s'[n]? = some c := by
        rw [Array.getElem?_toList] at hc
        exact hc
      simp only [Instr.index, asIntOf, Sem.run_bind, Sem.run_pure, Result.andThen_ok, run_underlying hu]
      simp [hc']
    · cases h
  · rename_i n len e cs hn hu
    obtain ⟨k, rfl⟩ := natI_some hn
    obtain rfl := hi.int
    split at h
    · rename_i m hm
      split at h
      · rename_i h2
        have h2' : n < len := by simp [Nat.blt] at h2; omega
        simp only [VR] at hx
        obtain ⟨ys, rfl, hys⟩ := hx
        obtain ⟨v, e1, e2⟩ := part_gives (P := P) (w := w) (c' := ⟨ys⟩) h hys
        refine ⟨v, ?_, e2⟩
        have hc : (0 : Int) ≤ Int.ofNat n ∧ Int.ofNat n < (len : Int) := ⟨by simp, by simp; omega⟩
        simp only [Instr.index, asIntOf, Sem.run_bind, Sem.run_pure, Result.andThen_ok, run_underlying hu]
        rw [if_pos hc]
        simp only [Sem.run_bind, sizeOfT_run hm, Result.andThen_ok]
        exact e1
      · cases h
    · cases h
  · cases h
theorem conv_gives {s d : TypeId} {x r : AV} {v : Value} (h : convA P s d x = some r) (hx : VR π x v) : Gives P π w (convert s d v) r := by
  unfold convA at h
  split at h
  · rename_i us k k' n hs hu
    obtain rfl := hx.int
    rw [wrapF_eq] at h
    refine Gives.int h ?_
    simp [convert, run_underlying hs, run_underlying hu, Conv.intToInt]
  · rename_i us l hs hu
    simp only [Option.some.injEq] at h
    subst h
    have hx' := hx
    simp only [VR] at hx'
    obtain ⟨s', rfl, _⟩ := hx'
    refine ⟨.string s', ?_, hx⟩
    cases us <;> simp [convert, run_underlying hs, run_underlying hu]
  · rename_i t hs hu
    simp only [Option.some.injEq] at h
    subst h
    have hx' := hx
    simp only [VR] at hx'
    subst hx'
    exact ⟨.pointer none, by simp [convert, run_underlying hs, run_underlying hu, Conv.unsafePointer], hx⟩
  · rename_i t hs hu
    simp only [Option.some.injEq] at h
    subst h
    have hx' := hx
    simp only [VR] at hx'
    subst hx'
    exact ⟨.pointer none, by simp [convert, run_underlying hs, run_underlying hu, Conv.unsafePointer], hx⟩
  · split at h
    · rename_i u hu
      obtain rfl := flat_eq hu hx
      exact viaPure_run h w
    · cases h
theorem len_gives {t : TypeId} {ts : List TypeId} {ty : TypeId} {x r : AV} {v : Value} (h : lenA P t x = some r) (hx : VR π x v) : Gives P π w (Builtin.len_ (t :: ts).toArray ty #[v]) r := by
  unfold lenA at h
  split at h
  · rename_i l hu
    rw [fNat_eq] at h
    simp only [Option.some.injEq] at h
    subst h
    simp only [VR] at hx
    obtain ⟨s', rfl, rfl⟩ := hx
    exact ⟨.int .i64 s'.size, by simp [Builtin.len_, run_underlying hu, goInt], by simp [VR, bytesOf_length]⟩
  · rename_i hu
    simp only [Option.some.injEq] at h
    subst h
    simp only [VR] at hx
    obtain ⟨rb, δ, rs, off, cap', hp, rfl, _⟩ := hx
    exact ⟨_, by simp [Builtin.len_, run_underlying hu, goInt]; rfl, by simp [VR]⟩
  · rename_i hu
    simp only [Option.some.injEq] at h
    subst h
    simp only [VR] at hx
    subst hx
    exact ⟨_, by simp [Builtin.len_, run_underlying hu, goInt]; rfl, by simp [VR]⟩
  · rename_i hu
    simp only [Option.some.injEq] at h
    subst h
    simp only [VR] at hx
    subst hx
    exact ⟨_, by simp [Builtin.len_, run_underlying hu, goInt]; rfl, by simp [VR]⟩
  · rename_i hu
    simp only [Option.some.injEq] at h
    subst h
    exact ⟨_, by simp [Builtin.len_, run_underlying hu, goInt]; rfl, by simp [VR]⟩
  · rename_i hu
    split at h
    · rename_i hu2
      simp only [Option.some.injEq] at h
      subst h
      exact ⟨_, by simp [Builtin.len_, run_underlying hu, run_underlying hu2, goInt]; rfl, by simp [VR]⟩
    · cases h
  · cases h
theorem mm2_gives {mx : Bool} {x y r : AV} {v u : Value} (h : mm2 mx x y = some r) (hx : VR π x v) (hy : VR π y u) : Gives P π w (if mx then Builtin.max2 v u else Builtin.min2 v u) r := by
  unfold mm2 at h
  split at h
  · rename_i k a j b
    obtain rfl := hx.int
    obtain rfl := hy.int
    have iv : ∀ (k : IntKind) (n : Int), VR π (.int k n) (.int k n) := fun _ _ => by simp only [VR]
    split at h
    · split at h <;> rename_i hlt <;> simp only [Option.some.injEq] at h <;> subst h <;> rw [ltF_eq] at hlt <;> refine ⟨_, ?_, iv _ _⟩ <;> simp only [if_true, Builtin.max2, Sem.run_pure]
      · rw [if_pos (by simpa using hlt)]
      · rw [if_neg (by simpa using hlt)]
    · split at h <;> rename_i hlt <;> simp only [Option.some.injEq] at h <;> subst h <;> rw [ltF_eq] at hlt <;> refine ⟨_, ?_, iv _ _⟩ <;> simp only [Builtin.min2, Sem.run_pure, Bool.false_eq_true, if_false]
      · rw [if_pos (by simpa using hlt)]
      · rw [if_neg (by simpa using hlt)]
  · cases h
theorem mmL_gives {mx : Bool} : ∀ {l : List AV} {x r : AV} {v : Value} {us : List Value}, mmL mx x l = some r → VR π x v → VRL π l us →
    Gives P π w (us.foldlM (fun a b => if mx then Builtin.max2 a b else Builtin.min2 a b) v) r
  | [], x, r, v, us, h, hx, hl => by
    simp only [mmL, Option.some.injEq] at h
    simp only [VRL] at hl
    subst h; subst hl
    exact ⟨v, rfl, hx⟩
  | y :: l, x, r, v, us, h, hx, hl => by
    simp only [VRL] at hl
    obtain ⟨u, t, rfl, hu, ht⟩ := hl
    simp only [mmL] at h
    split at h
    · rename_i z hz
      obtain ⟨z', e1, e2⟩ := mm2_gives (P := P) (w := w) hz hx hu
      obtain ⟨q, e3, e4⟩ := mmL_gives h e2 ht
      exact ⟨q, by simp only [List.foldlM_cons, Sem.run_bind, e1, Result.andThen_ok, e3], e4⟩
    · cases h
theorem assert_gives {x r : AV} {v : Value} {xt a : TypeId} {ok : Bool} (h : assertA P x a ok = some r) (hx : VR π x v) : Gives P π w (Instr.typeAssert v xt a ok) r := by
  unfold assertA at h
  split at h
  · rename_i t y d hu
    have hx' := hx
    simp only [VR] at hx'
    obtain ⟨z, rfl, hz⟩ := hx'
    split at h
    · rename_i want
      split at h
      · rename_i i hi
        split at h
        · rename_i hm
          simp only [Option.some.injEq] at h
          subst h
          cases ok with
          | true => exact ⟨.tuple #[.iface t z, .bool true], by simp [Instr.typeAssert, run_underlying hu, typeInfo, hi, hm], by simp only [VR]; exact ⟨_, rfl, VRL.cons hx (VRL.cons (by simp [VR]) VRL.nil)⟩⟩
          | false => exact ⟨.iface t z, by simp [Instr.typeAssert, run_underlying hu, typeInfo, hi, hm], hx⟩
        · rename_i m hm
          split at h
          · split at h
            · rename_i zz hzz
              simp only [Option.some.injEq] at h
              subst h
              obtain ⟨zv, e1, e2⟩ := zeroOfT_run (π := π) hzz w
              exact ⟨.tuple #[zv, .bool false], by simp [Instr.typeAssert, run_underlying hu, typeInfo, hi, hm, e1], by simp only [VR]; exact ⟨_, rfl, VRL.cons e2 (VRL.cons (by simp [VR]) VRL.nil)⟩⟩
            · cases h
          · cases h
      · cases h
    · rename_i hni
      split at h
      · rename_i ht
        have ht' : t = a := by simpa using ht
        subst ht'
        simp only [Option.some.injEq] at h
        subst h
        cases ok with
        | true => exact ⟨.tuple #[z, .bool true], by cases d <;> first | exact absurd rfl (hni _) | simp [Instr.typeAssert, run_underlying hu], by simp only [VR]; exact ⟨_, rfl, VRL.cons hz (VRL.cons (by simp [VR]) VRL.nil)⟩⟩
        | false => exact ⟨z, by cases d <;> first | exact absurd rfl (hni _) | simp [Instr.typeAssert, run_underlying hu], hz⟩
      · rename_i ht
        have ht' : ¬ t = a := by intro e; subst e; simp at ht
        split at h
        · split at h
          · rename_i zz hzz
            simp only [Option.some.injEq] at h
            subst h
            obtain ⟨zv, e1, e2⟩ := zeroOfT_run (π := π) hzz w
            exact ⟨.tuple #[zv, .bool false], by cases d <;> first | exact absurd rfl (hni _) | simp [Instr.typeAssert, run_underlying hu, ht', e1], by simp only [VR]; exact ⟨_, rfl, VRL.cons e2 (VRL.cons (by simp [VR]) VRL.nil)⟩⟩
          · cases h
        · cases h
  · rename_i d hu
    obtain rfl := hx.nilIface
    split at h
    · split at h
      · rename_i zz hzz
        simp only [Option.some.injEq] at h
        subst h
        obtain ⟨zv, e1, e2⟩ := zeroOfT_run (π := π) hzz w
        exact ⟨.tuple #[zv, .bool false], by cases d <;> simp [Instr.typeAssert, run_underlying hu, e1], by simp only [VR]; exact ⟨_, rfl, VRL.cons e2 (VRL.cons (by simp [VR]) VRL.nil)⟩⟩
      · cases h
    · cases h
  · cases h
end Go.Proofs.YtjagjjdkgidkjaaGreatDoor.Ev
