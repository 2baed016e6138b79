/- Part Ev8 of a verified evaluator of closed calls: of no program; no condition. -/
import Derived.Test.YtjagjjdkgidkjaaGreatDoorEv7
set_option linter.all false
namespace Go.Proofs.YtjagjjdkgidkjaaGreatDoor.Ev
open Go Go.RowKit

variable {P : Program} {known : Nat → Bool} {base : Nat} {w0 : World} {π : Pi} {σ : AS} {w : World}

theorem natI_some {x : AV} {n : Nat} (h : natI x = some n) : ∃ k, x = .int k (.ofNat n) := by
  unfold natI at h
  split at h
  · rename_i k m; rw [fNat_eq] at h; simp only [Option.some.injEq] at h; subst h; exact ⟨k, rfl⟩
  · cases h
theorem part_gives {t : TypeId} {cs : List AV} {c' : Array Value} {off : Nat} {x : AV} (h : partA P t cs off = some x) (hc : VRL π cs c'.toList) : Gives P π w (part t c' off) x := by
  unfold partA at h
  have lc := hc.length
  simp at lc
  split at h
  · rename_i ha
    split at h
    · rename_i n hn
      split at h
      · rename_i hle
        have hle' : off + n ≤ cs.length := by simpa using hle
        simp only [Option.some.injEq] at h
        subst h
        refine ⟨.agg (c'.extract off (off + n)), ?_, ?_⟩
        · simp [part, isAggT_run ha, sizeOfT_run hn]
        · simp only [VR]
          refine ⟨(c'.toList.drop off).take n, ?_, VRL.take n (VRL.drop off hc)⟩
          congr 1
          apply Array.ext'
          simp [Array.toList_extract]
      · cases h
    · cases h
  · rename_i ha
    obtain ⟨v, hv, hr⟩ := hc.get off x h
    refine ⟨v, ?_, hr⟩
    simp only [part, Sem.run_bind, isAggT_run ha, Result.andThen_ok, Bool.false_eq_true, if_false]
    rw [Array.getElem?_toList] at hv
    rw [hv]; rfl
  · cases h

/-- A bound of a slice expression. -/
theorem bound_gives {x : Option AV} {v : Option Value} {dflt most n : Nat} (hx : ∀ a, x = some a → ∃ u, v = some u ∧ VR π a u) (hn : x = none → v = none) (h : boundA x dflt most = some n) (code : BoundsCode) :
    (match v with | some u => Instr.sliceBound u most code | none => pure dflt).run P w = .ok n w ∧ (x ≠ none → n ≤ most) ∧ (x = none → n = dflt) := by
  unfold boundA at h
  split at h
  · simp only [Option.some.injEq] at h
    subst h
    rw [hn rfl]
    exact ⟨rfl, (fun h => absurd rfl h), fun _ => rfl⟩
  · rename_i a
    obtain ⟨u, rfl, hu⟩ := hx a rfl
    split at h
    · rename_i m hm
      split at h
      · rename_i hle
        simp only [Option.some.injEq] at h
        subst h
        obtain ⟨k, rfl⟩ := natI_some hm
        obtain rfl := hu.int
        have hle' : m ≤ most := by simpa using hle
        refine ⟨?_, (fun _ => hle'), (fun h => by cases h)⟩
        have h0 : (0 : Int) ≤ Int.ofNat m ∧ Int.ofNat m ≤ (most : Int) := ⟨by simp, by simp; omega⟩
        simp only [Instr.sliceBound, asIntOf, Sem.run_bind, Sem.run_pure, Result.andThen_ok]
        rw [if_pos h0]
        rfl
      · cases h
    · cases h
theorem optA_rel {ρ : Rho} {e : Operand → Value} (hρ : RhoR π ρ e) {x : Option Operand} {a : Option AV} (h : optA ρ x = some a) :
    (∀ b, a = some b → ∃ u, x.map e = some u ∧ VR π b u) ∧ (a = none → x.map e = none) := by
  unfold optA at h
  split at h
  · simp only [Option.some.injEq] at h; subst h; exact ⟨(fun b hb => by cases hb), fun _ => rfl⟩
  · rename_i y
    split at h
    · rename_i v hv
      simp only [Option.some.injEq] at h
      subst h
      exact ⟨(fun b hb => by cases hb; exact ⟨_, rfl, hρ _ _ hv⟩), (fun hb => by cases hb)⟩
    · cases h

theorem add_eq (b o n : Nat) : (⟨b, o, none⟩ : Addr).add n = ⟨b, o + n, none⟩ := Addr.add_mid b o n

theorem extract_bytes (s : ByteArray) (l h : Nat) : bytesOf (s.extract l h) = ((bytesOf s).take h).drop l := by
  simp only [bytesOf, Lib.extract_data, ← List.map_take, ← List.map_drop, List.drop_take]

theorem bounds_gives {sl : Bool} {len cap h l : Nat} {vl vh : Option Value}
    (b1 : (match vh with | some u => Instr.sliceBound u cap (if sl then .sliceAcap else .sliceAlen) | none => pure len).run P w = .ok h w)
    (c1 : (match vl with | some u => Instr.sliceBound u h .sliceB | none => pure 0).run P w = .ok l w) : (Instr.sliceBounds sl len cap vl vh none).run P w = .ok (l, h, cap) w := by
  unfold Instr.sliceBounds
  cases vh with
  | none =>
    simp only [Sem.run_pure, Result.ok.injEq, and_true] at b1
    subst b1
    cases vl with
    | none => simp only [Sem.run_pure, Result.ok.injEq, and_true] at c1; subst c1; rfl
    | some u => simp only at c1; simp [c1]
  | some u =>
    simp only at b1
    cases vl with
    | none => simp only [Sem.run_pure, Result.ok.injEq, and_true] at c1; subst c1; simp [b1]
    | some v => simp only at c1; simp [b1, c1]
theorem boundA_more {a : Option AV} {d m m' n : Nat} (h : boundA a d m = some n) (hm : m ≤ m') : boundA a d m' = some n := by
  unfold boundA at h ⊢
  split at h
  · exact h
  · split at h
    · rename_i k hk
      split at h
      · rename_i hle
        have : k.ble m' = true := by simp at hle ⊢; omega
        simp only [hk, this]; exact h
      · cases h
    · cases h
def Opt (π : Pi) (a : Option AV) (v : Option Value) : Prop := (∀ b, a = some b → ∃ u, v = some u ∧ VR π b u) ∧ (a = none → v = none)

theorem slice_gives {t : TypeId} {x : AV} {lo hi : Option AV} {v : Value} {vl vh : Option Value} {r : AV} (h : sliceA P t x lo hi = some r) (hx : VR π x v)
    (hl : Opt π lo vl) (hh : Opt π hi vh) : Gives P π w (Instr.sliceAt t v vl vh none) r := by
  unfold sliceA at h
  split at h
  · -- a string
    rename_i s
    split at h
    · rename_i hu
      simp only [VR] at hx
      obtain ⟨s', rfl, rfl⟩ := hx
      obtain ⟨n, hn, h⟩ := oB_some h
      obtain ⟨l, hlo, h⟩ := oB_some h
      rw [strI_some h]
      rw [bytesOf_length] at hn
      obtain ⟨b1, _, _⟩ := bound_gives (P := P) (w := w) hh.1 hh.2 hn .sliceAlen
      obtain ⟨c1, _, _⟩ := bound_gives (P := P) (w := w) hl.1 hl.2 hlo .sliceB
      refine ⟨.string (s'.extract l n), ?_, by simp only [VR]; exact ⟨_, rfl, extract_bytes s' l n⟩⟩
      have e1 : (Instr.sliceBounds false s'.size s'.size vl vh none).run P w = .ok (l, n, s'.size) w := bounds_gives b1 c1
      simp [Instr.sliceAt, run_underlying hu, Instr.slice, e1]
    · cases h
  · -- a nil slice
    split at h
    · rename_i e hu
      obtain ⟨n1, hs, h⟩ := oB_some h
      obtain ⟨n2, hn, h⟩ := oB_some h
      obtain ⟨z2, h⟩ := gB_some h
      obtain ⟨n3, hlo, h⟩ := oB_some h
      obtain ⟨z3, h⟩ := gB_some h
      simp only [Option.some.injEq] at h
      subst h
      obtain rfl : n2 = 0 := by simpa using z2
      obtain rfl : n3 = 0 := by simpa using z3
      simp only [VR] at hx
      subst hx
      obtain ⟨b1, _, _⟩ := bound_gives (P := P) (w := w) hh.1 hh.2 hn .sliceAcap
      obtain ⟨c1, _, _⟩ := bound_gives (P := P) (w := w) hl.1 hl.2 hlo .sliceB
      refine ⟨.slice none 0 0, ?_, by simp [VR]⟩
      have e1 : (Instr.sliceBounds true 0 0 vl vh none).run P w = .ok (0, 0, 0) w := bounds_gives b1 c1
      simp [Instr.sliceAt, run_underlying hu, Instr.slice, e1, sizeOfT_run hs]
    · cases h
  · -- a slice
    rename_i b o len cap esz ex
    simp only [VR] at hx
    obtain ⟨rb, δ, rs, off, cap', hp, rfl, hoff, hcap, hex, hrs⟩ := hx
    split at h
    · rename_i e hu
      obtain ⟨n, hs, h⟩ := oB_some h
      obtain ⟨hes, h⟩ := gB_some h
      obtain rfl : n = esz := by simpa using hes
      obtain ⟨k, hn, h⟩ := oB_some h
      obtain ⟨hk, h⟩ := gB_some h
      have hk' : k ≤ cap := by simpa using hk
      obtain ⟨l, hlo, h⟩ := oB_some h
      obtain ⟨hlk, h⟩ := gB_some h
      have hlk' : l ≤ k := by simpa using hlk
      obtain ⟨b1, _, b3⟩ := bound_gives (P := P) (w := w) hh.1 hh.2 (boundA_more hn hcap) .sliceAcap
      obtain ⟨c1, _, _⟩ := bound_gives (P := P) (w := w) hl.1 hl.2 hlo .sliceB
      have e1 : (Instr.sliceBounds true len cap' vl vh none).run P w = .ok (l, k, cap') w := bounds_gives b1 c1
      have e2 : (Instr.sliceAt t (.slice (some ⟨rb, off, none⟩) len cap') vl vh none).run P w =
          .ok (.slice (if cap' = l then some ⟨rb, off, none⟩ else some ⟨rb, off + l * n, none⟩) (k - l) (cap' - l)) w := by
        simp [Instr.sliceAt, run_underlying hu, Instr.slice, e1, sizeOfT_run hs, add_eq]
      have hmul : l * n + (cap' - l) * n = cap' * n := by rw [← Nat.add_mul]; congr 1; omega
      refine ⟨_, e2, ?_⟩
      rw [bM_eq] at h
      split at h
      · rename_i hc
        simp only [Option.some.injEq] at h
        subst h
        simp only [Bool.and_eq_true] at hc
        have hcl : cap = l := by simpa using hc.2
        have hcc := hex hc.1
        have : cap' = l := by omega
        subst this
        rw [if_pos rfl]
        simp only [VR]
        refine ⟨rb, δ, rs, off, 0, hp, ?_, ?_, by omega, fun _ => rfl, by omega⟩
        · rw [show k - cap' = 0 by omega, show cap' - cap' = 0 by omega]
        · rcases hoff with h1 | h1
          · exact .inl h1
          · exact .inr ⟨by simp, by simp⟩
      · rename_i hc
        simp only [fNat_eq, Option.some.injEq] at h
        subst h
        simp only [VR]
        by_cases hcl : cap' = l
        · rw [if_pos hcl]
          refine ⟨rb, δ, rs, off, cap' - l, hp, rfl, .inr ⟨by omega, by omega⟩, by omega, fun he => ?_, by rw [show cap' - l = 0 by omega]; omega⟩
          have := hex he; omega
        · rw [if_neg hcl]
          refine ⟨rb, δ, rs, off + l * n, cap' - l, hp, rfl, ?_, by omega, fun he => ?_, by omega⟩
          · rcases hoff with h1 | h1
            · exact .inl (by omega)
            · omega
          · have := hex he; omega
    · cases h
  · cases h
theorem sliceArr_gives (hH : HR known base w0 π σ w) {t arr e : TypeId} {n size b o : Nat} {lo hi : Option AV} {v : Value} {vl vh : Option Value} {r : AV} (h : sliceArr σ n size b o lo hi = some r) (hx : VR π (.ptr b o) v)
    (hl : Opt π lo vl) (hh : Opt π hi vh) (hs : sizeOfT P e = some size)
    (hu : P.underlying t = some (.array n e) ∨ (P.underlying t = some (.pointer arr) ∧ P.underlying arr = some (.array n e))) : Gives P π w (Instr.sliceAt t v vl vh none) r := by
  unfold sliceArr at h
  split at h
  · rename_i c bs e' frz own wh hb
    obtain ⟨g1, h⟩ := gB_some h
    have g1' : o + n * size ≤ bs := by simpa using g1
    obtain ⟨k, hn, h⟩ := oB_some h
    obtain ⟨hk, h⟩ := gB_some h
    have hk' : k ≤ n := by simpa using hk
    obtain ⟨l, hlo, h⟩ := oB_some h
    obtain ⟨hlk, h⟩ := gB_some h
    have hlk' : l ≤ k := by simpa using hlk
    obtain ⟨rb, δ, rs, hp, hle, _⟩ := hH.cell hb
    simp only [VR] at hx
    obtain ⟨rb', δ', rs', hp', rfl⟩ := hx
    rw [hp] at hp'
    simp only [Option.some.injEq, Prod.mk.injEq] at hp'
    obtain ⟨rfl, rfl, rfl⟩ := hp'
    obtain ⟨b1, _, _⟩ := bound_gives (P := P) (w := w) hh.1 hh.2 hn .sliceAlen
    obtain ⟨c1, _, _⟩ := bound_gives (P := P) (w := w) hl.1 hl.2 hlo .sliceB
    have e1 : (Instr.sliceBounds false n n vl vh none).run P w = .ok (l, k, n) w := bounds_gives b1 c1
    have e2 : (Instr.sliceAt t (.pointer (some ⟨rb, δ + o, none⟩)) vl vh none).run P w =
        .ok (.slice (some (if n = l then ⟨rb, δ + o, none⟩ else ⟨rb, δ + o + l * size, none⟩)) (k - l) (n - l)) w := by
      rcases hu with hu | ⟨hu, hu2⟩
      · simp [Instr.sliceAt, run_underlying hu, Instr.sureAddr, e1, sizeOfT_run hs, add_eq]
      · simp [Instr.sliceAt, run_underlying hu, run_underlying hu2, Instr.slice, asAddr, e1, sizeOfT_run hs, add_eq]
    have hmul : l * size + (n - l) * size = n * size := by rw [← Nat.add_mul]; congr 1; omega
    refine ⟨_, e2, ?_⟩
    rw [bM_eq] at h
    split at h
    · rename_i hc
      simp only [Option.some.injEq] at h
      subst h
      have hcl : n = l := by simpa using hc
      subst hcl
      rw [if_pos rfl]
      simp only [VR]
      refine ⟨rb, δ, rs, δ + o, 0, hp, ?_, .inl rfl, by omega, fun _ => rfl, by omega⟩
      rw [show k - n = 0 by omega, show n - n = 0 by omega]
    · rename_i hc
      simp only [fNat_eq, Option.some.injEq] at h
      subst h
      have hcl : ¬ n = l := by simpa using hc
      rw [if_neg hcl]
      simp only [VR]
      exact ⟨rb, δ, rs, δ + o + l * size, n - l, hp, rfl, .inl (by omega), by omega, fun _ => rfl, by omega⟩
  · cases h
end Go.Proofs.YtjagjjdkgidkjaaGreatDoor.Ev
