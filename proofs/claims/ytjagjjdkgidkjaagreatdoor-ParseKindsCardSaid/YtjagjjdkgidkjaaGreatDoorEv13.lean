/- Part Ev13 of a verified evaluator of closed calls: of no program; no condition. -/
import Derived.Test.YtjagjjdkgidkjaaGreatDoorEv12
set_option linter.all false
namespace Go.Proofs.YtjagjjdkgidkjaaGreatDoor.Ev
open Go Go.RowKit

variable {P : Program} {known : Nat → Bool} {base : Nat} {w0 : World} {π : Pi} {σ : AS} {w : World} {ρ : Rho}

/-- A block shared by a new name: the old one is dead. -/
theorem HR.share (h : HR known base w0 π σ w) (B : ABlk) (p : Nat × Nat × Nat) (hp : p.1 < w.heap.size) (hb : base ≤ p.1)
    (hno : ∀ c C q, σ.get c = some C → C.live = true → π c = some q → q.1 ≠ p.1) (hB : BR (π.add σ.next p) σ.next B w) : HR known base w0 (π.add σ.next p) (σ.push B) w := by
  have hle := h.le_add p
  refine ⟨fun b C hb => ?_, fun b c B' C q r hb hc lb lc pb pc e => ?_, fun b hb => ?_, fun b q hq => ?_, fun b C q hC hm hq => ?_, h.low, h.below, fun g hg => ?_⟩
  · by_cases e : b = σ.next
    · subst e; rw [AS.get_push] at hb; cases hb; exact hB
    · rw [AS.get_push_ne _ _ e] at hb
      exact BR.mono hle (fun p hp => rfl) (h.blk b C hb)
  · by_cases eb : b = σ.next <;> by_cases ec : c = σ.next
    · rw [eb, ec]
    · subst eb
      rw [Pi.add_same] at pb; rw [Pi.add_ne _ _ ec] at pc
      rw [AS.get_push_ne _ _ ec] at hc
      cases pb
      exact absurd e.symm (hno c C r hc lc pc)
    · subst ec
      rw [Pi.add_same] at pc; rw [Pi.add_ne _ _ eb] at pb
      rw [AS.get_push_ne _ _ eb] at hb
      cases pc
      exact absurd e (hno b B' q hb (mine_live lb) pb)
    · rw [Pi.add_ne _ _ eb] at pb; rw [Pi.add_ne _ _ ec] at pc
      rw [AS.get_push_ne _ _ eb] at hb; rw [AS.get_push_ne _ _ ec] at hc
      exact h.inj b c B' C q r hb hc lb lc pb pc e
  · have hb' : σ.next + 1 ≤ b := hb
    rw [AS.get_push_ne _ _ (by omega), Pi.add_ne _ _ (by omega)]
    exact h.fresh b (by omega)
  · by_cases e : b = σ.next
    · subst e; rw [Pi.add_same] at hq; cases hq; exact hp
    · rw [Pi.add_ne _ _ e] at hq; exact h.bnd b q hq
  · by_cases e : b = σ.next
    · subst e; rw [Pi.add_same] at hq; cases hq; exact hb
    · rw [Pi.add_ne _ _ e] at hq; rw [AS.get_push_ne _ _ e] at hC
      exact h.mine b C q hC hm hq
  · obtain ⟨rs', hr⟩ := h.glob g hg
    exact ⟨rs', hle _ _ hr⟩

theorem lenOf_run {x : AV} {n : Nat} {v : Value} (h : lenOfA x = some n) (hx : VR π x v) : ∀ w, (Builtin.lenOf v).run P w = .ok n w := by
  unfold lenOfA at h
  split at h
  · simp only [Option.some.injEq] at h; subst h; simp only [VR] at hx; subst hx; intro w; rfl
  · simp only [Option.some.injEq] at h; subst h; simp only [VR] at hx; obtain ⟨_, _, _, _, _, _, rfl, _⟩ := hx; intro w; rfl
  · rw [fNat_eq] at h; simp only [Option.some.injEq] at h; subst h; simp only [VR] at hx; obtain ⟨s, rfl, rfl⟩ := hx; intro w; rw [bytesOf_length]; rfl
  · cases h
/-- What is appended or copied, read. -/
theorem elems_run (hH : HR known base w0 π σ w) {size n m : Nat} {x : AV} {xs : List AV} {v : Value} (h : elems σ size x n = some xs) (hm : lenOfA x = some m) (hle : n ≤ m) (hx : VR π x v) :
    ∃ vs, (∀ w' : World, w'.heap = w.heap → (Builtin.firstCells size n v).run P w' = .ok ⟨vs⟩ w') ∧ VRL π xs vs := by
  unfold elems at h
  split at h
  · simp only [Option.some.injEq] at h; subst h
    simp only [VR] at hx; subst hx
    exact ⟨[], fun w' _ => by simp [Builtin.firstCells], VRL.nil⟩
  · rename_i b o len cap esz ex
    split at h
    · rename_i c bs e frz own wh hb
      split at h
      · rename_i g
        have g' : o + n * size ≤ bs := by simpa using g
        simp only [VR] at hx
        obtain ⟨rb, δ, rs, off, cap', hp, rfl, hoff, hcap, hex, hrs⟩ := hx
        obtain ⟨rb', δ', rs', vs, h1, h2, h3, h4, _⟩ := hH.cells hb h g'
        rw [hp] at h1
        simp only [Option.some.injEq, Prod.mk.injEq] at h1
        obtain ⟨rfl, rfl, rfl⟩ := h1
        refine ⟨vs, fun w' hw' => ?_, h2⟩
        simp only [lenOfA, Option.some.injEq] at hm
        refine run_firstCells_some (P := P) w' size n ⟨rb, off, none⟩ len cap' vs h3 (fun j u hu => ?_)
        rw [add_eq]
        have hj : j < vs.length := (List.getElem?_eq_some_iff.1 hu).1
        have hoff' : off = δ + o := by
          rcases hoff with h5 | h5
          · exact h5
          · have h6 : n = 0 := by omega
            rw [h6, Nat.zero_mul] at h3; omega
        subst hoff'
        have := h4 j u hu
        unfold World.cell? at this ⊢
        rw [hw']; exact this
      · cases h
    · cases h
  · rename_i l
    simp only [Option.some.injEq] at h
    subst h
    simp only [VR] at hx
    obtain ⟨s, rfl, rfl⟩ := hx
    refine ⟨((s.extract 0 n).data.map fun b => Value.int .u8 b.toNat).toList, fun w' _ => rfl, ?_⟩
    have : ((s.extract 0 n).data.map fun b => Value.int .u8 b.toNat).toList = (s.data.toList.take n).map fun b => Value.int .u8 b.toNat := by
      rw [Array.toList_map, Lib.extract_data, List.drop_zero, Nat.sub_zero]
    rw [this]
    simp only [bytesOf, ← List.map_take, List.map_map]
    generalize s.data.toList.take n = q
    induction q with
    | nil => exact VRL.nil
    | cons a q ih => exact VRL.cons (by simp [VR]) ih
  · cases h

/-- The law of append, on its ways. -/
theorem append_room {st xt ty e : TypeId} {size n : Nat} (hu : P.underlying st = some (.slice e)) {d : TypeDesc} (hx : P.underlying xt = some d) (hd : (∃ e', d = .slice e') ∨ d = .string)
    (hs : sizeOfT P e = some size) {ba : Option Addr} {sLen sCap : Nat} {xv : Value} (hn : ∀ w, (Builtin.lenOf xv).run P w = .ok n w)
    {vs : List Value} {w1 : World} (hroom : sLen + n ≤ sCap) (hf : (Builtin.firstCells size n xv).run P w = .ok ⟨vs⟩ w)
    (h1 : (match ba with | some a => storeCells (a.add (sLen * size)) vs | none => pure ()).run P w = .ok () w1) :
    (Builtin.append_ #[st, xt] ty #[.slice ba sLen sCap, xv]).run P w = .ok (.slice ba (sLen + n) sCap) w1 := by
  cases hi : P.info? e with
  | none => simp [sizeOfT, hi] at hs
  | some ie =>
    have hsz : ie.size = size := by simpa [sizeOfT, hi] using hs
    subst hsz
    cases ba with
    | none =>
      simp only [Sem.run_pure, Result.ok.injEq, true_and] at h1
      subst h1
      rcases hd with ⟨e', rfl⟩ | rfl <;> simp [Builtin.append_, run_underlying hu, run_underlying hx, sizeOf, typeInfo, hi, hn, hroom, hf]
    | some a =>
      simp only at h1
      rcases hd with ⟨e', rfl⟩ | rfl <;> simp [Builtin.append_, run_underlying hu, run_underlying hx, sizeOf, typeInfo, hi, hn, hroom, hf, h1]
theorem append_grow {st xt ty e : TypeId} {size bytes n : Nat} {z : AV} (hu : P.underlying st = some (.slice e)) {d : TypeDesc} (hx : P.underlying xt = some d) (hd : (∃ e', d = .slice e') ∨ d = .string)
    (hs : sizeOfT P e = some size) (hb : bytesOfT P e = some bytes) (hz : zeroOfT P e = some z) {ba : Option Addr} {sLen sCap : Nat} {xv : Value} (hn : ∀ w, (Builtin.lenOf xv).run P w = .ok n w)
    {vs olds : List Value} (hg : sCap < sLen + n) (hfit : 2 * (sLen + n) * bytes ≤ 281474976710656) (h62 : sLen + n ≤ 4611686018427387904)
    (hf : ∀ w' : World, w'.heap = w.heap → (Builtin.firstCells size n xv).run P w' = .ok ⟨vs⟩ w')
    (hfo : ∀ w' : World, w'.heap = w.heap → (Builtin.firstCells size sLen (.slice ba sLen sCap)).run P w' = .ok ⟨olds⟩ w') :
    ∃ (cap' : Nat) (zv : Value), sLen + n ≤ cap' ∧ VR π z zv ∧ (Builtin.append_ #[st, xt] ty #[.slice ba sLen sCap, xv]).run P w =
          .ok (.slice (some ⟨w.heap.size, 0, none⟩) (sLen + n) cap') (w.drew.alloc (.cells ((olds ++ vs) ++ (Builtin.zeroCells zv.cells (cap' - (sLen + n))).toList).toArray e)) := by
  cases hi : P.info? e with
  | none => simp [sizeOfT, hi] at hs
  | some ie =>
    have hsz : ie.size = size := by simpa [sizeOfT, hi] using hs
    have hbz : ie.bytes = bytes := by simpa [bytesOfT, hi] using hb
    subst hsz
    unfold zeroOfT at hz
    simp only [hi] at hz
    cases hzz : ie.zero with
    | none => simp [hzz] at hz
    | some zv =>
      simp only [hzz] at hz
      have hzr := ofValue_rel (π := π) hz
      refine ⟨grownCap w (sLen + n) sCap e, zv, ?_, hzr, ?_⟩
      · simp only [grownCap, Question.cut]; omega
      · have hn' : ¬ (sLen + n ≤ sCap) := by omega
        have h63' : ¬ (9223372036854775807 < ((sLen : Int) + (n : Int))) := by omega
        have hnx : Builtin.nextslicecap (sLen + n) sCap * bytes ≤ 281474976710656 :=
          Nat.le_trans (Nat.mul_le_mul_right _ (nextslicecap_le hg)) hfit
        have h48' : ¬ (281474976710656 < Builtin.nextslicecap (sLen + n) sCap * ie.bytes) := by rw [hbz]; omega
        have hf1 := hf w.drew rfl
        have hfo1 := hfo w.drew rfl
        have hfin : (olds ++ vs ++ (Builtin.zeroCells zv.cells (grownCap w (sLen + n) sCap e - (sLen + n))).toList).toArray = (⟨olds⟩ : Array Value) ++ ((⟨vs⟩ : Array Value) ++ Builtin.zeroCells zv.cells (grownCap w (sLen + n) sCap e - (sLen + n))) := by
          apply Array.ext'
          simp [List.append_assoc]
        rw [hfin]
        rcases hd with ⟨e', rfl⟩ | rfl <;>
          simp [Builtin.append_, run_underlying hu, run_underlying hx, sizeOf, typeInfo, zeroValue, hi, hzz, hn, hn', h63', h48', Question.forced, hf1, hfo1, newRow, grownCap]
end Go.Proofs.YtjagjjdkgidkjaaGreatDoor.Ev
