/- Part Ev7 of a verified evaluator of closed calls: of no program; no condition. -/
import Derived.Test.YtjagjjdkgidkjaaGreatDoorEv6
set_option linter.all false
namespace Go.Proofs.YtjagjjdkgidkjaaGreatDoor.Ev
open Go Go.RowKit

variable {P : Program} {known : Nat → Bool} {base : Nat} {w0 : World} {π : Pi} {σ : AS} {w : World}

/-- The operands' readings. -/
def RhoR (π : Pi) (ρ : Rho) (e : Operand → Value) : Prop := ∀ x v, ρ x = some v → VR π v (e x)

theorem argsA_rel {ρ : Rho} {e : Operand → Value} (hρ : RhoR π ρ e) : ∀ {l : List Operand} {xs : List AV}, argsA ρ l = some xs → VRL π xs (l.map e)
  | [], xs, h => by simp only [argsA, Option.some.injEq] at h; subst h; exact VRL.nil
  | x :: r, xs, h => by
    simp only [argsA] at h
    split at h
    · cases h
    · rename_i v hv
      split at h
      · cases h
      · rename_i l hl
        simp only [Option.some.injEq] at h
        subst h
        exact VRL.cons (hρ _ _ hv) (argsA_rel hρ hl)
/-- Numbered parts. -/
def PL (π : Pi) : List (Nat × AV) → List (Nat × Value) → Prop
  | [], vs => vs = []
  | (i, x) :: r, vs => ∃ v t, vs = (i, v) :: t ∧ VR π x v ∧ PL π r t
theorem partsA_rel {ρ : Rho} {e : Operand → Value} (hρ : RhoR π ρ e) : ∀ {l : List (Nat × Operand)} {xs : List (Nat × AV)}, partsA ρ l = some xs → PL π xs (l.map fun (i, x) => (i, e x))
  | [], xs, h => by simp only [partsA, Option.some.injEq] at h; subst h; simp [PL]
  | (i, x) :: r, xs, h => by
    simp only [partsA] at h
    split at h
    · cases h
    · rename_i v hv
      split at h
      · cases h
      · rename_i l hl
        simp only [Option.some.injEq] at h
        subst h
        simp only [PL, List.map_cons]
        exact ⟨_, _, rfl, hρ _ _ hv, partsA_rel hρ hl⟩

theorem cells_rel {x : AV} {v : Value} (h : VR π x v) : VRL π x.cells v.cells.toList := by
  cases x with
  | agg cs => simp only [VR] at h; obtain ⟨ys, rfl, h2⟩ := h; exact h2
  | tuple cs => have h' := h; simp only [VR] at h'; obtain ⟨ys, rfl, h2⟩ := h'; exact VRL.cons h VRL.nil
  | str l => have h' := h; simp only [VR] at h'; obtain ⟨s, rfl, _⟩ := h'; exact VRL.cons h VRL.nil
  | ostr l => have h' := h; simp only [VR] at h'; obtain ⟨s, rfl, _⟩ := h'; exact VRL.cons h VRL.nil
  | ptr b o => have h' := h; simp only [VR] at h'; obtain ⟨_, _, _, _, rfl⟩ := h'; exact VRL.cons h VRL.nil
  | slice b o l c s e => have h' := h; simp only [VR] at h'; obtain ⟨_, _, _, _, _, _, rfl, _⟩ := h'; exact VRL.cons h VRL.nil
  | map r => have h' := h; simp only [VR] at h'; obtain ⟨_, _, _, _, rfl⟩ := h'; exact VRL.cons h VRL.nil
  | func f p c => have h' := h; simp only [VR] at h'; obtain ⟨_, _, rfl, _⟩ := h'; exact VRL.cons h VRL.nil
  | iface t y => have h' := h; simp only [VR] at h'; obtain ⟨_, rfl, _⟩ := h'; exact VRL.cons h VRL.nil
  | _ => have h' := h; simp only [VR] at h'; subst h'; exact VRL.cons h VRL.nil
theorem cells_size {x : AV} {v : Value} (h : VR π x v) : v.cells.size = x.cells.length := by
  have := (cells_rel h).length; simpa using this

theorem fold_set (off : Nat) : ∀ (l : List Value) (k : Nat) (cs : Array Value), ((l.zipIdx k).foldl (fun cs (c, j) => cs.setIfInBounds (off + j) c) cs).size = cs.size ∧
    ∀ i, ((l.zipIdx k).foldl (fun cs (c, j) => cs.setIfInBounds (off + j) c) cs)[i]? = if off + k ≤ i ∧ i < off + k + l.length ∧ i < cs.size then l[i - (off + k)]? else cs[i]?
  | [], k, cs => ⟨rfl, fun i => by simp; omega⟩
  | v :: l, k, cs => by
    simp only [List.zipIdx_cons, List.foldl_cons]
    obtain ⟨h1, h2⟩ := fold_set off l (k + 1) (cs.setIfInBounds (off + k) v)
    refine ⟨by rw [h1]; simp, fun i => ?_⟩
    rw [h2 i]
    simp only [Array.size_setIfInBounds]
    by_cases hi : i = off + k
    · subst hi
      rw [if_neg (by omega)]
      by_cases hs : off + k < cs.size
      · rw [if_pos ⟨by omega, by simp, hs⟩]; simp [hs]
      · rw [if_neg (by omega)]; rw [Array.getElem?_eq_none (by simp; omega), Array.getElem?_eq_none (by omega)]
    · by_cases h3 : off + (k + 1) ≤ i ∧ i < off + (k + 1) + l.length ∧ i < cs.size
      · rw [if_pos h3, if_pos ⟨by omega, by simp; omega, h3.2.2⟩]
        obtain ⟨j, hj⟩ : ∃ j, i - (off + k) = j + 1 := ⟨i - (off + k) - 1, by omega⟩
        rw [hj, show i - (off + (k + 1)) = j by omega]; simp
      · rw [if_neg h3, if_neg (by simp; omega), Array.getElem?_setIfInBounds_ne (by omega)]
theorem splice_rel {cs vs : List AV} {off : Nat} {c' : Array Value} {v' : Array Value} (hc : VRL π cs c'.toList) (hv : VRL π vs v'.toList) (hle : off + vs.length ≤ cs.length) :
    VRL π (splice cs off vs) (v'.zipIdx.foldl (fun cs (c, j) => cs.setIfInBounds (off + j) c) c').toList := by
  have e : v'.zipIdx.foldl (fun cs (c, j) => cs.setIfInBounds (off + j) c) c' = (v'.toList.zipIdx 0).foldl (fun cs (c, j) => cs.setIfInBounds (off + j) c) c' := by
    rw [← Array.foldl_toList, Array.toList_zipIdx]
  rw [e]
  obtain ⟨h1, h2⟩ := fold_set off v'.toList 0 c'
  have lc := hc.length
  have lv := hv.length
  have : ((v'.toList.zipIdx 0).foldl (fun cs (c, j) => cs.setIfInBounds (off + j) c) c').toList = c'.toList.take off ++ v'.toList ++ c'.toList.drop (off + vs.length) := by
    apply List.ext_getElem?
    intro i
    rw [Array.getElem?_toList, h2 i]
    simp only [Nat.add_zero]
    by_cases a1 : i < off
    · rw [if_neg (by omega)]
      rw [List.append_assoc, List.getElem?_append_left (by simp; simp at lc; omega), List.getElem?_take_of_lt a1, Array.getElem?_toList]
    · by_cases a2 : i < off + vs.length
      · rw [if_pos ⟨by omega, by omega, by simp at lc; omega⟩]
        rw [List.append_assoc, List.getElem?_append_right (by simp; omega), List.getElem?_append_left (by simp; simp at lc lv; omega)]
        congr 1
        simp; simp at lc; omega
      · rw [if_neg (by omega)]
        rw [List.getElem?_append_right (by simp; simp at lc lv; omega), List.getElem?_drop]
        rw [Array.getElem?_toList]
        congr 1
        simp; simp at lc lv; omega
  rw [this]
  exact VRL.append (VRL.append (VRL.take _ hc) hv) (VRL.drop _ hc)
theorem fillA_rel {pa : Nat → Option (Nat × Nat)} {place : Nat → Option (Nat × Nat)} (hp : ∀ i p, pa i = some p → place i = some p) :
    ∀ {parts : List (Nat × AV)} {cs out : List AV} {c' : Array Value} {ps : List (Nat × Value)}, fillA pa cs parts = some out → VRL π cs c'.toList → PL π parts ps →
      ∃ o', Instr.fill place c' ps = some o' ∧ VRL π out o'.toList
  | [], cs, out, c', ps, h, hc, hs => by
    simp only [fillA, Option.some.injEq] at h
    simp only [PL] at hs
    subst h; subst hs
    exact ⟨c', rfl, hc⟩
  | (i, v) :: rest, cs, out, c', ps, h, hc, hs => by
    simp only [PL] at hs
    obtain ⟨u, t, rfl, hu, ht⟩ := hs
    simp only [fillA] at h
    split at h
    · cases h
    · rename_i off size hpi
      split at h
      · rename_i b1 b2
        have b1' : v.cells.length = size := by simpa using b1
        have b2' : off + size ≤ cs.length := by simpa using b2
        have lc := hc.length
        have lu := cells_size hu
        simp at lc
        simp only [Instr.fill, hp _ _ hpi]
        have hcond : (u.cells.size != size || decide (off + u.cells.size > c'.size)) = false := by
          simp; exact ⟨by omega, by omega⟩
        rw [show (decide (u.cells.size ≠ size) || decide (off + u.cells.size > c'.size)) = false by simp; exact ⟨by omega, by omega⟩]
        exact fillA_rel hp h (splice_rel hc (cells_rel hu) (by omega)) ht
      · cases h
theorem places_some (w : World) : ∀ (fs : List Field), (∀ f ∈ fs, (sizeOfT P f.type).isSome = true) →
    ∃ places, fs.mapM (fun f => (P.info? f.type).map fun i => (f.offset, i.size)) = some places ∧
      ∀ (i : Nat) (f : Field) (n : Nat), fs[i]? = some f → sizeOfT P f.type = some n → places[i]? = some (f.offset, n)
  | [], _ => ⟨[], by simp, fun i f n h => by simp at h⟩
  | g :: fs, h => by
    obtain ⟨ps, h1, h2⟩ := places_some w fs (fun f hf => h f (List.mem_cons_of_mem _ hf))
    obtain ⟨n, hn⟩ := Option.isSome_iff_exists.1 (h g List.mem_cons_self)
    have hg : (P.info? g.type).map (fun i => (g.offset, i.size)) = some (g.offset, n) := by
      unfold sizeOfT at hn
      cases hi : P.info? g.type with
      | none => simp [hi] at hn
      | some i => simp [hi] at hn ⊢; exact hn
    refine ⟨(g.offset, n) :: ps, by simp [List.mapM_cons, hg, h1], fun i f m hi hm => ?_⟩
    cases i with
    | zero => simp at hi; subst hi; rw [hn] at hm; cases hm; rfl
    | succ i => simp at hi ⊢; exact h2 i f m hi hm
theorem build_gives {t : TypeId} {l : List (Nat × AV)} {ps : Array (Nat × Value)} {x : AV} (h : buildA P t l = some x) (hl : PL π l ps.toList) : Gives P π w (Instr.build t ps) x := by
  unfold buildA at h
  split at h
  · rename_i z fs hz hu
    split at h
    · rename_i hall
      split at h
      · rename_i cs hcs
        simp only [Option.some.injEq] at h
        subst h
        unfold zeroOfT at hz
        cases hi : P.info? t with
        | none => simp [hi] at hz
        | some it =>
          simp only [hi] at hz
          cases hzz : it.zero with
          | none => simp [hzz] at hz
          | some zv =>
            simp only [hzz] at hz
            have hzr := ofValue_rel (π := π) hz
            have hall' : ∀ f ∈ fs.toList, (sizeOfT P f.type).isSome = true := fun f hf => (Array.all_eq_true_iff_forall_mem.1 hall) f (by simpa using hf)
            obtain ⟨places, p1, p2⟩ := places_some w fs.toList hall'
            have hp : ∀ i p, placesA P fs i = some p → places.toArray[i]? = some p := by
              intro i p hip
              unfold placesA at hip
              split at hip
              · rename_i f hf
                split at hip
                · rename_i n hn
                  simp only [Option.some.injEq] at hip
                  subst hip
                  simpa using p2 i f n (by simpa using hf) hn
                · cases hip
              · cases hip
            obtain ⟨o', q1, q2⟩ := fillA_rel hp hcs (cells_rel hzr) hl
            refine ⟨.agg o', run_build w t ps o' ?_, ?_⟩
            · simp only [Program.built, hi, hu, hzz, p1]
              exact q1
            · simp only [VR]; exact ⟨o'.toList, by simp, q2⟩
      · cases h
    · cases h
  · rename_i z n e hz hu
    split at h
    · rename_i m hm
      split at h
      · rename_i cs hcs
        simp only [Option.some.injEq] at h
        subst h
        unfold zeroOfT at hz
        cases hi : P.info? t with
        | none => simp [hi] at hz
        | some it =>
          simp only [hi] at hz
          cases hzz : it.zero with
          | none => simp [hzz] at hz
          | some zv =>
            simp only [hzz] at hz
            have hzr := ofValue_rel (π := π) hz
            cases hie : P.info? e with
            | none => simp [sizeOfT, hie] at hm
            | some ie =>
              have hms : ie.size = m := by simpa [sizeOfT, hie] using hm
              obtain ⟨o', q1, q2⟩ := fillA_rel (place := fun i => some (i * ie.size, ie.size)) (fun i p hip => by rw [hms]; exact hip) hcs (cells_rel hzr) hl
              refine ⟨.agg o', run_build w t ps o' ?_, ?_⟩
              · simp only [Program.built, hi, hu, hzz, hie]
                exact q1
              · simp only [VR]; exact ⟨o'.toList, by simp, q2⟩
      · cases h
    · cases h
  · cases h
end Go.Proofs.YtjagjjdkgidkjaaGreatDoor.Ev
