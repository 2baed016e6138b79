/- A verified evaluator of closed calls, of no program: a part (Ev13 Ev14 Ev15 Ev16 Ev17 Ev18 Ev19) of the proof that the law ParseParts answers true. No condition. -/
import Derived.Test.YtjagjjdkgidkjaaGreatDoorPtE2
import Derived.Lib.UnsafeStr
import Derived.Lib.ConvBytes
import Derived.Laws.BytesString
import Derived.KernelRfl
import Derived.Room.MakeNoZero
set_option linter.all false
set_option linter.all false
namespace Go.Proofs.YtjagjjdkgidkjaaGreatDoor.Ev
open Go Go.RowKit

variable {P : Program} {known : Nat → Bool} {base : Nat} {w0 : World} {π : Pi} {σ : AS} {w : World} {ρ : Rho}

/-- A block shared by a new name: the old one is dead. -/
theorem HR.share (h : HR known base w0 π σ w) (B : ABlk) (p : Nat × Nat × Nat) (hp : p.1 < w.heap.size) (hb : base ≤ p.1)
    (hno : ∀ c C q, σ.get c = some C → C.live = true → π c = some q → q.1 ≠ p.1) (hB : BR (π.add σ.next p) σ.next B w) : HR known base w0 (π.add σ.next p) (σ.push B) w := by
  have hle := h.le_add p
  refine ⟨fun b C hb => ?_, fun b c B' C q r hb hc lb lc pb pc e => ?_, fun b hb => ?_, fun b q hq => ?_, fun b C q hC hm hq => ?_, h.low, h.below, fun g hg => ?_⟩
  · by_cases e : b = σ.next
    · subst e; rw [AS.get_push] at hb; cases hb; exact hB
    · rw [AS.get_push_ne _ _ e] at hb
      exact BR.mono hle (fun p hp => rfl) (h.blk b C hb)
  · by_cases eb : b = σ.next <;> by_cases ec : c = σ.next
    · rw [eb, ec]
    · subst eb
      rw [Pi.add_same] at pb; rw [Pi.add_ne _ _ ec] at pc
      rw [AS.get_push_ne _ _ ec] at hc
      cases pb
      exact absurd e.symm (hno c C r hc lc pc)
    · subst ec
      rw [Pi.add_same] at pc; rw [Pi.add_ne _ _ eb] at pb
      rw [AS.get_push_ne _ _ eb] at hb
      cases pc
      exact absurd e (hno b B' q hb (mine_live lb) pb)
    · rw [Pi.add_ne _ _ eb] at pb; rw [Pi.add_ne _ _ ec] at pc
      rw [AS.get_push_ne _ _ eb] at hb; rw [AS.get_push_ne _ _ ec] at hc
      exact h.inj b c B' C q r hb hc lb lc pb pc e
  · have hb' : σ.next + 1 ≤ b := hb
    rw [AS.get_push_ne _ _ (by omega), Pi.add_ne _ _ (by omega)]
    exact h.fresh b (by omega)
  · by_cases e : b = σ.next
    · subst e; rw [Pi.add_same] at hq; cases hq; exact hp
    · rw [Pi.add_ne _ _ e] at hq; exact h.bnd b q hq
  · by_cases e : b = σ.next
    · subst e; rw [Pi.add_same] at hq; cases hq; exact hb
    · rw [Pi.add_ne _ _ e] at hq; rw [AS.get_push_ne _ _ e] at hC
      exact h.mine b C q hC hm hq
  · obtain ⟨rs', hr⟩ := h.glob g hg
    exact ⟨rs', hle _ _ hr⟩

theorem lenOf_run {x : AV} {n : Nat} {v : Value} (h : lenOfA x = some n) (hx : VR π x v) : ∀ w, (Builtin.lenOf v).run P w = .ok n w := by
  unfold lenOfA at h
  split at h
  · simp only [Option.some.injEq] at h; subst h; simp only [VR] at hx; subst hx; intro w; rfl
  · simp only [Option.some.injEq] at h; subst h; simp only [VR] at hx; obtain ⟨_, _, _, _, _, _, rfl, _⟩ := hx; intro w; rfl
  · rw [fNat_eq] at h; simp only [Option.some.injEq] at h; subst h; simp only [VR] at hx; obtain ⟨s, rfl, rfl⟩ := hx; intro w; rw [bytesOf_length]; rfl
  · cases h
/-- What is appended or copied, read. -/
theorem elems_run (hH : HR known base w0 π σ w) {size n m : Nat} {x : AV} {xs : List AV} {v : Value} (h : elems σ size x n = some xs) (hm : lenOfA x = some m) (hle : n ≤ m) (hx : VR π x v) :
    ∃ vs, (∀ w' : World, w'.heap = w.heap → (Builtin.firstCells size n v).run P w' = .ok ⟨vs⟩ w') ∧ VRL π xs vs := by
  unfold elems at h
  split at h
  · simp only [Option.some.injEq] at h; subst h
    simp only [VR] at hx; subst hx
    exact ⟨[], fun w' _ => by simp [Builtin.firstCells], VRL.nil⟩
  · rename_i b o len cap esz ex
    split at h
    · rename_i c bs e frz own wh hb
      split at h
      · rename_i g
        have g' : o + n * size ≤ bs := by simpa using g
        simp only [VR] at hx
        obtain ⟨rb, δ, rs, off, cap', hp, rfl, hoff, hcap, hex, hrs⟩ := hx
        obtain ⟨rb', δ', rs', vs, h1, h2, h3, h4, _⟩ := hH.cells hb h g'
        rw [hp] at h1
        simp only [Option.some.injEq, Prod.mk.injEq] at h1
        obtain ⟨rfl, rfl, rfl⟩ := h1
        refine ⟨vs, fun w' hw' => ?_, h2⟩
        simp only [lenOfA, Option.some.injEq] at hm
        refine run_firstCells_some (P := P) w' size n ⟨rb, off, none⟩ len cap' vs h3 (fun j u hu => ?_)
        rw [add_eq]
        have hj : j < vs.length := (List.getElem?_eq_some_iff.1 hu).1
        have hoff' : off = δ + o := by
          rcases hoff with h5 | h5
          · exact h5
          · have h6 : n = 0 := by omega
            rw [h6, Nat.zero_mul] at h3; omega
        subst hoff'
        have := h4 j u hu
        unfold World.cell? at this ⊢
        rw [hw']; exact this
      · cases h
    · cases h
  · rename_i l
    simp only [Option.some.injEq] at h
    subst h
    simp only [VR] at hx
    obtain ⟨s, rfl, rfl⟩ := hx
    refine ⟨((s.extract 0 n).data.map fun b => Value.int .u8 b.toNat).toList, fun w' _ => rfl, ?_⟩
    have : ((s.extract 0 n).data.map fun b => Value.int .u8 b.toNat).toList = (s.data.toList.take n).map fun b => Value.int .u8 b.toNat := by
      rw [Array.toList_map, Lib.extract_data, List.drop_zero, Nat.sub_zero]
    rw [this]
    simp only [bytesOf, ← List.map_take, List.map_map]
    generalize s.data.toList.take n = q
    induction q with
    | nil => exact VRL.nil
    | cons a q ih => exact VRL.cons (by simp [VR]) ih
  · cases h

/-- The law of append, on its ways. -/
theorem append_room {st xt ty e : TypeId} {size n : Nat} (hu : P.underlying st = some (.slice e)) {d : TypeDesc} (hx : P.underlying xt = some d) (hd : (∃ e', d = .slice e') ∨ d = .string)
    (hs : sizeOfT P e = some size) {ba : Option Addr} {sLen sCap : Nat} {xv : Value} (hn : ∀ w, (Builtin.lenOf xv).run P w = .ok n w)
    {vs : List Value} {w1 : World} (hroom : sLen + n ≤ sCap) (hf : (Builtin.firstCells size n xv).run P w = .ok ⟨vs⟩ w)
    (h1 : (match ba with | some a => storeCells (a.add (sLen * size)) vs | none => pure ()).run P w = .ok () w1) :
    (Builtin.append_ #[st, xt] ty #[.slice ba sLen sCap, xv]).run P w = .ok (.slice ba (sLen + n) sCap) w1 := by
  cases hi : P.info? e with
  | none => simp [sizeOfT, hi] at hs
  | some ie =>
    have hsz : ie.size = size := by simpa [sizeOfT, hi] using hs
    subst hsz
    cases ba with
    | none =>
      simp only [Sem.run_pure, Result.ok.injEq, true_and] at h1
      subst h1
      rcases hd with ⟨e', rfl⟩ | rfl <;> simp [Builtin.append_, run_underlying hu, run_underlying hx, sizeOf, typeInfo, hi, hn, hroom, hf]
    | some a =>
      simp only at h1
      rcases hd with ⟨e', rfl⟩ | rfl <;> simp [Builtin.append_, run_underlying hu, run_underlying hx, sizeOf, typeInfo, hi, hn, hroom, hf, h1]
theorem append_grow {st xt ty e : TypeId} {size bytes n : Nat} {z : AV} (hu : P.underlying st = some (.slice e)) {d : TypeDesc} (hx : P.underlying xt = some d) (hd : (∃ e', d = .slice e') ∨ d = .string)
    (hs : sizeOfT P e = some size) (hb : bytesOfT P e = some bytes) (hz : zeroOfT P e = some z) {ba : Option Addr} {sLen sCap : Nat} {xv : Value} (hn : ∀ w, (Builtin.lenOf xv).run P w = .ok n w)
    {vs olds : List Value} (hg : sCap < sLen + n) (hfit : 2 * (sLen + n) * bytes ≤ 281474976710656) (h62 : sLen + n ≤ 4611686018427387904)
    (hf : ∀ w' : World, w'.heap = w.heap → (Builtin.firstCells size n xv).run P w' = .ok ⟨vs⟩ w')
    (hfo : ∀ w' : World, w'.heap = w.heap → (Builtin.firstCells size sLen (.slice ba sLen sCap)).run P w' = .ok ⟨olds⟩ w') :
    ∃ (cap' : Nat) (zv : Value), sLen + n ≤ cap' ∧ VR π z zv ∧ (Builtin.append_ #[st, xt] ty #[.slice ba sLen sCap, xv]).run P w =
          .ok (.slice (some ⟨w.heap.size, 0, none⟩) (sLen + n) cap') (w.drew.alloc (.cells ((olds ++ vs) ++ (Builtin.zeroCells zv.cells (cap' - (sLen + n))).toList).toArray e)) := by
  cases hi : P.info? e with
  | none => simp [sizeOfT, hi] at hs
  | some ie =>
    have hsz : ie.size = size := by simpa [sizeOfT, hi] using hs
    have hbz : ie.bytes = bytes := by simpa [bytesOfT, hi] using hb
    subst hsz
    unfold zeroOfT at hz
    simp only [hi] at hz
    cases hzz : ie.zero with
    | none => simp [hzz] at hz
    | some zv =>
      simp only [hzz] at hz
      have hzr := ofValue_rel (π := π) hz
      refine ⟨grownCap w (sLen + n) sCap e, zv, ?_, hzr, ?_⟩
      · simp only [grownCap, Question.cut]; omega
      · have hn' : ¬ (sLen + n ≤ sCap) := by omega
        have h63' : ¬ (9223372036854775807 < ((sLen : Int) + (n : Int))) := by omega
        have hnx : Builtin.nextslicecap (sLen + n) sCap * bytes ≤ 281474976710656 :=
          Nat.le_trans (Nat.mul_le_mul_right _ (nextslicecap_le hg)) hfit
        have h48' : ¬ (281474976710656 < Builtin.nextslicecap (sLen + n) sCap * ie.bytes) := by rw [hbz]; omega
        have hf1 := hf w.drew rfl
        have hfo1 := hfo w.drew rfl
        have hfin : (olds ++ vs ++ (Builtin.zeroCells zv.cells (grownCap w (sLen + n) sCap e - (sLen + n))).toList).toArray = (⟨olds⟩ : Array Value) ++ ((⟨vs⟩ : Array Value) ++ Builtin.zeroCells zv.cells (grownCap w (sLen + n) sCap e - (sLen + n))) := by
          apply Array.ext'
          simp [List.append_assoc]
        rw [hfin]
        rcases hd with ⟨e', rfl⟩ | rfl <;>
          simp [Builtin.append_, run_underlying hu, run_underlying hx, sizeOf, typeInfo, zeroValue, hi, hzz, hn, hn', h63', h48', Question.forced, hf1, hfo1, newRow, grownCap]
end Go.Proofs.YtjagjjdkgidkjaaGreatDoor.Ev
set_option linter.all false
namespace Go.Proofs.YtjagjjdkgidkjaaGreatDoor.Ev
open Go Go.RowKit

variable {P : Program} {known : Nat → Bool} {base : Nat} {w0 : World} {π : Pi} {σ : AS} {w : World} {ρ : Rho}

theorem call_builtin {e : Operand → Value} {o : Oper} {c : Call} {b : Builtin} (ho : o.op = .call c) (hc : c.callee = .builtin b) :
    execOp e o = builtin b c.argTypes o.type (c.args.map fun | .const _ => true | _ => false) (c.args.map e) := by
  simp only [execOp, ho, resolve, hc, invoke]
  rfl

theorem share_ne (k : BK) (o : Nat) : k.share o ≠ .whole := by cases k <;> cases o <;> exact fun h => by cases h
theorem share_near {k : BK} {o : Nat} (h : (k.share o).near = true) : o = 0 ∧ k.near = true := by cases k <;> cases o <;> first | exact ⟨rfl, rfl⟩ | cases h
/-- The growth of a slice into a new row. -/
theorem grow_sound (hH : HR known base w0 π σ w) {st xt ty e : TypeId} {size bytes n : Nat} {z : AV} {r : AR} {s : Sem Next} (hu : P.underlying st = some (.slice e)) {d : TypeDesc} (hx : P.underlying xt = some d) (hd : (∃ e', d = .slice e') ∨ d = .string)
    (hs : sizeOfT P e = some size) (hb : bytesOfT P e = some bytes) (hz : zeroOfT P e = some z) (hzc : z.cells.length = size) {ba : Option Addr} {sLen sCap : Nat} {xv : Value} (hn : ∀ w, (Builtin.lenOf xv).run P w = .ok n w)
    {xs oldA : List AV} {vs olds : List Value} (hg : sCap < sLen + n) (hfit : 2 * (sLen + n) * bytes ≤ 281474976710656) (h62 : sLen + n ≤ 4611686018427387904)
    (hf : ∀ w' : World, w'.heap = w.heap → (Builtin.firstCells size n xv).run P w' = .ok ⟨vs⟩ w')
    (hfo : ∀ w' : World, w'.heap = w.heap → (Builtin.firstCells size sLen (.slice ba sLen sCap)).run P w' = .ok ⟨olds⟩ w')
    (rx : VRL π xs vs) (ro : VRL π oldA olds) (lx : xs.length = n * size) (lo : oldA.length = sLen * size)
    (hse : ∀ v w', (Builtin.append_ #[st, xt] ty #[.slice ba sLen sCap, xv]).run P w = .ok v w' → s.run P w = .ok (.value v) w')
    (h : σ.grow e size (oldA ++ xs) (sLen + n) = some r) : LoudR P known base w0 π σ w s r := by
  unfold AS.grow at h
  rw [AS.row_eq, fNat_eq] at h
  simp only [Option.some.injEq] at h
  subst h
  obtain ⟨cap', zv, h1, h2, h3⟩ := append_grow (ty := ty) (π := π) hu hx hd hs hb hz hn hg hfit h62 hf hfo
  have hzv := cells_size h2
  refine ⟨_, _, _, hse _ _ h3, .inl ⟨_, rfl, ?_⟩, hH.le_add _, hH.drew.row e (ro.append rx) (Builtin.zeroCells zv.cells (cap' - (sLen + n))).toList _ (fun h => by cases h)⟩
  simp only [VR]
  refine ⟨_, _, _, 0, cap', Pi.add_same _ _ _, rfl, .inl rfl, h1, (fun h => by cases h), ?_⟩
  have l1 := rx.length
  have l2 := ro.length
  have l3 : (Builtin.zeroCells zv.cells (cap' - (sLen + n))).toList.length = (cap' - (sLen + n)) * size := by simp [Builtin.zeroCells, hzv, hzc]
  rw [List.length_append, l1, l2, l3, lx, lo]
  have : sLen * size + n * size + (cap' - (sLen + n)) * size = cap' * size := by
    rw [← Nat.add_mul, ← Nat.add_mul]; congr 1; omega
  omega
theorem append_sound (hH : HR known base w0 π σ w) {st xt ty e : TypeId} {size n : Nat} {r : AR} {s : Sem Next} (hu : P.underlying st = some (.slice e)) {d : TypeDesc} (hx : P.underlying xt = some d) (hd : (∃ e', d = .slice e') ∨ d = .string)
    (hs : sizeOfT P e = some size) {xa sa : AV} {xv sv : Value} (hxv : VR π xa xv) (hsv : VR π sa sv) (hl : lenOfA xa = some n) {xs : List AV} (he : elems σ size xa n = some xs)
    (hse : ∀ v w', (Builtin.append_ #[st, xt] ty #[sv, xv]).run P w = .ok v w' → s.run P w = .ok (.value v) w')
    (h : σ.append P e sa xs n = some r) : LoudR P known base w0 π σ w s r := by
  have hn := lenOf_run (P := P) hl hxv
  obtain ⟨vs, hf, rx⟩ := elems_run hH he hl (Nat.le_refl n) hxv
  have lvx := rx.length
  unfold AS.append at h
  rw [oB_iff] at h; obtain ⟨size', hs', h⟩ := h
  rw [hs] at hs'; cases hs'
  rw [oB_iff] at h; obtain ⟨bytes, hb, h⟩ := h
  rw [oB_iff] at h; obtain ⟨z, hz, h⟩ := h
  rw [gB_iff] at h; obtain ⟨hzc, h⟩ := h
  have hzc' : z.cells.length = size := by simpa using hzc
  rw [gB_iff] at h; obtain ⟨hlx, h⟩ := h
  have hlx' : xs.length = n * size := by simpa using hlx
  cases sa with
  | nilslice =>
    dsimp only at h
    simp only [VR] at hsv
    subst hsv
    cases n with
    | zero =>
      simp only [Option.some.injEq] at h
      subst h
      have : vs = [] := by
        have : vs.length = 0 := by rw [lvx, hlx']; simp
        exact List.eq_nil_of_length_eq_zero this
      subst this
      have hr := append_room (ty := ty) (ba := none) (sLen := 0) (sCap := 0) (w1 := w) hu hx hd hs hn (Nat.le_refl 0) (hf w rfl) rfl
      exact ⟨π, w, _, hse _ _ hr, .inl ⟨_, rfl, by simp [VR]⟩, Pi.le_refl π, hH⟩
    | succ k =>
      dsimp only at h
      rw [gB_iff] at h; obtain ⟨g1, h⟩ := h
      rw [gB_iff] at h; obtain ⟨g2, h⟩ := h
      have g1' : 2 * (k + 1) * bytes ≤ 281474976710656 := by simpa using g1
      have g2' : k + 1 ≤ 4611686018427387904 := by simpa using g2
      refine grow_sound (ba := none) (sLen := 0) (sCap := 0) (oldA := []) (olds := []) hH hu hx hd hs hb hz hzc' hn (by omega) (by rw [Nat.zero_add]; exact g1') (by rw [Nat.zero_add]; exact g2') hf (fun w' _ => by simp [Builtin.firstCells]) rx VRL.nil hlx' (by simp) hse ?_
      rw [Nat.zero_add, List.nil_append]
      exact h
  | slice b o len cap esz ex =>
    dsimp only at h
    simp only [VR] at hsv
    obtain ⟨rb, δ, rs, off, cap', hp, rfl, hoff, hcap, hex, hrs⟩ := hsv
    rw [gB_iff] at h; obtain ⟨ges, h⟩ := h
    have ges' : esz = size := by simpa using ges
    subst ges'
    rw [bM_eq] at h
    split at h
    · -- there is room, for sure
      rename_i groom
      have hroom : len + n ≤ cap := by
        simp only [Bool.and_eq_true] at groom
        simpa using groom.1
      have hroom' : len + n ≤ cap' := by omega
      split at h
      · rw [fNat_eq] at h
        simp only [Option.some.injEq] at h
        subst h
        simp only [VRL] at rx
        subst rx
        have hr := append_room (ty := ty) (ba := some ⟨rb, off, none⟩) (w1 := w) hu hx hd hs hn hroom' (hf w rfl) (by simp [storeCells])
        refine ⟨π, w, _, hse _ _ hr, .inl ⟨_, rfl, ?_⟩, Pi.le_refl π, hH⟩
        simp only [VR]
        refine ⟨rb, δ, rs, off, cap', hp, rfl, ?_, hcap, hex, hrs⟩
        rcases hoff with h1 | h1
        · exact .inl h1
        · exact .inr (by omega)
      · rename_i hne
        rw [oB_iff] at h; obtain ⟨σ', hw, h⟩ := h
        rw [fNat_eq] at h
        simp only [Option.some.injEq] at h
        subst h
        obtain ⟨rb', δ', rs', h1, h2, h3, h4⟩ := hH.write hw rx
        rw [hp] at h1
        simp only [Option.some.injEq, Prod.mk.injEq] at h1
        obtain ⟨rfl, rfl, rfl⟩ := h1
        have hn0 : 0 < n := by
          rcases Nat.eq_zero_or_pos n with h0 | h0
          · subst h0
            have : xs = [] := List.eq_nil_of_length_eq_zero (by rw [hlx']; simp)
            exact absurd this hne
          · exact h0
        have hoff' : off = δ + o := by
          rcases hoff with h5 | h5
          · exact h5
          · omega
        subst hoff'
        have hst := run_storeCells_cells (P := P) rb (δ + o + len * esz) vs 0 w (fun j hj => by have := (h2 j hj).1; rw [show δ + o + len * esz + 0 + j = δ + (o + len * esz) + j by omega]; exact this)
          (fun j hj => by have := (h2 j hj).2; rw [show δ + o + len * esz + 0 + j = δ + (o + len * esz) + j by omega]; exact this) h3
        have hr := append_room (ty := ty) (ba := some ⟨rb, δ + o, none⟩) (w1 := w.setCells rb (δ + (o + len * esz)) vs) hu hx hd hs hn hroom' (hf w rfl) (by
          simp only [add_eq]; rw [hst]; simp [Nat.add_assoc])
        refine ⟨π, _, _, hse _ _ hr, .inl ⟨_, rfl, ?_⟩, Pi.le_refl π, h4⟩
        simp only [VR]
        exact ⟨rb, δ, rs, δ + o, cap', hp, rfl, .inl rfl, hcap, hex, hrs⟩
    · rename_i groom
      split at h
      · rename_i c bs e' frz own wh hblk
        rw [gB_iff] at h; obtain ⟨g1, h⟩ := h
        rw [gB_iff] at h; obtain ⟨g2, h⟩ := h
        rw [gB_iff] at h; obtain ⟨g3, h⟩ := h
        rw [oB_iff] at h; obtain ⟨olds, hro, h⟩ := h
        have g1' : 2 * (len + n) * bytes ≤ 281474976710656 := by simpa using g1
        have g2' : len + n ≤ 4611686018427387904 := by simpa using g2
        have g3' : o + len * esz ≤ bs := by simpa using g3
        obtain ⟨rb', δ', rs', os, c1, c2, c3, c4, c5⟩ := hH.cells hblk hro g3'
        rw [hp] at c1
        simp only [Option.some.injEq, Prod.mk.injEq] at c1
        obtain ⟨rfl, rfl, rfl⟩ := c1
        have hlo : olds.length = len * esz := by rw [← c2.length]; exact c3
        have hfo : ∀ w' : World, w'.heap = w.heap → (Builtin.firstCells esz len (.slice (some ⟨rb, off, none⟩) len cap')).run P w' = .ok ⟨os⟩ w' := by
          intro w' hw'
          refine run_firstCells_some (P := P) w' esz len ⟨rb, off, none⟩ len cap' os c3 (fun j u hu => ?_)
          rw [add_eq]
          have hj : j < os.length := (List.getElem?_eq_some_iff.1 hu).1
          have hoff' : off = δ + o := by
            rcases hoff with h5 | h5
            · exact h5
            · have h6 : len = 0 := h5.1
              rw [h6, Nat.zero_mul] at c3; omega
          subst hoff'
          have := c4 j u hu
          unfold World.cell? at this ⊢
          rw [hw']; exact this
        split at h
        · -- the capacity is known: it grows
          have hcc := hex rfl
          rw [gB_iff] at h; obtain ⟨gov, h⟩ := h
          have hover : cap < len + n := by simp [Nat.blt] at gov; omega
          exact grow_sound hH hu hx hd hs hb hz hzc' hn (by omega) g1' g2' hf hfo rx c2 hlx' hlo hse h
        · rw [gB_iff] at h; obtain ⟨g4, h⟩ := h
          simp only [Bool.and_eq_true] at g4
          obtain ⟨⟨⟨g5, g6⟩, g7⟩, g8⟩ := g4
          have g6' : e = e' := by simpa using g6
          have g7' : frz ≤ o + len * esz := by simpa using g7
          subst g6'
          subst g5
          rw [T.seq_eq, fNat_eq, fNat_eq, AS.upd_eq, AS.new_eq, fNat_eq] at h
          simp only [Option.some.injEq] at h
          -- the old name dies
          have hm := hH.mine b _ _ hblk rfl hp
          have hH1 : HR known base w0 π (σ.put b .dead) w := hH.turn hblk rfl hp (fun h => by cases h) trivial (fun _ _ => rfl) rfl hH.below
          have hno : ∀ c C q, (σ.put b .dead).get c = some C → C.live = true → π c = some q → q.1 ≠ rb := by
            intro c' C q hc lc hq e1
            by_cases e2 : c' = b
            · subst e2; rw [AS.get_put] at hc; cases hc; cases lc
            · rw [AS.get_put_ne _ _ e2] at hc
              exact e2 (hH.inj b c' _ C _ q hblk hc rfl lc hp hq e1.symm).symm
          by_cases hroom : len + n ≤ cap'
          · -- it fits
            subst h
            obtain ⟨rb', δ', rs', cs, fr, d1, ⟨el, d2, d2e⟩, d3, d4, d5, d6, d7, d8⟩ := hH.blk b _ hblk
            rw [d2e rfl] at d2
            rw [hp] at d1
            simp only [Option.some.injEq, Prod.mk.injEq] at d1
            obtain ⟨rfl, rfl, rfl⟩ := d1
            have hrb : rb < w.heap.size := hH.bnd b _ hp
            have hone := allOne_one g8 rx
            -- where it lies
            have hoff' : off = δ + o ∨ vs = [] := by
              rcases hoff with h5 | h5
              · exact .inl h5
              · refine .inr (List.eq_nil_of_length_eq_zero ?_)
                have h6 : n = 0 := by omega
                rw [lvx, hlx', h6, Nat.zero_mul]
            have hmul : (len + n) * esz ≤ cap' * esz := Nat.mul_le_mul_right _ hroom
            have hthere : ∀ j, j < vs.length → (w.cell? ⟨rb, off + len * esz + 0 + j, none⟩).isSome = true ∧ w.frozen? ⟨rb, off + len * esz + 0 + j, none⟩ = false := by
              intro j hj
              have hoff2 : off = δ + o := hoff'.resolve_right (fun e => by subst e; simp at hj)
              have hlt : off + len * esz + j < cs.size := by
                rw [d3]
                have : (len + n) * esz = len * esz + n * esz := Nat.add_mul _ _ _
                omega
              refine ⟨by simp [World.cell?, d2, hlt], ?_⟩
              cases hfz : w.frozen? ⟨rb, off + len * esz + 0 + j, none⟩ with
              | false => rfl
              | true =>
                simp only [World.frozen?, d2] at hfz
                obtain ⟨lo, hi⟩ := fr
                simp at hfz
                have := d6 rfl (off + len * esz + j) (by omega) hfz.1 hfz.2
                omega
            have hst := run_storeCells_cells (P := P) rb (off + len * esz) vs 0 w (fun j hj => (hthere j hj).1) (fun j hj => (hthere j hj).2) hone
            have hr := append_room (ty := ty) (ba := some ⟨rb, off, none⟩) (w1 := w.setCells rb (off + len * esz) vs) hu hx hd hs hn hroom (hf w rfl) (by
              simp only [add_eq]; rw [hst]; simp)
            obtain ⟨cs', a1, a2, a3⟩ := setCells_heap rb vs (off + len * esz) w cs e fr d2
            have hH2 : HR known base w0 π (σ.put b .dead) (w.setCells rb (off + len * esz) vs) :=
              hH.turn hblk rfl hp (fun h => by cases h) trivial (fun k hk => setCells_other rb vs _ w k hk) (setCells_size rb vs _ w) (setCells_below rb hm vs _ w hH.below)
            have hall := c2.append rx
            have hH3 := hH2.share (.cells (lay (olds ++ xs) 0 .nil) ((len + n) * esz) e (frz - o) true (wh.share o)) (rb, δ + o, rs) (by rw [setCells_size]; exact hrb) hm hno
              ⟨rb, δ + o, rs, cs', fr, Pi.add_same _ _ _, ⟨_, a1, fun _ => rfl⟩, by omega, by
                rcases hoff' with h5 | h5
                · have : (len + n) * esz = len * esz + n * esz := Nat.add_mul _ _ _; omega
                · subst h5
                  simp at lvx
                  have : (len + n) * esz = len * esz + n * esz := Nat.add_mul _ _ _
                  omega, fun i hi => by
                have hle := hH2.le_add (rb, δ + o, rs)
                have hlt : i < (olds ++ xs).length := by rw [List.length_append, hlo, hlx', ← Nat.add_mul]; exact hi
                obtain ⟨x, hx'⟩ : ∃ x, (olds ++ xs)[i]? = some x := ⟨(olds ++ xs)[i], List.getElem?_eq_getElem hlt⟩
                obtain ⟨v, hv, hrv⟩ := hall.get i x hx'
                refine ⟨x, v, by rw [get_lay, if_pos ⟨by omega, by omega⟩]; simpa using hx', ?_, VR.mono hle _ _ hrv⟩
                rw [a3]
                by_cases hio : i < len * esz
                · rw [List.getElem?_append_left (by omega)] at hv
                  have := c4 i v hv
                  simp only [World.cell?, d2] at this
                  have hcs : cs[δ + o + i]? = some v := by simpa using this
                  rw [if_neg]
                  · exact hcs
                  · rcases hoff' with h5 | h5
                    · omega
                    · subst h5; simp; omega
                · rw [List.getElem?_append_right (by omega)] at hv
                  have hlt2 : i - os.length < vs.length := (List.getElem?_eq_some_iff.1 hv).1
                  have h5 : off = δ + o := hoff'.resolve_right (fun e => by subst e; simp at hlt2)
                  have : (len + n) * esz = len * esz + n * esz := Nat.add_mul _ _ _
                  rw [if_pos ⟨by omega, by omega, by omega⟩]
                  rw [show δ + o + i - (off + len * esz) = i - os.length by omega]
                  exact hv, fun _ o' ho' h1 h2 => by have := d6 rfl o' ho' h1 h2; omega, fun h => absurd h (share_ne wh o), fun _ hk => (by
                obtain ⟨o0, hn⟩ := share_near hk
                obtain ⟨e1, e2⟩ := d8 rfl hn
                subst o0
                exact ⟨by omega, e2.imp id (fun h9 => by omega)⟩)⟩
            refine ⟨_, _, _, hse _ _ hr, .inl ⟨_, rfl, ?_⟩, hH2.le_add _, hH3⟩
            simp only [VR]
            refine ⟨rb, δ + o, rs, off, cap', Pi.add_same _ _ _, rfl, ?_, by omega, (fun h => by cases h), hrs⟩
            rcases hoff with h5 | h5
            · exact .inl (by omega)
            · exact .inr (by omega)
          · -- it grows
            subst h
            obtain ⟨cap2, zv, e1, e2, e3⟩ := append_grow (ty := ty) (π := π) (w := w) hu hx hd hs hb hz hn (ba := some ⟨rb, off, none⟩) (sLen := len) (sCap := cap') (by omega) g1' g2' hf hfo
            have hzv := cells_size e2
            have hall := c2.append rx
            have hlall : (olds ++ xs).length = (len + n) * esz := by rw [List.length_append, hlo, hlx', ← Nat.add_mul]
            have hrow := hH1.drew.row e hall (Builtin.zeroCells zv.cells (cap2 - (len + n))).toList (wh.share o) (fun h => absurd h (share_ne wh o)) (frz - o)
            rw [hlall] at hrow
            refine ⟨_, _, _, hse _ _ e3, .inl ⟨_, rfl, ?_⟩, hH1.le_add _, hrow⟩
            · simp only [VR]
              refine ⟨_, _, _, 0, cap2, Pi.add_same _ _ _, rfl, .inl rfl, e1, (fun h => by cases h), ?_⟩
              have l3 : (Builtin.zeroCells zv.cells (cap2 - (len + n))).toList.length = (cap2 - (len + n)) * esz := by simp [Builtin.zeroCells, hzv, hzc']
              have l4 := hall.length
              rw [l4, hlall, l3]
              have : (len + n) * esz + (cap2 - (len + n)) * esz = cap2 * esz := by rw [← Nat.add_mul]; congr 1; omega
              omega
      · cases h
  | _ => cases h
end Go.Proofs.YtjagjjdkgidkjaaGreatDoor.Ev
set_option linter.all false
namespace Go.Proofs.YtjagjjdkgidkjaaGreatDoor.Ev
open Go Go.RowKit

variable {P : Program} {known : Nat → Bool} {base : Nat} {w0 : World} {π : Pi} {σ : AS} {w : World} {ρ : Rho}

theorem copy_sound (hH : HR known base w0 π σ w) {dt st ty e : TypeId} {size n m : Nat} {r : AR} {s : Sem Next} (hu : P.underlying dt = some (.slice e))
    (hs : sizeOfT P e = some size) {b o dn dc esz : Nat} {ex : Bool} {sa : AV} {dv sv : Value} (hdv : VR π (.slice b o dn dc esz ex) dv) (hsv : VR π sa sv) (hl : lenOfA sa = some m) {xs : List AV} (hn : n = min m dn) (he : elems σ size sa n = some xs)
    (hse : ∀ v w', (Builtin.copy_ #[dt, st] ty #[dv, sv]).run P w = .ok v w' → s.run P w = .ok (.value v) w')
    {σ' : AS} (hw : xs = [] ∧ σ' = σ ∨ (0 < dn ∧ writeL σ b o xs = some σ')) (hr : r = .val (.int .i64 (.ofNat n)) σ') : LoudR P known base w0 π σ w s r := by
  subst hr
  have hln := lenOf_run (P := P) hl hsv
  obtain ⟨vs, hf, rx⟩ := elems_run (P := P) hH he hl (by omega) hsv
  have hfw := hf w rfl
  simp only [VR] at hdv
  obtain ⟨rb, δ, rs, off, cap', hp, rfl, hoff, hcap, hex, hrs⟩ := hdv
  have run : ∀ w1, (storeCells ⟨rb, off, none⟩ vs).run P w = .ok () w1 → (Builtin.copy_ #[dt, st] ty #[.slice (some ⟨rb, off, none⟩) dn cap', sv]).run P w = .ok (goInt n) w1 := by
    intro w1 h1
    have hmin : Nat.min m dn = n := hn.symm
    simp [Builtin.copy_, run_underlying hu, hln, sizeOfT_run hs, hmin, hfw, h1]
  rcases hw with ⟨rfl, rfl⟩ | ⟨hdn, hw⟩
  · simp only [VRL] at rx
    subst rx
    exact ⟨π, w, _, hse _ _ (run w (by simp [storeCells])), .inl ⟨_, rfl, by simp [VR, goInt]⟩, Pi.le_refl π, hH⟩
  · obtain ⟨rb', δ', rs', h1, h2, h3, h4⟩ := hH.write hw rx
    rw [hp] at h1
    simp only [Option.some.injEq, Prod.mk.injEq] at h1
    obtain ⟨rfl, rfl, rfl⟩ := h1
    have hoff' : off = δ + o := by
      rcases hoff with h5 | h5
      · exact h5
      · omega
    subst hoff'
    have hst := run_storeCells_cells (P := P) rb (δ + o) vs 0 w (fun j hj => by simpa using (h2 j hj).1) (fun j hj => by simpa using (h2 j hj).2) h3
    simp only [Nat.add_zero] at hst
    exact ⟨π, _, _, hse _ _ (run _ hst), .inl ⟨_, rfl, by simp [VR, goInt]⟩, Pi.le_refl π, h4⟩

/-! ### bytes -/
theorem byteL_rel : ∀ {xs : List AV} {l : List Nat} {vs : List Value}, byteL xs = some l → VRL π xs vs → ∃ q : List UInt8, l = q.map UInt8.toNat ∧ vs = q.map fun b => Value.int .u8 b.toNat
  | [], l, vs, h, hv => by
    simp only [byteL, Option.some.injEq] at h
    simp only [VRL] at hv
    subst h; subst hv
    exact ⟨[], rfl, rfl⟩
  | x :: xs, l, vs, h, hv => by
    simp only [VRL] at hv
    obtain ⟨v, t, rfl, h1, h2⟩ := hv
    simp only [byteL] at h
    rw [oB_iff] at h; obtain ⟨b, hb, h⟩ := h
    rw [oB_iff] at h; obtain ⟨l2, hl2, h⟩ := h
    simp only [Option.some.injEq] at h
    obtain ⟨q, rfl, rfl⟩ := byteL_rel hl2 h2
    unfold byte1 at hb
    split at hb
    · rename_i c
      obtain ⟨g, hb⟩ := gB_some hb
      have g' : c ≤ 255 := by simpa using g
      simp only [Option.some.injEq] at hb
      subst hb
      have := h1.int
      subst this
      have hbt : (UInt8.ofNat c).toNat = c := by simp; omega
      exact ⟨UInt8.ofNat c :: q, by rw [← h, List.map_cons, hbt], by rw [List.map_cons, hbt]; rfl⟩
    · cases hb
theorem liesAt_one {e : TypeId} (hc : P.cellsOf e = 1) (count off n : Nat) (hn : off + n ≤ count) : liesAt P P.depth e count off e n = true := by
  have hd : P.depth = (2 * (P.types.size + Made.depth) + 1) + 1 := rfl
  rw [hd]
  simp only [liesAt, Bool.or_eq_true]
  left
  rw [hd]
  simp [rowAt, hc, hn, sameLayout, Nat.mod_one]
theorem cellsOf_eq {t : TypeId} {n : Nat} (h : sizeOfT P t = some n) : P.cellsOf t = n := by
  unfold sizeOfT at h
  simp [Program.cellsOf, h]
theorem freeze_heap {rb off n : Nat} {cs : Array Value} {e : TypeId} {lo hi : Nat} (h : w.heap[rb]? = some (.cells cs e (lo, hi))) (hn : n ≠ 0) :
    (w.freeze ⟨rb, off, none⟩ n).heap[rb]? = some (.cells cs e (if lo == hi then (off, off + n) else (min lo off, max hi (off + n)))) ∧ (∀ k, k ≠ rb → (w.freeze ⟨rb, off, none⟩ n).heap[k]? = w.heap[k]?) ∧
      (w.freeze ⟨rb, off, none⟩ n).heap.size = w.heap.size := by
  unfold World.freeze
  rw [if_neg hn]
  refine ⟨by simp [Array.getElem?_modify, h], fun k hk => by simp [Array.getElem?_modify, Ne.symm hk], by simp⟩
theorem unsafeStr_sound (hH : HR known base w0 π σ w) {pt it ty : TypeId} {n : Nat} {p : AV} {pv : Value} {r : AR} {s : Sem Next} (hp : VR π p pv) (hmax : n ≤ 9223372036854775807)
    (hse : ∀ v w', (Builtin.unsafeString_ #[pt, it] ty #[pv, .int .i64 n]).run P w = .ok v w' → s.run P w = .ok (.value v) w')
    (h : unsafeStr P σ pt p n = some r) : LoudR P known base w0 π σ w s r := by
  unfold unsafeStr at h
  cases n with
  | zero =>
    dsimp only at h
    have fin : ∀ a, pv = .pointer a → LoudR P known base w0 π σ w s (.val (.str []) σ) := by
      intro a ha
      subst ha
      exact ⟨π, w, .value (.string .empty), hse _ _ (Lib.run_unsafeString_none (P := P) (w := w) pt it ty a), .inl ⟨_, rfl, by simp only [VR]; exact ⟨_, rfl, rfl⟩⟩, Pi.le_refl π, hH⟩
    split at h
    · simp only [Option.some.injEq] at h; subst h
      simp only [VR] at hp; exact fin none hp
    · simp only [Option.some.injEq] at h; subst h
      simp only [VR] at hp; obtain ⟨_, _, _, _, hp⟩ := hp; exact fin _ hp
    · cases h
  | succ n =>
    dsimp only at h
    cases p <;> try (cases h; done)
    rename_i b o
    cases hpt : P.underlying pt with
    | none => rw [hpt] at h; cases h
    | some dpt =>
      rw [hpt] at h
      cases dpt <;> try (cases h; done)
      rename_i u
      dsimp only at h
      cases hb : σ.get b with
      | none => rw [hb] at h; cases h
      | some B =>
        rw [hb] at h
        cases B <;> try (cases h; done)
        rename_i c bs e frz own wh
        cases own <;> try (cases h; done)
        dsimp only at h
        rw [gB_iff] at h; obtain ⟨g0, h⟩ := h
        rw [gB_iff] at h; obtain ⟨g1, h⟩ := h
        rw [gB_iff] at h; obtain ⟨g2, h⟩ := h
        rw [oB_iff] at h; obtain ⟨sz, hsz, h⟩ := h
        rw [gB_iff] at h; obtain ⟨g3, h⟩ := h
        rw [oB_iff] at h; obtain ⟨xs, hxs, h⟩ := h
        rw [oB_iff] at h; obtain ⟨l, hl, h⟩ := h
        rw [fNats_eq, fNat_eq, AS.upd_eq] at h
        simp only [Option.some.injEq] at h
        subst h
        simp only [Bool.and_eq_true, Nat.beq_eq] at g0
        obtain ⟨g0, rfl⟩ := g0
        have g1' : e = u := by simpa using g1
        subst g1'
        have g2' : 0 + (n + 1) ≤ bs := by simpa using g2
        have g3' : sz = 1 := by simpa using g3
        subst g3'
        have hc1 := cellsOf_eq hsz
        simp only [VR] at hp
        obtain ⟨rb, δ, rs, hp, rfl⟩ := hp
        obtain ⟨rb', δ', rs', vs, h1, h2, h3, h4, h5⟩ := hH.cells hb hxs g2'
        rw [hp] at h1
        simp only [Option.some.injEq, Prod.mk.injEq] at h1
        obtain ⟨rfl, rfl, rfl⟩ := h1
        obtain ⟨q, rfl, rfl⟩ := byteL_rel hl h2
        have hq : q.length = n + 1 := by simpa using h3
        obtain ⟨rb', δ', rs', cs, ⟨lo, hi⟩, d1, ⟨el, d2, d2e⟩, d3, d4, d5, d6, d7, d8⟩ := hH.blk b _ hb
        rw [d2e rfl] at d2
        rw [hp] at d1
        simp only [Option.some.injEq, Prod.mk.injEq] at d1
        obtain ⟨rfl, rfl, rfl⟩ := d1
        obtain ⟨hδ, hfr⟩ := d8 rfl g0
        subst hδ
        have hm := hH.mine b _ _ hb rfl hp
        obtain ⟨f1, f2, f3⟩ := freeze_heap (off := 0) (n := n + 1) d2 (by omega)
        have hsh : w.shape? rb = some (e, rs) := by simp [World.shape?, d2, d3]
        have hrun := Lib.run_unsafeString_row (P := P) (w := w) pt it ty e hpt hc1 rb rs hsh q (by intro h0; rw [h0] at hq; simp at hq) (by omega) (by omega) (fun j x hx => by
          rw [add_eq]
          have := h4 j (.int .u8 x.toNat) (by rw [List.getElem?_map, hx]; rfl)
          simpa using this)
        rw [hq] at hrun
        refine ⟨π, w.freeze ⟨rb, 0, none⟩ (n + 1), .value (.string ⟨q.toArray⟩), hse _ _ hrun, .inl ⟨_, rfl, by simp only [VR]; exact ⟨_, rfl, by simp [bytesOf]⟩⟩, Pi.le_refl π,
          hH.turn hb rfl hp (fun _ => rfl) ⟨rb, 0, rs, cs, _, hp, ⟨_, f1, fun _ => rfl⟩, d3, d4, d5, ?_, d7, ?_⟩ f2 f3 (Lib.below_freeze hH.below hm _)⟩
        · intro _ o' ho' h1 h2
          by_cases hlh : (lo == hi) = true
          · rw [if_pos hlh] at h1 h2; dsimp only at h1 h2
            omega
          · rw [if_neg hlh] at h1 h2; dsimp only at h1 h2
            have hne : lo ≠ hi := fun e => hlh (by simp [e])
            rcases hfr with h8 | h8
            · exact absurd h8 hne
            · dsimp only at h8
              omega
        · intro _ _
          refine ⟨rfl, ?_⟩
          by_cases hlh : (lo == hi) = true
          · rw [if_pos hlh]
            right; dsimp only; omega
          · rw [if_neg hlh]
            have hne : lo ≠ hi := fun e => hlh (by simp [e])
            rcases hfr with h8 | h8
            · exact absurd h8 hne
            · dsimp only at h8
              right
              dsimp only at h8 ⊢
              omega
end Go.Proofs.YtjagjjdkgidkjaaGreatDoor.Ev
set_option linter.all false
namespace Go.Proofs.YtjagjjdkgidkjaaGreatDoor.Ev
open Go Go.RowKit

variable {P : Program} {known : Nat → Bool} {base : Nat} {w0 : World} {π : Pi} {σ : AS} {w : World} {ρ : Rho}

/-- The same abstract heap in another world. -/
theorem HR.world (h : HR known base w0 π σ w) {w' : World} (hB : ∀ b B, σ.get b = some B → BR π b B w → BR π b B w') (hs : w'.heap.size = w.heap.size) (hbel : Below base w0 w') : HR known base w0 π σ w' :=
  ⟨fun b B hb => hB b B hb (h.blk b B hb), h.inj, h.fresh, fun b p hp => by rw [hs]; exact h.bnd b p hp, h.mine, by rw [hs]; exact h.low, hbel, h.glob⟩

theorem grown_ge (w : World) (n cap : Nat) (e : TypeId) : n ≤ grownCap w n cap e := by
  simp only [grownCap, Question.cut]; omega
theorem bytesW_below (hb : base ≤ w.heap.size) (h : Below base w0 w) (e : TypeId) (s : ByteArray) : Below base w0 (Lib.bytesWorld w e s) := by
  unfold Lib.bytesWorld
  exact Lib.below_freeze (h.drew.alloc (by simpa using hb) _) hb 1

theorem bytesOf_cells (s : ByteArray) : VRL π ((bytesOf s).map fun b => AV.int .u8 (.ofNat b)) (s.data.toList.map fun b => Value.int .u8 b.toNat) := by
  unfold bytesOf
  induction s.data.toList with
  | nil => simp [VRL]
  | cons b l ih => simp only [List.map_cons, VRL]; exact ⟨_, _, rfl, by simp [VR], ih⟩

theorem stringBytes_sound (hH : HR known base w0 π σ w) {sx d e : TypeId} {l : List Nat} {xv : Value} {r : AR} {s : Sem Next} (hs : P.underlying sx = some .string) (hd : P.underlying d = some (.slice e)) (he : P.underlying e = some (.int .u8))
    (hx : VR π (.str l) xv) (hse : ∀ v w', (convert sx d xv).run P w = .ok v w' → s.run P w = .ok (.value v) w')
    (h : (fNat l.length fun n => σ.row e (l.map fun b => .int .u8 (.ofNat b)) .wild fun b σ => some (AR.val (.slice b 0 n n 1 false) σ)) = some r) : LoudR P known base w0 π σ w s r := by
  rw [fNat_eq, AS.row_eq] at h
  simp only [Option.some.injEq] at h
  subst h
  simp only [VR] at hx
  obtain ⟨s', rfl, rfl⟩ := hx
  have hrun := hse _ _ (Lib.run_convert_string_bytes w sx d e s' hs hd he)
  have hrow := hH.drew.row e (bytesOf_cells s') (List.replicate (grownCap w s'.size 0 e - s'.size) (.int .u8 0)) .wild (fun h => by cases h)
  have hcs : (List.map (fun b => Value.int IntKind.u8 ↑b.toNat) s'.data.toList ++ List.replicate (grownCap w s'.size 0 e - s'.size) (Value.int .u8 0)).toArray = Lib.bytesCells w e s' := by
    apply Array.ext'; simp [Lib.bytesCells]
  rw [hcs] at hrow
  have hge := grown_ge w s'.size 0 e
  have hsz : (Lib.bytesCells w e s').size = grownCap w s'.size 0 e := by
    have : s'.data.size = s'.size := rfl
    simp [Lib.bytesCells, this]; omega
  refine ⟨_, _, _, hrun, .inl ⟨_, rfl, ?_⟩, hH.le_add (w.heap.size, 0, _), hrow.world (fun b B hb hB => ?_) ?_ ?_⟩
  · simp only [VR, bytesOf_length]
    refine ⟨_, _, _, 0, _, Pi.add_same _ _ _, rfl, .inl rfl, hge, (fun h => by cases h), ?_⟩
    simp [List.length_map]
    have : s'.data.size = s'.size := rfl
    omega
  · by_cases e1 : b = σ.next
    · subst e1
      rw [AS.get_push] at hb; cases hb
      obtain ⟨rb, δ, rs, cs, fr, h1, ⟨el, h2, h2e⟩, h3, h4, h5, h6, h7, h8⟩ := hB
      rw [h2e rfl] at h2
      rw [Pi.add_same] at h1
      simp only [Option.some.injEq, Prod.mk.injEq] at h1
      obtain ⟨rfl, rfl, rfl⟩ := h1
      have hcs2 : cs = Lib.bytesCells w e s' := by
        have : (w.drew.alloc (.cells (Lib.bytesCells w e s') e)).heap[w.heap.size]? = some (.cells (Lib.bytesCells w e s') e (0, 0)) := by
          simp [World.alloc, World.drew, -World.alloc_eq, -World.drew_eq]
        have h2' : (w.drew.alloc (.cells (Lib.bytesCells w e s') e)).heap[w.heap.size]? = some (.cells cs e fr) := h2
        rw [this] at h2'
        simp only [Option.some.injEq, Obj.cells.injEq] at h2'
        exact h2'.1.symm
      subst hcs2
      exact ⟨w.heap.size, 0, _, Lib.bytesCells w e s', _, Pi.add_same _ _ _, ⟨_, Lib.bytesWorld_at_new w e s', fun _ => rfl⟩, h3, h4, h5, fun _ o ho h1 _ => (by dsimp only at h1; omega), fun h => (by cases h), fun _ h => (by cases h)⟩
    · refine BR.mono (Pi.le_refl _) (fun p hp => ?_) hB
      rw [Pi.add_ne _ _ e1] at hp
      have hlt := hH.bnd b p hp
      rw [Lib.bytesWorld_at_old w e s' _ hlt]
      exact (Below.heap_alloc w.drew _ _ (show p.1 < w.drew.heap.size from hlt)).symm
  · rw [Lib.bytesWorld_size]
    show _ = (w.heap.push _).size
    simp
  · exact bytesW_below hH.low hH.below e s'

theorem foldl_push (q : List UInt8) : ∀ acc : ByteArray, ((q.map fun b => Value.int .u8 b.toNat).map fun v => v).length = q.length → (q.map fun b : UInt8 => (b.toNat : Int)).foldl (fun r n => r.push (UInt8.ofNat n.toNat)) acc = ⟨(acc.data.toList ++ q).toArray⟩ := by
  induction q with
  | nil => intro acc _; simp
  | cons b q ih =>
    intro acc _
    simp only [List.map_cons, List.foldl_cons]
    rw [ih _ (by simp)]
    simp [ByteArray.push]

theorem byteConv_sound (hH : HR known base w0 π σ w) {sx d : TypeId} {x : AV} {xv : Value} {r : AR} {s : Sem Next} (hx : VR π x xv)
    (hse : ∀ v w', (convert sx d xv).run P w = .ok v w' → s.run P w = .ok (.value v) w') (h : byteConv P σ sx d x = some r) : LoudR P known base w0 π σ w s r := by
  unfold byteConv at h
  split at h
  · -- bytes to bytes: the row is marked
    rename_i e0 e b o n c z ex hs hd
    cases hsd : Nat.beq sx d with
    | false => rw [hsd] at h; cases h
    | true =>
    rw [hsd] at h
    cases he : P.underlying e with
    | none => rw [he] at h; cases h
    | some de =>
    rw [he] at h
    cases de <;> try (cases h; done)
    rename_i k
    cases k <;> try (cases h; done)
    split at h
    · rename_i cs bs el _ _ hb
      rw [AS.upd_eq] at h
      simp only [Option.some.injEq] at h
      subst h
      have hsd' : sx = d := Nat.eq_of_beq_eq_true hsd
      subst hsd'
      obtain rfl : e0 = e := by
        rw [hs] at hd
        simpa using hd
      have hx' := hx
      simp only [VR] at hx'
      obtain ⟨rb, δ, rs, off, cap', hp, rfl, _⟩ := hx'
      obtain ⟨rb', δ', rs', cv, fr, d1, ⟨el', d2, d2e⟩, d3, d4, d5, d6, d7, d8⟩ := hH.blk b _ hb
      rw [d2e rfl] at d2
      rw [hp] at d1
      simp only [Option.some.injEq, Prod.mk.injEq] at d1
      obtain ⟨rfl, rfl, rfl⟩ := d1
      obtain ⟨rfl, rfl⟩ := d7 rfl
      have hfr : fr.1 = fr.2 := by
        rcases (d8 rfl rfl).2 with h8 | h8
        · exact h8
        · omega
      have hm := hH.mine b _ _ hb rfl hp
      have hsh : w.shape? rb = some (el, cv.size) := by simp [World.shape?, d2]
      obtain ⟨lo, hi⟩ := fr
      dsimp only at hfr
      subst hfr
      have hlt : rb < w.heap.size := hH.bnd b _ hp
      have f1 : (w.freeze ⟨rb, cv.size, none⟩ 1).heap[rb]? = some (.cells cv el (cv.size, cv.size + 1)) := by
        unfold World.freeze
        rw [if_neg (by decide)]
        show (w.heap.modify rb _)[rb]? = _
        rw [Array.getElem?_modify, if_pos rfl, d2]
        simp
      have f2 : ∀ k, k ≠ rb → (w.freeze ⟨rb, cv.size, none⟩ 1).heap[k]? = w.heap[k]? := by
        intro k hk
        unfold World.freeze
        rw [if_neg (by decide)]
        show (w.heap.modify rb _)[k]? = _
        rw [Array.getElem?_modify, if_neg (Ne.symm hk)]
      have f3 : (w.freeze ⟨rb, cv.size, none⟩ 1).heap.size = w.heap.size := by
        unfold World.freeze
        rw [if_neg (by decide)]
        show (w.heap.modify rb _).size = _
        simp
      have hrun : (convert sx sx (.slice (some ⟨rb, off, none⟩) n cap')).run P w = .ok (.slice (some ⟨rb, off, none⟩) n cap') (w.freeze ⟨rb, cv.size, none⟩ 1) := by
        simp [convert, run_underlying hs, run_underlying hd, run_underlying he, markStringish, shape, freeze, Sem.run, hsh]
      refine ⟨π, w.freeze ⟨rb, cv.size, none⟩ 1, _, hse _ _ hrun, .inl ⟨_, rfl, hx⟩, Pi.le_refl π,
        hH.turn hb rfl hp (fun _ => rfl) ⟨rb, 0, bs, cv, _, hp, ⟨_, f1, fun _ => rfl⟩, d3, d4, d5, ?_, fun h => (by cases h), fun _ h => (by cases h)⟩ f2 f3 (Lib.below_freeze hH.below hm _)⟩
      intro _ o' ho' h1 h2
      dsimp only at h1 h2
      omega
    · cases h
  · -- a string to bytes
    rename_i e l hs hd
    cases he : P.underlying e with
    | none => rw [he] at h; cases h
    | some de =>
      rw [he] at h
      cases de <;> try (cases h; done)
      rename_i k
      cases k <;> try (cases h; done)
      exact stringBytes_sound hH hs hd he hx hse h
  · -- no bytes to a string
    rename_i e hs hd
    cases he : P.underlying e with
    | none => rw [he] at h; cases h
    | some de =>
      rw [he] at h
      cases de <;> try (cases h; done)
      rename_i k
      cases k <;> try (cases h; done)
      simp only [Option.some.injEq] at h
      subst h
      simp only [VR] at hx
      subst hx
      refine ⟨π, w, _, hse (.string .empty) w ?_, .inl ⟨_, rfl, by simp only [VR]; exact ⟨_, rfl, rfl⟩⟩, Pi.le_refl π, hH⟩
      rw [run_convert_bytes_string w sx d e none 0 0 hs he hd]
      simp [Conv.bytesToString]
  · -- bytes to a string
    rename_i e b o n cap esz ex hs hd
    cases he : P.underlying e with
    | none => rw [he] at h; cases h
    | some de =>
      rw [he] at h
      cases de <;> try (cases h; done)
      rename_i k
      cases k <;> try (cases h; done)
      dsimp only at h
      cases hb : σ.get b with
      | none => rw [hb] at h; cases h
      | some B =>
        rw [hb] at h
        cases B <;> try (cases h; done)
        rename_i c bs e' frz own kd
        dsimp only at h
        rw [gB_iff] at h; obtain ⟨g2, h⟩ := h
        rw [oB_iff] at h; obtain ⟨xs, hxs, h⟩ := h
        rw [oB_iff] at h; obtain ⟨l, hl, h⟩ := h
        rw [fNats_eq] at h
        simp only [Option.some.injEq] at h
        subst h
        have g2' : o + n ≤ bs := by simpa using g2
        simp only [VR] at hx
        obtain ⟨rb, δ, rs, off, cap', hp, rfl, hoff, hcap, hex, hrs⟩ := hx
        obtain ⟨rb', δ', rs', vs, h1, h2, h3, h4, h5⟩ := hH.cells hb hxs g2'
        rw [hp] at h1
        simp only [Option.some.injEq, Prod.mk.injEq] at h1
        obtain ⟨rfl, rfl, rfl⟩ := h1
        obtain ⟨q, rfl, rfl⟩ := byteL_rel hl h2
        have hq : q.length = n := by simpa using h3
        refine ⟨π, w, _, hse (.string ⟨q.toArray⟩) w ?_, .inl ⟨_, rfl, by simp only [VR]; exact ⟨_, rfl, by simp [bytesOf]⟩⟩, Pi.le_refl π, hH⟩
        rw [run_convert_bytes_string w sx d e _ _ _ hs he hd]
        have hload : (loadCells ⟨rb, off, none⟩ n).run P w = .ok ((q.map fun b : UInt8 => (b.toNat : Int)).map (Value.int .u8)).toArray w := by
          have := run_loadCells_list (P := P) (w := w) ⟨rb, off, none⟩ (q.map fun b => Value.int .u8 b.toNat) (fun j v hv => by
            rw [add_eq]
            have hj := (List.getElem?_eq_some_iff.1 hv).1
            have : off = δ + o := by
              rcases hoff with h6 | h6
              · exact h6
              · rw [h3] at hj; omega
            subst this
            exact h4 j v hv)
          rw [h3] at this
          rw [this]
          simp [Function.comp]
        rw [run_bytesToString w _ n cap' _ hload, foldl_push q _ (by simp)]
        simp
  · -- a pointer, its type dropped
    rename_i t b o hs hd
    cases hb : σ.get b with
    | none => rw [hb] at h; cases h
    | some B =>
      rw [hb] at h
      cases B <;> try (cases h; done)
      rename_i c bs e frz own kd
      cases hsz : sizeOfT P t with
      | none => rw [hsz] at h; cases h
      | some sz =>
        rw [hsz] at h
        cases sz <;> try (cases h; done)
        rename_i sz
        dsimp only at h
        cases hlt : Nat.blt o bs with
        | false => rw [hlt] at h; cases h
        | true =>
          rw [hlt] at h
          simp only [Option.some.injEq] at h
          subst h
          have hlt' : o < bs := by simp [Nat.blt] at hlt; omega
          have hx2 := hx
          simp only [VR] at hx
          obtain ⟨rb, δ, rs, hp, rfl⟩ := hx
          obtain ⟨rb', δ', rs', cs, fr, d1, ⟨el, d2, _⟩, d3, d4, _⟩ := hH.blk b _ hb
          rw [hp] at d1
          simp only [Option.some.injEq, Prod.mk.injEq] at d1
          obtain ⟨rfl, rfl, rfl⟩ := d1
          have hsh : w.shape? rb = some (el, rs) := by simp [World.shape?, d2, d3]
          have hnot : ¬ rs ≤ δ + o := by omega
          refine ⟨π, w, _, hse (.pointer (some ⟨rb, δ + o, none⟩)) w ?_, .inl ⟨_, rfl, hx2⟩, Pi.le_refl π, hH⟩
          simp [convert, run_underlying hs, run_underlying hd, Conv.unsafePointer, Conv.seenAt, viewAt, cellsIn, hsh, sizeOfT_run hsz, hnot]
  · -- a pointer, its type put back
    rename_i u b o hs hd
    cases hb : σ.get b with
    | none => rw [hb] at h; cases h
    | some B =>
      rw [hb] at h
      cases B <;> try (cases h; done)
      rename_i c bs e frz own kd
      cases own <;> try (cases h; done)
      cases kd <;> try (cases h; done)
      cases hsz : sizeOfT P u with
      | none => rw [hsz] at h; cases h
      | some sz =>
        rw [hsz] at h
        cases sz <;> try (cases h; done)
        rename_i sz
        dsimp only at h
        cases hlt : liesAt P P.depth e (bs / P.cellsOf e) o u 1 with
        | false => rw [hlt] at h; cases h
        | true =>
          rw [hlt] at h
          simp only [Option.some.injEq] at h
          subst h
          have hx2 := hx
          simp only [VR] at hx
          obtain ⟨rb, δ, rs, hp, rfl⟩ := hx
          obtain ⟨rb', δ', rs', cs, fr, d1, ⟨el, d2, d2e⟩, d3, d4, _, _, d7, _⟩ := hH.blk b _ hb
          rw [d2e rfl] at d2
          rw [hp] at d1
          simp only [Option.some.injEq, Prod.mk.injEq] at d1
          obtain ⟨rfl, rfl, rfl⟩ := d1
          obtain ⟨rfl, rfl⟩ := d7 rfl
          have hsh : w.shape? rb = some (e, bs) := by simp [World.shape?, d2, d3]
          rw [Nat.zero_add] at hse
          refine ⟨π, w, _, hse (.pointer (some ⟨rb, o, none⟩)) w ?_, .inl ⟨_, rfl, ?_⟩, Pi.le_refl π, hH⟩
          · simp [convert, run_underlying hs, run_underlying hd, Conv.unsafePointer, Conv.seenAt, viewAt, variablesAt, hsh, sizeOfT_run hsz, hlt]
          · simp only [VR]; exact ⟨_, _, _, hp, by simp⟩
  · -- the rest
    split at h
    · rename_i v hv
      simp only [Option.some.injEq] at h
      subst h
      obtain ⟨u, h1, h2⟩ := conv_gives (P := P) (w := w) hv hx
      exact ⟨π, w, _, hse _ _ h1, .inl ⟨_, rfl, h2⟩, Pi.le_refl π, hH⟩
    · cases h
end Go.Proofs.YtjagjjdkgidkjaaGreatDoor.Ev
set_option linter.all false
namespace Go.Proofs.YtjagjjdkgidkjaaGreatDoor.Ev
open Go Go.RowKit

variable {P : Program} {known : Nat → Bool} {base : Nat} {w0 : World} {π : Pi} {σ : AS} {w : World} {ρ : Rho}

theorem same_of_sameNow {d : TypeDesc} {k : AV} {vk ve : Value} (hd : (d = .string ∧ ∃ s, vk = .string s ∧ k = .str (bytesOf s)) ∨ (∃ j n, d = .int j ∧ vk = .int j n ∧ k = .int j n))
    {e : AV} (h : keyIs k e = some true) (he : VR π e ve) : ve = vk := by
  rcases hd with ⟨rfl, s, rfl, rfl⟩ | ⟨j, m, rfl, rfl, rfl⟩
  · unfold keyIs at h
    dsimp only at h
    split at h
    · simp only [Option.some.injEq] at h
      simp only [VR] at he
      obtain ⟨u, rfl, rfl⟩ := he
      rw [eqL_eq] at h
      have h2 : bytesOf s = bytesOf u := by simpa using h
      have := congrArg unbytes h2
      rw [bytes_back, bytes_back] at this
      rw [this]
    · cases h
  · unfold keyIs at h
    dsimp only at h
    split at h
    · obtain ⟨h1, h2⟩ := gB_some h
      obtain rfl := kindEq_true h1
      simp only [Option.some.injEq] at h2
      obtain rfl := he.int
      rw [eqF_eq] at h2
      simp only [decide_eq_true_eq, beq_iff_eq] at h2
      rw [h2]
    · cases h
theorem setAt_rel {d : TypeDesc} {k v : AV} {vk vv : Value} (hd : (d = .string ∧ ∃ s, vk = .string s ∧ k = .str (bytesOf s)) ∨ (∃ j n, d = .int j ∧ vk = .int j n ∧ k = .int j n)) (hv : VR π v vv) :
    ∀ {l : List (AV × AV × Nat)} {es : List MapEntry} {i m : Nat} {u : AV}, findA k l i = some (some (m, u)) → EL π l es →
      ∃ j x, m = i + j ∧ es[j]? = some x ∧ x.key = vk ∧ EL π (setAt l j v) (es.modify j fun e => { e with key := vk, val := vv })
  | [], es, i, m, u, h, he => by simp [findA] at h
  | (e, x, n) :: l, es, i, m, u, h, he => by
    simp only [EL] at he
    obtain ⟨y, t, rfl, hk, hx, hn, ht⟩ := he
    simp only [findA] at h
    rw [oB_iff] at h; obtain ⟨b, hb, h⟩ := h
    rw [bM_eq] at h
    split at h
    · rename_i hbt
      subst hbt
      simp only [Option.some.injEq, Prod.mk.injEq] at h
      have hs := same_of_sameNow hd hb hk
      refine ⟨0, y, by omega, rfl, hs, ?_⟩
      simp only [setAt, List.modify_zero_cons, EL]
      exact ⟨_, _, rfl, by rw [← hs]; exact hk, hv, hn, ht⟩
    · obtain ⟨j, z, h1, h2, h3, h4⟩ := setAt_rel hd hv h ht
      refine ⟨j + 1, z, by omega, by simpa using h2, h3, ?_⟩
      simp only [setAt, List.modify_succ_cons, EL]
      exact ⟨_, _, rfl, hk, hx, hn, h4⟩
theorem EL.append {l l' : List (AV × AV × Nat)} {es es' : List MapEntry} (h : EL π l es) (h' : EL π l' es') : EL π (l ++ l') (es ++ es') := by
  induction l generalizing es with
  | nil => simp only [EL] at h; subst h; exact h'
  | cons a l ih =>
    obtain ⟨k, v, n⟩ := a
    simp only [EL] at h
    obtain ⟨e, t, rfl, h1, h2, h3, h4⟩ := h
    simp only [List.cons_append, EL]
    exact ⟨_, _, rfl, h1, h2, h3, ih h4⟩

theorem mapUpdate_sound (hH : HR known base w0 π σ w) {e : Operand → Value} (hρ : RhoR π ρ e) {t : TypeId} {m k x : Operand} {o : Oper} {r : AR} (ho : o.op = .mapUpdate t m k x ∨ o.op = .insert t m k x)
    (h : lMapUpdate t m k x P ρ σ = some r) : LoudR P known base w0 π σ w (execOp e o) r := by
  have hex : execOp e o = (do Instr.mapUpdate t (e m) (e k) (e x); pure .skip) := by
    rcases ho with ho | ho <;> simp only [execOp, ho]
  unfold lMapUpdate at h
  split at h
  · rename_i kt et r' ka va hu hm hk hx
    split at h
    · rename_i es clock hko hb
      have hvm := hρ _ _ hm
      have hvk := hρ _ _ hk
      have hvx := hρ _ _ hx
      simp only [VR] at hvm
      obtain ⟨rb, δ, rs, hp, hvm⟩ := hvm
      obtain ⟨rb', δ', rs', es', h1, h2, h3⟩ := hH.blk r' _ hb
      rw [hp] at h1
      simp only [Option.some.injEq, Prod.mk.injEq] at h1
      obtain ⟨rfl, rfl, rfl⟩ := h1
      have hget := run_getObj_map (P := P) h2
      split at h
      · rename_i i u hf
        rw [AS.upd_eq] at h
        simp only [Option.some.injEq] at h
        subst h
        obtain ⟨c1, q, c2, c3⟩ := find_run hko hvk hf h3
        obtain ⟨u', hq, hu'⟩ := c3
        subst hq
        obtain ⟨d, hd⟩ : ∃ d, (d = TypeDesc.string ∧ ∃ s, e k = .string s ∧ ka = .str (bytesOf s)) ∨ (∃ j n, d = .int j ∧ e k = .int j n ∧ ka = .int j n) := by
          rcases kinds_of_key hko hvk with ⟨_, s, a, b⟩ | ⟨j, n, _, a, b⟩
          · exact ⟨_, .inl ⟨rfl, s, a, b⟩⟩
          · exact ⟨_, .inr ⟨j, n, rfl, a, b⟩⟩
        obtain ⟨j, y, j1, j2, j3, j4⟩ := setAt_rel hd hvx hf h3
        rw [Nat.zero_add] at j1
        subst j1
        have hsame : Instr.sameBits 10000 (e k) (e k) = true := by
          rcases hd with ⟨_, s, a, _⟩ | ⟨j', n, _, a, _⟩ <;> rw [a] <;> rw [show (10000 : Nat) = 9999 + 1 from rfl] <;> simp [Instr.sameBits, beq_toListBytes]
        have hold : ((es'[i]?).map (·.key)).getD (e k) = e k := by
          have : es'[i]? = some y := by rw [← Array.getElem?_toList]; exact j2
          simp [this, j3]
        have hset := setObj_run (P := P) (o' := .map (es'.modify i fun z => { z with key := e k, val := e x }) clock) h2 (by intro c e f h; cases h)
        refine ⟨π, _, .skip, ?_, .inr ⟨rfl, rfl⟩, Pi.le_refl π, hH.obj (o' := .map (es'.modify i fun z => { z with key := e k, val := e x }) clock) hb rfl rfl hp (fun w' hw' => ⟨rb, δ, rs, _, hp, hw', by simpa using j4⟩)⟩
        rw [hex]
        simp [Instr.mapUpdate, run_underlying hu, hvm, hget, c1, c2, hold, Instr.keyThatStays, hsame, hset]
      · rename_i hf
        rw [AS.upd_eq] at h
        simp only [Option.some.injEq] at h
        subst h
        obtain ⟨c1, q, c2, c3⟩ := find_run hko hvk hf h3
        have c3' : q = none := c3
        subst c3'
        have hset := setObj_run (P := P) (o' := .map (es'.push ⟨e k, e x, clock⟩) (clock + 1)) h2 (by intro c e f h; cases h)
        refine ⟨π, _, .skip, ?_, .inr ⟨rfl, rfl⟩, Pi.le_refl π, hH.obj (o' := .map (es'.push ⟨e k, e x, clock⟩) (clock + 1)) hb rfl rfl hp (fun w' hw' => ⟨rb, δ, rs, _, hp, hw', ?_⟩)⟩
        · rw [hex]
          simp [Instr.mapUpdate, run_underlying hu, hvm, hget, c1, c2, hset]
        · rw [Array.toList_push]
          exact h3.append (by simp only [EL]; exact ⟨_, _, rfl, hvk, hvx, rfl, rfl⟩)
      · cases h
    · cases h
  · cases h
end Go.Proofs.YtjagjjdkgidkjaaGreatDoor.Ev
set_option linter.all false
namespace Go.Proofs.YtjagjjdkgidkjaaGreatDoor.Ev
open Go Go.RowKit

variable {P : Program} {known : Nat → Bool} {base : Nat} {w0 : World} {π : Pi} {σ : AS} {w : World} {ρ : Rho}

theorem noEscape_g : Extern.allGenericRows.lookup "internal/abi.NoEscape" = none := by kernel_rfl
theorem noEscape_t : Extern.allTypedRows.lookup "internal/abi.NoEscape" = none := by kernel_rfl
theorem noEscape_r : Extern.allRows.lookup "internal/abi.NoEscape" = some Extern.AbiNoEscape.same := by kernel_rfl
theorem noEscape_find {fn : Func} (h : fn.name = "internal/abi.NoEscape") : Extern.find fn = some Extern.AbiNoEscape.same := by
  simp [Extern.find, h, noEscape_g, noEscape_t, noEscape_r]

/-- A name without a generic or a typed row, and its row. -/
def Row1 (n : String) (e : Array Value → Sem Value) : Prop := Extern.allGenericRows.lookup n = none ∧ Extern.allTypedRows.lookup n = none ∧ Extern.allRows.lookup n = some e
theorem Row1.find {n : String} {e : Array Value → Sem Value} (h : Row1 n e) {fn : Func} (hn : fn.name = n) : Extern.find fn = some e := by
  obtain ⟨h1, h2, h3⟩ := h
  subst hn
  simp [Extern.find, h1, h2, h3]
theorem row_LoadUint32 : Row1 "sync/atomic.LoadUint32" (Extern.Atomic.loadT (.int .u32)) := ⟨by kernel_rfl, by kernel_rfl, by kernel_rfl⟩
theorem row_StoreUint32 : Row1 "sync/atomic.StoreUint32" (Extern.Atomic.storeT) := ⟨by kernel_rfl, by kernel_rfl, by kernel_rfl⟩
theorem row_CompareAndSwapInt32 : Row1 "sync/atomic.CompareAndSwapInt32" (Extern.Atomic.casT (.int .i32)) := ⟨by kernel_rfl, by kernel_rfl, by kernel_rfl⟩
theorem row_AddInt32 : Row1 "sync/atomic.AddInt32" (Extern.Atomic.update (Op.intArith .add) .i32 true) := ⟨by kernel_rfl, by kernel_rfl, by kernel_rfl⟩
theorem row_LoadInt64 : Row1 "sync/atomic.LoadInt64" (Extern.Atomic.loadT (.int .i64)) := ⟨by kernel_rfl, by kernel_rfl, by kernel_rfl⟩
theorem row_StoreInt64 : Row1 "sync/atomic.StoreInt64" (Extern.Atomic.storeT) := ⟨by kernel_rfl, by kernel_rfl, by kernel_rfl⟩
theorem row_AddInt64 : Row1 "sync/atomic.AddInt64" (Extern.Atomic.update (Op.intArith .add) .i64 true) := ⟨by kernel_rfl, by kernel_rfl, by kernel_rfl⟩
theorem row_LoadInt32 : Row1 "sync/atomic.LoadInt32" (Extern.Atomic.loadT (.int .i32)) := ⟨by kernel_rfl, by kernel_rfl, by kernel_rfl⟩
theorem row_StoreInt32 : Row1 "sync/atomic.StoreInt32" (Extern.Atomic.storeT) := ⟨by kernel_rfl, by kernel_rfl, by kernel_rfl⟩
theorem row_Acquire : Row1 "internal/race.Acquire" (Extern.Race.marked .acquire) := ⟨by kernel_rfl, by kernel_rfl, by kernel_rfl⟩
theorem row_Release : Row1 "internal/race.Release" (Extern.Race.marked .release) := ⟨by kernel_rfl, by kernel_rfl, by kernel_rfl⟩
theorem row_ReleaseMerge : Row1 "internal/race.ReleaseMerge" (Extern.Race.marked .releaseMerge) := ⟨by kernel_rfl, by kernel_rfl, by kernel_rfl⟩
theorem row_Disable : Row1 "internal/race.Disable" (fun _ => do mark .disable; pure Extern.Race.none_) := ⟨by kernel_rfl, by kernel_rfl, by kernel_rfl⟩
theorem row_Enable : Row1 "internal/race.Enable" (fun _ => do mark .enable; pure Extern.Race.none_) := ⟨by kernel_rfl, by kernel_rfl, by kernel_rfl⟩
/-- What a word of atomics is in the model. -/
def AtomSem : Atom → (Array Value → Sem Value) → Prop
  | .load k, e => e = Extern.Atomic.loadT (.int k)
  | .store, e => e = Extern.Atomic.storeT
  | .cas k, e => e = Extern.Atomic.casT (.int k)
  | .add k, e => e = Extern.Atomic.update (Op.intArith .add) k true
  | .nop0, e => ∃ m, e = fun _ => do mark m; pure Extern.Race.none_
  | .nop1, e => ∃ m, e = Extern.Race.marked m
theorem atomOf_row {n : String} {a : Atom} (h : atomOf n atomNames = some a) : ∃ e, Row1 n e ∧ AtomSem a e := by
  simp only [atomNames, atomOf] at h
  split at h
  · rename_i hn
    have hn' : n = "sync/atomic.LoadUint32" := by simpa using hn
    simp only [Option.some.injEq] at h
    subst h; subst hn'
    exact ⟨_, row_LoadUint32, rfl⟩
  split at h
  · rename_i hn
    have hn' : n = "sync/atomic.StoreUint32" := by simpa using hn
    simp only [Option.some.injEq] at h
    subst h; subst hn'
    exact ⟨_, row_StoreUint32, rfl⟩
  split at h
  · rename_i hn
    have hn' : n = "sync/atomic.CompareAndSwapInt32" := by simpa using hn
    simp only [Option.some.injEq] at h
    subst h; subst hn'
    exact ⟨_, row_CompareAndSwapInt32, rfl⟩
  split at h
  · rename_i hn
    have hn' : n = "sync/atomic.AddInt32" := by simpa using hn
    simp only [Option.some.injEq] at h
    subst h; subst hn'
    exact ⟨_, row_AddInt32, rfl⟩
  split at h
  · rename_i hn
    have hn' : n = "sync/atomic.LoadInt64" := by simpa using hn
    simp only [Option.some.injEq] at h
    subst h; subst hn'
    exact ⟨_, row_LoadInt64, rfl⟩
  split at h
  · rename_i hn
    have hn' : n = "sync/atomic.StoreInt64" := by simpa using hn
    simp only [Option.some.injEq] at h
    subst h; subst hn'
    exact ⟨_, row_StoreInt64, rfl⟩
  split at h
  · rename_i hn
    have hn' : n = "sync/atomic.AddInt64" := by simpa using hn
    simp only [Option.some.injEq] at h
    subst h; subst hn'
    exact ⟨_, row_AddInt64, rfl⟩
  split at h
  · rename_i hn
    have hn' : n = "sync/atomic.LoadInt32" := by simpa using hn
    simp only [Option.some.injEq] at h
    subst h; subst hn'
    exact ⟨_, row_LoadInt32, rfl⟩
  split at h
  · rename_i hn
    have hn' : n = "sync/atomic.StoreInt32" := by simpa using hn
    simp only [Option.some.injEq] at h
    subst h; subst hn'
    exact ⟨_, row_StoreInt32, rfl⟩
  split at h
  · rename_i hn
    have hn' : n = "internal/race.Acquire" := by simpa using hn
    simp only [Option.some.injEq] at h
    subst h; subst hn'
    exact ⟨_, row_Acquire, ⟨_, rfl⟩⟩
  split at h
  · rename_i hn
    have hn' : n = "internal/race.Release" := by simpa using hn
    simp only [Option.some.injEq] at h
    subst h; subst hn'
    exact ⟨_, row_Release, ⟨_, rfl⟩⟩
  split at h
  · rename_i hn
    have hn' : n = "internal/race.ReleaseMerge" := by simpa using hn
    simp only [Option.some.injEq] at h
    subst h; subst hn'
    exact ⟨_, row_ReleaseMerge, ⟨_, rfl⟩⟩
  split at h
  · rename_i hn
    have hn' : n = "internal/race.Disable" := by simpa using hn
    simp only [Option.some.injEq] at h
    subst h; subst hn'
    exact ⟨_, row_Disable, ⟨_, rfl⟩⟩
  split at h
  · rename_i hn
    have hn' : n = "internal/race.Enable" := by simpa using hn
    simp only [Option.some.injEq] at h
    subst h; subst hn'
    exact ⟨_, row_Enable, ⟨_, rfl⟩⟩
  cases h
theorem cellI_cell (hH : HR known base w0 π σ w) {k : IntKind} {b o : Nat} {n : Int} (h : cellI σ k b o = some n) : ∃ rb δ rs, π b = some (rb, δ, rs) ∧ w.cell? ⟨rb, δ + o, none⟩ = some (.int k n) := by
  unfold cellI at h
  split at h
  · rename_i c size e frz own wh hb
    split at h
    · rename_i k' m hlt hc
      split at h
      · rename_i hk
        simp only [Option.some.injEq] at h
        subst h
        have hk' : k = k' := by simpa [kindEq] using hk
        subst hk'
        have hlt' : o < size := by simp [Nat.blt] at hlt; omega
        obtain ⟨rb, δ, rs, h1, h4, h5⟩ := hH.cell hb
        obtain ⟨x, v, a1, a2, a3⟩ := h5 o hlt'
        rw [hc] at a1
        simp only [Option.some.injEq] at a1
        subst a1
        simp only [VR] at a3
        subst a3
        exact ⟨rb, δ, rs, h1, a2⟩
      · cases h
    · cases h
  · cases h
theorem there_one {rb off : Nat} {v : Value} (h : w.there rb off 1) (hv : v.oneCell' = true) :
    (store ⟨rb, off, none⟩ v .atomic).run P w = .ok () (w.setCell ⟨rb, off, none⟩ v) ∧ w.frozen? ⟨rb, off, none⟩ = false := by
  have h0 := h 0 (by omega)
  simp only [Nat.add_zero] at h0
  obtain ⟨c, hc⟩ := Option.isSome_iff_exists.1 h0.1
  refine ⟨?_, h0.2⟩
  cases v <;> first
    | (simp [Value.oneCell'] at hv; done)
    | simp [store, Sem.run, hc, h0.2]
theorem asAddr_run {rb off : Nat} : (asAddr (.pointer (some ⟨rb, off, none⟩))).run P w = .ok ⟨rb, off, none⟩ w := rfl
theorem loadI_run {rb off : Nat} {k : IntKind} {n : Int} (h : w.cell? ⟨rb, off, none⟩ = some (.int k n)) : (Extern.Atomic.read (.int k) ⟨rb, off, none⟩).run P w = .ok (.int k n) w := by
  simp [Extern.Atomic.read, load, Sem.run, h]
theorem untouched {rb off : Nat} {v : Value} (hc : w.cell? ⟨rb, off, none⟩ = some v) (hf : w.frozen? ⟨rb, off, none⟩ = false) : (Extern.Atomic.touchesFrozen ⟨rb, off, none⟩).run P w = .ok false w := by
  have hs : (w.shape? rb).isSome = true := by
    simp only [World.cell?] at hc
    simp only [World.shape?]
    split at hc <;> simp_all
  simp [Extern.Atomic.touchesFrozen, viewAt, shape, frozen, Sem.run, hs, hf]
theorem write_one (hH : HR known base w0 π σ w) {b o : Nat} {x : AV} {v : Value} {σ' : AS} (h : writeL σ b o [x] = some σ') (hx : VR π x v) :
    ∃ rb δ rs, π b = some (rb, δ, rs) ∧ (store ⟨rb, δ + o, none⟩ v .atomic).run P w = .ok () (w.setCell ⟨rb, δ + o, none⟩ v) ∧ w.frozen? ⟨rb, δ + o, none⟩ = false ∧ HR known base w0 π σ' (w.setCell ⟨rb, δ + o, none⟩ v) := by
  obtain ⟨rb, δ, rs, h1, h2, h3, h4⟩ := hH.write h (VRL.cons hx VRL.nil)
  obtain ⟨s1, s2⟩ := there_one (P := P) h2 (h3 v (by simp))
  exact ⟨rb, δ, rs, h1, s1, s2, by simpa [World.setCells] using h4⟩
theorem asIntOf_run (k : IntKind) (n : Int) : (asIntOf (.int k n)).run P w = .ok (k, n) w := rfl
theorem atomA_sound (hH : HR known base w0 π σ w) {a : Atom} {e : Array Value → Sem Value} {xs : List AV} {vs : Array Value} {r : AR} {s : Sem Next} (he : AtomSem a e) (hx : VRL π xs vs.toList)
    (hse : ∀ v w', (e vs).run P w = .ok v w' → s.run P w = .ok (.value v) w') (h : atomA a σ xs = some r) : LoudR P known base w0 π σ w s r := by
  unfold atomA at h
  split at h
  · rename_i k
    simp only [AtomSem] at he
    subst he
    split at h
    · rename_i b o
      split at h
      · rename_i n hc
        simp only [Option.some.injEq] at h
        subst h
        simp only [VRL, VR] at hx
        obtain ⟨_, _, hvs, ⟨rb, δ, rs, hp, rfl⟩, rfl⟩ := hx
        obtain rfl : vs = #[.pointer (some ⟨rb, δ + o, none⟩)] := by apply Array.ext'; simp [hvs]
        obtain ⟨rb', δ', rs', h1, h2⟩ := cellI_cell hH hc
        rw [hp] at h1
        simp only [Option.some.injEq, Prod.mk.injEq] at h1
        obtain ⟨rfl, rfl, rfl⟩ := h1
        refine ⟨π, w, .value (.int k n), hse _ _ ?_, .inl ⟨_, rfl, by simp only [VR]⟩, Pi.le_refl π, hH⟩
        rw [show Extern.Atomic.loadT (.int k) #[.pointer (some ⟨rb, δ + o, none⟩)] = (asAddr (.pointer (some ⟨rb, δ + o, none⟩)) >>= _) from rfl]
        simp [Array.getLit, asAddr_run, loadI_run h2]
      · cases h
    · cases h
  · simp only [AtomSem] at he
    subst he
    split at h
    · rename_i b o k n
      split at h
      · rename_i σ' hw
        simp only [Option.some.injEq] at h
        subst h
        simp only [VRL, VR] at hx
        obtain ⟨_, _, hvs, ⟨rb, δ, rs, hp, rfl⟩, _, _, rfl, rfl, rfl⟩ := hx
        obtain rfl : vs = #[.pointer (some ⟨rb, δ + o, none⟩), .int k n] := by apply Array.ext'; simp [hvs]
        obtain ⟨rb', δ', rs', h1, h2, h3, h4⟩ := write_one (P := P) hH hw (v := .int k n) (by simp only [VR])
        rw [hp] at h1
        simp only [Option.some.injEq, Prod.mk.injEq] at h1
        obtain ⟨rfl, rfl, rfl⟩ := h1
        refine ⟨π, _, .value (.tuple #[]), hse _ _ ?_, .inl ⟨_, rfl, by simp only [VR]; exact ⟨_, rfl, VRL.nil⟩⟩, Pi.le_refl π, h4⟩
        rw [show Extern.Atomic.storeT #[.pointer (some ⟨rb, δ + o, none⟩), .int k n] = (asAddr (.pointer (some ⟨rb, δ + o, none⟩)) >>= _) from rfl]
        simp [Array.getLit, asAddr_run, h2, Extern.Atomic.none_]
      · cases h
    · cases h
  · rename_i k
    simp only [AtomSem] at he
    subst he
    split at h
    · rename_i b o k1 x k2 y
      split at h
      · rename_i z hc
        split at h
        · rename_i σ' hw
          simp only [VRL, VR] at hx
          obtain ⟨_, _, hvs, ⟨rb, δ, rs, hp, rfl⟩, _, _, rfl, rfl, _, _, rfl, rfl, rfl⟩ := hx
          obtain rfl : vs = #[.pointer (some ⟨rb, δ + o, none⟩), .int k1 x, .int k2 y] := by apply Array.ext'; simp [hvs]
          obtain ⟨rb', δ', rs', h1, h2, h3, h4⟩ := write_one (P := P) hH hw (v := .int k2 y) (by simp only [VR])
          rw [hp] at h1
          simp only [Option.some.injEq, Prod.mk.injEq] at h1
          obtain ⟨rfl, rfl, rfl⟩ := h1
          obtain ⟨rb', δ', rs', c1, c2⟩ := cellI_cell hH hc
          rw [hp] at c1
          simp only [Option.some.injEq, Prod.mk.injEq] at c1
          obtain ⟨rfl, rfl, rfl⟩ := c1
          have hu := untouched (P := P) c2 h3
          split at h
          · rename_i heq
            simp only [Option.some.injEq] at h
            subst h
            have hzx : z = x := by rw [eqF_eq] at heq; simpa using heq
            subst hzx
            refine ⟨π, _, .value (.bool true), hse _ _ ?_, .inl ⟨_, rfl, by simp only [VR]⟩, Pi.le_refl π, h4⟩
            rw [show Extern.Atomic.casT (.int k) #[.pointer (some ⟨rb, δ + o, none⟩), .int k1 _, .int k2 y] = (asAddr (.pointer (some ⟨rb, δ + o, none⟩)) >>= _) from rfl]
            simp [Array.getLit, asAddr_run, hu, loadI_run c2, h2]
          · rename_i heq
            simp only [Option.some.injEq] at h
            subst h
            have hzx : z ≠ x := by rw [eqF_eq] at heq; simpa using heq
            refine ⟨π, w, .value (.bool false), hse _ _ ?_, .inl ⟨_, rfl, by simp only [VR]⟩, Pi.le_refl π, hH⟩
            rw [show Extern.Atomic.casT (.int k) #[.pointer (some ⟨rb, δ + o, none⟩), .int k1 _, .int k2 y] = (asAddr (.pointer (some ⟨rb, δ + o, none⟩)) >>= _) from rfl]
            simp [Array.getLit, asAddr_run, hu, loadI_run c2, hzx]
        · cases h
      · cases h
    · cases h
  · rename_i k
    simp only [AtomSem] at he
    subst he
    split at h
    · rename_i b o k1 y
      split at h
      · rename_i x hc
        rw [fInt_eq] at h
        split at h
        · rename_i σ' hw
          simp only [Option.some.injEq] at h
          subst h
          simp only [VRL, VR] at hx
          obtain ⟨_, _, hvs, ⟨rb, δ, rs, hp, rfl⟩, _, _, rfl, rfl, rfl⟩ := hx
          obtain rfl : vs = #[.pointer (some ⟨rb, δ + o, none⟩), .int k1 y] := by apply Array.ext'; simp [hvs]
          obtain ⟨rb', δ', rs', h1, h2, h3, h4⟩ := write_one (P := P) hH hw (v := .int k (wrapF k (x + y))) (by simp only [VR])
          rw [hp] at h1
          simp only [Option.some.injEq, Prod.mk.injEq] at h1
          obtain ⟨rfl, rfl, rfl⟩ := h1
          obtain ⟨rb', δ', rs', c1, c2⟩ := cellI_cell hH hc
          rw [hp] at c1
          simp only [Option.some.injEq, Prod.mk.injEq] at c1
          obtain ⟨rfl, rfl, rfl⟩ := c1
          refine ⟨π, _, .value (.int k (wrapF k (x + y))), hse _ _ ?_, .inl ⟨_, rfl, by simp only [VR]⟩, Pi.le_refl π, h4⟩
          rw [wrapF_eq] at h2 ⊢
          rw [show Extern.Atomic.update (Op.intArith .add) k true #[.pointer (some ⟨rb, δ + o, none⟩), .int k1 y] = (asAddr (.pointer (some ⟨rb, δ + o, none⟩)) >>= _) from rfl]
          simp [Array.getLit, asAddr_run, loadI_run c2, asInt, asIntOf_run, Op.intArith, h2]
        · cases h
      · cases h
    · cases h
  · obtain ⟨m, rfl⟩ := he
    simp only [Option.some.injEq] at h
    subst h
    exact ⟨π, w, .value (.tuple #[]), hse _ _ (by simp [mark, Sem.run, Extern.Race.none_]), .inl ⟨_, rfl, by simp only [VR]; exact ⟨_, rfl, VRL.nil⟩⟩, Pi.le_refl π, hH⟩
  · obtain ⟨m, rfl⟩ := he
    split at h
    · rename_i b o
      simp only [Option.some.injEq] at h
      subst h
      simp only [VRL, VR] at hx
      obtain ⟨_, _, hvs, ⟨rb, δ, rs, hp, rfl⟩, rfl⟩ := hx
      obtain rfl : vs = #[.pointer (some ⟨rb, δ + o, none⟩)] := by apply Array.ext'; simp [hvs]
      exact ⟨π, w, .value (.tuple #[]), hse _ _ (by simp [Extern.Race.marked, Extern.Race.at_, mark, Sem.run, Extern.Race.none_]), .inl ⟨_, rfl, by simp only [VR]; exact ⟨_, rfl, VRL.nil⟩⟩, Pi.le_refl π, hH⟩
    · cases h

theorem noZero_g : Extern.allGenericRows.lookup "internal/bytealg.MakeNoZero" = none := by kernel_rfl
theorem noZero_t : Extern.allTypedRows.lookup "internal/bytealg.MakeNoZero" = some Extern.BytealgMakeNoZero.makeNoZero := by kernel_rfl
theorem noZero_find {fn : Func} (h : fn.name = "internal/bytealg.MakeNoZero") : Extern.find fn = some (Extern.BytealgMakeNoZero.makeNoZero fn.params fn.resultTypes) := by
  simp [Extern.find, h, noZero_g, noZero_t]
theorem makeNoZeroA_sound (hH : HR known base w0 π σ w) {ps rts : Array TypeId} {xs : List AV} {vs : Array Value} {r : AR} {s : Sem Next} (hx : VRL π xs vs.toList)
    (hse : ∀ v w', (Extern.BytealgMakeNoZero.makeNoZero ps rts vs).run P w = .ok v w' → s.run P w = .ok (.value v) w') (h : makeNoZeroA P σ rts.toList xs = some r) : LoudR P known base w0 π σ w s r := by
  unfold makeNoZeroA at h
  split at h
  · rename_i t n hts
    split at h
    · rename_i e hu hle
      have hle' : n ≤ 281474976710656 := by simpa using hle
      split at h
      · rename_i hsz
        rw [fNat_eq, AS.new_eq] at h
        simp only [Option.some.injEq] at h
        subst h
        have hr : rts = #[t] := by apply Array.ext'; simpa using hts
        subst hr
        simp only [VRL, VR] at hx
        obtain ⟨_, _, hvs, rfl, rfl⟩ := hx
        obtain rfl : vs = #[.int .i64 n] := by apply Array.ext'; simpa using hvs
        obtain ⟨cs, hrun, hn, _, _⟩ := Lib.run_makeNoZero_cap (P := P) w ps t e hu n hle'
        have hrow := hH.drew.drew.row e (xs := []) (vs := []) VRL.nil cs.toList .loose (fun h => by cases h)
        simp only [List.nil_append, List.length_nil, Nat.zero_add] at hrow
        refine ⟨_, _, _, hse _ _ hrun, .inl ⟨_, rfl, ?_⟩, hH.le_add _, hrow⟩
        simp only [VR]
        exact ⟨w.heap.size, 0, cs.toList.length, 0, cs.size, Pi.add_same _ _ _, rfl, .inl rfl, hn, fun h => (by cases h), by simp⟩
      · cases h
    · cases h
  · cases h
theorem callF_sound (hH : HR known base w0 π σ w) {f : FuncId} {xs : List AV} {vs : Array Value} {r : AR} {s : Sem Next} (hx : VRL π xs vs.toList)
    (hse : ∀ R, (callFunc f vs).run P w = R → s.run P w = R) (h : callF P σ f xs = some r) : LoudR P known base w0 π σ w s r := by
  unfold callF at h
  cases hf : P.funcs[f]? with
  | none => rw [hf] at h; cases h
  | some fn =>
    rw [hf] at h
    dsimp only at h
    cases hn : fn.name == "runtime.NumGoroutine" with
    | true => rw [hn] at h; cases h
    | false =>
      rw [hn] at h
      cases hb : fn.body with
      | some c =>
        rw [hb] at h
        simp only [Option.some.injEq] at h
        subst h
        refine ⟨vs, hse _ ?_, hx, rfl, fn, c, hf, hb⟩
        have hn' : ¬ fn.name = "runtime.NumGoroutine" := by simpa using hn
        simp [callFunc, hf, hn', hb]
      | none =>
        rw [hb] at h
        dsimp only at h
        split at h
        · rename_i b o hne hnx
          simp only [Option.some.injEq] at h
          subst h
          have hne' : fn.name = "internal/abi.NoEscape" := by simpa using hne
          have hnx' : Extern.findNext fn = none := by simpa using hnx
          simp only [VRL] at hx
          obtain ⟨v, t, hvs, hv, rfl⟩ := hx
          have : vs = #[v] := by apply Array.ext'; simp [hvs]
          subst this
          refine ⟨π, w, .value v, hse _ ?_, .inl ⟨_, rfl, hv⟩, Pi.le_refl π, hH⟩
          have hn' : ¬ fn.name = "runtime.NumGoroutine" := by simpa using hn
          have hsm : Extern.AbiNoEscape.same #[v] = pure v := rfl
          simp [callFunc, hf, hn', hb, hnx', noEscape_find hne', hsm]
        · split at h
          · rename_i a hat hnx
            have hnx' : Extern.findNext fn = none := by simpa using hnx
            obtain ⟨e, hrow, hae⟩ := atomOf_row hat
            refine atomA_sound hH hae hx (fun v w' hv => hse _ ?_) h
            have hn' : ¬ fn.name = "runtime.NumGoroutine" := by simpa using hn
            simp [callFunc, hf, hn', hb, hnx', hrow.find rfl, hv]
          split at h
          · rename_i nx hmk hnx
            have hmk' : fn.name = "internal/bytealg.MakeNoZero" := by simpa using hmk
            have hnx' : Extern.findNext fn = none := by simpa using hnx
            refine makeNoZeroA_sound (ps := fn.params) hH hx (fun v w' hv => hse _ ?_) h
            have hn' : ¬ fn.name = "runtime.NumGoroutine" := by simpa using hn
            simp [callFunc, hf, hn', hb, hnx', noZero_find hmk', hv]
          split at h
          · rename_i v he
            simp only [Option.some.injEq] at h
            subst h
            unfold externPure at he
            split at he
            · rename_i us e hus hnx hfn
              have hvs := flats_eq 8 _ us _ hus hx
              have hvs' : vs = ⟨us⟩ := by apply Array.ext'; simp [hvs]
              subst hvs'
              obtain ⟨u, h1, h2⟩ := viaPure_run (π := π) he w
              refine ⟨π, w, .value u, hse _ ?_, .inl ⟨_, rfl, h2⟩, Pi.le_refl π, hH⟩
              have hn' : ¬ fn.name = "runtime.NumGoroutine" := by simpa using hn
              simp [callFunc, hf, hn', hb, hnx, hfn, h1]
            · cases he
          · cases h
theorem call_sound (hH : HR known base w0 π σ w) {e : Operand → Value} (hρ : RhoR π ρ e) {f : Operand} {c : Call} {o : Oper} {r : AR} (ho : o.op = .call c) (hc : c.callee = .value f)
    (h : lCall f c.args P ρ σ = some r) : LoudR P known base w0 π σ w (execOp e o) r := by
  unfold lCall at h
  split at h
  · rename_i g caps hf
    split at h
    · rename_i l hl
      have hv := hρ _ _ hf
      simp only [VR] at hv
      obtain ⟨ps, cs, hv, hps, hcs⟩ := hv
      have hx := (hps.append (argsA_rel hρ hl)).append hcs
      refine callF_sound (vs := ⟨ps⟩ ++ c.args.map e ++ ⟨cs⟩) hH (by simpa using hx) (fun R hR => ?_) h
      simp only [execOp, ho, resolve, hc, hv, Deferred.ofValue]
      simpa [invoke, Array.append_assoc] using hR
    · cases h
  · rename_i b hf
    split at h
    · rename_i l hl
      split at h
      · rename_i tm n ps ag bo st pd hb
        rw [gB_iff] at h; obtain ⟨hlen, h⟩ := h
        simp only [Option.some.injEq] at h
        subst h
        have hv := hρ _ _ hf
        simp only [VR] at hv
        obtain ⟨rb, rs, hp, hv⟩ := hv
        obtain ⟨rb', rs', r, h1, h2, h3⟩ := hH.blk b _ hb
        rw [hp] at h1
        simp only [Option.some.injEq, Prod.mk.injEq] at h1
        obtain ⟨rfl, _, rfl⟩ := h1
        have hx := argsA_rel hρ hl
        have hsz : (c.args.map e).size = r.params.size := by
          have h4 := hx.length
          have h5 := congrArg List.length h3.params
          have h6 : ps.length = l.length := Nat.eq_of_beq_eq_true hlen
          simp at h4 h5 ⊢
          omega
        refine ⟨rb, rs, r, c.args.map e, hp, h2, ?_, by simpa using hx, rfl⟩
        have hy := run_yield (P := P) h2 hsz
        simp only [execOp, ho, resolve, hc, hv, Deferred.ofValue]
        simpa [invoke] using hy
      · cases h
    · cases h
  · cases h
end Go.Proofs.YtjagjjdkgidkjaaGreatDoor.Ev
set_option linter.all false
namespace Go.Proofs.YtjagjjdkgidkjaaGreatDoor.Ev
open Go Go.RowKit

variable {P : Program} {known : Nat → Bool} {base : Nat} {w0 : World} {π : Pi} {σ : AS} {w : World} {ρ : Rho}

theorem list2 {α : Type} {l : Array α} {a b : α} (h : l.toList = [a, b]) : l = #[a, b] := by apply Array.ext'; simp [h]
theorem list1 {α : Type} {l : Array α} {a : α} (h : l.toList = [a]) : l = #[a] := by apply Array.ext'; simp [h]

theorem elems_zero {size : Nat} {x : AV} {xs : List AV} (h : elems σ size x 0 = some xs) : xs = [] := by
  unfold elems at h
  split at h
  · simpa using h.symm
  · split at h
    · rw [Nat.zero_mul] at h
      split at h
      · simp only [readN, Option.some.injEq] at h; exact h.symm
      · cases h
    · cases h
  · simpa using h.symm
  · cases h
theorem builtin_sound (hH : HR known base w0 π σ w) {b : Builtin} {ts : Array TypeId} {ty : TypeId} {cs : Array Bool} {xs : List AV} {vs : Array Value} {r : AR} {s : Sem Next} (hx : VRL π xs vs.toList)
    (hse : ∀ R, (builtin b ts ty cs vs).run P w = R → s.run P w = R) (h : builtinA P σ b ts.toList xs = some r) : LoudR P known base w0 π σ w s r := by
  unfold builtinA at h
  split at h
  · -- append
    split at h
    · rename_i st xt sa xa hts
      simp only [VRL] at hx
      obtain ⟨sv, _, hvs, hsv, xv, _, rfl, hxv, rfl⟩ := hx
      obtain rfl := list2 hvs
      obtain rfl := list2 hts
      split at h
      · rename_i e hu
        rw [gB_iff] at h; obtain ⟨g, h⟩ := h
        rw [oB_iff] at h; obtain ⟨size, hs, h⟩ := h
        rw [oB_iff] at h; obtain ⟨n, hn, h⟩ := h
        rw [oB_iff] at h; obtain ⟨ys, hys, h⟩ := h
        obtain ⟨d, hd, hd2⟩ : ∃ d, P.underlying xt = some d ∧ ((∃ e', d = .slice e') ∨ d = .string) := by
          split at g
          · rename_i e' he; exact ⟨_, he, .inl ⟨_, rfl⟩⟩
          · rename_i he; exact ⟨_, he, .inr rfl⟩
          · cases g
        refine append_sound (ty := ty) hH hu hd hd2 hs hxv hsv hn hys (fun v w' hr => hse _ ?_) h
        simp [builtin, hr]
      · cases h
    · cases h
  · -- copy
    split at h
    · rename_i dt st da sa hts
      simp only [VRL] at hx
      obtain ⟨dv, _, hvs, hdv, sv, _, rfl, hsv, rfl⟩ := hx
      obtain rfl := list2 hvs
      obtain rfl := list2 hts
      split at h
      · rename_i e hu
        split at h
        · rename_i size m hs hm
          simp only [Option.some.injEq] at h
          subst h
          simp only [VR] at hdv
          subst hdv
          have hln := lenOf_run (P := P) hm hsv
          refine ⟨π, w, .value (goInt 0), hse _ ?_, .inl ⟨_, rfl, by simp [VR, goInt]⟩, Pi.le_refl π, hH⟩
          simp [builtin, Builtin.copy_, run_underlying hu, hln, sizeOfT_run hs]
          have hz : ∃ q, (Builtin.firstCells size 0 sv).run P w = .ok q w := by
            unfold lenOfA at hm
            split at hm
            · simp only [VR] at hsv; subst hsv; exact ⟨_, run_firstCells_none _ _ _ _ _⟩
            · simp only [VR] at hsv; obtain ⟨rb, δ, rs, off, cap', hp, rfl, _⟩ := hsv
              exact ⟨_, run_firstCells_some (P := P) w size 0 ⟨rb, off, none⟩ _ cap' [] (by simp) (fun j v h => by simp at h)⟩
            · simp only [VR] at hsv; obtain ⟨s', rfl, _⟩ := hsv
              exact ⟨_, rfl⟩
            · cases hm
          obtain ⟨q, hz⟩ := hz
          rw [hz]; rfl
        · rename_i size m b o dn dc esz ex hs hm
          rw [fNat_eq] at h
          have run : ∀ v w', (Builtin.copy_ #[dt, st] ty #[dv, sv]).run P w = .ok v w' → s.run P w = .ok (.value v) w' := fun v w' hr => hse _ (by simp [builtin, hr])
          split at h
          · rename_i he
            simp only [Option.some.injEq] at h
            exact copy_sound (ty := ty) hH hu hs hdv hsv hm rfl he run (.inl ⟨rfl, rfl⟩) h.symm
          · rename_i ys hne he
            split at h
            · rename_i σ' hw
              simp only [Option.some.injEq] at h
              refine copy_sound (ty := ty) hH hu hs hdv hsv hm rfl he run (.inr ⟨?_, hw⟩) h.symm
              rcases Nat.eq_zero_or_pos dn with h0 | h0
              · subst h0
                rw [Nat.min_zero] at he
                exact absurd (elems_zero he) (fun e => hne e)
              · exact h0
            · cases h
          · cases h
        · cases h
      · cases h
    · cases h
  · -- panic
    split at h
    · rename_i t v
      simp only [Option.some.injEq] at h
      subst h
      simp only [VRL] at hx
      obtain ⟨u, _, hvs, hv, rfl⟩ := hx
      obtain rfl := list1 hvs
      have hv' := hv
      simp only [VR] at hv'
      obtain ⟨y, rfl, _⟩ := hv'
      refine ⟨_, hse _ ?_, hv, rfl⟩
      simp [builtin, Instr.panic, goPanic]
    · cases h
  · -- unsafe.SliceData
    split at h
    · simp only [Option.some.injEq] at h
      subst h
      simp only [VRL] at hx
      obtain ⟨u, _, hvs, hv, rfl⟩ := hx
      obtain rfl := list1 hvs
      simp only [VR] at hv
      subst hv
      refine ⟨π, w, .value (.pointer none), hse _ ?_, .inl ⟨_, rfl, by simp [VR]⟩, Pi.le_refl π, hH⟩
      simp [builtin, Lib.run_unsafeSliceData_nil]
    · rename_i b o len cap esz ex
      split at h
      · cases h
      · simp only [Option.some.injEq] at h
        subst h
        simp only [VRL] at hx
        obtain ⟨u, _, hvs, hv, rfl⟩ := hx
        obtain rfl := list1 hvs
        simp only [VR] at hv
        obtain ⟨rb, δ, rs, off, cap', hp, rfl, hoff, hcap, hex, hrs⟩ := hv
        have hc : cap' ≠ 0 := by omega
        have ho : off = δ + o := by
          rcases hoff with h1 | h1
          · exact h1
          · omega
        subst ho
        refine ⟨π, w, .value (.pointer (some ⟨rb, δ + o, none⟩)), hse _ ?_, .inl ⟨_, rfl, by simp only [VR]; exact ⟨_, _, _, hp, rfl⟩⟩, Pi.le_refl π, hH⟩
        simp [builtin, Lib.run_unsafeSliceData_row _ _ _ _ _ _ hc]
    · cases h
  · -- unsafe.String
    split at h
    · rename_i pt it p n hts
      obtain rfl := list2 hts
      split at h
      · rename_i hle
        have hle' : n ≤ 9223372036854775807 := by simpa using hle
        rw [fNat_eq] at h
        simp only [VRL] at hx
        obtain ⟨pv, _, hvs, hp, iv, _, rfl, hi, rfl⟩ := hx
        obtain rfl := hi.int
        obtain rfl := list2 hvs
        exact unsafeStr_sound (ty := ty) hH hp hle' (fun v w' hr => hse _ (by have hr' : (Builtin.unsafeString_ #[pt, it] ty #[pv, Value.int .i64 ((n : Nat) : Int)]).run P w = .ok v w' := hr; simp only [Int.ofNat_eq_natCast]; simp [builtin, hr'])) h
      · cases h
    · cases h
  · -- len of a map
    split at h
    · rename_i t tr m hts
      simp only [VRL] at hx
      obtain ⟨mv, _, hvs, hm, rfl⟩ := hx
      obtain rfl := list1 hvs
      split at h
      · rename_i kt et es clock hu hb
        rw [fNat_eq] at h
        simp only [Option.some.injEq] at h
        subst h
        simp only [VR] at hm
        obtain ⟨rb, δ, rs, hp, rfl⟩ := hm
        obtain ⟨rb', δ', rs', es', h1, h2, h3⟩ := hH.blk _ _ hb
        rw [hp] at h1
        simp only [Option.some.injEq, Prod.mk.injEq] at h1
        obtain ⟨rfl, rfl, rfl⟩ := h1
        have hget := run_getObj_map (P := P) h2
        have hl : es'.size = es.length := by
          have : ∀ {l : List (AV × AV × Nat)} {es : List MapEntry}, EL π l es → es.length = l.length := by
            intro l
            induction l with
            | nil => intro es h; simp only [EL] at h; simp [h]
            | cons a l ih =>
              intro es h
              obtain ⟨k, v, n⟩ := a
              simp only [EL] at h
              obtain ⟨e, t, rfl, _, _, _, h4⟩ := h
              simp [ih h4]
          rw [← this h3]; simp
        have ht0 : ts[0]? = some t := by rw [← Array.getElem?_toList, hts]; rfl
        refine ⟨π, w, .value (goInt es'.size), hse _ ?_, .inl ⟨_, rfl, by simp [VR, goInt, hl]⟩, Pi.le_refl π, hH⟩
        simp [builtin, Builtin.len_, ht0, run_underlying hu, hget]
      · cases h
    · cases h
  · cases h

theorem loud_sound (hH : HR known base w0 π σ w) {e : Operand → Value} (hρ : RhoR π ρ e) {o : Oper} {f : Program → Rho → AS → Option AR} {r : AR} (hh : headOf o.op P = .loud f) (h : f P ρ σ = some r) : LoudR P known base w0 π σ w (execOp e o) r := by
  obtain ⟨dst, op, type, pos, after, guard⟩ := o
  dsimp only at hh
  cases op with
  | alloc t => cases hh; exact alloc_sound hH rfl h
  | box t x => cases hh; exact box_sound hH hρ rfl h
  | buildSlice t n ps => cases hh; exact buildSlice_sound hH hρ rfl h
  | insert t m k x => cases hh; exact mapUpdate_sound hH hρ (.inr rfl) h
  | store t a x => cases hh; exact store_sound hH hρ rfl h
  | makeMap t r => cases hh; exact makeMap_sound hH hρ rfl h
  | makeSlice t l c => cases hh; exact makeSlice_sound hH hρ rfl h
  | mapUpdate t m k x => cases hh; exact mapUpdate_sound hH hρ (.inl rfl) h
  | range t x => cases hh; exact range_sound hH hρ rfl h
  | next it st => cases hh; exact next_sound hH hρ rfl h
  | panic x => cases hh; exact panic_sound hρ rfl h
  | convert sx d x =>
    have hh' : hdConv sx d x P = .loud f := hh
    unfold hdConv at hh'
    split at hh'
    · cases hh'
    · cases hh'
      unfold lConv at h
      split at h
      · rename_i a ha
        exact byteConv_sound hH (hρ _ _ ha) (fun v w' hr => by simp [execOp, hr]) h
      · cases h
  | slice t x lo hi mx =>
    have hh' : hdSlice t x lo hi mx P = .loud f := hh
    unfold hdSlice at hh'
    split at hh' <;> cases hh'
  | call c =>
    have hh' : hdCall c P = .loud f := hh
    unfold hdCall at hh'
    split at hh' <;> (try (cases hh'; done)) <;> (try (cases hlm : lenOfMap P c <;> rw [hlm] at hh' <;> cases hh'; done))
    · rename_i g hc
      cases hh'
      exact call_sound hH hρ rfl hc h
    · rename_i b hc
      cases hh'
      unfold lCallB at h
      split at h
      · rename_i l hl
        refine builtin_sound (ty := type) (cs := c.args.map fun | .const _ => true | _ => false) (vs := c.args.map e) hH ?_ (fun R hR => ?_) h
        · simpa using argsA_rel hρ hl
        · rw [call_builtin rfl hc]; exact hR
      · cases h
  | defer c =>
    have hh' : hdDefer c P = .loud f := hh
    unfold hdDefer at hh'
    split at hh'
    · rename_i g hc
      cases hh'
      exact defer_sound hρ rfl hc rfl h
    · cases hh'
  | _ => cases hh
end Go.Proofs.YtjagjjdkgidkjaaGreatDoor.Ev
