/- Part Ev14 of a verified evaluator of closed calls: of no program; no condition. -/
import Derived.Test.YtjagjjdkgidkjaaGreatDoorEv13
set_option linter.all false
namespace Go.Proofs.YtjagjjdkgidkjaaGreatDoor.Ev
open Go Go.RowKit

variable {P : Program} {known : Nat → Bool} {base : Nat} {w0 : World} {π : Pi} {σ : AS} {w : World} {ρ : Rho}

theorem call_builtin {e : Operand → Value} {o : Oper} {c : Call} {b : Builtin} (ho : o.op = .call c) (hc : c.callee = .builtin b) :
    execOp e o = builtin b c.argTypes o.type (c.args.map fun | .const _ => true | _ => false) (c.args.map e) := by
  simp only [execOp, ho, resolve, hc, invoke]
  rfl

theorem share_ne (k : BK) (o : Nat) : k.share o ≠ .whole := by cases k <;> cases o <;> exact fun h => by cases h
theorem share_near {k : BK} {o : Nat} (h : (k.share o).near = true) : o = 0 ∧ k.near = true := by cases k <;> cases o <;> first | exact ⟨rfl, rfl⟩ | cases h
/-- The growth of a slice into a new row. -/
theorem grow_sound (hH : HR known base w0 π σ w) {st xt ty e : TypeId} {size bytes n : Nat} {z : AV} {r : AR} {s : Sem Next} (hu : P.underlying st = some (.slice e)) {d : TypeDesc} (hx : P.underlying xt = some d) (hd : (∃ e', d = .slice e') ∨ d = .string)
    (hs : sizeOfT P e = some size) (hb : bytesOfT P e = some bytes) (hz : zeroOfT P e = some z) (hzc : z.cells.length = size) {ba : Option Addr} {sLen sCap : Nat} {xv : Value} (hn : ∀ w, (Builtin.lenOf xv).run P w = .ok n w)
    {xs oldA : List AV} {vs olds : List Value} (hg : sCap < sLen + n) (hfit : 2 * (sLen + n) * bytes ≤ 281474976710656) (h62 : sLen + n ≤ 4611686018427387904)
    (hf : ∀ w' : World, w'.heap = w.heap → (Builtin.firstCells size n xv).run P w' = .ok ⟨vs⟩ w')
    (hfo : ∀ w' : World, w'.heap = w.heap → (Builtin.firstCells size sLen (.slice ba sLen sCap)).run P w' = .ok ⟨olds⟩ w')
    (rx : VRL π xs vs) (ro : VRL π oldA olds) (lx : xs.length = n * size) (lo : oldA.length = sLen * size)
    (hse : ∀ v w', (Builtin.append_ #[st, xt] ty #[.slice ba sLen sCap, xv]).run P w = .ok v w' → s.run P w = .ok (.value v) w')
    (h : σ.grow e size (oldA ++ xs) (sLen + n) = some r) : LoudR P known base w0 π σ w s r := by
  unfold AS.grow at h
  rw [AS.row_eq, fNat_eq] at h
  simp only [Option.some.injEq] at h
  subst h
  obtain ⟨cap', zv, h1, h2, h3⟩ := append_grow (ty := ty) (π := π) hu hx hd hs hb hz hn hg hfit h62 hf hfo
  have hzv := cells_size h2
  refine ⟨_, _, _, hse _ _ h3, .inl ⟨_, rfl, ?_⟩, hH.le_add _, hH.drew.row e (ro.append rx) (Builtin.zeroCells zv.cells (cap' - (sLen + n))).toList _ (fun h => by cases h)⟩
  simp only [VR]
  refine ⟨_, _, _, 0, cap', Pi.add_same _ _ _, rfl, .inl rfl, h1, (fun h => by cases h), ?_⟩
  have l1 := rx.length
  have l2 := ro.length
  have l3 : (Builtin.zeroCells zv.cells (cap' - (sLen + n))).toList.length = (cap' - (sLen + n)) * size := by simp [Builtin.zeroCells, hzv, hzc]
  rw [List.length_append, l1, l2, l3, lx, lo]
  have : sLen * size + n * size + (cap' - (sLen + n)) * size = cap' * size := by
    rw [← Nat.add_mul, ← Nat.add_mul]; congr 1; omega
  omega
theorem append_sound (hH : HR known base w0 π σ w) {st xt ty e : TypeId} {size n : Nat} {r : AR} {s : Sem Next} (hu : P.underlying st = some (.slice e)) {d : TypeDesc} (hx : P.underlying xt = some d) (hd : (∃ e', d = .slice e') ∨ d = .string)
    (hs : sizeOfT P e = some size) {xa sa : AV} {xv sv : Value} (hxv : VR π xa xv) (hsv : VR π sa sv) (hl : lenOfA xa = some n) {xs : List AV} (he : elems σ size xa n = some xs)
    (hse : ∀ v w', (Builtin.append_ #[st, xt] ty #[sv, xv]).run P w = .ok v w' → s.run P w = .ok (.value v) w')
    (h : σ.append P e sa xs n = some r) : LoudR P known base w0 π σ w s r := by
  have hn := lenOf_run (P := P) hl hxv
  obtain ⟨vs, hf, rx⟩ := elems_run hH he hl (Nat.le_refl n) hxv
  have lvx := rx.length
  unfold AS.append at h
  rw [oB_iff] at h; obtain ⟨size', hs', h⟩ := h
  rw [hs] at hs'; cases hs'
  rw [oB_iff] at h; obtain ⟨bytes, hb, h⟩ := h
  rw [oB_iff] at h; obtain ⟨z, hz, h⟩ := h
  rw [gB_iff] at h; obtain ⟨hzc, h⟩ := h
  have hzc' : z.cells.length = size := by simpa using hzc
  rw [gB_iff] at h; obtain ⟨hlx, h⟩ := h
  have hlx' : xs.length = n * size := by simpa using hlx
  cases sa with
  | nilslice =>
    dsimp only at h
    simp only [VR] at hsv
    subst hsv
    cases n with
    | zero =>
      simp only [Option.some.injEq] at h
      subst h
      have : vs = [] := by
        have : vs.length = 0 := by rw [lvx, hlx']; simp
        exact List.eq_nil_of_length_eq_zero this
      subst this
      have hr := append_room (ty := ty) (ba := none) (sLen := 0) (sCap := 0) (w1 := w) hu hx hd hs hn (Nat.le_refl 0) (hf w rfl) rfl
      exact ⟨π, w, _, hse _ _ hr, .inl ⟨_, rfl, by simp [VR]⟩, Pi.le_refl π, hH⟩
    | succ k =>
      dsimp only at h
      rw [gB_iff] at h; obtain ⟨g1, h⟩ := h
      rw [gB_iff] at h; obtain ⟨g2, h⟩ := h
      have g1' : 2 * (k + 1) * bytes ≤ 281474976710656 := by simpa using g1
      have g2' : k + 1 ≤ 4611686018427387904 := by simpa using g2
      refine grow_sound (ba := none) (sLen := 0) (sCap := 0) (oldA := []) (olds := []) hH hu hx hd hs hb hz hzc' hn (by omega) (by rw [Nat.zero_add]; exact g1') (by rw [Nat.zero_add]; exact g2') hf (fun w' _ => by simp [Builtin.firstCells]) rx VRL.nil hlx' (by simp) hse ?_
      rw [Nat.zero_add, List.nil_append]
      exact h
  | slice b o len cap esz ex =>
    dsimp only at h
    simp only [VR] at hsv
    obtain ⟨rb, δ, rs, off, cap', hp, rfl, hoff, hcap, hex, hrs⟩ := hsv
    rw [gB_iff] at h; obtain ⟨ges, h⟩ := h
    have ges' : esz = size := by simpa using ges
    subst ges'
    rw [bM_eq] at h
    split at h
    · -- there is room, for sure
      rename_i groom
      have hroom : len + n ≤ cap := by simpa using groom
      have hroom' : len + n ≤ cap' := by omega
      split at h
      · rw [fNat_eq] at h
        simp only [Option.some.injEq] at h
        subst h
        simp only [VRL] at rx
        subst rx
        have hr := append_room (ty := ty) (ba := some ⟨rb, off, none⟩) (w1 := w) hu hx hd hs hn hroom' (hf w rfl) (by simp [storeCells])
        refine ⟨π, w, _, hse _ _ hr, .inl ⟨_, rfl, ?_⟩, Pi.le_refl π, hH⟩
        simp only [VR]
        refine ⟨rb, δ, rs, off, cap', hp, rfl, ?_, hcap, hex, hrs⟩
        rcases hoff with h1 | h1
        · exact .inl h1
        · exact .inr (by omega)
      · rename_i hne
        rw [oB_iff] at h; obtain ⟨σ', hw, h⟩ := h
        rw [fNat_eq] at h
        simp only [Option.some.injEq] at h
        subst h
        obtain ⟨rb', δ', rs', h1, h2, h3, h4⟩ := hH.write hw rx
        rw [hp] at h1
        simp only [Option.some.injEq, Prod.mk.injEq] at h1
        obtain ⟨rfl, rfl, rfl⟩ := h1
        have hn0 : 0 < n := by
          rcases Nat.eq_zero_or_pos n with h0 | h0
          · subst h0
            have : xs = [] := List.eq_nil_of_length_eq_zero (by rw [hlx']; simp)
            exact absurd this hne
          · exact h0
        have hoff' : off = δ + o := by
          rcases hoff with h5 | h5
          · exact h5
          · omega
        subst hoff'
        have hst := run_storeCells_cells (P := P) rb (δ + o + len * esz) vs 0 w (fun j hj => by have := (h2 j hj).1; rw [show δ + o + len * esz + 0 + j = δ + (o + len * esz) + j by omega]; exact this)
          (fun j hj => by have := (h2 j hj).2; rw [show δ + o + len * esz + 0 + j = δ + (o + len * esz) + j by omega]; exact this) h3
        have hr := append_room (ty := ty) (ba := some ⟨rb, δ + o, none⟩) (w1 := w.setCells rb (δ + (o + len * esz)) vs) hu hx hd hs hn hroom' (hf w rfl) (by
          simp only [add_eq]; rw [hst]; simp [Nat.add_assoc])
        refine ⟨π, _, _, hse _ _ hr, .inl ⟨_, rfl, ?_⟩, Pi.le_refl π, h4⟩
        simp only [VR]
        exact ⟨rb, δ, rs, δ + o, cap', hp, rfl, .inl rfl, hcap, hex, hrs⟩
    · rename_i groom
      have hover : cap < len + n := by
        have : ¬ (len + n ≤ cap) := fun hle => groom (by simpa using hle)
        omega
      split at h
      · rename_i c bs e' frz own wh hblk
        rw [gB_iff] at h; obtain ⟨g1, h⟩ := h
        rw [gB_iff] at h; obtain ⟨g2, h⟩ := h
        rw [gB_iff] at h; obtain ⟨g3, h⟩ := h
        rw [oB_iff] at h; obtain ⟨olds, hro, h⟩ := h
        have g1' : 2 * (len + n) * bytes ≤ 281474976710656 := by simpa using g1
        have g2' : len + n ≤ 4611686018427387904 := by simpa using g2
        have g3' : o + len * esz ≤ bs := by simpa using g3
        obtain ⟨rb', δ', rs', os, c1, c2, c3, c4, c5⟩ := hH.cells hblk hro g3'
        rw [hp] at c1
        simp only [Option.some.injEq, Prod.mk.injEq] at c1
        obtain ⟨rfl, rfl, rfl⟩ := c1
        have hlo : olds.length = len * esz := by rw [← c2.length]; exact c3
        have hfo : ∀ w' : World, w'.heap = w.heap → (Builtin.firstCells esz len (.slice (some ⟨rb, off, none⟩) len cap')).run P w' = .ok ⟨os⟩ w' := by
          intro w' hw'
          refine run_firstCells_some (P := P) w' esz len ⟨rb, off, none⟩ len cap' os c3 (fun j u hu => ?_)
          rw [add_eq]
          have hj : j < os.length := (List.getElem?_eq_some_iff.1 hu).1
          have hoff' : off = δ + o := by
            rcases hoff with h5 | h5
            · exact h5
            · have h6 : len = 0 := h5.1
              rw [h6, Nat.zero_mul] at c3; omega
          subst hoff'
          have := c4 j u hu
          unfold World.cell? at this ⊢
          rw [hw']; exact this
        split at h
        · -- the capacity is known: it grows
          have hcc := hex rfl
          exact grow_sound hH hu hx hd hs hb hz hzc' hn (by omega) g1' g2' hf hfo rx c2 hlx' hlo hse h
        · rw [gB_iff] at h; obtain ⟨g4, h⟩ := h
          simp only [Bool.and_eq_true] at g4
          obtain ⟨⟨⟨g5, g6⟩, g7⟩, g8⟩ := g4
          have g6' : e = e' := by simpa using g6
          have g7' : frz ≤ o + len * esz := by simpa using g7
          subst g6'
          subst g5
          rw [T.seq_eq, fNat_eq, fNat_eq, AS.upd_eq, AS.new_eq, fNat_eq] at h
          simp only [Option.some.injEq] at h
          -- the old name dies
          have hm := hH.mine b _ _ hblk rfl hp
          have hH1 : HR known base w0 π (σ.put b .dead) w := hH.turn hblk rfl hp (fun h => by cases h) trivial (fun _ _ => rfl) rfl hH.below
          have hno : ∀ c C q, (σ.put b .dead).get c = some C → C.live = true → π c = some q → q.1 ≠ rb := by
            intro c' C q hc lc hq e1
            by_cases e2 : c' = b
            · subst e2; rw [AS.get_put] at hc; cases hc; cases lc
            · rw [AS.get_put_ne _ _ e2] at hc
              exact e2 (hH.inj b c' _ C _ q hblk hc rfl lc hp hq e1.symm).symm
          by_cases hroom : len + n ≤ cap'
          · -- it fits
            subst h
            obtain ⟨rb', δ', rs', cs, fr, d1, ⟨el, d2, d2e⟩, d3, d4, d5, d6, d7, d8⟩ := hH.blk b _ hblk
            rw [d2e rfl] at d2
            rw [hp] at d1
            simp only [Option.some.injEq, Prod.mk.injEq] at d1
            obtain ⟨rfl, rfl, rfl⟩ := d1
            have hrb : rb < w.heap.size := hH.bnd b _ hp
            have hone := allOne_one g8 rx
            -- where it lies
            have hoff' : off = δ + o ∨ vs = [] := by
              rcases hoff with h5 | h5
              · exact .inl h5
              · refine .inr (List.eq_nil_of_length_eq_zero ?_)
                have h6 : n = 0 := by omega
                rw [lvx, hlx', h6, Nat.zero_mul]
            have hmul : (len + n) * esz ≤ cap' * esz := Nat.mul_le_mul_right _ hroom
            have hthere : ∀ j, j < vs.length → (w.cell? ⟨rb, off + len * esz + 0 + j, none⟩).isSome = true ∧ w.frozen? ⟨rb, off + len * esz + 0 + j, none⟩ = false := by
              intro j hj
              have hoff2 : off = δ + o := hoff'.resolve_right (fun e => by subst e; simp at hj)
              have hlt : off + len * esz + j < cs.size := by
                rw [d3]
                have : (len + n) * esz = len * esz + n * esz := Nat.add_mul _ _ _
                omega
              refine ⟨by simp [World.cell?, d2, hlt], ?_⟩
              cases hfz : w.frozen? ⟨rb, off + len * esz + 0 + j, none⟩ with
              | false => rfl
              | true =>
                simp only [World.frozen?, d2] at hfz
                obtain ⟨lo, hi⟩ := fr
                simp at hfz
                have := d6 rfl (off + len * esz + j) (by omega) hfz.1 hfz.2
                omega
            have hst := run_storeCells_cells (P := P) rb (off + len * esz) vs 0 w (fun j hj => (hthere j hj).1) (fun j hj => (hthere j hj).2) hone
            have hr := append_room (ty := ty) (ba := some ⟨rb, off, none⟩) (w1 := w.setCells rb (off + len * esz) vs) hu hx hd hs hn hroom (hf w rfl) (by
              simp only [add_eq]; rw [hst]; simp)
            obtain ⟨cs', a1, a2, a3⟩ := setCells_heap rb vs (off + len * esz) w cs e fr d2
            have hH2 : HR known base w0 π (σ.put b .dead) (w.setCells rb (off + len * esz) vs) :=
              hH.turn hblk rfl hp (fun h => by cases h) trivial (fun k hk => setCells_other rb vs _ w k hk) (setCells_size rb vs _ w) (setCells_below rb hm vs _ w hH.below)
            have hall := c2.append rx
            have hH3 := hH2.share (.cells (lay (olds ++ xs) 0 .nil) ((len + n) * esz) e (frz - o) true (wh.share o)) (rb, δ + o, rs) (by rw [setCells_size]; exact hrb) hm hno
              ⟨rb, δ + o, rs, cs', fr, Pi.add_same _ _ _, ⟨_, a1, fun _ => rfl⟩, by omega, by
                rcases hoff' with h5 | h5
                · have : (len + n) * esz = len * esz + n * esz := Nat.add_mul _ _ _; omega
                · subst h5
                  simp at lvx
                  have : (len + n) * esz = len * esz + n * esz := Nat.add_mul _ _ _
                  omega, fun i hi => by
                have hle := hH2.le_add (rb, δ + o, rs)
                have hlt : i < (olds ++ xs).length := by rw [List.length_append, hlo, hlx', ← Nat.add_mul]; exact hi
                obtain ⟨x, hx'⟩ : ∃ x, (olds ++ xs)[i]? = some x := ⟨(olds ++ xs)[i], List.getElem?_eq_getElem hlt⟩
                obtain ⟨v, hv, hrv⟩ := hall.get i x hx'
                refine ⟨x, v, by rw [get_lay, if_pos ⟨by omega, by omega⟩]; simpa using hx', ?_, VR.mono hle _ _ hrv⟩
                rw [a3]
                by_cases hio : i < len * esz
                · rw [List.getElem?_append_left (by omega)] at hv
                  have := c4 i v hv
                  simp only [World.cell?, d2] at this
                  have hcs : cs[δ + o + i]? = some v := by simpa using this
                  rw [if_neg]
                  · exact hcs
                  · rcases hoff' with h5 | h5
                    · omega
                    · subst h5; simp; omega
                · rw [List.getElem?_append_right (by omega)] at hv
                  have hlt2 : i - os.length < vs.length := (List.getElem?_eq_some_iff.1 hv).1
                  have h5 : off = δ + o := hoff'.resolve_right (fun e => by subst e; simp at hlt2)
                  have : (len + n) * esz = len * esz + n * esz := Nat.add_mul _ _ _
                  rw [if_pos ⟨by omega, by omega, by omega⟩]
                  rw [show δ + o + i - (off + len * esz) = i - os.length by omega]
                  exact hv, fun _ o' ho' h1 h2 => by have := d6 rfl o' ho' h1 h2; omega, fun h => absurd h (share_ne wh o), fun _ hk => (by
                obtain ⟨o0, hn⟩ := share_near hk
                obtain ⟨e1, e2⟩ := d8 rfl hn
                subst o0
                exact ⟨by omega, e2.imp id (fun h9 => by omega)⟩)⟩
            refine ⟨_, _, _, hse _ _ hr, .inl ⟨_, rfl, ?_⟩, hH2.le_add _, hH3⟩
            simp only [VR]
            refine ⟨rb, δ + o, rs, off, cap', Pi.add_same _ _ _, rfl, ?_, by omega, (fun h => by cases h), hrs⟩
            rcases hoff with h5 | h5
            · exact .inl (by omega)
            · exact .inr (by omega)
          · -- it grows
            subst h
            obtain ⟨cap2, zv, e1, e2, e3⟩ := append_grow (ty := ty) (π := π) (w := w) hu hx hd hs hb hz hn (ba := some ⟨rb, off, none⟩) (sLen := len) (sCap := cap') (by omega) g1' g2' hf hfo
            have hzv := cells_size e2
            have hall := c2.append rx
            have hlall : (olds ++ xs).length = (len + n) * esz := by rw [List.length_append, hlo, hlx', ← Nat.add_mul]
            have hrow := hH1.drew.row e hall (Builtin.zeroCells zv.cells (cap2 - (len + n))).toList (wh.share o) (fun h => absurd h (share_ne wh o)) (frz - o)
            rw [hlall] at hrow
            refine ⟨_, _, _, hse _ _ e3, .inl ⟨_, rfl, ?_⟩, hH1.le_add _, hrow⟩
            · simp only [VR]
              refine ⟨_, _, _, 0, cap2, Pi.add_same _ _ _, rfl, .inl rfl, e1, (fun h => by cases h), ?_⟩
              have l3 : (Builtin.zeroCells zv.cells (cap2 - (len + n))).toList.length = (cap2 - (len + n)) * esz := by simp [Builtin.zeroCells, hzv, hzc']
              have l4 := hall.length
              rw [l4, hlall, l3]
              have : (len + n) * esz + (cap2 - (len + n)) * esz = cap2 * esz := by rw [← Nat.add_mul]; congr 1; omega
              omega
      · cases h
  | _ => cases h
end Go.Proofs.YtjagjjdkgidkjaaGreatDoor.Ev
