/- Part Ev15 of a verified evaluator of closed calls: of no program; no condition. -/
import Derived.Test.YtjagjjdkgidkjaaGreatDoorEv14
import Derived.Lib.UnsafeStr
set_option linter.all false
namespace Go.Proofs.YtjagjjdkgidkjaaGreatDoor.Ev
open Go Go.RowKit

variable {P : Program} {known : Nat → Bool} {base : Nat} {w0 : World} {π : Pi} {σ : AS} {w : World} {ρ : Rho}

theorem copy_sound (hH : HR known base w0 π σ w) {dt st ty e : TypeId} {size n m : Nat} {r : AR} {s : Sem Next} (hu : P.underlying dt = some (.slice e))
    (hs : sizeOfT P e = some size) {b o dn dc esz : Nat} {ex : Bool} {sa : AV} {dv sv : Value} (hdv : VR π (.slice b o dn dc esz ex) dv) (hsv : VR π sa sv) (hl : lenOfA sa = some m) {xs : List AV} (hn : n = min m dn) (he : elems σ size sa n = some xs)
    (hse : ∀ v w', (Builtin.copy_ #[dt, st] ty #[dv, sv]).run P w = .ok v w' → s.run P w = .ok (.value v) w')
    {σ' : AS} (hw : xs = [] ∧ σ' = σ ∨ (0 < dn ∧ writeL σ b o xs = some σ')) (hr : r = .val (.int .i64 (.ofNat n)) σ') : LoudR P known base w0 π σ w s r := by
  subst hr
  have hln := lenOf_run (P := P) hl hsv
  obtain ⟨vs, hf, rx⟩ := elems_run (P := P) hH he hl (by omega) hsv
  have hfw := hf w rfl
  simp only [VR] at hdv
  obtain ⟨rb, δ, rs, off, cap', hp, rfl, hoff, hcap, hex, hrs⟩ := hdv
  have run : ∀ w1, (storeCells ⟨rb, off, none⟩ vs).run P w = .ok () w1 → (Builtin.copy_ #[dt, st] ty #[.slice (some ⟨rb, off, none⟩) dn cap', sv]).run P w = .ok (goInt n) w1 := by
    intro w1 h1
    have hmin : Nat.min m dn = n := hn.symm
    simp [Builtin.copy_, run_underlying hu, hln, sizeOfT_run hs, hmin, hfw, h1]
  rcases hw with ⟨rfl, rfl⟩ | ⟨hdn, hw⟩
  · simp only [VRL] at rx
    subst rx
    exact ⟨π, w, _, hse _ _ (run w (by simp [storeCells])), .inl ⟨_, rfl, by simp [VR, goInt]⟩, Pi.le_refl π, hH⟩
  · obtain ⟨rb', δ', rs', h1, h2, h3, h4⟩ := hH.write hw rx
    rw [hp] at h1
    simp only [Option.some.injEq, Prod.mk.injEq] at h1
    obtain ⟨rfl, rfl, rfl⟩ := h1
    have hoff' : off = δ + o := by
      rcases hoff with h5 | h5
      · exact h5
      · omega
    subst hoff'
    have hst := run_storeCells_cells (P := P) rb (δ + o) vs 0 w (fun j hj => by simpa using (h2 j hj).1) (fun j hj => by simpa using (h2 j hj).2) h3
    simp only [Nat.add_zero] at hst
    exact ⟨π, _, _, hse _ _ (run _ hst), .inl ⟨_, rfl, by simp [VR, goInt]⟩, Pi.le_refl π, h4⟩

/-! ### bytes -/
theorem byteL_rel : ∀ {xs : List AV} {l : List Nat} {vs : List Value}, byteL xs = some l → VRL π xs vs → ∃ q : List UInt8, l = q.map UInt8.toNat ∧ vs = q.map fun b => Value.int .u8 b.toNat
  | [], l, vs, h, hv => by
    simp only [byteL, Option.some.injEq] at h
    simp only [VRL] at hv
    subst h; subst hv
    exact ⟨[], rfl, rfl⟩
  | x :: xs, l, vs, h, hv => by
    simp only [VRL] at hv
    obtain ⟨v, t, rfl, h1, h2⟩ := hv
    simp only [byteL] at h
    rw [oB_iff] at h; obtain ⟨b, hb, h⟩ := h
    rw [oB_iff] at h; obtain ⟨l2, hl2, h⟩ := h
    simp only [Option.some.injEq] at h
    obtain ⟨q, rfl, rfl⟩ := byteL_rel hl2 h2
    unfold byte1 at hb
    split at hb
    · rename_i c
      obtain ⟨g, hb⟩ := gB_some hb
      have g' : c ≤ 255 := by simpa using g
      simp only [Option.some.injEq] at hb
      subst hb
      have := h1.int
      subst this
      have hbt : (UInt8.ofNat c).toNat = c := by simp; omega
      exact ⟨UInt8.ofNat c :: q, by rw [← h, List.map_cons, hbt], by rw [List.map_cons, hbt]; rfl⟩
    · cases hb
theorem liesAt_one {e : TypeId} (hc : P.cellsOf e = 1) (count off n : Nat) (hn : off + n ≤ count) : liesAt P P.depth e count off e n = true := by
  have hd : P.depth = (2 * (P.types.size + Made.depth) + 1) + 1 := rfl
  rw [hd]
  simp only [liesAt, Bool.or_eq_true]
  left
  rw [hd]
  simp [rowAt, hc, hn, sameLayout, Nat.mod_one]
theorem cellsOf_eq {t : TypeId} {n : Nat} (h : sizeOfT P t = some n) : P.cellsOf t = n := by
  unfold sizeOfT at h
  simp [Program.cellsOf, h]
theorem freeze_heap {rb off n : Nat} {cs : Array Value} {e : TypeId} {lo hi : Nat} (h : w.heap[rb]? = some (.cells cs e (lo, hi))) (hn : n ≠ 0) :
    (w.freeze ⟨rb, off, none⟩ n).heap[rb]? = some (.cells cs e (if lo == hi then (off, off + n) else (min lo off, max hi (off + n)))) ∧ (∀ k, k ≠ rb → (w.freeze ⟨rb, off, none⟩ n).heap[k]? = w.heap[k]?) ∧
      (w.freeze ⟨rb, off, none⟩ n).heap.size = w.heap.size := by
  unfold World.freeze
  rw [if_neg hn]
  refine ⟨by simp [Array.getElem?_modify, h], fun k hk => by simp [Array.getElem?_modify, Ne.symm hk], by simp⟩
theorem unsafeStr_sound (hH : HR known base w0 π σ w) {pt it ty : TypeId} {n : Nat} {p : AV} {pv : Value} {r : AR} {s : Sem Next} (hp : VR π p pv) (hmax : n ≤ 9223372036854775807)
    (hse : ∀ v w', (Builtin.unsafeString_ #[pt, it] ty #[pv, .int .i64 n]).run P w = .ok v w' → s.run P w = .ok (.value v) w')
    (h : unsafeStr P σ pt p n = some r) : LoudR P known base w0 π σ w s r := by
  unfold unsafeStr at h
  cases n with
  | zero =>
    dsimp only at h
    have fin : ∀ a, pv = .pointer a → LoudR P known base w0 π σ w s (.val (.str []) σ) := by
      intro a ha
      subst ha
      exact ⟨π, w, .value (.string .empty), hse _ _ (Lib.run_unsafeString_none (P := P) (w := w) pt it ty a), .inl ⟨_, rfl, by simp only [VR]; exact ⟨_, rfl, rfl⟩⟩, Pi.le_refl π, hH⟩
    split at h
    · simp only [Option.some.injEq] at h; subst h
      simp only [VR] at hp; exact fin none hp
    · simp only [Option.some.injEq] at h; subst h
      simp only [VR] at hp; obtain ⟨_, _, _, _, hp⟩ := hp; exact fin _ hp
    · cases h
  | succ n =>
    dsimp only at h
    cases p <;> try (cases h; done)
    rename_i b o
    cases hpt : P.underlying pt with
    | none => rw [hpt] at h; cases h
    | some dpt =>
      rw [hpt] at h
      cases dpt <;> try (cases h; done)
      rename_i u
      dsimp only at h
      cases hb : σ.get b with
      | none => rw [hb] at h; cases h
      | some B =>
        rw [hb] at h
        cases B <;> try (cases h; done)
        rename_i c bs e frz own wh
        cases own <;> try (cases h; done)
        dsimp only at h
        rw [gB_iff] at h; obtain ⟨g0, h⟩ := h
        rw [gB_iff] at h; obtain ⟨g1, h⟩ := h
        rw [gB_iff] at h; obtain ⟨g2, h⟩ := h
        rw [oB_iff] at h; obtain ⟨sz, hsz, h⟩ := h
        rw [gB_iff] at h; obtain ⟨g3, h⟩ := h
        rw [oB_iff] at h; obtain ⟨xs, hxs, h⟩ := h
        rw [oB_iff] at h; obtain ⟨l, hl, h⟩ := h
        rw [fNats_eq, fNat_eq, AS.upd_eq] at h
        simp only [Option.some.injEq] at h
        subst h
        simp only [Bool.and_eq_true, Nat.beq_eq] at g0
        obtain ⟨g0, rfl⟩ := g0
        have g1' : e = u := by simpa using g1
        subst g1'
        have g2' : 0 + (n + 1) ≤ bs := by simpa using g2
        have g3' : sz = 1 := by simpa using g3
        subst g3'
        have hc1 := cellsOf_eq hsz
        simp only [VR] at hp
        obtain ⟨rb, δ, rs, hp, rfl⟩ := hp
        obtain ⟨rb', δ', rs', vs, h1, h2, h3, h4, h5⟩ := hH.cells hb hxs g2'
        rw [hp] at h1
        simp only [Option.some.injEq, Prod.mk.injEq] at h1
        obtain ⟨rfl, rfl, rfl⟩ := h1
        obtain ⟨q, rfl, rfl⟩ := byteL_rel hl h2
        have hq : q.length = n + 1 := by simpa using h3
        obtain ⟨rb', δ', rs', cs, ⟨lo, hi⟩, d1, ⟨el, d2, d2e⟩, d3, d4, d5, d6, d7, d8⟩ := hH.blk b _ hb
        rw [d2e rfl] at d2
        rw [hp] at d1
        simp only [Option.some.injEq, Prod.mk.injEq] at d1
        obtain ⟨rfl, rfl, rfl⟩ := d1
        obtain ⟨hδ, hfr⟩ := d8 rfl g0
        subst hδ
        have hm := hH.mine b _ _ hb rfl hp
        obtain ⟨f1, f2, f3⟩ := freeze_heap (off := 0) (n := n + 1) d2 (by omega)
        have hsh : w.shape? rb = some (e, rs) := by simp [World.shape?, d2, d3]
        have hrun := Lib.run_unsafeString_row (P := P) (w := w) pt it ty e hpt hc1 rb rs hsh q (by intro h0; rw [h0] at hq; simp at hq) (by omega) (by omega) (fun j x hx => by
          rw [add_eq]
          have := h4 j (.int .u8 x.toNat) (by rw [List.getElem?_map, hx]; rfl)
          simpa using this)
        rw [hq] at hrun
        refine ⟨π, w.freeze ⟨rb, 0, none⟩ (n + 1), .value (.string ⟨q.toArray⟩), hse _ _ hrun, .inl ⟨_, rfl, by simp only [VR]; exact ⟨_, rfl, by simp [bytesOf]⟩⟩, Pi.le_refl π,
          hH.turn hb rfl hp (fun _ => rfl) ⟨rb, 0, rs, cs, _, hp, ⟨_, f1, fun _ => rfl⟩, d3, d4, d5, ?_, d7, ?_⟩ f2 f3 (Lib.below_freeze hH.below hm _)⟩
        · intro _ o' ho' h1 h2
          by_cases hlh : (lo == hi) = true
          · rw [if_pos hlh] at h1 h2; dsimp only at h1 h2
            omega
          · rw [if_neg hlh] at h1 h2; dsimp only at h1 h2
            have hne : lo ≠ hi := fun e => hlh (by simp [e])
            rcases hfr with h8 | h8
            · exact absurd h8 hne
            · dsimp only at h8
              omega
        · intro _ _
          refine ⟨rfl, ?_⟩
          by_cases hlh : (lo == hi) = true
          · rw [if_pos hlh]
            right; show 0 + (n + 1) ≤ _; omega
          · rw [if_neg hlh]
            have hne : lo ≠ hi := fun e => hlh (by simp [e])
            rcases hfr with h8 | h8
            · exact absurd h8 hne
            · dsimp only at h8
              right
              show max hi (0 + (n + 1)) ≤ _
              omega
end Go.Proofs.YtjagjjdkgidkjaaGreatDoor.Ev
