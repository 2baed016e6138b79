/- Part Ev16 of a verified evaluator of closed calls: of no program; no condition. -/
import Derived.Test.YtjagjjdkgidkjaaGreatDoorEv15
import Derived.Lib.ConvBytes
import Derived.Laws.BytesString
set_option linter.all false
namespace Go.Proofs.YtjagjjdkgidkjaaGreatDoor.Ev
open Go Go.RowKit

variable {P : Program} {known : Nat → Bool} {base : Nat} {w0 : World} {π : Pi} {σ : AS} {w : World} {ρ : Rho}

/-- The same abstract heap in another world. -/
theorem HR.world (h : HR known base w0 π σ w) {w' : World} (hB : ∀ b B, σ.get b = some B → BR π b B w → BR π b B w') (hs : w'.heap.size = w.heap.size) (hbel : Below base w0 w') : HR known base w0 π σ w' :=
  ⟨fun b B hb => hB b B hb (h.blk b B hb), h.inj, h.fresh, fun b p hp => by rw [hs]; exact h.bnd b p hp, h.mine, by rw [hs]; exact h.low, hbel, h.glob⟩

theorem grown_ge (w : World) (n cap : Nat) (e : TypeId) : n ≤ grownCap w n cap e := by
  simp only [grownCap, Question.cut]; omega
theorem bytesW_below (hb : base ≤ w.heap.size) (h : Below base w0 w) (e : TypeId) (s : ByteArray) : Below base w0 (Lib.bytesWorld w e s) := by
  unfold Lib.bytesWorld
  exact Lib.below_freeze (h.drew.alloc (by simpa using hb) _) hb 1

theorem bytesOf_cells (s : ByteArray) : VRL π ((bytesOf s).map fun b => AV.int .u8 (.ofNat b)) (s.data.toList.map fun b => Value.int .u8 b.toNat) := by
  unfold bytesOf
  induction s.data.toList with
  | nil => simp [VRL]
  | cons b l ih => simp only [List.map_cons, VRL]; exact ⟨_, _, rfl, by simp [VR], ih⟩

theorem stringBytes_sound (hH : HR known base w0 π σ w) {sx d e : TypeId} {l : List Nat} {xv : Value} {r : AR} {s : Sem Next} (hs : P.underlying sx = some .string) (hd : P.underlying d = some (.slice e)) (he : P.underlying e = some (.int .u8))
    (hx : VR π (.str l) xv) (hse : ∀ v w', (convert sx d xv).run P w = .ok v w' → s.run P w = .ok (.value v) w')
    (h : (fNat l.length fun n => σ.row e (l.map fun b => .int .u8 (.ofNat b)) .wild fun b σ => some (AR.val (.slice b 0 n n 1 false) σ)) = some r) : LoudR P known base w0 π σ w s r := by
  rw [fNat_eq, AS.row_eq] at h
  simp only [Option.some.injEq] at h
  subst h
  simp only [VR] at hx
  obtain ⟨s', rfl, rfl⟩ := hx
  have hrun := hse _ _ (Lib.run_convert_string_bytes w sx d e s' hs hd he)
  have hrow := hH.drew.row e (bytesOf_cells s') (List.replicate (grownCap w s'.size 0 e - s'.size) (.int .u8 0)) .wild (fun h => by cases h)
  have hcs : (List.map (fun b => Value.int IntKind.u8 ↑b.toNat) s'.data.toList ++ List.replicate (grownCap w s'.size 0 e - s'.size) (Value.int .u8 0)).toArray = Lib.bytesCells w e s' := by
    apply Array.ext'; simp [Lib.bytesCells]
  rw [hcs] at hrow
  have hge := grown_ge w s'.size 0 e
  have hsz : (Lib.bytesCells w e s').size = grownCap w s'.size 0 e := by
    have : s'.data.size = s'.size := rfl
    simp [Lib.bytesCells, this]; omega
  refine ⟨_, _, _, hrun, .inl ⟨_, rfl, ?_⟩, hH.le_add (w.heap.size, 0, _), hrow.world (fun b B hb hB => ?_) ?_ ?_⟩
  · simp only [VR, bytesOf_length]
    refine ⟨_, _, _, 0, _, Pi.add_same _ _ _, rfl, .inl rfl, hge, (fun h => by cases h), ?_⟩
    simp [List.length_map]
    have : s'.data.size = s'.size := rfl
    omega
  · by_cases e1 : b = σ.next
    · subst e1
      rw [AS.get_push] at hb; cases hb
      obtain ⟨rb, δ, rs, cs, fr, h1, ⟨el, h2, h2e⟩, h3, h4, h5, h6, h7, h8⟩ := hB
      rw [h2e rfl] at h2
      rw [Pi.add_same] at h1
      simp only [Option.some.injEq, Prod.mk.injEq] at h1
      obtain ⟨rfl, rfl, rfl⟩ := h1
      have hcs2 : cs = Lib.bytesCells w e s' := by
        have : (w.drew.alloc (.cells (Lib.bytesCells w e s') e)).heap[w.heap.size]? = some (.cells (Lib.bytesCells w e s') e (0, 0)) := by
          simp [World.alloc, World.drew, -World.alloc_eq, -World.drew_eq]
        have h2' : (w.drew.alloc (.cells (Lib.bytesCells w e s') e)).heap[w.heap.size]? = some (.cells cs e fr) := h2
        rw [this] at h2'
        simp only [Option.some.injEq, Obj.cells.injEq] at h2'
        exact h2'.1.symm
      subst hcs2
      exact ⟨w.heap.size, 0, _, Lib.bytesCells w e s', _, Pi.add_same _ _ _, ⟨_, Lib.bytesWorld_at_new w e s', fun _ => rfl⟩, h3, h4, h5, fun _ o ho h1 _ => (by dsimp only at h1; omega), fun h => (by cases h), fun _ h => (by cases h)⟩
    · refine BR.mono (Pi.le_refl _) (fun p hp => ?_) hB
      rw [Pi.add_ne _ _ e1] at hp
      have hlt := hH.bnd b p hp
      rw [Lib.bytesWorld_at_old w e s' _ hlt]
      exact (Below.heap_alloc w.drew _ _ (show p.1 < w.drew.heap.size from hlt)).symm
  · rw [Lib.bytesWorld_size]
    show _ = (w.heap.push _).size
    simp
  · exact bytesW_below hH.low hH.below e s'

theorem foldl_push (q : List UInt8) : ∀ acc : ByteArray, ((q.map fun b => Value.int .u8 b.toNat).map fun v => v).length = q.length → (q.map fun b : UInt8 => (b.toNat : Int)).foldl (fun r n => r.push (UInt8.ofNat n.toNat)) acc = ⟨(acc.data.toList ++ q).toArray⟩ := by
  induction q with
  | nil => intro acc _; simp
  | cons b q ih =>
    intro acc _
    simp only [List.map_cons, List.foldl_cons]
    rw [ih _ (by simp)]
    simp [ByteArray.push]

theorem byteConv_sound (hH : HR known base w0 π σ w) {sx d : TypeId} {x : AV} {xv : Value} {r : AR} {s : Sem Next} (hx : VR π x xv)
    (hse : ∀ v w', (convert sx d xv).run P w = .ok v w' → s.run P w = .ok (.value v) w') (h : byteConv P σ sx d x = some r) : LoudR P known base w0 π σ w s r := by
  unfold byteConv at h
  split at h
  · -- a string to bytes
    rename_i e l hs hd
    cases he : P.underlying e with
    | none => rw [he] at h; cases h
    | some de =>
      rw [he] at h
      cases de <;> try (cases h; done)
      rename_i k
      cases k <;> try (cases h; done)
      exact stringBytes_sound hH hs hd he hx hse h
  · -- no bytes to a string
    rename_i e hs hd
    cases he : P.underlying e with
    | none => rw [he] at h; cases h
    | some de =>
      rw [he] at h
      cases de <;> try (cases h; done)
      rename_i k
      cases k <;> try (cases h; done)
      simp only [Option.some.injEq] at h
      subst h
      simp only [VR] at hx
      subst hx
      refine ⟨π, w, _, hse (.string .empty) w ?_, .inl ⟨_, rfl, by simp only [VR]; exact ⟨_, rfl, rfl⟩⟩, Pi.le_refl π, hH⟩
      rw [run_convert_bytes_string w sx d e none 0 0 hs he hd]
      simp [Conv.bytesToString]
  · -- bytes to a string
    rename_i e b o n cap esz ex hs hd
    cases he : P.underlying e with
    | none => rw [he] at h; cases h
    | some de =>
      rw [he] at h
      cases de <;> try (cases h; done)
      rename_i k
      cases k <;> try (cases h; done)
      dsimp only at h
      cases hb : σ.get b with
      | none => rw [hb] at h; cases h
      | some B =>
        rw [hb] at h
        cases B <;> try (cases h; done)
        rename_i c bs e' frz own kd
        dsimp only at h
        rw [gB_iff] at h; obtain ⟨g2, h⟩ := h
        rw [oB_iff] at h; obtain ⟨xs, hxs, h⟩ := h
        rw [oB_iff] at h; obtain ⟨l, hl, h⟩ := h
        rw [fNats_eq] at h
        simp only [Option.some.injEq] at h
        subst h
        have g2' : o + n ≤ bs := by simpa using g2
        simp only [VR] at hx
        obtain ⟨rb, δ, rs, off, cap', hp, rfl, hoff, hcap, hex, hrs⟩ := hx
        obtain ⟨rb', δ', rs', vs, h1, h2, h3, h4, h5⟩ := hH.cells hb hxs g2'
        rw [hp] at h1
        simp only [Option.some.injEq, Prod.mk.injEq] at h1
        obtain ⟨rfl, rfl, rfl⟩ := h1
        obtain ⟨q, rfl, rfl⟩ := byteL_rel hl h2
        have hq : q.length = n := by simpa using h3
        refine ⟨π, w, _, hse (.string ⟨q.toArray⟩) w ?_, .inl ⟨_, rfl, by simp only [VR]; exact ⟨_, rfl, by simp [bytesOf]⟩⟩, Pi.le_refl π, hH⟩
        rw [run_convert_bytes_string w sx d e _ _ _ hs he hd]
        have hload : (loadCells ⟨rb, off, none⟩ n).run P w = .ok ((q.map fun b : UInt8 => (b.toNat : Int)).map (Value.int .u8)).toArray w := by
          have := run_loadCells_list (P := P) (w := w) ⟨rb, off, none⟩ (q.map fun b => Value.int .u8 b.toNat) (fun j v hv => by
            rw [add_eq]
            have hj := (List.getElem?_eq_some_iff.1 hv).1
            have : off = δ + o := by
              rcases hoff with h6 | h6
              · exact h6
              · rw [h3] at hj; omega
            subst this
            exact h4 j v hv)
          rw [h3] at this
          rw [this]
          simp [Function.comp]
        rw [run_bytesToString w _ n cap' _ hload, foldl_push q _ (by simp)]
        simp
  · -- a pointer, its type dropped
    rename_i t b o hs hd
    cases hb : σ.get b with
    | none => rw [hb] at h; cases h
    | some B =>
      rw [hb] at h
      cases B <;> try (cases h; done)
      rename_i c bs e frz own kd
      cases hsz : sizeOfT P t with
      | none => rw [hsz] at h; cases h
      | some sz =>
        rw [hsz] at h
        cases sz <;> try (cases h; done)
        rename_i sz
        dsimp only at h
        cases hlt : Nat.blt o bs with
        | false => rw [hlt] at h; cases h
        | true =>
          rw [hlt] at h
          simp only [Option.some.injEq] at h
          subst h
          have hlt' : o < bs := by simp [Nat.blt] at hlt; omega
          have hx2 := hx
          simp only [VR] at hx
          obtain ⟨rb, δ, rs, hp, rfl⟩ := hx
          obtain ⟨rb', δ', rs', cs, fr, d1, ⟨el, d2, _⟩, d3, d4, _⟩ := hH.blk b _ hb
          rw [hp] at d1
          simp only [Option.some.injEq, Prod.mk.injEq] at d1
          obtain ⟨rfl, rfl, rfl⟩ := d1
          have hsh : w.shape? rb = some (el, rs) := by simp [World.shape?, d2, d3]
          have hnot : ¬ rs ≤ δ + o := by omega
          refine ⟨π, w, _, hse (.pointer (some ⟨rb, δ + o, none⟩)) w ?_, .inl ⟨_, rfl, hx2⟩, Pi.le_refl π, hH⟩
          simp [convert, run_underlying hs, run_underlying hd, Conv.unsafePointer, Conv.seenAt, viewAt, cellsIn, hsh, sizeOfT_run hsz, hnot]
  · -- a pointer, its type put back
    rename_i u b o hs hd
    cases hb : σ.get b with
    | none => rw [hb] at h; cases h
    | some B =>
      rw [hb] at h
      cases B <;> try (cases h; done)
      rename_i c bs e frz own kd
      cases own <;> try (cases h; done)
      cases kd <;> try (cases h; done)
      cases hsz : sizeOfT P u with
      | none => rw [hsz] at h; cases h
      | some sz =>
        rw [hsz] at h
        cases sz <;> try (cases h; done)
        rename_i sz
        dsimp only at h
        cases hlt : liesAt P P.depth e (bs / P.cellsOf e) o u 1 with
        | false => rw [hlt] at h; cases h
        | true =>
          rw [hlt] at h
          simp only [Option.some.injEq] at h
          subst h
          have hx2 := hx
          simp only [VR] at hx
          obtain ⟨rb, δ, rs, hp, rfl⟩ := hx
          obtain ⟨rb', δ', rs', cs, fr, d1, ⟨el, d2, d2e⟩, d3, d4, _, _, d7, _⟩ := hH.blk b _ hb
          rw [d2e rfl] at d2
          rw [hp] at d1
          simp only [Option.some.injEq, Prod.mk.injEq] at d1
          obtain ⟨rfl, rfl, rfl⟩ := d1
          obtain ⟨rfl, rfl⟩ := d7 rfl
          have hsh : w.shape? rb = some (e, bs) := by simp [World.shape?, d2, d3]
          rw [Nat.zero_add] at hse
          refine ⟨π, w, _, hse (.pointer (some ⟨rb, o, none⟩)) w ?_, .inl ⟨_, rfl, ?_⟩, Pi.le_refl π, hH⟩
          · simp [convert, run_underlying hs, run_underlying hd, Conv.unsafePointer, Conv.seenAt, viewAt, variablesAt, hsh, sizeOfT_run hsz, hlt]
          · simp only [VR]; exact ⟨_, _, _, hp, by simp⟩
  · -- the rest
    split at h
    · rename_i v hv
      simp only [Option.some.injEq] at h
      subst h
      obtain ⟨u, h1, h2⟩ := conv_gives (P := P) (w := w) hv hx
      exact ⟨π, w, _, hse _ _ h1, .inl ⟨_, rfl, h2⟩, Pi.le_refl π, hH⟩
    · cases h
end Go.Proofs.YtjagjjdkgidkjaaGreatDoor.Ev
