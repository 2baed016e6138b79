/- The parser's reading: a part (PK) of the proof that the law ParseParts answers true. No condition. -/
import Derived.Test.YtjagjjdkgidkjaaGreatDoorPtA9
set_option linter.all false
namespace Go.Proofs.YtjagjjdkgidkjaaGreatDoor
open Go Go.RowKit
set_option maxRecDepth 1000000
variable {c : Cx} {U V S : Nat → Prop} {i j m B0 : Nat} {tv tv2 : Value} {T N : List Nd} {o o2 : Nat} {w w1 w2 w3 W0 : World}
theorem keeps_out {x0 x1 x2 x3 x4 x5 x6 x7 x8 x9 x10 x11 x12 x13 x14 x15 : Value} {cs : List Value} (h : Keeps [x0, x1, x2, x3, x4, x5, x6, x7, x8, x9, x10, x11, x12, x13, x14, x15] cs) : ∃ y6 y7 y8 y9 y10 y11, cs = [x0, x1, x2, x3, x4, x5, y6, y7, y8, y9, y10, y11, x12, x13, x14, x15] ∧ ∀ u ∈ [y6, y7, y8, y9, y10, y11], u.oneCell' = true := by
  obtain ⟨hl, h1, hk⟩ := h
  obtain ⟨z0, z1, z2, z3, z4, z5, z6, z7, z8, z9, z10, z11, z12, z13, z14, z15, rfl⟩ := list16 hl
  have e0 := hk 0 (by omega)
  have e1 := hk 1 (by omega)
  have e2 := hk 2 (by omega)
  have e3 := hk 3 (by omega)
  have e4 := hk 4 (by omega)
  have e5 := hk 5 (by omega)
  have e12 := hk 12 (by omega)
  have e13 := hk 13 (by omega)
  have e14 := hk 14 (by omega)
  have e15 := hk 15 (by omega)
  simp only [List.getElem?_cons_zero, List.getElem?_cons_succ, Option.some.injEq] at e0 e1 e2 e3 e4 e5 e12 e13 e14 e15
  subst e0 e1 e2 e3 e4 e5 e12 e13 e14 e15
  exact ⟨z6, z7, z8, z9, z10, z11, rfl, fun u hu => h1 u (by simp only [List.mem_cons, List.not_mem_nil, or_false] at hu ⊢; rcases hu with rfl | rfl | rfl | rfl | rfl | rfl <;> simp)⟩
theorem cells16 {x0 x1 x2 x3 x4 x5 x6 x7 x8 x9 x10 x11 x12 x13 x14 x15 : Value} {nb : Nat} {t : TypeId} {fr : Nat × Nat} (h : w.heap[nb]? = some (.cells #[x0, x1, x2, x3, x4, x5, x6, x7, x8, x9, x10, x11, x12, x13, x14, x15] t fr)) : w.cell? ⟨nb, 0, none⟩ = some x0 ∧ w.cell? ⟨nb, 1, none⟩ = some x1 ∧ w.cell? ⟨nb, 2, none⟩ = some x2 ∧ w.cell? ⟨nb, 3, none⟩ = some x3 ∧ w.cell? ⟨nb, 4, none⟩ = some x4 ∧ w.cell? ⟨nb, 5, none⟩ = some x5 ∧ w.cell? ⟨nb, 6, none⟩ = some x6 ∧ w.cell? ⟨nb, 7, none⟩ = some x7 ∧ w.cell? ⟨nb, 8, none⟩ = some x8 ∧ w.cell? ⟨nb, 9, none⟩ = some x9 ∧ w.cell? ⟨nb, 10, none⟩ = some x10 ∧ w.cell? ⟨nb, 11, none⟩ = some x11 ∧ w.cell? ⟨nb, 12, none⟩ = some x12 ∧ w.cell? ⟨nb, 13, none⟩ = some x13 ∧ w.cell? ⟨nb, 14, none⟩ = some x14 ∧ w.cell? ⟨nb, 15, none⟩ = some x15 := by
  refine ⟨(cell_at h 0).trans rfl, (cell_at h 1).trans rfl, (cell_at h 2).trans rfl, (cell_at h 3).trans rfl, (cell_at h 4).trans rfl, (cell_at h 5).trans rfl, (cell_at h 6).trans rfl, (cell_at h 7).trans rfl, (cell_at h 8).trans rfl, (cell_at h 9).trans rfl, (cell_at h 10).trans rfl, (cell_at h 11).trans rfl, (cell_at h 12).trans rfl, (cell_at h 13).trans rfl, (cell_at h 14).trans rfl, (cell_at h 15).trans rfl⟩
theorem PS.far {T2 : List Nd} (h3 : PS c V i tv T o w3) (hs : w3.heap.size < w1.heap.size) (h5 : PS c (Nx V w1 w2) j tv2 T2 o2 w) : ∀ k, Nx V w1 w2 k ∨ k = c.bl ∨ k = c.p → k ≠ w3.heap.size := by
  rintro k ((hk | ⟨hk, _⟩) | rfl | rfl) e
  · have := h3.below k hk; omega
  · omega
  · have := h3.bl_lt; omega
  · have := h3.p_lt; omega
theorem not_S {nb : Nat} (h : ∀ k, V k ∨ k = c.bl ∨ k = c.p → k ≠ nb) : ¬ c.S V nb := fun e => e.elim (fun e => h nb (.inr (.inr e)) rfl) fun e => h nb (.inl e) rfl
theorem PS.assoc {A B : List Nd} (h : PS c V i tv ((T ++ A) ++ B) o w) : PS c V i tv (T ++ (A ++ B)) o w := List.append_assoc T A B ▸ h
theorem forest_two {a b : Nat} {A B : List Nd} (h : Fo.Forest T.length (A.map Nd.kids) [a]) (k : Fo.Forest (T ++ A).length (B.map Nd.kids) [b]) : Fo.Forest T.length ((A ++ B).map Nd.kids) [a, b] := by
  rw [List.map_append]
  exact Fo.Forest.append h (by simpa using k)
/-- matching, at a node that was made just now. -/
theorem match_new (hN : NameOk) (h3 : PS c U i tv T o w3) (x0 x2 x3 x4 x5 x6 x7 x8 x9 x10 x11 x12 x13 x14 x15 : Value) (op : Int) (h1 : ∀ u ∈ [x0, .int .i64 op, x2, x3, x4, x5, x6, x7, x8, x9, x10, x11, x12, x13, x14, x15], u.oneCell' = true) :
    Calls Tryz.prog 42 #[.pointer (some ⟨c.p, 0, none⟩), .pointer (some ⟨w3.heap.size, 0, none⟩)] (w3.alloc (.cells #[x0, .int .i64 op, x2, x3, x4, x5, x6, x7, x8, x9, x10, x11, x12, x13, x14, x15] 49)) (WordsOut c U i tv T o w3.heap.size [x0, .int .i64 op, x2, x3, x4, x5, x6, x7, x8, x9, x10, x11, x12, x13, x14, x15] (w3.alloc (.cells #[x0, .int .i64 op, x2, x3, x4, x5, x6, x7, x8, x9, x10, x11, x12, x13, x14, x15] 49))) :=
  matching_any hN (h3.still ((Fr.refl none_ w3).alloc _)) w3.heap.size (h3.fresh (Nat.le_refl _)) x0 x2 x3 x4 x5 x6 x7 x8 x9 x10 x11 x12 x13 x14 x15 op (heap_alloc_new w3 _) h1
theorem match_at (hN : NameOk) (h3 : PS c U i tv T o w3) (nb : Nat) (hz : w3.heap.size = nb) (x0 x2 x3 x4 x5 x6 x7 x8 x9 x10 x11 x12 x13 x14 x15 : Value) (op : Int) (h1 : ∀ u ∈ [x0, .int .i64 op, x2, x3, x4, x5, x6, x7, x8, x9, x10, x11, x12, x13, x14, x15], u.oneCell' = true) :
    Calls Tryz.prog 42 #[.pointer (some ⟨c.p, 0, none⟩), .pointer (some ⟨nb, 0, none⟩)] (w3.alloc (.cells #[x0, .int .i64 op, x2, x3, x4, x5, x6, x7, x8, x9, x10, x11, x12, x13, x14, x15] 49)) (WordsOut c U i tv T o nb [x0, .int .i64 op, x2, x3, x4, x5, x6, x7, x8, x9, x10, x11, x12, x13, x14, x15] (w3.alloc (.cells #[x0, .int .i64 op, x2, x3, x4, x5, x6, x7, x8, x9, x10, x11, x12, x13, x14, x15] 49))) := by
  subst hz
  exact match_new hN h3 x0 x2 x3 x4 x5 x6 x7 x8 x9 x10 x11 x12 x13 x14 x15 op h1
set_option maxHeartbeats 8000000 in
theorem power_ok (hN : NameOk) (hP : ReadsOk c B0 W0 (m + 1) 117) (hU : ReadsOk c B0 W0 m 40) : ReadsOk c B0 W0 (m + 1) 72 := by
  intro U i tv T o w h g hm
  have hi := h.i_lt
  have ho := h.o_le
  obtain ⟨d49, u49, s49⟩ := row49
  have rsf : ∀ (w : World) (a : Addr) (n : Nat), Sem.run Tryz.prog (store a (.float .f64 n)) w = stored Tryz.prog w a (.float .f64 n) .plain := fun w a n => run_store Tryz.prog w a _ .plain rfl
  go_enter Tryz.func72, Tryz.ntmps72
  go_wp2_with (first
    | (go_at_call 117; ((with_reducible refine (hP _ _ _ _ _ _ h g hm).mono ?_); rintro e w1 (⟨i1, tv1, N1, k1, rfl, r1⟩ | ⟨⟨why, at_, hw, rfl⟩, f1⟩)); (first | (have h1 := r1.ps; have F1 := r1.fr) | skip))
    | (go_at_call 71; ((with_reducible refine (is_any h1 _ _).mono ?_); rintro e w2 ⟨rfl, f2⟩; have h2 := h1.still f2; have F2 : Fr (c.S U) w w2 := F1.thenS f2.nu; cases hb : isTok (c.l[i1]'h1.i_lt) 5 ⟨#[94]⟩))
    | (go_at_call 73; ((with_reducible refine (enter_any h2 (h1.nextTok hb (by decide))).mono ?_); rintro e w3 (⟨rfl, h3, f3⟩ | ⟨⟨why, at_, hw, rfl⟩, f3⟩)) <;> (have F3 : Fr (c.S U) w w3 := F2.thenS f3.su))
    | (go_at_call 42; ((with_reducible refine (match_new hN h3 _ _ _ _ _ _ _ _ _ _ _ _ _ _ _ _ (by simp [Value.oneCell'])).mono ?_); rintro e w4 (⟨v4, i4, cs4, rfl, hi4, h4, n4, kp4, f4⟩ | ⟨⟨why, at_, hw, rfl⟩, f4⟩)) <;> (have F4 : Fr (c.S U) w w4 := (F3.alloc _).words f4 F3.size); (first | (obtain ⟨y6, y7, y8, y9, y10, y11, rfl, hy⟩ := keeps_out kp4; unfold NodeAt at n4) | skip))
    | (go_at_call 40; ((with_reducible refine (hU _ _ _ _ _ _ h4 (g.next h F4) (by have := r1.lt; omega)).mono ?_); rintro e w5 (⟨i5, tv5, N5, k5, rfl, r5⟩ | ⟨⟨why, at_, hw, rfl⟩, f5⟩)); (first | (have h5 := r5.ps; have c53 := h5.c3; have z53 := h5.fz 3; have F5 : Fr (c.S U) w w5 := F4.call r5.fr (fun _ hg => Nx.wide (fun _ hg => hg) (by have := f2.size; have := f3.size; have := f4.size; simp at this; omega) hg); have hs34 : w3.heap.size < w4.heap.size := (by have := f4.size; simp at this; omega); have far := h3.far hs34 h5; have hs15 : w1.heap.size ≤ w5.heap.size := (by have := f2.size; have := f3.size; have := f4.size; have := r5.fr.size; simp at *; omega); have n5 := r5.fr.get n4 (not_S (h3.fresh (Nat.le_refl _))); obtain ⟨q0, q1, q2, q3, q4, q5, q6, q7, q8, q9, q10, q11, q12, q13, q14, q15⟩ := cells16 n5; have z5 := frz_at n5; have hnp : w3.heap.size ≠ c.p := Nat.ne_of_gt h3.p_lt; have hpn := Ne.symm hnp; have h6 := h5.setOwn far 3 (.int .i64 k5); have h7 := h6.set3 (o' := o) ho; have n6 := heap_set n5 (n := 3) (.int .i64 k5); have n7 := heap_else (p := c.p) (n := 3) n6 hnp (.int .i64 o); simp only [List.setIfInBounds_toArray, List.set_cons_zero, List.set_cons_succ] at n7; have F7 := (F5.own F3.size 3 (.int .i64 k5)).setU 3 (.int .i64 o)) | skip))
    | ((with_reducible refine (wpList_load_block 49 (.tmp 4) w3.heap.size ?_ 49 _ (0, 0) d49 ?_ u49 s49 ?_ ?_)); exact rfl; exact n7; exact sz49)
    | (go_at_call 43; ((with_reducible refine (add_read h h7.assoc (fun _ hg => Nx.all (fun _ e => e) F4.size (by simpa using hs15) (by simp) hg) F7 (fun _ e => e) (forest_two r1.forest r5.forest) _ [k1, k5] (rep_two k1 k5 (by simp_all [Value.oneCell'])) (fun _ => rfl) (by have := r1.cnt; have := r5.cnt; simp only [List.length_append]; omega)).mono ?_); rintro e w8 ⟨tv8, M, k8, rfl, r8⟩)))
  all_goals first
    | exact ⟨rfl, .inr ⟨⟨why, at_, hw, rfl⟩, F4.call f5 (fun _ hg => Nx.wide (fun _ hg => hg) (by have := f2.size; have := f3.size; have := f4.size; simp at this; omega) hg)⟩⟩
    | exact ⟨rfl, .inr ⟨⟨why, at_, hw, rfl⟩, F4⟩⟩
    | exact ⟨rfl, .inr ⟨⟨why, at_, hw, rfl⟩, F3⟩⟩
    | exact ⟨rfl, .inr ⟨⟨why, at_, hw, rfl⟩, f1⟩⟩
    | (go_ret; exact .inl ⟨_, _, _, _, rfl, r8⟩)
    | (go_ret; exact .inl ⟨_, _, _, _, rfl, r1.lift h h2 (Nat.le_refl i) F2 (Nat.le_refl _) f2.size⟩)
end Go.Proofs.YtjagjjdkgidkjaaGreatDoor
