/- The parser's reading: a part (PL) of the proof that the law ParseParts answers true. No condition. -/
import Derived.Test.YtjagjjdkgidkjaaGreatDoorPtA11
set_option linter.all false
namespace Go.Proofs.YtjagjjdkgidkjaaGreatDoor
open Go Go.RowKit
set_option maxRecDepth 1000000
variable {c : Cx} {U V S : Nat → Prop} {i j m B0 : Nat} {tv tv2 : Value} {T N : List Nd} {o o2 : Nat} {w w1 w2 w3 W0 : World}
/-- The state at the head of binary's loop. -/
def BinRel (c : Cx) (U : Nat → Prop) (i : Nat) (T : List Nd) (o : Nat) (w : World) (v : Value) (wr : World) : Prop :=
  ∃ (i' : Nat) (tv' : Value) (N : List Nd) (k : Nat), v = .int .i64 k ∧ RdOk c U i T o (c.S U) w i' tv' N k wr
theorem bin_ret (h : PS c U i tv T o w) {i1 k1 : Nat} {tv1 : Value} {N1 : List Nd} (r1 : RdOk c U i T o (c.S U) w i1 tv1 N1 k1 w1) (f2 : Fr none_ w1 w2) : Read c U i T o (c.S U) w (.returned (.int .i64 k1)) w2 :=
  .inl ⟨_, _, _, _, rfl, r1.lift h (r1.ps.still f2) (Nat.le_refl i) (r1.fr.thenS f2.nu) (Nat.le_refl _) f2.size⟩
set_option maxHeartbeats 16000000 in
theorem binary_ok (hN : NameOk) (hU : ReadsOk c B0 W0 (m + 1) 40) (hB : BinaryOk c B0 W0 m) : BinaryOk c B0 W0 (m + 1) := by
  intro a ha U i tv T o w h g hm
  have hi := h.i_lt
  have ho := h.o_le
  obtain ⟨d49, u49, s49⟩ := row49
  have rsf : ∀ (w : World) (a : Addr) (n : Nat), Sem.run Tryz.prog (store a (.float .f64 n)) w = stored Tryz.prog w a (.float .f64 n) .plain := fun w a n => run_store Tryz.prog w a _ .plain rfl
  go_enter Tryz.func26, Tryz.ntmps26
  go_wp2_with (first
    | (go_at_call 40; ((with_reducible refine (hU _ _ _ _ _ _ h g hm).mono ?_); rintro e w1 (⟨i1, tv1, N1, k1, rfl, r1⟩ | ⟨⟨why, at_, hw, rfl⟩, f1⟩))))
  case inr => exact ⟨rfl, .inr ⟨⟨why, at_, hw, rfl⟩, f1⟩⟩
  go_loopw [5] (BinRel c U i T o w) (fun _ wr => c.l.length - c.idx wr)
  case atStart => exact ⟨_, _, _, _, rfl, r1⟩
  case round =>
    clear r1
    obtain ⟨i1, tv1, N1, k1, rfl, r1⟩ := hrel
    have h1 := r1.ps
    have F1 := r1.fr
    have hidx := h1.idx
    have hi1 := h1.i_lt
    have hl := h1.ok.len
    have hlt1 := r1.lt
    go_wp2_with (first
      | (go_at_call 41; ((with_reducible refine (level_any h1).mono ?_); rintro e w2 ⟨op, lv, rfl, hn, hl6, hop, f2⟩); (have h2 := h1.still f2; have F2 : Fr (c.S U) w w2 := F1.thenS f2.nu; have c12 := h2.c1; have z12 := h2.fz 1); (by_cases hle : ((lv : Nat) : Int) ≤ a))
      | (go_at_call 42; (have hnn := hn (by omega)); (have q3 := (show PS c (Nx U w wr) (i1 + 1) tv1 (T ++ N1) o (w2.setCell ⟨c.p, 1, none⟩ (.int .i64 ((i1 : Int) + 1))) from h2.set1 (i' := i1 + 1) (Nat.le_succ _) hnn)); (have F3 : Fr (c.S U) w (w2.setCell ⟨c.p, 1, none⟩ (.int .i64 ((i1 : Int) + 1))) := F2.setU 1 _); ((with_reducible refine (match_at hN q3 w2.heap.size (by simp) _ _ _ _ _ _ _ _ _ _ _ _ _ _ _ _ (by simp [Value.oneCell'])).mono ?_); rintro e w4 (⟨v4, i4, cs4, rfl, hi4, h4, n4, kp4, f4⟩ | ⟨⟨why, at_, hw, rfl⟩, f4⟩)) <;> (have F4 : Fr (c.S U) w w4 := (F3.alloc _).words f4 F2.size); (first | (obtain ⟨y6, y7, y8, y9, y10, y11, rfl, hy⟩ := keeps_out kp4; unfold NodeAt at n4) | skip))
      | (go_at_call 26; ((with_reducible refine (hB _ (by omega) _ _ _ _ _ _ h4 (g.next h F4) (by omega)).mono ?_); rintro e w5 (⟨i5, tv5, N5, k5, rfl, r5⟩ | ⟨⟨why, at_, hw, rfl⟩, f5⟩)); (first | (have h5 := r5.ps; have F5 : Fr (c.S U) w w5 := F4.call r5.fr (fun _ hg => Nx.wide (fun _ hg => hg) (by have := f2.size; have := f4.size; simp at this; omega) hg); have hs34 : w2.heap.size < w4.heap.size := (by have := f4.size; simp at this; omega); have far := h2.far hs34 h5; have hs15 : wr.heap.size ≤ w5.heap.size := (by have := f2.size; have := f4.size; have := r5.fr.size; simp at *; omega); have n5 := r5.fr.get n4 (not_S (h2.fresh (Nat.le_refl _))); obtain ⟨q0, q1, q2, q3, q4, q5, q6, q7, q8, q9, q10, q11, q12, q13, q14, q15⟩ := cells16 n5; have z5 := frz_at n5; have h6 := h5.setOwn far 3 (.int .i64 k5); have n6 := heap_set n5 (n := 3) (.int .i64 k5); simp only [List.setIfInBounds_toArray, List.set_cons_zero, List.set_cons_succ] at n6; have F6 := F5.own F2.size 3 (.int .i64 k5)) | skip))
      | ((with_reducible refine (wpList_load_block 49 (.tmp 8) w2.heap.size ?_ 49 _ (0, 0) d49 ?_ u49 s49 ?_ ?_)); exact rfl; exact n6; exact sz49)
      | (go_at_call 43; ((with_reducible refine (add_read h h6.assoc (fun _ hg => Nx.all (fun _ e => e) F4.size (by simpa using hs15) (by simp) hg) F6 (fun _ e => e) (forest_two r1.forest r5.forest) _ [k1, k5] (rep_two k1 k5 (by simp_all [Value.oneCell'])) (fun _ => rfl) (by have := r1.cnt; have := r5.cnt; simp only [List.length_append]; omega)).mono ?_); rintro e w8 ⟨tv8, M, k8, rfl, r8⟩)))
    all_goals first
      | exact ⟨rfl, .inr ⟨⟨why, at_, hw, rfl⟩, F4.call f5 (fun _ hg => Nx.wide (fun _ hg => hg) (by have := f2.size; have := f4.size; simp at this; omega) hg)⟩⟩
      | exact ⟨rfl, .inr ⟨⟨why, at_, hw, rfl⟩, F4⟩⟩
      | (go_ret; exact bin_ret h r1 f2)
      | (go_roundw
         case rel => exact ⟨_, _, _, _, rfl, r8⟩
         case measure => rw [r8.ps.idx, hidx]; have := r5.lt; have := r5.ps.i_lt; omega)
end Go.Proofs.YtjagjjdkgidkjaaGreatDoor
