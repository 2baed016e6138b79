/- The parser's reading: a part (PD) of the proof that the law ParseParts answers true. No condition. -/
import Derived.Test.YtjagjjdkgidkjaaGreatDoorPtA4
set_option linter.all false
namespace Go.Proofs.YtjagjjdkgidkjaaGreatDoor
open Go Go.RowKit
set_option maxRecDepth 1000000
variable {c : Cx} {U : Nat → Prop} {i : Nat} {tv : Value} {T : List Nd} {o : Nat} {w : World}
def LevelOut (h0 : Prop) (w : World) (e : Ending) (w' : World) : Prop := ∃ op lv : Nat, e = .returned (.tuple #[.int .i64 op, .int .i64 lv]) ∧ (lv ≠ 0 → h0) ∧ lv ≤ 6 ∧ op ≤ 15 ∧ Fr none_ w w'
theorem levelOut_mk {h0 : Prop} {w w' : World} (op lv : Nat) (h1 : lv ≠ 0 → h0) (h2 : lv ≤ 6) (h3 : op ≤ 15) (hf : Fr none_ w w') : LevelOut h0 w (.returned (.tuple #[.int .i64 op, .int .i64 lv])) w' := ⟨op, lv, rfl, h1, h2, h3, hf⟩
set_option maxHeartbeats 4000000 in
theorem level_any (h : PS c U i tv T o w) :
    Calls Tryz.prog 41 #[.pointer (some ⟨c.p, 0, none⟩)] w (LevelOut (i + 1 < c.l.length) w) := by
  by_cases hk : ((c.l[i]'h.i_lt).kind : Int) = 5 ∨ ((c.l[i]'h.i_lt).kind : Int) = 1
  case neg =>
    have h5 : ((c.l[i]'h.i_lt).kind : Int) ≠ 5 := fun e => hk (.inl e)
    have h1 : ((c.l[i]'h.i_lt).kind : Int) ≠ 1 := fun e => hk (.inr e)
    clear hk
    go_enter Tryz.func41, Tryz.ntmps41
    go_wp2_with (first
      | (go_at_call 27; ((with_reducible refine (peek_any h).mono ?_); rintro e w' ⟨rfl, hf⟩)))
    · go_ret2
      exact levelOut_mk 0 0 (fun e => absurd rfl e) (by decide) (by decide) (hf.alloc _)
    · rename_i hc _ _
      exfalso
      rcases hc with hc | hc
      · exact h5 (by simpa using hc)
      · exact h1 (by simpa using hc)
  have hn : i + 1 < c.l.length := h.next (by omega)
  obtain ⟨K, hK, hk⟩ : ∃ K : Int, (K = 5 ∨ K = 1) ∧ ((c.l[i]'h.i_lt).kind : Int) = K := ⟨_, hk, rfl⟩
  rcases hK with rfl | rfl
  all_goals
    go_enter Tryz.func41, Tryz.ntmps41
    go_wp2_with (first
      | (go_at_call 27; ((with_reducible refine (peek_any h).mono ?_); rintro e w' ⟨rfl, hf⟩)))
    go_loopw [5] (fun v wr => ∃ k : Nat, 1 ≤ k ∧ k ≤ 16 ∧ v = .int .i64 k ∧ Fr none_ (w'.alloc (.cells #[.int .i64 (c.l[i]'h.i_lt).kind, .string (c.l[i]'h.i_lt).text, .int .i64 (c.l[i]'h.i_lt).at_] 41)) wr) (fun v _ => 16 - (intOf v).toNat)
    case atStart => exact ⟨1, by omega, by omega, rfl, by rw [hk]; exact Fr.refl _ _⟩
    case round =>
      obtain ⟨k, hk1, hk2, rfl, hr⟩ := hrel
      have t0 := hr.cell (World.cell?_alloc_new w' _ _ 0) id
      have t1 := hr.cell (World.cell?_alloc_new w' _ _ 1) id
      simp only [List.getElem_toArray, List.getElem_cons_zero, List.getElem_cons_succ] at t0 t1
      by_cases hlt : k ≤ 15
      · by_cases hg : ((opText k).toList == (c.l[i]'h.i_lt).text.toList) = true
        · go_wp2
          (first | go_region_held3 (fun x => x.cell? ⟨w'.heap.size, 0, none⟩ = some (.int .i64 (c.l[i]'h.i_lt).kind) ∧ x.cell? ⟨w'.heap.size, 1, none⟩ = some (.string (c.l[i]'h.i_lt).text))
            (first | exact ⟨t0, t1⟩ | exact ⟨hf2.cell t0 id, hf2.cell t1 id⟩ | go_keep)
            (first | (go_at_call 22; ((with_reducible refine (op_any k (by omega) _).mono ?_); rintro e w2 ⟨rfl, hf2⟩))) | fail)
          all_goals go_wp2_with (first | (go_at_call 74; ((with_reducible refine (levelOf_any _ _).mono ?_); rintro e w3 ⟨v, rfl, hv1, hv2, rfl⟩)))
          all_goals first
            | (go_ret2; exact levelOut_mk k v (fun _ => hn) hv2 hlt ((hf.alloc _).none2 (hr.drew.none2 hf2)))
            | (go_roundw
               case rel => exact ⟨k + 1, by omega, by omega, by go_num, hr.drew.none2 hf2⟩
               case measure => simp [intOf]; omega)
            | go_ways
        · have hg' : ((opText k).toList == (c.l[i]'h.i_lt).text.toList) = false := by simpa using hg
          go_wp2
          refine wp_region_held_drew (S := (fun x => x.cell? ⟨w'.heap.size, 0, none⟩ = some (.int .i64 (c.l[i]'h.i_lt).kind) ∧ x.cell? ⟨w'.heap.size, 1, none⟩ = some (.string (c.l[i]'h.i_lt).text))) (by kernel_rfl) ⟨t0, t1⟩ (fun hHeld => ?_)
          refine wpAnyH_take (i := 0) (v := ?_) rfl (by kernel_rfl) (by kernel_rfl) (by kernel_rfl) (fun _ _ _ h => h) (Or.inl ⟨by rfl, ?_⟩) (by assumption) ?_
          rotate_left
          · intro w hSw
            try dsimp only at hSw
            try simp only [List.getElem_toArray, List.getElem_cons_zero, List.getElem_cons_succ]
            go_simp
            try with_reducible rfl
          try simp only [Act.put, List.getElem_toArray, List.getElem_cons_zero, List.getElem_cons_succ, List.setIfInBounds_toArray, List.set_cons_zero, List.set_cons_succ]
          refine wpAnyH_take (i := 2) (v := ?_) rfl (by kernel_rfl) (by kernel_rfl) (by kernel_rfl) (fun _ _ _ h => h) (Or.inl ⟨by rfl, ?_⟩) (by assumption) ?_
          rotate_left
          · intro w hSw
            try dsimp only at hSw
            try simp only [List.getElem_toArray, List.getElem_cons_zero, List.getElem_cons_succ]
            go_simp
            try with_reducible rfl
          try simp only [Act.put, List.getElem_toArray, List.getElem_cons_zero, List.getElem_cons_succ, List.setIfInBounds_toArray, List.set_cons_zero, List.set_cons_succ]
          refine wpAnyH_take (i := 3) (v := ?_) rfl (by kernel_rfl) (by kernel_rfl) (by kernel_rfl) (fun _ _ _ h => h) (Or.inl ⟨by rfl, ?_⟩) (by assumption) ?_
          rotate_left
          · intro w hSw
            try dsimp only at hSw
            try simp only [List.getElem_toArray, List.getElem_cons_zero, List.getElem_cons_succ]
            go_simp
            try with_reducible rfl
          try simp only [Act.put, List.getElem_toArray, List.getElem_cons_zero, List.getElem_cons_succ, List.setIfInBounds_toArray, List.set_cons_zero, List.set_cons_succ]
          refine wpAnyH_ready (rs := [1]) (by kernel_rfl) (by simp) ?_
          refine AllReadyH.cons rfl (fun K hK => ?_) AllReadyH.nil
          simp only [List.getElem_toArray, List.getElem_cons_zero, List.getElem_cons_succ]
          go_simp
          go_at_call 22
          (with_reducible refine (op_any k (by omega) _).mono ?_)
          rintro e w2 ⟨rfl, hf2⟩
          go_wp2_with fail
          refine hK.out _ _ ⟨hf2.cell t0 id, hf2.cell t1 id⟩ (fun hHeld => ?_)
          clear hK K
          try simp only [Act.put, List.getElem_toArray, List.getElem_cons_zero, List.getElem_cons_succ, List.setIfInBounds_toArray, List.set_cons_zero, List.set_cons_succ]
          refine wpAnyH_take (i := 4) (v := ?_) rfl (by kernel_rfl) (by kernel_rfl) (by kernel_rfl) (fun _ _ _ h => h) (Or.inl ⟨by rfl, ?_⟩) (by assumption) ?_
          rotate_left
          · intro w hSw
            try dsimp only at hSw
            try simp only [List.getElem_toArray, List.getElem_cons_zero, List.getElem_cons_succ]
            go_simp
            try with_reducible rfl
          try simp only [Act.put, List.getElem_toArray, List.getElem_cons_zero, List.getElem_cons_succ, List.setIfInBounds_toArray, List.set_cons_zero, List.set_cons_succ]
          refine wpAnyH_take (i := 5) (v := ?_) rfl (by kernel_rfl) (by kernel_rfl) (by kernel_rfl) (fun _ _ _ h => h) (Or.inl ⟨by rfl, ?_⟩) (by assumption) ?_
          rotate_left
          · intro w hSw
            try dsimp only at hSw
            try simp only [List.getElem_toArray, List.getElem_cons_zero, List.getElem_cons_succ]
            go_simp
            try with_reducible rfl
          try simp only [Act.put, List.getElem_toArray, List.getElem_cons_zero, List.getElem_cons_succ, List.setIfInBounds_toArray, List.set_cons_zero, List.set_cons_succ]
          refine wpAnyH_take (i := 6) (v := undef) rfl (by kernel_rfl) (by kernel_rfl) (by kernel_rfl) (fun _ _ _ h => h) (Or.inr ⟨by rfl, rfl⟩) (by assumption) ?_
          try simp only [Act.put, List.getElem_toArray, List.getElem_cons_zero, List.getElem_cons_succ, List.setIfInBounds_toArray, List.set_cons_zero, List.set_cons_succ]
          refine wpAnyH_take (i := 7) (v := undef) rfl (by kernel_rfl) (by kernel_rfl) (by kernel_rfl) (fun _ _ _ h => h) (Or.inr ⟨by rfl, rfl⟩) (by assumption) ?_
          try simp only [Act.put, List.getElem_toArray, List.getElem_cons_zero, List.getElem_cons_succ, List.setIfInBounds_toArray, List.set_cons_zero, List.set_cons_succ]
          refine wpAnyH_take (i := 8) (v := undef) rfl (by kernel_rfl) (by kernel_rfl) (by kernel_rfl) (fun _ _ _ h => h) (Or.inr ⟨by rfl, rfl⟩) (by assumption) ?_
          try simp only [Act.put, List.getElem_toArray, List.getElem_cons_zero, List.getElem_cons_succ, List.setIfInBounds_toArray, List.set_cons_zero, List.set_cons_succ]
          refine wpAnyH_take (i := 9) (v := undef) rfl (by kernel_rfl) (by kernel_rfl) (by kernel_rfl) (fun _ _ _ h => h) (Or.inr ⟨by rfl, rfl⟩) (by assumption) ?_
          try simp only [Act.put, List.getElem_toArray, List.getElem_cons_zero, List.getElem_cons_succ, List.setIfInBounds_toArray, List.set_cons_zero, List.set_cons_succ]
          refine wpAnyH_take (i := 10) (v := undef) rfl (by kernel_rfl) (by kernel_rfl) (by kernel_rfl) (fun _ _ _ h => h) (Or.inr ⟨by rfl, rfl⟩) (by assumption) ?_
          try simp only [Act.put, List.getElem_toArray, List.getElem_cons_zero, List.getElem_cons_succ, List.setIfInBounds_toArray, List.set_cons_zero, List.set_cons_succ]
          refine wpAnyH_take (i := 11) (v := undef) rfl (by kernel_rfl) (by kernel_rfl) (by kernel_rfl) (fun _ _ _ h => h) (Or.inr ⟨by rfl, rfl⟩) (by assumption) ?_
          try simp only [Act.put, List.getElem_toArray, List.getElem_cons_zero, List.getElem_cons_succ, List.setIfInBounds_toArray, List.set_cons_zero, List.set_cons_succ]
          refine wpAnyH_take (i := 12) (v := ?_) rfl (by kernel_rfl) (by kernel_rfl) (by kernel_rfl) (fun _ _ _ h => h) (Or.inl ⟨by rfl, ?_⟩) (by assumption) ?_
          rotate_left
          · intro w hSw
            try dsimp only at hSw
            try simp only [List.getElem_toArray, List.getElem_cons_zero, List.getElem_cons_succ]
            go_simp
            try with_reducible rfl
          try simp only [Act.put, List.getElem_toArray, List.getElem_cons_zero, List.getElem_cons_succ, List.setIfInBounds_toArray, List.set_cons_zero, List.set_cons_succ]
          refine wpAnyH_done (by kernel_rfl) ?_ _
          all_goals go_wp2_with (first | (go_at_call 74; ((with_reducible refine (levelOf_any _ _).mono ?_); rintro e w3 ⟨v, rfl, hv1, hv2, rfl⟩)))
          all_goals first
            | (go_ret2; exact levelOut_mk k v (fun _ => hn) hv2 hlt ((hf.alloc _).none2 (hr.drew.none2 hf2)))
            | (go_roundw
               case rel => exact ⟨k + 1, by omega, by omega, by go_num, hr.drew.none2 hf2⟩
               case measure => simp [intOf]; omega)
            | go_ways
      · go_wp2
        go_ret2
        exact levelOut_mk 0 0 (fun e => absurd rfl e) (by decide) (by decide) ((hf.alloc _).none2 hr)
end Go.Proofs.YtjagjjdkgidkjaaGreatDoor
