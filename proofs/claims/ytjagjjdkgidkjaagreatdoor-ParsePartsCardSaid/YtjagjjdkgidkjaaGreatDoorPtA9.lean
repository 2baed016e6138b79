/- The parser's reading: a part (PI Fo PJ) of the proof that the law ParseParts answers true. No condition. -/
import Derived.Test.YtjagjjdkgidkjaaGreatDoorPtA8
import Derived.Deep.WholeRow
import Derived.Deep.MidRow
set_option linter.all false
namespace Go.Proofs.YtjagjjdkgidkjaaGreatDoor
open Go Go.RowKit
set_option maxRecDepth 1000000
variable {c : Cx} {U : Nat → Prop} {i : Nat} {tv : Value} {T : List Nd} {o : Nat} {w : World}
/-- The state between the words behind an operator. -/
def MS (c : Cx) (U : Nat → Prop) (i : Nat) (tv : Value) (T : List Nd) (o nb : Nat) (x0 x2 x3 x4 x5 x6 x7 x8 x9 x10 x11 x12 x13 x14 x15 : Value) (op : Int) (w : World) (Q : Nat → Prop) (wx : World) : Prop :=
  ∃ (j : Nat) (y6 y7 y8 y9 y10 y11 : Value), i ≤ j ∧ PS c U j tv T o wx ∧ wx.heap[nb]? = some (.cells #[x0, .int .i64 op, x2, x3, x4, x5, y6, y7, y8, y9, y10, y11, x12, x13, x14, x15] 49 (0, 0)) ∧ (∀ u ∈ [y6, y7, y8, y9, y10, y11], u.oneCell' = true) ∧ Fr (c.S2 nb) w wx ∧ Q j
set_option maxHeartbeats 16000000 in
theorem matching_any (hN : NameOk) (h : PS c U i tv T o w) (nb : Nat) (hnb : ∀ k, U k ∨ k = c.bl ∨ k = c.p → k ≠ nb) (x0 x2 x3 x4 x5 x6 x7 x8 x9 x10 x11 x12 x13 x14 x15 : Value) (op : Int)
    (hn : NodeAt nb [x0, .int .i64 op, x2, x3, x4, x5, x6, x7, x8, x9, x10, x11, x12, x13, x14, x15] w) (h1 : ∀ u ∈ [x0, .int .i64 op, x2, x3, x4, x5, x6, x7, x8, x9, x10, x11, x12, x13, x14, x15], u.oneCell' = true) :
    Calls Tryz.prog 42 #[.pointer (some ⟨c.p, 0, none⟩), .pointer (some ⟨nb, 0, none⟩)] w (WordsOut c U i tv T o nb [x0, .int .i64 op, x2, x3, x4, x5, x6, x7, x8, x9, x10, x11, x12, x13, x14, x15] w) := by
  have hl := h.ok.len
  have hp := h.p_lt
  have hpn : c.p ≠ nb := hnb _ (.inr (.inr rfl))
  have hnp := Ne.symm hpn
  unfold NodeAt at hn
  have hnl := size_of_get hn
  have n1 := cell_at hn 1
  have n7 := cell_at hn 7
  have z0 := frz_at hn
  simp only [List.getElem?_toArray, List.getElem?_cons_zero, List.getElem?_cons_succ] at n1 n7
  have hy0 : ∀ u ∈ [x6, x7, x8, x9, x10, x11], u.oneCell' = true := fun u hu => h1 u (by simp only [List.mem_cons, List.not_mem_nil, or_false] at hu ⊢; rcases hu with rfl | rfl | rfl | rfl | rfl | rfl <;> simp)
  go_enter Tryz.func42, Tryz.ntmps42
  go_upto_if 8 with fail
  go_cut [] (MS c U i tv T o nb x0 x2 x3 x4 x5 x6 x7 x8 x9 x10 x11 x12 x13 x14 x15 op w (fun _ => True))
  case first =>
    go_wp2
    all_goals go_meet
    · exact ⟨i, _, _, _, _, _, _, Nat.le_refl _, h.setOwn hnb 7 _, heap_set hn (n := 7) _, by simp_all [Value.oneCell'], (Fr.refl _ w).setn 7 _, trivial⟩
    · exact ⟨i, _, _, _, _, _, _, Nat.le_refl _, h, hn, hy0, Fr.refl _ w, trivial⟩
  case rest =>
    clear n1 n7 z0 hy0
    obtain ⟨j, y6, y7, y8, y9, y10, y11, hj, hP, hM, hy, hF, -⟩ := hcut
    have n1 := cell_at hM 1
    simp only [List.getElem?_toArray, List.getElem?_cons_zero, List.getElem?_cons_succ] at n1
    go_upto_region 2 with fail
    go_cut [22] (fun v wx => ∃ t : Bool, v = .bool t ∧ MS c U i tv T o nb x0 x2 x3 x4 x5 x6 x7 x8 x9 x10 x11 x12 x13 x14 x15 op w (fun _ => True) wx)
    case first =>
      go_wp2_with (first
        | (go_at_call 74; (with_reducible refine (levelOf_any op wc).mono ?_); rintro e wx ⟨v, rfl, hv1, hv2, rfl⟩)
        | (go_at_call 75; (with_reducible refine (take_any hP _ _ (by decide)).mono ?_); rintro e w2 (⟨rfl, p2, f2⟩ | ⟨rfl, p2, f2⟩)))
      all_goals go_meet
      all_goals first
        | exact ⟨_, rfl, j, _, _, _, _, _, _, hj, hP, hM, hy, hF, trivial⟩
        | exact ⟨_, rfl, j + 1, _, _, _, _, _, _, by omega, p2, f2.get hM hnp, hy, hF.then2 (f2.s2 nb), trivial⟩
        | exact ⟨_, rfl, j, _, _, _, _, _, _, hj, p2, f2.get hM hnp, hy, hF.then2 (f2.s2 nb), trivial⟩
    case rest =>
      clear n1 hP hM hy hF
      obtain ⟨t, rfl, j2, y6, y7, y8, y9, y10, y11, hj2, hP, hM, hy, hF, -⟩ := hcut
      have n6 := cell_at hM 6
      have z6 := frz_at hM
      simp only [List.getElem?_toArray, List.getElem?_cons_zero, List.getElem?_cons_succ] at n6
      go_upto_if 22 with fail
      go_cut [22] (fun _ => MS c U i tv T o nb x0 x2 x3 x4 x5 x6 x7 x8 x9 x10 x11 x12 x13 x14 x15 op w (fun _ => True))
      case first =>
        go_wp2
        all_goals go_meet
        · exact ⟨j2, _, _, _, _, _, _, hj2, hP.setOwn hnb 6 _, heap_set hM (n := 6) _, by simp_all [Value.oneCell'], hF.setn 6 _, trivial⟩
        · exact ⟨j2, _, _, _, _, _, _, hj2, hP, hM, hy, hF, trivial⟩
      case rest =>
        clear n6 z6 hP hM hy hF
        obtain ⟨j3, y6, y7, y8, y9, y10, y11, hj3, hP, hM, hy, hF, -⟩ := hcut
        go_upto_region 5 with (first
          | (go_at_call 71; (with_reducible refine (is_any hP _ _).mono ?_); rintro e w2 ⟨rfl, f2⟩; generalize hb : isTok (c.l[j3]'hP.i_lt) 1 ⟨#[111, 110]⟩ = b; have p2 := hP.still f2; have m2 := f2.get hM id; have n8 := cell_at m2 8; have z2 := frz_at m2; simp only [List.getElem?_toArray, List.getElem?_cons_zero, List.getElem?_cons_succ] at n8))
        have p3 := fun v => p2.setOwn hnb 8 v
        have m3 := fun v => heap_set m2 (n := 8) v
        simp only [List.setIfInBounds_toArray, List.set_cons_zero, List.set_cons_succ] at m3
        have F3 : ∀ v, Fr (c.S2 nb) w (w2.setCell ⟨nb, 8, none⟩ v) := fun v => (hF.then2 (f2.n2 nb)).setn 8 v
        go_cut [28, 31, 42] (fun _ _ v wx => ∃ t : Bool, v = .bool t ∧ MS c U i tv T o nb x0 x2 x3 x4 x5 x6 x7 x8 x9 x10 x11 x12 x13 x14 x15 op w (fun j => t = false → j + 1 < c.l.length) wx)
        case first =>
          go_wp2_with (first
            | (go_at_call 71; (with_reducible refine (is_any (p3 _) _ _).mono ?_); rintro e w4 ⟨rfl, f4⟩))
          all_goals go_meet
          · exact ⟨_, rfl, j3, _, _, _, _, _, _, hj3, p3 _, m3 _, by simp_all [Value.oneCell'], F3 _, fun _ => hP.nextTok (hb.trans (by assumption)) (by decide)⟩
          · exact ⟨_, rfl, j3, _, _, _, _, _, _, hj3, (p3 _).still f4, f4.get (m3 _) id, by simp_all [Value.oneCell'], (F3 _).then2 (f4.n2 nb), fun e => hP.nextTok (of_not e) (by decide)⟩
        case rest =>
          clear p3 m3 F3 p2 m2 hM hy hF
          obtain ⟨t, rfl, j4, y6, y7, y8, y9, y10, y11, hj4, hP, hM, hy, hF, hQ⟩ := hcut
          cases t
          case true =>
            go_wp2
            refine bodyPost_ret (results_none rfl _ _ _) rfl ?_
            exact .inl ⟨_, j4, _, rfl, hj4, hP, hM, keeps_lit h1 hy, hF⟩
          case false =>
            have hi4 := hP.i_lt
            have c1 := hP.c1
            have z1 := hP.fz 1
            have q1 := (show PS c U (j4 + 1) tv T o (wc.setCell ⟨c.p, 1, none⟩ (.int .i64 ((j4 : Int) + 1))) from hP.set1 (Nat.le_succ _) (hQ rfl))
            have m1 := heap_else (p := c.p) (n := 1) hM hnp (.int .i64 ((j4 : Int) + 1))
            have F1 : Fr (c.S2 nb) w (wc.setCell ⟨c.p, 1, none⟩ (.int .i64 ((j4 : Int) + 1))) := hF.setp 1 _
            go_wp2_with (first
              | (go_at_call 76; (with_reducible refine (names_any hN q1).mono ?_); rintro e w5 (⟨va, vm, vk, i5, rfl, hi5, p5, f5⟩ | ⟨⟨why, at_, hw, rfl⟩, f5⟩); (have m5 := f5.get m1 hnp; have n51 := cell_at m5 1; have n59 := cell_at m5 9; have z5 := frz_at m5; simp only [List.getElem?_toArray, List.getElem?_cons_zero, List.getElem?_cons_succ] at n51 n59; have p6 := p5.setOwn hnb 9 (.slice va vm vk); have m6 := heap_set m5 (n := 9) (.slice va vm vk); simp only [List.setIfInBounds_toArray, List.set_cons_zero, List.set_cons_succ] at m6; have F6 : Fr (c.S2 nb) w (w5.setCell ⟨nb, 9, none⟩ (.slice va vm vk)) := (F1.then2 (f5.s2 nb)).setn 9 _))
              | (go_at_call 75; (with_reducible refine (take_any p6 _ _ (by decide)).mono ?_); (rintro e w7 (⟨rfl, p7, f7⟩ | ⟨rfl, p7, f7⟩)) <;> (have m7 := f7.get m6 hnp; have n77 := cell_at m7 7; have z7 := frz_at m7; simp only [List.getElem?_toArray, List.getElem?_cons_zero, List.getElem?_cons_succ] at n77; have F7 : Fr (c.S2 nb) w w7 := F6.then2 (f7.s2 nb)))
              | (go_at_call 75; (with_reducible refine (take_any p7 _ _ (by decide)).mono ?_); (rintro e w8 (⟨rfl, p8, f8⟩ | ⟨rfl, p8, f8⟩)) <;> (have m8 := f8.get m7 hnp; have n87 := cell_at m8 7; have z8 := frz_at m8; simp only [List.getElem?_toArray, List.getElem?_cons_zero, List.getElem?_cons_succ] at n87; have F8 : Fr (c.S2 nb) w w8 := F7.then2 (f8.s2 nb)))
              | (go_at_call 71; (first
                  | ((with_reducible refine (is_any (p8.setOwn hnb 7 (.int .i64 2)) _ _).mono ?_); rintro e w9 ⟨rfl, f9⟩; have p9 := (p8.setOwn hnb 7 (.int .i64 2)).still f9; have m9 := f9.get (heap_set m8 (n := 7) (.int .i64 2)) id; have F9 : Fr (c.S2 nb) w w9 := (F8.setn 7 (.int .i64 2)).then2 (f9.n2 nb); simp only [List.setIfInBounds_toArray, List.set_cons_zero, List.set_cons_succ] at m9)
                  | ((with_reducible refine (is_any (p7.setOwn hnb 7 (.int .i64 1)) _ _).mono ?_); rintro e w9 ⟨rfl, f9⟩; have p9 := (p7.setOwn hnb 7 (.int .i64 1)).still f9; have m9 := f9.get (heap_set m7 (n := 7) (.int .i64 1)) id; have F9 : Fr (c.S2 nb) w w9 := (F7.setn 7 (.int .i64 1)).then2 (f9.n2 nb); simp only [List.setIfInBounds_toArray, List.set_cons_zero, List.set_cons_succ] at m9)))
              | (go_at_call 76; (with_reducible refine (names_any hN p9).mono ?_); rintro e w10 (⟨ua, um, uk, i10, rfl, hi10, p10, f10⟩ | ⟨⟨why, at_, hw, rfl⟩, f10⟩); (have m10 := f10.get m9 hnp; have n1010 := cell_at m10 10; have z10 := frz_at m10; simp only [List.getElem?_toArray, List.getElem?_cons_zero, List.getElem?_cons_succ] at n1010; have p11 := p10.setOwn hnb 10 (.slice ua um uk); have m11 := heap_set m10 (n := 10) (.slice ua um uk); simp only [List.setIfInBounds_toArray, List.set_cons_zero, List.set_cons_succ] at m11; have F11 : Fr (c.S2 nb) w (w10.setCell ⟨nb, 10, none⟩ (.slice ua um uk)) := (F9.then2 (f10.s2 nb)).setn 10 _)))
            all_goals first
              | exact ⟨rfl, .inr ⟨⟨why, at_, hw, rfl⟩, F1.then2 (f5.s2 nb)⟩⟩
              | exact ⟨rfl, .inr ⟨⟨why, at_, hw, rfl⟩, F9.then2 (f10.s2 nb)⟩⟩
              | (go_end0; exact .inl ⟨_, _, _, rfl, by omega, p11, m11, keeps_lit h1 (by simp_all [Value.oneCell']), F11⟩)
              | (go_end0; exact .inl ⟨_, _, _, rfl, by omega, p9, m9, keeps_lit h1 (by simp_all [Value.oneCell']), F9⟩)
              | (refine bodyPost_ret (results_none rfl _ _ _) rfl ?_; exact .inl ⟨_, _, _, rfl, by omega, p6, m6, keeps_lit h1 (by simp_all [Value.oneCell']), F6⟩)
              | (refine bodyPost_ret (results_none rfl _ _ _) rfl ?_; exact .inl ⟨_, _, _, rfl, by omega, p8, m8, keeps_lit h1 (by simp_all [Value.oneCell']), F8⟩)
              | go_ways
end Go.Proofs.YtjagjjdkgidkjaaGreatDoor
/- Pure: forests of nodes numbered from a base on. -/
namespace Go.Proofs.YtjagjjdkgidkjaaGreatDoor.Fo
/-- How often k is a part of nodes. -/
def cnt (k : Nat) : List (List Nat) → Nat
  | [] => 0
  | l :: N => l.count k + cnt k N
theorem cnt_append (k : Nat) : ∀ N M : List (List Nat), cnt k (N ++ M) = cnt k N + cnt k M
  | [], M => by simp [cnt]
  | l :: N, M => by simp [cnt, cnt_append k N M]; omega
/-- Nodes from b on whose parts stand ahead, each a part of just one other or a root. -/
structure Forest (b : Nat) (N : List (List Nat)) (roots : List Nat) : Prop where
  ahead : ∀ (j : Nat) (h : j < N.length), ∀ k ∈ N[j], b ≤ k ∧ k < b + j
  within : ∀ r ∈ roots, b ≤ r ∧ r < b + N.length
  once : ∀ k, b ≤ k → k < b + N.length → cnt k N + roots.count k = 1
theorem cnt_zero {b : Nat} {N : List (List Nat)} (h : ∀ (j : Nat) (hj : j < N.length), ∀ k ∈ N[j], b ≤ k ∧ k < b + j) (k : Nat) (hk : k < b ∨ b + N.length ≤ k) : cnt k N = 0 := by
  have H : ∀ l ∈ N, k ∉ l := fun l hl hm => by
    obtain ⟨j, hj, rfl⟩ := List.getElem_of_mem hl
    have := h j hj k hm
    omega
  clear h
  induction N with
  | nil => rfl
  | cons l N ih =>
    simp only [cnt]
    rw [ih (by simp only [List.length_cons] at hk; omega) fun l' hl' => H l' (List.mem_cons_of_mem _ hl')]
    rw [List.count_eq_zero.2 (H l (List.mem_cons_self ..))]
namespace Forest
theorem nil (b : Nat) : Forest b [] [] := ⟨fun j h => by simp at h, fun r h => by simp at h, fun k h1 h2 => by simp at h2; omega⟩
theorem leaf (b : Nat) : Forest b [[]] [b] := by
  refine ⟨fun j h k hk => ?_, fun r h => ?_, fun k h1 h2 => ?_⟩
  · simp only [List.length_cons, List.length_nil] at h
    have : j = 0 := by omega
    subst this; simp at hk
  · simp only [List.mem_singleton] at h; subst h; simp
  · simp only [List.length_cons, List.length_nil] at h2
    have : k = b := by omega
    subst this; simp [cnt]
theorem append {b : Nat} {N M : List (List Nat)} {r s : List Nat} (h : Forest b N r) (k : Forest (b + N.length) M s) : Forest b (N ++ M) (r ++ s) := by
  refine ⟨fun j hj x hx => ?_, fun x hx => ?_, fun x h1 h2 => ?_⟩
  · by_cases hl : j < N.length
    · rw [List.getElem_append_left hl] at hx
      exact h.ahead j hl x hx
    · rw [List.getElem_append_right (by omega)] at hx
      have := k.ahead (j - N.length) (by simp at hj; omega) x hx
      omega
  · simp only [List.length_append]
    rcases List.mem_append.1 hx with e | e
    · have := h.within x e; omega
    · have := k.within x e; omega
  · rw [cnt_append, List.count_append]
    by_cases hl : x < b + N.length
    · have c0 := cnt_zero k.ahead x (.inl hl)
      have s0 : s.count x = 0 := List.count_eq_zero.2 fun e => by have := k.within x e; omega
      have := h.once x h1 hl
      omega
    · have c0 := cnt_zero h.ahead x (.inr (by omega))
      have s0 : r.count x = 0 := List.count_eq_zero.2 fun e => by have := h.within x e; omega
      simp only [List.length_append] at h2
      have := k.once x (by omega) (by omega)
      omega
/-- A node whose parts are the roots. -/
theorem close {b : Nat} {N : List (List Nat)} {r l : List Nat} (h : Forest b N r) (hl : ∀ k, l.count k = r.count k) : Forest b (N ++ [l]) [b + N.length] := by
  refine ⟨fun j hj x hx => ?_, fun x hx => ?_, fun x h1 h2 => ?_⟩
  · by_cases hl' : j < N.length
    · rw [List.getElem_append_left hl'] at hx
      exact h.ahead j hl' x hx
    · rw [List.getElem_append_right (by omega)] at hx
      have hj' : j = N.length := by simp at hj; omega
      subst hj'
      simp only [Nat.sub_self, List.getElem_cons_zero] at hx
      have : x ∈ r := List.count_pos_iff.1 (by rw [← hl]; exact List.count_pos_iff.2 hx)
      exact h.within x this
  · simp only [List.mem_singleton] at hx; subst hx; simp
  · rw [cnt_append]
    simp only [cnt, Nat.add_zero, hl]
    by_cases hx : x < b + N.length
    · have := h.once x h1 hx
      have : [b + N.length].count x = 0 := List.count_eq_zero.2 (by simp; omega)
      omega
    · have hx' : x = b + N.length := by simp at h2; omega
      subst hx'
      have c0 := cnt_zero h.ahead (b + N.length) (.inr (Nat.le_refl _))
      have s0 : r.count (b + N.length) = 0 := List.count_eq_zero.2 fun e => by have := h.within _ e; omega
      simp [c0, s0]
theorem one {b : Nat} {N : List (List Nat)} {r : Nat} (h : Forest b N [r]) : Forest b (N ++ [[r]]) [b + N.length] := h.close fun _ => rfl
end Forest
end Go.Proofs.YtjagjjdkgidkjaaGreatDoor.Fo
namespace Go.Proofs.YtjagjjdkgidkjaaGreatDoor
open Go Go.RowKit
set_option maxRecDepth 1000000
variable {c : Cx} {U V S : Nat → Prop} {i j m B0 : Nat} {tv tv2 : Value} {T N : List Nd} {o o2 : Nat} {w w1 w2 w3 W0 : World}

/-! ### a node, whole, into the block that was made last; out of its block -/
theorem wpList_store_new {P : Program} {ops : Array Oper} {rest : List Oper} {ty' : TypeId} {pos : String} {after : Array Edge} {a : Act} {w : World} {Q : Exit → Act → World → Prop} (ty : TypeId) (x y : Operand) (c c' : Array Value)
    (hx : a.eval x = .pointer (some ⟨w.heap.size, 0, none⟩)) (hy : a.eval y = .agg c') (hi : (P.info? ty).map (·.size) = some c'.size) (ho : c.size = c'.size) (h1 : c'.all (·.oneCell') = true)
    (h : wpList P ops Q rest (a.put none undef) (w.alloc (.cells c' ty))) : wpList P ops Q (⟨none, .store ty x y, ty', pos, after, none⟩ :: rest) a (w.alloc (.cells c ty)) :=
  wpList_plain rfl fun _ hK => by
    unfold Oper.wp execOp
    simp only [hx, hy, Instr.storeAt, Instr.sureAddr, Sem.run_bind, Sem.run_pure, Result.andThen_ok, run_storeVar_new w ty c c' hi ho h1]
    exact hK _ _ h
theorem wpList_load_block {P : Program} {ops : Array Oper} {rest : List Oper} {dst : Option Nat} {ty' : TypeId} {pos : String} {after : Array Edge} {a : Act} {w : World} {Q : Exit → Act → World → Prop} (ty : TypeId) (x : Operand)
    (g : Nat) (hx : a.eval x = .pointer (some ⟨g, 0, none⟩)) (t : TypeId) (cs : Array Value) (fr : Nat × Nat) (d : TypeDesc) (hg : w.heap[g]? = some (.cells cs t fr))
    (hu : P.underlying ty = some d) (hd : (match d with | .struct _ | .array _ _ => true | _ => false) = true) (hi : (P.info? ty).map (·.size) = some cs.size)
    (h : wpList P ops Q rest (a.put dst (.agg cs)) w) : wpList P ops Q (⟨dst, .load ty x, ty', pos, after, none⟩ :: rest) a w :=
  wpList_load_row rfl ty x rfl g hx t cs fr d hg hu hd hi h
theorem sz49 : (Tryz.prog.info? 49).map (·.size) = some 16 := by kernel_rfl
theorem str49 : (Tryz.prog.underlying 49).map (fun d => match d with | .struct _ | .array _ _ => true | _ => false) = some true := by kernel_rfl
theorem row49 : ∃ d, Tryz.prog.underlying 49 = some d ∧ (match d with | .struct _ | .array _ _ => true | _ => false) = true := by
  have h := str49
  cases hd : Tryz.prog.underlying 49 with
  | none => rw [hd] at h; cases h
  | some d => rw [hd] at h; exact ⟨d, rfl, Option.some.inj h⟩
/-! ### blocks in use -/
theorem Nx.up {g : Nat} (h1 : w.heap.size ≤ w1.heap.size) (h2 : w2.heap.size ≤ w3.heap.size) (h : Nx U w1 w2 g) : Nx U w w3 g := h.imp id fun ⟨a, b⟩ => ⟨Nat.le_trans h1 a, Nat.lt_of_lt_of_le b h2⟩
theorem Nx.both {g : Nat} (hV : ∀ g, V g → Nx U w w1 g) (h1 : w.heap.size ≤ w2.heap.size) (h2 : w1.heap.size ≤ w3.heap.size) (h : Nx V w2 w3 g) : Nx U w w3 g :=
  h.elim (fun v => (hV g v).imp id fun ⟨a, b⟩ => ⟨a, Nat.lt_of_lt_of_le b h2⟩) fun ⟨a, b⟩ => .inr ⟨Nat.le_trans h1 a, b⟩
theorem Nx.wide {g : Nat} (hV : ∀ g, V g → Nx U w w1 g) (h2 : w1.heap.size ≤ w2.heap.size) (h : V g) : Nx U w w2 g := (hV g h).imp id fun ⟨a, b⟩ => ⟨a, Nat.lt_of_lt_of_le b h2⟩
theorem Nx.all {w4 : World} {g : Nat} (hV : ∀ g, V g → Nx U w w1 g) (h1 : w.heap.size ≤ w2.heap.size) (h2 : w1.heap.size ≤ w4.heap.size) (h3 : w3.heap.size ≤ w4.heap.size) (h : Nx V w2 w3 g) : Nx U w w4 g :=
  h.elim (fun v => (hV g v).imp id fun ⟨a, b⟩ => ⟨a, Nat.lt_of_lt_of_le b h2⟩) fun ⟨a, b⟩ => .inr ⟨Nat.le_trans h1 a, Nat.lt_of_lt_of_le b h3⟩
theorem PS.nx {T2 : List Nd} (h0 : PS c U i tv T o w) (h : PS c V j tv2 T2 o2 w2) (hs : w.heap.size ≤ w2.heap.size) (hU : ∀ g, V g → Nx U w w2 g) : PS c (Nx U w w2) j tv2 T2 o2 w2 :=
  h.more hU fun g hg => hg.elim (fun e => ⟨h0.above g e, Nat.lt_of_lt_of_le (h0.below g e) hs⟩) fun e => ⟨Nat.le_trans h0.nh e.1, e.2⟩

/-! ### frames of reading -/
theorem Fr.su (h : Fr c.S1 w w1) : Fr (c.S U) w w1 := h.mono fun _ _ e => .inl e
theorem Fr.nu (h : Fr none_ w w1) : Fr (c.S U) w w1 := h.mono fun _ _ e => e.elim
theorem Fr.thenS (h : Fr S w w1) (h' : Fr S w1 w2) : Fr S w w2 := h.trans h' fun _ _ e => e
theorem Fr.setU (h : Fr (c.S U) w w1) (n : Nat) (v : Value) : Fr (c.S U) w (w1.setCell ⟨c.p, n, none⟩ v) := h.setCell ⟨c.p, n, none⟩ v fun _ => .inl rfl
theorem Fr.call (h : Fr (c.S U) w w1) (h' : Fr (c.S V) w1 w2) (hV : ∀ g, V g → Nx U w w1 g) : Fr (c.S U) w w2 :=
  h.trans h' fun k hk e => e.imp id fun v => (hV k v).elim id fun ⟨a, _⟩ => by omega
theorem Fr.words {nb : Nat} (h : Fr (c.S U) w w1) (h' : Fr (c.S2 nb) w1 w2) (hn : w.heap.size ≤ nb) : Fr (c.S U) w w2 :=
  h.trans h' fun k hk e => e.elim .inl fun v => by omega
structure Gl (c : Cx) (B0 : Nat) (W0 w : World) : Prop where
  p : B0 ≤ c.p
  B : B0 ≤ c.B
  bel : Below B0 W0 w
theorem Gl.next (g : Gl c B0 W0 w) (h : PS c U i tv T o w) (hF : Fr (c.S U) w w1) : Gl c B0 W0 w1 :=
  ⟨g.p, g.B, ⟨hF.os.trans g.bel.os, hF.tape.trans g.bel.tape, hF.output.trans g.bel.output, Nat.le_trans g.bel.size hF.size, fun k hk => by
    have := h.p_lt
    have := g.p
    have := g.B
    rw [hF.block k (by omega) ?_]
    · exact g.bel.block k hk
    · rintro (rfl | e)
      · omega
      · have := h.above k e; omega⟩⟩

/-! ### what reading comes to -/
structure RdOk (c : Cx) (U : Nat → Prop) (i : Nat) (T : List Nd) (o : Nat) (S : Nat → Prop) (w : World) (i' : Nat) (tv' : Value) (N : List Nd) (k : Nat) (w' : World) : Prop where
  lt : i < i'
  cnt : N.length + i ≤ i'
  root : k + 1 = T.length + N.length
  forest : Fo.Forest T.length (N.map Nd.kids) [k]
  ps : PS c (Nx U w w') i' tv' (T ++ N) o w'
  fr : Fr S w w'
def Read (c : Cx) (U : Nat → Prop) (i : Nat) (T : List Nd) (o : Nat) (S : Nat → Prop) (w : World) (e : Ending) (w' : World) : Prop :=
  (∃ (i' : Nat) (tv' : Value) (N : List Nd) (k : Nat), e = .returned (.int .i64 k) ∧ RdOk c U i T o S w i' tv' N k w') ∨ (Stopped e ∧ Fr S w w')
theorem RdOk.lift {w4 : World} {i3 k3 oj : Nat} {tv3 : Value} {N3 : List Nd} {S' : Nat → Prop} (h : PS c U i tv T o w) (r : RdOk c U j T oj S' w2 i3 tv3 N3 k3 w3) (h4 : PS c (Nx U w2 w3) i3 tv3 (T ++ N3) o w4) (hij : i ≤ j) (F : Fr S w w4) (h12 : w.heap.size ≤ w2.heap.size) (h34 : w3.heap.size ≤ w4.heap.size) :
    RdOk c U i T o S w i3 tv3 N3 k3 w4 :=
  ⟨by have := r.lt; omega, by have := r.cnt; omega, r.root, r.forest, h.nx h4 F.size fun _ hg => Nx.up h12 h34 hg, F⟩
theorem add_read {i0 : Nat} {tv0 : Value} {o0 : Nat} {w0 : World} {roots : List Nat} (h0 : PS c U i0 tv0 T o0 w0) (h : PS c V i tv (T ++ N) o w) (hV : ∀ g, V g → Nx U w0 w g) (hF : Fr S w0 w) (hS : ∀ g, c.S U g → S g)
    (hf : Fo.Forest T.length (N.map Nd.kids) roots) (cs : List Value) (ks : List Nat) (hr : Rep V tv w ⟨cs, ks⟩) (hk : ∀ k, ks.count k = roots.count k) (hn : N.length + 1 + i0 ≤ i) :
    Calls Tryz.prog 43 #[.pointer (some ⟨c.p, 0, none⟩), .agg cs.toArray] w fun e w' => ∃ (tv' : Value) (M : List Nd) (k : Nat), e = .returned (.int .i64 k) ∧ RdOk c U i0 T o S w0 i tv' M k w' := by
  have hn0 := h0.n_le
  refine (add_any h ⟨cs, ks⟩ hr (by simp only [List.length_append]; omega)).mono ?_
  rintro e w' ⟨tv', rfl, hps, hf'⟩
  refine ⟨tv', N ++ [⟨cs, ks⟩], (T ++ N).length, rfl, by omega, by simp only [List.length_append, List.length_cons, List.length_nil]; omega, by simp only [List.length_append, List.length_cons, List.length_nil]; omega, ?_, ?_, ?_⟩
  · have := hf.close hk
    simpa only [List.map_append, List.map_cons, List.map_nil, List.length_map, List.length_append] using this
  · rw [← List.append_assoc]
    exact h0.nx hps (Nat.le_trans hF.size hf'.size) fun g hg => Nx.both hV hF.size hf'.size hg
  · exact hF.trans hf' fun k hk e => hS k (e.imp id fun v => (hV k v).elim id fun ⟨a, _⟩ => by omega)
/-! ### nodes -/
section
variable {x1 x4 x5 x6 x7 x8 x9 x10 x11 av x13 x14 x15 : Value}
theorem rep_leaf (kind a b : Int) (hk : kind = 1 ∨ kind = 2 ∨ kind = 3) (h1 : ∀ u ∈ [.int .i64 kind, x1, .int .i64 a, .int .i64 b, x4, x5, x6, x7, x8, x9, x10, x11, av, x13, x14, x15], u.oneCell' = true) :
    Rep U tv w ⟨[.int .i64 kind, x1, .int .i64 a, .int .i64 b, x4, x5, x6, x7, x8, x9, x10, x11, av, x13, x14, x15], []⟩ :=
  ⟨rfl, h1, kind, a, b, av, rfl, rfl, rfl, rfl, .inr (.inr (.inr (.inr ⟨hk, rfl⟩))), fun g h7 => by omega⟩
theorem rep_one (kind b : Int) (a : Nat) (hk : kind = 4 ∨ kind = 8) (h1 : ∀ u ∈ [.int .i64 kind, x1, .int .i64 a, .int .i64 b, x4, x5, x6, x7, x8, x9, x10, x11, av, x13, x14, x15], u.oneCell' = true) :
    Rep U tv w ⟨[.int .i64 kind, x1, .int .i64 a, .int .i64 b, x4, x5, x6, x7, x8, x9, x10, x11, av, x13, x14, x15], [a]⟩ :=
  ⟨rfl, h1, kind, a, b, av, rfl, rfl, rfl, rfl, .inl ⟨hk, a, rfl, rfl⟩, fun g h7 => by omega⟩
theorem rep_two (a b : Nat) (h1 : ∀ u ∈ [.int .i64 5, x1, .int .i64 a, .int .i64 b, x4, x5, x6, x7, x8, x9, x10, x11, av, x13, x14, x15], u.oneCell' = true) :
    Rep U tv w ⟨[.int .i64 5, x1, .int .i64 a, .int .i64 b, x4, x5, x6, x7, x8, x9, x10, x11, av, x13, x14, x15], [a, b]⟩ :=
  ⟨rfl, h1, 5, a, b, av, rfl, rfl, rfl, rfl, .inr (.inl ⟨rfl, a, b, rfl, rfl, rfl⟩), fun g h7 => by omega⟩
theorem rep_aggr1 (a : Nat) (h1 : ∀ u ∈ [.int .i64 6, x1, .int .i64 a, .int .i64 (-1), x4, x5, x6, x7, x8, x9, x10, x11, av, x13, x14, x15], u.oneCell' = true) :
    Rep U tv w ⟨[.int .i64 6, x1, .int .i64 a, .int .i64 (-1), x4, x5, x6, x7, x8, x9, x10, x11, av, x13, x14, x15], [a]⟩ :=
  ⟨rfl, h1, 6, a, -1, av, rfl, rfl, rfl, rfl, .inr (.inr (.inl ⟨rfl, .inl ⟨a, rfl, rfl, rfl⟩⟩)), fun g h7 => by omega⟩
theorem rep_aggr2 (a b : Nat) (h1 : ∀ u ∈ [.int .i64 6, x1, .int .i64 a, .int .i64 b, x4, x5, x6, x7, x8, x9, x10, x11, av, x13, x14, x15], u.oneCell' = true) :
    Rep U tv w ⟨[.int .i64 6, x1, .int .i64 a, .int .i64 b, x4, x5, x6, x7, x8, x9, x10, x11, av, x13, x14, x15], [b, a]⟩ :=
  ⟨rfl, h1, 6, a, b, av, rfl, rfl, rfl, rfl, .inr (.inr (.inl ⟨rfl, .inr ⟨a, b, rfl, rfl, rfl⟩⟩)), fun g h7 => by omega⟩
theorem rep_call (a b : Int) (ks : List Nat) (hI : Ints w av ks) (hg : ∀ g, av.ownBlock = some g → U g ∧ tv.ownBlock ≠ some g) (h1 : ∀ u ∈ [.int .i64 7, x1, .int .i64 a, .int .i64 b, x4, x5, x6, x7, x8, x9, x10, x11, av, x13, x14, x15], u.oneCell' = true) :
    Rep U tv w ⟨[.int .i64 7, x1, .int .i64 a, .int .i64 b, x4, x5, x6, x7, x8, x9, x10, x11, av, x13, x14, x15], ks⟩ :=
  ⟨rfl, h1, 7, a, b, av, rfl, rfl, rfl, rfl, .inr (.inr (.inr (.inl ⟨rfl, hI⟩))), fun g _ he => hg g he⟩
end
theorem is_val (h : PS c U i tv T o w) (k : Int) (s : ByteArray) (b : Bool) (hb : isTok (c.l[i]'h.i_lt) k s = b) :
    Calls Tryz.prog 71 #[.pointer (some ⟨c.p, 0, none⟩), .int .i64 k, .string s] w fun e w' => e = .returned (.bool b) ∧ Fr none_ w w' := hb ▸ is_any h k s
/-! ### what the functions promise, with at most m tokens left -/
section
variable (c : Cx) (B0 : Nat) (W0 : World) (m : Nat)
@[reducible] def ReadsOk (f : FuncId) : Prop := ∀ (U : Nat → Prop) (i : Nat) (tv : Value) (T : List Nd) (o : Nat) (w : World), PS c U i tv T o w → Gl c B0 W0 w → c.l.length - i ≤ m → Calls Tryz.prog f #[.pointer (some ⟨c.p, 0, none⟩)] w (Read c U i T o (c.S U) w)
@[reducible] def BinaryOk : Prop := ∀ (a : Int), 0 ≤ a → ∀ (U : Nat → Prop) (i : Nat) (tv : Value) (T : List Nd) (o : Nat) (w : World), PS c U i tv T o w → Gl c B0 W0 w → c.l.length - i ≤ m → Calls Tryz.prog 26 #[.pointer (some ⟨c.p, 0, none⟩), .int .i64 a] w (Read c U i T o (c.S U) w)
end
set_option maxHeartbeats 4000000 in
theorem unary_ok (hP : ReadsOk c B0 W0 (m + 1) 72) (hU : ReadsOk c B0 W0 m 40) : ReadsOk c B0 W0 (m + 1) 40 := by
  intro U i tv T o w h g hm
  have hi := h.i_lt
  have ho := h.o_le
  by_cases hmi : isTok (c.l[i]'h.i_lt) 5 ⟨#[45]⟩ = true
  · go_enter Tryz.func40, Tryz.ntmps40
    go_wp2_with (first
      | (go_at_call 71; ((with_reducible refine (is_val h _ _ true hmi).mono ?_); rintro e w1 ⟨rfl, f1⟩; have h1 := h.still f1))
      | (go_at_call 73; ((with_reducible refine (enter_any h1 (h1.nextTok hmi (by decide))).mono ?_); rintro e w2 (⟨rfl, h2, f2⟩ | ⟨⟨why, at_, hw, rfl⟩, f2⟩)) <;> (have F2 : Fr (c.S U) w w2 := f1.nu.thenS f2.su))
      | (go_at_call 40; ((with_reducible refine (hU _ _ _ _ _ _ h2 (g.next h F2) (by omega)).mono ?_); rintro e w3 (⟨i3, tv3, N3, k3, rfl, r3⟩ | ⟨⟨why, at_, hw, rfl⟩, f3⟩)); (first | (have h3 := r3.ps; have c3 := h3.c3; have z3 := h3.fz 3; have F3 := F2.thenS r3.fr) | skip))
      | (go_at_call 43; ((with_reducible refine (add_read h (h3.set3 (o' := o) ho) (fun _ hg => Nx.up F2.size (by simp) hg) (F3.setU 3 (.int .i64 o)) (fun _ e => e) r3.forest _ [k3] (rep_one 4 0 k3 (by decide) (by simp [Value.oneCell'])) (fun _ => rfl) (by have := r3.cnt; omega)).mono ?_); rintro e w5 ⟨tv5, M, k5, rfl, r5⟩)))
    all_goals first
      | exact ⟨rfl, .inr ⟨⟨why, at_, hw, rfl⟩, F2.thenS f3⟩⟩
      | exact ⟨rfl, .inr ⟨⟨why, at_, hw, rfl⟩, F2⟩⟩
      | (go_ret; exact .inl ⟨_, _, _, _, rfl, r5⟩)
  have hmi' : isTok (c.l[i]'h.i_lt) 5 ⟨#[45]⟩ = false := by simpa using hmi
  clear hmi
  by_cases hpl : isTok (c.l[i]'h.i_lt) 5 ⟨#[43]⟩ = true
  · go_enter Tryz.func40, Tryz.ntmps40
    go_wp2_with (first
      | (go_at_call 71; ((with_reducible refine (is_val h _ _ false hmi').mono ?_); rintro e w0 ⟨rfl, f0⟩; have h0 := h.still f0))
      | (go_at_call 71; ((with_reducible refine (is_val h0 _ _ true hpl).mono ?_); rintro e w1 ⟨rfl, f1⟩; have h1 := h0.still f1))
      | (go_at_call 73; ((with_reducible refine (enter_any h1 (h1.nextTok hpl (by decide))).mono ?_); rintro e w2 (⟨rfl, h2, f2⟩ | ⟨⟨why, at_, hw, rfl⟩, f2⟩)) <;> (have F2 : Fr (c.S U) w w2 := (f0.nu.thenS f1.nu).thenS f2.su))
      | (go_at_call 40; ((with_reducible refine (hU _ _ _ _ _ _ h2 (g.next h F2) (by omega)).mono ?_); rintro e w3 (⟨i3, tv3, N3, k3, rfl, r3⟩ | ⟨⟨why, at_, hw, rfl⟩, f3⟩)); (first | (have h3 := r3.ps; have c3 := h3.c3; have z3 := h3.fz 3; have F3 := F2.thenS r3.fr) | skip)))
    all_goals first
      | exact ⟨rfl, .inr ⟨⟨why, at_, hw, rfl⟩, F2.thenS f3⟩⟩
      | exact ⟨rfl, .inr ⟨⟨why, at_, hw, rfl⟩, F2⟩⟩
      | (go_ret; exact .inl ⟨_, _, _, _, rfl, r3.lift h (h3.set3 (o' := o) ho) (Nat.le_succ i) (F3.setU 3 _) F2.size (by simp)⟩)
  · have hpl' : isTok (c.l[i]'h.i_lt) 5 ⟨#[43]⟩ = false := by simpa using hpl
    clear hpl
    go_enter Tryz.func40, Tryz.ntmps40
    go_wp2_with (first
      | (go_at_call 71; ((with_reducible refine (is_val h _ _ false hmi').mono ?_); rintro e w0 ⟨rfl, f0⟩; have h0 := h.still f0))
      | (go_at_call 71; ((with_reducible refine (is_val h0 _ _ false hpl').mono ?_); rintro e w1 ⟨rfl, f1⟩; have h1 := h0.still f1; have F1 : Fr (c.S U) w w1 := f0.nu.thenS f1.nu))
      | (go_at_call 72; ((with_reducible refine (hP _ _ _ _ _ _ h1 (g.next h F1) hm).mono ?_); rintro e w3 (⟨i3, tv3, N3, k3, rfl, r3⟩ | ⟨⟨why, at_, hw, rfl⟩, f3⟩))))
    all_goals first
      | exact ⟨rfl, .inr ⟨⟨why, at_, hw, rfl⟩, F1.thenS f3⟩⟩
      | (go_ret; exact .inl ⟨_, _, _, _, rfl, r3.lift h r3.ps (Nat.le_refl i) (F1.thenS r3.fr) F1.size (Nat.le_refl _)⟩)
end Go.Proofs.YtjagjjdkgidkjaaGreatDoor
