/- The parser's reading: a part (PR PS_) of the proof that the law ParseParts answers true. No condition. -/
import Derived.Test.YtjagjjdkgidkjaaGreatDoorPtA14
set_option linter.all false
namespace Go.Proofs.YtjagjjdkgidkjaaGreatDoor
open Go Go.RowKit
set_option maxRecDepth 1000000
variable {c : Cx} {U V S : Nat → Prop} {i i0 j m B0 : Nat} {tv tv2 : Value} {T N : List Nd} {o o2 : Nat} {w w0 w1 w2 w3 W0 : World}
theorem read_lift (h : PS c U i tv T o w) (hij : i ≤ j) (F : Fr (c.S U) w w1) {e : Ending} {w' : World} (r : Read c U j T o (c.S U) w1 e w') : Read c U i T o (c.S U) w e w' := by
  rcases r with ⟨i', tv', N', k', rfl, r⟩ | ⟨hs, hf⟩
  · exact .inl ⟨_, _, _, _, rfl, r.lift h r.ps hij (F.thenS r.fr) F.size (Nat.le_refl _)⟩
  · exact .inr ⟨hs, F.thenS hf⟩
theorem add_leaf (h : PS c U i tv T o w) (h1 : PS c U j tv T o w1) (hij : i < j) (F : Fr (c.S U) w w1) (cs : List Value) (hr : Rep U tv w1 ⟨cs, []⟩) :
    Calls Tryz.prog 43 #[.pointer (some ⟨c.p, 0, none⟩), .agg cs.toArray] w1 (Read c U i T o (c.S U) w) :=
  (add_read h (N := []) ((List.append_nil T).symm ▸ h1) (fun g hg => .inl hg) F (fun _ e => e) (Fo.Forest.nil _) cs [] hr (fun _ => rfl) (by simp only [List.length_nil]; omega)).mono
    fun _ _ ⟨_, _, _, e, r⟩ => .inl ⟨_, _, _, _, e, r⟩
theorem row_one (w : World) (base : Nat) (hb : base ≤ w.heap.size) (a : Int) (x y : ByteArray) : (w.alloc (.cells #[.int .i64 a, .string x, .string y] 128)).ownsRow base 128 3 (.slice (some ⟨w.heap.size, 0, none⟩) 1 1) 1 [.int .i64 a, .string x, .string y] :=
  ⟨rfl, .inr ⟨w.heap.size, 1, _, rfl, hb, heap_alloc_new w _, Nat.le_refl _, by decide, rfl, rfl⟩⟩
def WdRel (c : Cx) (U : Nat → Prop) (i : Nat) (tv : Value) (T : List Nd) (o : Nat) (k at_ : Int) (s : ByteArray) (nb : Nat) (w : World) (v : Value) (wx : World) : Prop :=
  ∃ bb : Bool, v = .bool bb ∧ PS c U i tv T o wx ∧ wx.heap[nb]? = some (.cells #[.int .i64 k, .string s, .int .i64 at_] 41 (0, 0)) ∧ Fr (c.S U) w wx
set_option maxHeartbeats 16000000 in
theorem word161_ok (hN : NameOk) (hS : SpanOk (Below B0 W0)) (hB : BinaryOk c B0 W0 m) (h : PS c U i tv T o w) (g : Gl c B0 W0 w) (hm : c.l.length - i ≤ m + 1) (hi1 : i + 1 < c.l.length) (k at_ : Int) (s : ByteArray) :
    Calls Tryz.prog 161 #[.pointer (some ⟨c.p, 0, none⟩), .agg #[.int .i64 k, .string s, .int .i64 at_]] w (Read c U i T o (c.S U) w) := by
  have hi := h.i_lt
  have ho := h.o_le
  have hl := h.ok.len
  have hnp : w.heap.size ≠ c.p := Nat.ne_of_gt h.p_lt
  have hpn := Ne.symm hnp
  have hnb := Lib.hid (h.fresh (Nat.le_refl _))
  have h1 := h.still ((Fr.refl none_ w).alloc (.cells #[.int .i64 k, .string s, .int .i64 at_] 41))
  have F1 : Fr (c.S U) w (w.alloc (.cells #[.int .i64 k, .string s, .int .i64 at_] 41)) := (Fr.refl _ w).alloc _
  have h2 := (show PS c U (i + 1) tv T o ((w.alloc (.cells #[.int .i64 k, .string s, .int .i64 at_] 41)).setCell ⟨c.p, 1, none⟩ (.int .i64 ((i : Int) + 1))) from h1.set1 (Nat.le_succ i) hi1)
  have F2 := F1.setU 1 (.int .i64 ((i : Int) + 1))
  have n2 := heap_else (p := c.p) (n := 1) (heap_alloc_new w (.cells #[.int .i64 k, .string s, .int .i64 at_] 41)) hnp (.int .i64 ((i : Int) + 1))
  have c1 := h1.c1
  have z1 := h1.fz 1
  go_enter Tryz.func161, Tryz.ntmps161
  go_upto_region 5 with (first
    | (go_at_call 171; ((with_reducible refine (reserved_any _ _).mono ?_); rintro e wx ⟨b, rfl, rfl⟩))
    | (go_at_call 28; ((with_reducible refine (fail_any h1).mono ?_); rintro e w9 ⟨⟨why, at_, hw, rfl⟩, f9⟩))
    | (go_at_call 71; ((with_reducible refine (is_any h2 _ _).mono ?_); rintro e w3 ⟨rfl, f3⟩; have h3 := h2.still f3; have F3 : Fr (c.S U) w w3 := F2.thenS f3.nu; have n3 := f3.get n2 id; generalize isTok (c.l[i + 1]'h2.i_lt) 5 ⟨#[40]⟩ = b1)))

  · exact ⟨rfl, .inr ⟨⟨why, at_, hw, rfl⟩, F1.thenS f9.nu⟩⟩
  clear h2 F2 n2 f3 h1 F1 c1 z1
  have t3 := cell_at n3 1
  simp only [List.getElem?_toArray, List.getElem?_cons_zero, List.getElem?_cons_succ] at t3
  go_cut [35] (WdRel c U (i + 1) tv T o k at_ s w.heap.size w)
  case first =>
    cases b1
    all_goals go_wp2_with (first
      | (go_at_call 196; ((with_reducible refine (aggregation_any _ _).mono ?_); rintro e wx ⟨b2, rfl, rfl⟩; cases b2))
      | (go_at_call 71; ((with_reducible refine (is_any h3 _ _).mono ?_); rintro e w4 ⟨rfl, f4⟩; have h4 := h3.still f4; have F4 := F3.thenS f4.nu; have n4 := f4.get n3 id; generalize isTok _ _ _ = b4; cases b4))
      | (go_at_call 71; ((with_reducible refine (is_any h4 _ _).mono ?_); rintro e w5 ⟨rfl, f5⟩; have h5 := h4.still f5; have F5 := F4.thenS f5.nu; have n5 := f5.get n4 id; generalize isTok _ _ _ = b5)))
    all_goals
      go_meet
      first
        | exact ⟨_, rfl, h5, n5, F5⟩
        | exact ⟨_, rfl, h4, n4, F4⟩
        | exact ⟨_, rfl, h3, n3, F3⟩
  case rest =>
    clear t3 h3 n3 F3
    obtain ⟨bb, rfl, hP, nP, hF⟩ := hcut
    have tP := cell_at nP 1
    simp only [List.getElem?_toArray, List.getElem?_cons_zero, List.getElem?_cons_succ] at tP
    cases bb
    case true =>
      go_wp2_with (first
        | (go_at_call 197; ((with_reducible refine (aggr_ok hN hB s hP (g.next h hF) (by omega)).mono ?_); rintro e w9 R; have R9 := read_lift h (Nat.le_succ i) hF R; clear R; rcases R9 with ⟨i9, tv9, N9, k9, rfl, r9⟩ | ⟨⟨why, at_, hw, rfl⟩, f9⟩)))
      all_goals first
        | exact ⟨rfl, .inr ⟨⟨why, at_, hw, rfl⟩, f9⟩⟩
        | (go_ret; exact .inl ⟨_, _, _, _, rfl, r9⟩)
    case false =>
      cases b1
      case true =>
        go_wp2_with (first
          | (go_at_call 198; ((with_reducible refine (call_ok hB s hP (g.next h hF) (by omega)).mono ?_); rintro e w9 R; have R9 := read_lift h (Nat.le_succ i) hF R; clear R; rcases R9 with ⟨i9, tv9, N9, k9, rfl, r9⟩ | ⟨⟨why, at_, hw, rfl⟩, f9⟩)))
        all_goals first
          | exact ⟨rfl, .inr ⟨⟨why, at_, hw, rfl⟩, f9⟩⟩
          | (go_ret; exact .inl ⟨_, _, _, _, rfl, r9⟩)
      case false =>
        have hW := hF.size
        go_wp2_with (first
          | (go_at_call 169; ((with_reducible refine (special_any _ _).mono ?_); rintro e wx ⟨f, b2, rfl, rfl⟩; cases b2))
          | (go_at_call 43; ((with_reducible refine (add_leaf h hP (Nat.lt_succ_self i) hF _ (rep_leaf 1 0 0 (by decide) (by simp [Value.oneCell']))).mono ?_); rintro e w9 R9; rcases R9 with ⟨i9, tv9, N9, k9, rfl, r9⟩ | ⟨⟨why, at_, hw, rfl⟩, f9⟩))
          | (go_at_call 162; ((with_reducible refine (selector_ok hN hS h g (hF.alloc _) (hP.still ((Fr.refl none_ wc).alloc _)) (Nat.le_succ i) (.inl (Nat.lt_succ_self i)) _ 1 _ (row_one wc _ hW _ _ _) (by omega)).mono ?_); rintro e w9 R9; rcases R9 with ⟨i9, tv9, N9, k9, rfl, r9⟩ | ⟨⟨why, at_, hw, rfl⟩, f9⟩)))
        all_goals first
          | exact ⟨rfl, .inr ⟨⟨why, at_, hw, rfl⟩, f9⟩⟩
          | (go_ret; exact .inl ⟨_, _, _, _, rfl, r9⟩)
end Go.Proofs.YtjagjjdkgidkjaaGreatDoor
namespace Go.Proofs.YtjagjjdkgidkjaaGreatDoor
open Go Go.RowKit
set_option maxRecDepth 1000000
variable {c : Cx} {U V S : Nat → Prop} {i i0 j m B0 : Nat} {tv tv2 : Value} {T N : List Nd} {o o2 : Nat} {w w0 w1 w2 w3 W0 : World}
theorem paren_close (h : PS c U i tv T o w) {i1 k1 : Nat} {tv1 : Value} {N1 : List Nd} (F0 : Fr (c.S U) w w0) (r1 : RdOk c U (i + 1) T (o + 1) (c.S U) w0 i1 tv1 N1 k1 w1) (h2 : PS c (Nx U w0 w1) (i1 + 1) tv1 (T ++ N1) o w2) (f2 : Fr c.S1 w1 w2) (cs : List Value) (hr : Rep (Nx U w0 w1) tv1 w2 ⟨cs, [k1]⟩) :
    Calls Tryz.prog 43 #[.pointer (some ⟨c.p, 0, none⟩), .agg cs.toArray] w2 (Read c U i T o (c.S U) w) :=
  (add_read h h2 (fun _ hg => Nx.up F0.size f2.size hg) ((F0.thenS r1.fr).thenS f2.su) (fun _ e => e) r1.forest cs [k1] hr (fun _ => rfl) (by have := r1.cnt; omega)).mono
    fun _ _ ⟨_, _, _, e, r⟩ => .inl ⟨_, _, _, _, e, r⟩
theorem nextOf (h : PS c U i tv T o w) (k : Int) (hk : (((c.l[i]'h.i_lt).kind : Int) == k) = true) (h0 : k ≠ 0) : i + 1 < c.l.length := h.next (by have := eq_of_beq hk; omega)
set_option maxHeartbeats 16000000 in
theorem part_ok (hN : NameOk) (hS : SpanOk (Below B0 W0)) (hNum : NumberOk (Below B0 W0)) (hB : BinaryOk c B0 W0 m) : ReadsOk c B0 W0 (m + 1) 117 := by
  intro U i tv T o w h g hm
  have hi := h.i_lt
  have ho := h.o_le
  have hl := h.ok.len
  have ht := h.ok.texts i h.i_lt
  have rsf : ∀ (w : World) (a : Addr) (n : Nat), Sem.run Tryz.prog (store a (.float .f64 n)) w = stored Tryz.prog w a (.float .f64 n) .plain := fun w a n => run_store Tryz.prog w a _ .plain rfl
  go_enter Tryz.func117, Tryz.ntmps117
  go_wp2_with (first
    | (go_at_call 27; ((with_reducible refine (peek_any h).mono ?_); rintro e wp ⟨rfl, fp⟩; have hp := h.still fp; have Fp : Fr (c.S U) w wp := fp.nu; have h1 := hp.still ((Fr.refl none_ wp).alloc (.cells #[.int .i64 (c.l[i]'h.i_lt).kind, .string (c.l[i]'h.i_lt).text, .int .i64 (c.l[i]'h.i_lt).at_] 41)); have F1 : Fr (c.S U) w (wp.alloc (.cells #[.int .i64 (c.l[i]'h.i_lt).kind, .string (c.l[i]'h.i_lt).text, .int .i64 (c.l[i]'h.i_lt).at_] 41)) := Fp.alloc _; have n1 := heap_alloc_new wp (.cells #[.int .i64 (c.l[i]'h.i_lt).kind, .string (c.l[i]'h.i_lt).text, .int .i64 (c.l[i]'h.i_lt).at_] 41); have hbp := h1.p_lt; have hnb := Lib.hid (hp.fresh (Nat.le_refl _)); have hnp : wp.heap.size ≠ c.p := Nat.ne_of_gt hp.p_lt; have hpn := Ne.symm hnp; have c1 := h1.c1; have z1 := h1.fz 1))
    | (go_at_call 160; ((with_reducible refine (hNum _ _ ht (g.next h F1).bel).mono ?_); rintro e w2 ⟨f, kk, rfl, f2⟩; have h2 := h1.still f2; have F2 := F1.thenS f2.nu; have c2 := h2.c1; have z2 := h2.fz 1; have hi2 : i + 1 < c.l.length := (by exact nextOf h 2 (by assumption) (by decide)); have h3 := (show PS c U (i + 1) tv T o (w2.setCell ⟨c.p, 1, none⟩ (.int .i64 ((i : Int) + 1))) from h2.set1 (Nat.le_succ i) hi2); have F3 := F2.setU 1 (.int .i64 ((i : Int) + 1))))
    | (go_at_call 161; ((with_reducible refine (word161_ok hN hS hB h1 (g.next h F1) hm (by exact nextOf h 1 (by assumption) (by decide)) _ _ _).mono ?_); rintro e w9 R; have R9 := read_lift h (Nat.le_refl i) F1 R; clear R; (rcases R9 with ⟨i9, tv9, N9, k9, rfl, r9⟩ | ⟨⟨why, at_, hw, rfl⟩, f9⟩)))
    | (go_at_call 71; ((with_reducible refine (is_any h1 5 ⟨#[40]⟩).mono ?_); rintro e w2 ⟨rfl, f2⟩; have h2 := h1.still f2; have F2 := F1.thenS f2.nu; cases hb : isTok (c.l[i]'h1.i_lt) 5 ⟨#[40]⟩))
    | (go_at_call 71; ((with_reducible refine (is_any h2 5 ⟨#[123]⟩).mono ?_); rintro e w3 ⟨rfl, f3⟩; have h3 := h2.still f3; have F3 := F2.thenS f3.nu; cases hc : isTok (c.l[i]'h2.i_lt) 5 ⟨#[123]⟩))
    | (go_at_call 162; ((with_reducible refine (selector_ok hN hS h g F3 h3 (Nat.le_refl i) (.inr hc) (.slice none 0 0) 0 [] (World.ownsRow_nil _ _ _ _) (Nat.zero_le _)).mono ?_); rintro e w9 R9; (rcases R9 with ⟨i9, tv9, N9, k9, rfl, r9⟩ | ⟨⟨why, at_, hw, rfl⟩, f9⟩)))
    | (go_at_call 28; ((with_reducible refine (fail_any h3).mono ?_); rintro e w9 ⟨⟨why, at_, hw, rfl⟩, f9⟩))
    | (go_at_call 73; ((with_reducible refine (enter_any h2 (h2.nextTok hb (by decide))).mono ?_); rintro e w3 (⟨rfl, h3, f3⟩ | ⟨⟨why, at_, hw, rfl⟩, f3⟩)) <;> (have F3 := F2.thenS f3.su))
    | (go_at_call 26; ((with_reducible refine (hB _ (by decide) _ _ _ _ _ _ h3 (g.next h F3) (by omega)).mono ?_); rintro e w4 (⟨i4, tv4, N4, k4, rfl, r4⟩ | ⟨⟨why, at_, hw, rfl⟩, f4⟩)))
    | (go_at_call 120; ((with_reducible refine (close_any r4.ps).mono ?_); rintro e w5 (⟨rfl, h5, f5⟩ | ⟨⟨why, at_, hw, rfl⟩, f5⟩)))
    | (go_at_call 43; ((with_reducible refine (paren_close h F3 r4 h5 f5 _ (rep_one 8 0 k4 (by decide) (by simp [Value.oneCell']))).mono ?_); rintro e w9 R9; (rcases R9 with ⟨i9, tv9, N9, k9, rfl, r9⟩ | ⟨⟨why, at_, hw, rfl⟩, f9⟩)))
    | (go_at_call 43; ((with_reducible refine (add_leaf h h3 (Nat.lt_succ_self i) F3 _ (rep_leaf 1 0 0 (by decide) (by simp [Value.oneCell']))).mono ?_); rintro e w9 R9; (rcases R9 with ⟨i9, tv9, N9, k9, rfl, r9⟩ | ⟨⟨why, at_, hw, rfl⟩, f9⟩)))
    | (go_at_call 43; (have hi2 : i + 1 < c.l.length := (by exact nextOf h 4 (by assumption) (by decide))); (have h3 := (show PS c U (i + 1) tv T o ((wp.alloc (.cells #[.int .i64 (c.l[i]'h.i_lt).kind, .string (c.l[i]'h.i_lt).text, .int .i64 (c.l[i]'h.i_lt).at_] 41)).setCell ⟨c.p, 1, none⟩ (.int .i64 ((i : Int) + 1))) from h1.set1 (Nat.le_succ i) hi2)); ((with_reducible refine (add_leaf h h3 (Nat.lt_succ_self i) (F1.setU 1 _) _ (rep_leaf 2 0 0 (by decide) (by simp [Value.oneCell']))).mono ?_); rintro e w9 R9; (rcases R9 with ⟨i9, tv9, N9, k9, rfl, r9⟩ | ⟨⟨why, at_, hw, rfl⟩, f9⟩))))
  all_goals first
    | exact ⟨rfl, .inr ⟨⟨why, at_, hw, rfl⟩, f9⟩⟩
    | exact ⟨rfl, .inr ⟨⟨why, at_, hw, rfl⟩, F3.thenS f9.nu⟩⟩
    | exact ⟨rfl, .inr ⟨⟨why, at_, hw, rfl⟩, F3.thenS f4⟩⟩
    | exact ⟨rfl, .inr ⟨⟨why, at_, hw, rfl⟩, (F3.thenS r4.fr).thenS f5.su⟩⟩
    | exact ⟨rfl, .inr ⟨⟨why, at_, hw, rfl⟩, F3⟩⟩
    | (go_ret; exact .inl ⟨_, _, _, _, rfl, r9⟩)
/-- All reading, with however many tokens left. -/
theorem reads (hN : NameOk) (hS : SpanOk (Below B0 W0)) (hNum : NumberOk (Below B0 W0)) : ∀ m, ReadsOk c B0 W0 m 40 ∧ BinaryOk c B0 W0 m
  | 0 => ⟨fun U i tv T o w h _ hm => by have := h.i_lt; omega, fun a _ U i tv T o w h _ hm => by have := h.i_lt; omega⟩
  | m + 1 => by
    have ih := reads hN hS hNum m
    have hp := part_ok hN hS hNum ih.2
    have hw := power_ok hN hp ih.1
    have hu := unary_ok hw ih.1
    exact ⟨hu, binary_ok hN hu ih.2⟩
end Go.Proofs.YtjagjjdkgidkjaaGreatDoor
