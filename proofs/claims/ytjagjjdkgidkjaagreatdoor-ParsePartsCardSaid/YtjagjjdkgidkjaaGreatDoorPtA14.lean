/- The parser's reading: a part (PQ) of the proof that the law ParseParts answers true. No condition. -/
import Derived.Test.YtjagjjdkgidkjaaGreatDoorPtA13
set_option linter.all false
namespace Go.Proofs.YtjagjjdkgidkjaaGreatDoor
open Go Go.RowKit
set_option maxRecDepth 1000000
variable {c : Cx} {U V S : Nat → Prop} {i i0 j m B0 : Nat} {tv tv2 : Value} {T N : List Nd} {o o2 : Nat} {w w0 w1 w2 w3 W0 : World}
theorem info128 : (Tryz.prog.info? 128).map (fun i => (i.zero, i.size, i.bytes)) = some (some (.agg #[.int .i64 0, .string ⟨#[]⟩, .string ⟨#[]⟩]), 3, 40) := by kernel_rfl
theorem und47 : Tryz.prog.underlying 47 = some (.slice 128) := by kernel_rfl
theorem PS.grownS (h0 : PS c U i tv T o w) (h : PS c U j tv T o w1) (hf : Fr (c.S U) w w1) {v : Value} {ob : Obj} (hv : ∀ g, v.ownBlock = some g → w.heap.size ≤ g) (hg : (w1.alloc ob).grownBy w2 v.ownBlock) : PS c U j tv T o w2 ∧ Fr (c.S U) w w2 := by
  have f : Fr (fun k => v.ownBlock = some k) w1 w2 := ((Fr.refl _ w1).alloc ob).grown hg fun k hk _ => hk
  refine ⟨h.keep f ?_, hf.trans f fun k hk e => ?_⟩
  · rintro k hk e
    have := hv k e
    rcases hk with hk | rfl | rfl
    · have := h0.below k hk; omega
    · have := h0.bl_lt; omega
    · have := h0.p_lt; omega
  · have := hv k e; omega
theorem PS.back (h : PS c U (j + 1) tv T o w) (hn : T.length ≤ j) : PS c U j tv T o (w.setCell ⟨c.p, 1, none⟩ (.int .i64 j)) :=
  have hf : Fr c.S1 w (w.setCell ⟨c.p, 1, none⟩ (.int .i64 j)) := (Fr.refl _ w).setCell ⟨c.p, 1, none⟩ _ fun _ => (rfl : c.p = c.p)
  { ok := h.ok
    blk := heap_set h.blk _
    tok := h.tok.keep hf (h.not_at _ (.inr rfl))
    own := ownsRow_keep h.own hf fun g hg => h.not_at g (.inl (h.used g hg))
    reps := fun nd hnd => (h.reps nd hnd).keep hf fun g hg hne => ⟨hg, hne, h.not_at g (.inl hg)⟩
    used := h.used
    below := fun g hg => Nat.lt_of_lt_of_le (h.below g hg) hf.size
    above := h.above
    i_lt := by have := h.i_lt; omega
    n_le := hn
    o_le := h.o_le
    nh := Nat.le_trans h.nh hf.size }
theorem take_val (h : PS c U i tv T o w) (k : Int) (s : ByteArray) (hk : k ≠ 0) (b : Bool) (hb : isTok (c.l[i]'h.i_lt) k s = b) :
    Calls Tryz.prog 75 #[.pointer (some ⟨c.p, 0, none⟩), .int .i64 k, .string s] w fun e w' => e = .returned (.bool b) ∧ PS c U (if b = true then i + 1 else i) tv T o w' ∧ Fr c.S1 w w' := by
  have hi := h.i_lt
  have hl := h.ok.len
  go_enter Tryz.func75, Tryz.ntmps75
  go_wp2_with (go_at_call 71; ((with_reducible refine (is_val h k s b hb).mono ?_); rintro e w' ⟨rfl, hf⟩; have h1 := h.still hf; have c1 := h1.c1; have z1 := h1.fz 1; cases b))
  · go_ret
    exact ⟨rfl, h1, hf.at1⟩
  · go_ret
    exact ⟨rfl, h1.set1 (Nat.le_succ i) (h.nextTok hb hk), hf.at1.set _ _⟩
/-- The matchers read so far. -/
def MsRel (c : Cx) (U : Nat → Prop) (i : Nat) (tv : Value) (T : List Nd) (o : Nat) (w0 : World) (v : Value) (wr : World) : Prop :=
  ∃ (j n : Nat) (xs : List Value), PS c U j tv T o wr ∧ i ≤ j ∧ wr.ownsRow w0.heap.size 128 3 v n xs ∧ n ≤ j ∧ Fr (c.S U) w0 wr
/-- A selector's node under way. -/
def SeRel (c : Cx) (U : Nat → Prop) (i : Nat) (tv : Value) (T : List Nd) (o nb : Nat) (v : Value) (w0 wr : World) : Prop :=
  ∃ (j : Nat) (a14 a15 : Int), PS c U j tv T o wr ∧ i ≤ j ∧ wr.heap[nb]? = some (.cells #[.int .i64 3, .int .i64 0, .int .i64 0, .int .i64 0, .float .f64 0, .string ⟨#[]⟩, .bool false, .int .i64 0, .bool false, .slice none 0 0, .slice none 0 0, .slice none 0 0, .slice none 0 0, v, .int .i64 a14, .int .i64 a15] 49 (0, 0)) ∧ Fr (c.S U) w0 wr
set_option maxHeartbeats 16000000 in
theorem selector_ok (hN : NameOk) (hS : SpanOk (Below B0 W0)) (h0 : PS c U i0 tv T o w0) (g0 : Gl c B0 W0 w0) (hF : Fr (c.S U) w0 w) (h : PS c U i tv T o w) (hi0 : i0 ≤ i) (hcr : i0 < i ∨ isTok (c.l[i]'h.i_lt) 5 ⟨#[123]⟩ = true)
    (v0 : Value) (n0 : Nat) (xs0 : List Value) (hrow : w.ownsRow w0.heap.size 128 3 v0 n0 xs0) (hn0 : n0 ≤ i) :
    Calls Tryz.prog 162 #[.pointer (some ⟨c.p, 0, none⟩), v0] w (Read c U i0 T o (c.S U) w0) := by
  obtain ⟨av, mv, kv, rfl⟩ := Row.shape ⟨xs0, hrow⟩
  have hi := h.i_lt
  have ho := h.o_le
  have hl := h.ok.len
  have hn00 := h0.n_le
  have HR := Lib.hid hrow; clear hrow
  obtain ⟨d49, u49, s49⟩ := row49
  obtain ⟨i1, hi1, hz0, hz1, hz2⟩ := info_parts info128
  have rsf : ∀ (w : World) (a : Addr) (n : Nat), Sem.run Tryz.prog (store a (.float .f64 n)) w = stored Tryz.prog w a (.float .f64 n) .plain := fun w a n => run_store Tryz.prog w a _ .plain rfl
  have hcb : ∃ b, isTok (c.l[i]'h.i_lt) 5 ⟨#[123]⟩ = b := ⟨_, rfl⟩
  obtain ⟨b, hb⟩ := hcb
  have HB := Lib.hid hb
  go_enter Tryz.func162, Tryz.ntmps162
  go_upto_if 11 with (first
    | (go_at_call 75; ((with_reducible refine (take_val h _ _ (by decide) b hb).mono ?_); rintro e w2 ⟨rfl, h2, f2⟩)))
  clear hb
  go_cut [1] (MsRel c U (i0 + 1) tv T o w0)
  case first =>
    have hF2 : Fr (c.S U) w0 w2 := hF.thenS f2.su
    have HR2 := Lib.hid (ownsRow_keep HR.out f2 (fun g hg e => by have := (HR.out.lt g hg).1; have := h0.p_lt; unfold Cx.S1 at e; omega)); clear HR
    cases b
    case false =>
      have := hcr.resolve_right (by rw [HB.out]; simp)
      go_wp2
      go_meet
      exact ⟨i, n0, xs0, h2, by omega, HR2.out, hn0, hF2⟩
    case true =>
      simp only [if_true] at h2
      go_wp2
      go_step3
      go_wp2
      go_step3
      go_wp2
      go_loopw [1] (MsRel c U (i0 + 1) tv T o w0) (fun _ wr => c.l.length - c.idx wr)
      case atStart => exact ⟨i + 1, n0, xs0, h2, by omega, HR2.out, by omega, hF2⟩
      case round =>
        clear h2 f2 hF2 HR2
        obtain ⟨j, n, xs, hj, hij, hown, hnj, hfr⟩ := hrel
        have hjl := hj.i_lt
        have hidx := Lib.hid hj.idx
        have HO := Lib.hid hown; clear hown
        go_wp2_with (first
          | (go_at_call 71; ((with_reducible refine (is_any hj _ _).mono ?_); rintro e wa ⟨rfl, fa⟩; have ha := hj.still fa))
          | (go_at_call 199; ((with_reducible refine (matcher_any hN ha _).mono ?_); rintro e w3 (⟨mo, ma, mb, i3, rfl, hi3, h3, f3⟩ | ⟨⟨why, at_, hw, rfl⟩, f3⟩)); (first | (have O3 := Lib.hid (ownsRow_keep (ownsRow_keep HO.out fa fun _ _ e => e) f3 (fun g hg e => by have := (HO.out.lt g hg).1; have := h0.p_lt; unfold Cx.S1 at e; omega)); have F3 := (hfr.thenS fa.nu).thenS f3.su) | skip))
          | (at_builtin; refine wpList_append_lies _ rfl (.tmp 15) (.tmp 19) 47 rfl w0.heap.size 128 i1 _ 3 40 und47 hi1 hz0 hz1 hz2 rfl (by decide) _ n xs rfl (O3.out.alloc _) ⟨w3.heap.size, 0, none⟩ 1 1 [.int .i64 mo, .string ma, .string mb] rfl rfl (World.news_of_block (cs := #[.int .i64 mo, .string ma, .string mb]) (t := 128) (fr := (0, 0)) (heap_alloc_new w3 _)) (by simp [Value.oneCell']) (by decide) (by simp only [maxLen]; omega) (by omega) (by have := F3.size; rw [World.size_alloc]; omega) _ rfl ?_; intro gg cap w4 hown4 hgrow hat hlt; have h4 := h0.grownS h3 F3 (fun g hg => (O3.out.lt g hg).1) hgrow; have O4 := Lib.hid hown4; clear hown4)
          | (go_at_call 75; ((with_reducible refine (take_any h4.1 _ _ (by decide)).mono ?_); rintro e w5 (⟨rfl, h5, f5⟩ | ⟨rfl, h5, f5⟩)) <;> (have O5 := Lib.hid (ownsRow_keep O4.out f5 (fun g hg e => by have := (O4.out.lt g hg).1; have := h0.p_lt; unfold Cx.S1 at e; omega))))
          | (go_at_call 163; (first | (with_reducible refine (want_any h5 _ _ (by decide)).mono ?_) | (with_reducible refine (want_any ha _ _ (by decide)).mono ?_)); rintro e w6 (⟨rfl, h6, f6⟩ | ⟨⟨why, at_, hw, rfl⟩, f6⟩)))
        all_goals first
          | exact ⟨⟨_, n + 1, _, h5, by omega, O5.out, by omega, h4.2.thenS f5.su⟩, by rw [h5.idx, hidx.out]; have := h5.i_lt; omega⟩
          | (rw [Exit.noGoto_normal]; go_wp2; go_meet; exact ⟨_, n + 1, _, h6, by omega, ownsRow_keep O5.out f6 (fun g hg e => by have := (O5.out.lt g hg).1; have := h0.p_lt; unfold Cx.S1 at e; omega), by omega, (h4.2.thenS f5.su).thenS f6.su⟩)
          | (rw [Exit.noGoto_normal]; go_wp2; go_meet; exact ⟨_, n, _, h6, by omega, ownsRow_keep (ownsRow_keep HO.out fa fun _ _ e => e) f6 (fun g hg e => by have := (HO.out.lt g hg).1; have := h0.p_lt; unfold Cx.S1 at e; omega), by omega, (hfr.thenS fa.nu).thenS f6.su⟩)
          | exact ⟨rfl, .inr ⟨⟨why, at_, hw, rfl⟩, (hfr.thenS fa.nu).thenS f3.su⟩⟩
          | exact ⟨rfl, .inr ⟨⟨why, at_, hw, rfl⟩, (h4.2.thenS f5.su).thenS f6.su⟩⟩
          | exact ⟨rfl, .inr ⟨⟨why, at_, hw, rfl⟩, (hfr.thenS fa.nu).thenS f6.su⟩⟩
  case rest =>
    clear HB hi hcr HR hn0 h hF hi0
    obtain ⟨wB, rfl⟩ : ∃ wB : World, wB = wc := ⟨_, rfl⟩
    obtain ⟨j, n, xs, hP, hij, hown, hnj, hF⟩ := hcut
    obtain ⟨av', mv', kv', rfl⟩ := Row.shape ⟨xs, hown⟩
    clear hown
    have hjl := hP.i_lt
    have hnp : wB.heap.size ≠ c.p := Nat.ne_of_gt hP.p_lt
    have hpn := Ne.symm hnp
    have hnb := Lib.hid (hP.fresh (Nat.le_refl _))
    have hs0 := hF.size
    go_upto_if 29 with (first
      | (go_at_call 75; ((with_reducible refine (take_some (hP.still ((Fr.refl none_ wB).alloc _)) _ _ (by decide)).mono ?_); rintro e w2 ⟨t, j2, rfl, hj2, h2, f2⟩); (have n2 := f2.get (heap_alloc_new wB _) (not_S1 hnb.out); have F2 : Fr (c.S U) w0 w2 := (hF.alloc _).thenS f2.su)))
    clear hP hF
    go_cut [] (SeRel c U j tv T o wB.heap.size (.slice av' mv' kv') w0)
    case first =>
      cases t
      case false =>
        go_wp2
        go_meet
        exact ⟨j2, 0, 0, h2, hj2, n2, F2⟩
      case true =>
        go_wp2_with (first
          | (go_at_call 200; ((with_reducible refine (span_any hS (fun w' f => (g0.next h0 (F2.thenS f.nu)).bel) h2).mono ?_); rintro e w3 (⟨sp, rfl, h3, f3⟩ | ⟨⟨why, at_, hw, rfl⟩, f3⟩)) <;> (have F3 := F2.thenS f3.su); (first | (have n3 := f3.get n2 (not_S1 hnb.out); obtain ⟨q0, q1, q2, q3, q4, q5, q6, q7, q8, q9, q10, q11, q12, q13, q14, q15⟩ := cells16 n3; have z3 := frz_at n3; have h3n := h3.setOwn hnb.out 14 (.int .i64 sp); have n3n := heap_set n3 (n := 14) (.int .i64 sp); simp only [List.setIfInBounds_toArray, List.set_cons_zero, List.set_cons_succ] at n3n; have F3n := F3.own hs0 14 (.int .i64 sp); have c31 := h3.c1; have z31 := h3.fz 1; have hj3 := h3.i_lt; by_cases hsp : sp = 0) | skip); (first | subst hsp | skip))
          | (go_at_call 28; (have hb := (show PS c U j2 tv T o ((w3.setCell ⟨wB.heap.size, 14, none⟩ (.int .i64 0)).setCell ⟨c.p, 1, none⟩ (.int .i64 j2)) from h3n.back (by omega))); ((with_reducible refine (fail_any hb).mono ?_); rintro e w4 ⟨⟨why, at_, hw, rfl⟩, f4⟩))
          | (go_at_call 163; ((with_reducible refine (want_any h3n _ _ (by decide)).mono ?_); rintro e w4 (⟨rfl, h4, f4⟩ | ⟨⟨why, at_, hw, rfl⟩, f4⟩))))
        all_goals first
          | exact ⟨rfl, .inr ⟨⟨why, at_, hw, rfl⟩, F3⟩⟩
          | exact ⟨rfl, .inr ⟨⟨why, at_, hw, rfl⟩, (F3n.setU 1 _).thenS f4.nu⟩⟩
          | exact ⟨rfl, .inr ⟨⟨why, at_, hw, rfl⟩, F3n.thenS f4.su⟩⟩
          | (go_meet; exact ⟨_, sp, 0, h4, by omega, f4.get n3n (not_S1 hnb.out), F3n.thenS f4.su⟩)
    case rest =>
      clear h2 f2 n2 F2
      obtain ⟨jb, a14, a15, hP, hjb, nP, hF⟩ := hcut
      go_upto_if 48 with (first
        | (go_at_call 75; ((with_reducible refine (take_some hP _ _ (by decide)).mono ?_); rintro e w2 ⟨t, j2, rfl, hj2, h2, f2⟩); (have n2 := f2.get nP (not_S1 hnb.out); have F2 : Fr (c.S U) w0 w2 := hF.thenS f2.su)))
      clear hP hF nP
      go_cut [] (SeRel c U j tv T o wB.heap.size (.slice av' mv' kv') w0)
      case first =>
        cases t
        case false =>
          go_wp2
          go_meet
          exact ⟨j2, a14, a15, h2, by omega, n2, F2⟩
        case true =>
          go_wp2_with (first
            | (go_at_call 200; ((with_reducible refine (span_any hS (fun w' f => (g0.next h0 (F2.thenS f.nu)).bel) h2).mono ?_); rintro e w3 (⟨sp, rfl, h3, f3⟩ | ⟨⟨why, at_, hw, rfl⟩, f3⟩)) <;> (have F3 := F2.thenS f3.su); (first | (have n3 := f3.get n2 (not_S1 hnb.out); obtain ⟨q0, q1, q2, q3, q4, q5, q6, q7, q8, q9, q10, q11, q12, q13, q14, q15⟩ := cells16 n3; have z3 := frz_at n3; have h3n := h3.setOwn hnb.out 15 (.int .i64 sp); have n3n := heap_set n3 (n := 15) (.int .i64 sp); simp only [List.setIfInBounds_toArray, List.set_cons_zero, List.set_cons_succ] at n3n; have F3n := F3.own hs0 15 (.int .i64 sp)) | skip)))
          all_goals first
            | exact ⟨rfl, .inr ⟨⟨why, at_, hw, rfl⟩, F3⟩⟩
            | (go_meet; exact ⟨_, a14, sp, h3n, by omega, n3n, F3n⟩)
      case rest =>
        clear h2 f2 n2 F2
        obtain ⟨je, b14, b15, hP, hje, nP, hF⟩ := hcut
        obtain ⟨q0, q1, q2, q3, q4, q5, q6, q7, q8, q9, q10, q11, q12, q13, q14, q15⟩ := cells16 nP
        have hPn : PS c U je tv (T ++ []) o wc := (List.append_nil T).symm ▸ hP
        have hVn := Lib.hid (show ∀ g, U g → Nx U w0 wc g from fun g hg => .inl hg)
        have hRn := Lib.hid (show Rep U tv wc ⟨[.int .i64 3, .int .i64 0, .int .i64 0, .int .i64 0, .float .f64 0, .string ⟨#[]⟩, .bool false, .int .i64 0, .bool false, .slice none 0 0, .slice none 0 0, .slice none 0 0, .slice none 0 0, .slice av' mv' kv', .int .i64 b14, .int .i64 b15], []⟩ from rep_leaf 3 0 0 (by decide) (by simp [Value.oneCell']))
        have hfn := Lib.hid (show Fo.Forest T.length (([] : List Nd).map Nd.kids) [] from Fo.Forest.nil _)
        go_wp2_with (first
          | (go_at_call 43; ((with_reducible refine (add_read h0 (N := []) hPn hVn.out hF (fun _ e => e) hfn.out _ [] hRn.out (fun _ => rfl) (by simp only [List.length_nil]; omega)).mono ?_); rintro e w12 ⟨tv12, M, k12, rfl, r12⟩)))
        go_ret
        exact .inl ⟨_, _, _, _, rfl, r12⟩
end Go.Proofs.YtjagjjdkgidkjaaGreatDoor
