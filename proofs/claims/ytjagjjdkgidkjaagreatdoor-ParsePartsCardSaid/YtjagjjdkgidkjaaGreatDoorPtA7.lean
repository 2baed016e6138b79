/- The parser's reading: a part (PE PF) of the proof that the law ParseParts answers true. No condition. -/
import Derived.Test.YtjagjjdkgidkjaaGreatDoorPtA6
import Derived.Deep.AppendLies
import Derived.Deep.RegionLaw
import Derived.OwnWalk
import Derived.WalkMore
import Derived.Deep.LoopGhost
set_option linter.all false
namespace Go.Proofs.YtjagjjdkgidkjaaGreatDoor
open Go Go.RowKit
set_option maxRecDepth 1000000
variable {c : Cx} {U : Nat → Prop} {i : Nat} {tv : Value} {T : List Nd} {o : Nat} {w : World}
def zeroNode : Value := .agg #[.int .i64 0, .int .i64 0, .int .i64 0, .int .i64 0, .float .f64 0, .string ⟨#[]⟩, .bool false, .int .i64 0, .bool false, .slice none 0 0, .slice none 0 0, .slice none 0 0, .slice none 0 0, .slice none 0 0, .int .i64 0, .int .i64 0]
theorem info49 : (Tryz.prog.info? 49).map (fun i => (i.zero, i.size, i.bytes)) = some (some zeroNode, 16, 216) := by kernel_rfl
theorem und22 : Tryz.prog.underlying 22 = some (.slice 49) := by kernel_rfl
theorem list16 {cs : List Value} (h : cs.length = 16) : ∃ x0 x1 x2 x3 x4 x5 x6 x7 x8 x9 x10 x11 x12 x13 x14 x15, cs = [x0, x1, x2, x3, x4, x5, x6, x7, x8, x9, x10, x11, x12, x13, x14, x15] := by
  match cs, h with
  | [x0, x1, x2, x3, x4, x5, x6, x7, x8, x9, x10, x11, x12, x13, x14, x15], _ => exact ⟨_, _, _, _, _, _, _, _, _, _, _, _, _, _, _, _, rfl⟩
theorem frz_alloc (w : World) (a : Addr) (o : Obj) (h : (w.cell? a).isSome = true) : (w.alloc o).frozen? a = w.frozen? a := by
  obtain ⟨u, hu⟩ := Option.isSome_iff_exists.1 h
  exact World.frozen?_alloc_old w o a (Nat.ne_of_lt (World.block_lt_of_cell? w a hu))
theorem heap_new2 (w : World) (o o' : Obj) : ((w.alloc o).alloc o').heap[w.heap.size + 1]? = some o' := by
  have := heap_alloc_new (w.alloc o) o'
  rwa [World.size_alloc] at this
theorem Nx.lt {U : Nat → Prop} {w w' : World} (hU : ∀ g, U g → g < w.heap.size) (hs : w.heap.size ≤ w'.heap.size) : ∀ g, Nx U w w' g → g < w'.heap.size := fun g hg => by
  rcases hg with hg | hg
  · have := hU g hg; omega
  · exact hg.2
theorem add_close (h : PS c U i tv T o w) {nd : Nd} (hr : Rep U tv w nd) (hn : T.length + 1 ≤ i) {w0 w1 : World} {gg cap : Nat} (h0 : Fr none_ w w0) (hgrow : w0.grownBy w1 tv.ownBlock)
    (hown1 : w1.ownsRow c.B 49 16 (.slice (some ⟨gg, 0, none⟩) (T.length + 1) cap) (T.length + 1) ((T.map Nd.cs).flatten ++ nd.cs))
    (hat : tv.ownBlock = some gg ∨ w.heap.size ≤ gg) (hlt : gg < w1.heap.size) :
    PS c (Nx U w (w1.setCell ⟨c.p, 2, none⟩ (.slice (some ⟨gg, 0, none⟩) (T.length + 1) cap))) i (.slice (some ⟨gg, 0, none⟩) (T.length + 1) cap) (T ++ [nd]) o (w1.setCell ⟨c.p, 2, none⟩ (.slice (some ⟨gg, 0, none⟩) (T.length + 1) cap)) ∧ Fr (c.S U) w (w1.setCell ⟨c.p, 2, none⟩ (.slice (some ⟨gg, 0, none⟩) (T.length + 1) cap)) := by
  have tvne : tv.ownBlock ≠ some c.p := fun e => h.not_p (h.used _ e)
  have f1 : Fr (fun k => k = c.p ∨ tv.ownBlock = some k) w w1 := (h0.mono fun _ _ e => e.elim).grown hgrow fun k hk _ => .inr hk
  have f2 : Fr (fun k => k = c.p ∨ tv.ownBlock = some k) w (w1.setCell ⟨c.p, 2, none⟩ (.slice (some ⟨gg, 0, none⟩) (T.length + 1) cap)) := f1.setCell ⟨c.p, 2, none⟩ _ fun _ => .inl rfl
  have gne : gg ≠ c.p := by
    rcases hat with e | e
    · intro e'; exact tvne (e' ▸ e)
    · have := h.p_lt; omega
  have hb1 : w1.heap[c.p]? = some (.cells (c.cells i tv o) 64 (0, 0)) := by
    have := h0.get h.blk id
    rw [hgrow.block c.p (size_of_get this) (fun e => tvne e.symm)]; exact this
  have fr : Fr (c.S U) w (w1.setCell ⟨c.p, 2, none⟩ (.slice (some ⟨gg, 0, none⟩) (T.length + 1) cap)) := f2.mono fun k _ hk => hk.imp id (h.used k)
  refine ⟨?_, fr⟩
  have hsz := fr.size
  exact {
    ok := h.ok
    blk := heap_set hb1 _
    tok := h.tok.keep fr fun e => e.elim (fun e => h.ok.ne e) h.not_bl
    own := by
      have : (T ++ [nd]).length = T.length + 1 := by simp
      rw [this, List.map_append, List.flatten_append]
      refine ownsRow_keep (S := fun k => k = c.p) (by simpa using hown1) ((Fr.refl _ w1).setCell ⟨c.p, 2, none⟩ _ fun _ => rfl) fun g hg e => ?_
      simp only [Value.ownBlock, Option.some.injEq] at hg
      exact gne (hg.trans e)
    reps := fun nd' hnd => by
      have hr' : Rep U tv w nd' := by
        rcases List.mem_append.1 hnd with e | e
        · exact h.reps nd' e
        · rw [List.mem_singleton.1 e]; exact hr
      refine hr'.keep f2 fun g hg hne => ⟨.inl hg, ?_, ?_⟩
      · intro e
        simp only [Value.ownBlock, Option.some.injEq] at e
        rcases hat with e' | e'
        · exact hne (e ▸ e')
        · have := h.below g hg; omega
      · rintro (e | e)
        · exact h.not_p (e ▸ hg)
        · exact hne e
    used := fun g hg => by
      simp only [Value.ownBlock, Option.some.injEq] at hg
      subst hg
      rcases hat with e | e
      · exact .inl (h.used _ e)
      · exact .inr ⟨e, by simpa using hlt⟩
    below := Nx.lt h.below hsz
    above := fun g hg => hg.elim (h.above g) fun e => Nat.le_trans h.nh e.1
    i_lt := h.i_lt
    n_le := by simpa using hn
    o_le := h.o_le
    nh := Nat.le_trans h.nh hsz }
set_option maxHeartbeats 4000000 in
theorem add_any (h : PS c U i tv T o w) (nd : Nd) (hr : Rep U tv w nd) (hn : T.length + 1 ≤ i) :
    Calls Tryz.prog 43 #[.pointer (some ⟨c.p, 0, none⟩), .agg nd.cs.toArray] w fun e w' => ∃ tv', e = .returned (.int .i64 T.length) ∧ PS c (Nx U w w') i tv' (T ++ [nd]) o w' ∧ Fr (c.S U) w w' := by
  obtain ⟨x0, x1, x2, x3, x4, x5, x6, x7, x8, x9, x10, x11, x12, x13, x14, x15, hcs⟩ := list16 hr.len
  have hone := hr.one
  rw [hcs] at hone ⊢
  obtain ⟨i0, hi0, hz0, hz1, hz2⟩ := info_parts info49
  have c2 := h.c2
  have hp := h.p_lt
  have hown := h.own
  have hB := h.nh
  have hi := h.i_lt
  have hl := h.ok.len
  have z2 := h.fz 2
  have tvne : tv.ownBlock ≠ some c.p := fun e => h.not_p (h.used _ e)
  have tvne2 : tv.ownBlock ≠ some w.heap.size := fun e => by have := h.below _ (h.used _ e); omega
  go_enter Tryz.func43, Tryz.ntmps43
  go_wp2
  go_region_law ((refine step_append_lies _ (by rfl) _ _ _ (by rfl) c.B 49 i0 _ 16 216 und22 hi0 hz0 hz1 hz2 rfl (by omega) tv T.length (T.map Nd.cs).flatten (by rfl) (((hown.alloc _).alloc _).drew) ⟨w.heap.size + 1, 0, none⟩ 1 1 [x0, x1, x2, x3, x4, x5, x6, x7, x8, x9, x10, x11, x12, x13, x14, x15] (by rfl) (by rfl) (World.news_of_block (cs := #[x0, x1, x2, x3, x4, x5, x6, x7, x8, x9, x10, x11, x12, x13, x14, x15]) (t := 49) (fr := (0, 0)) (heap_new2 w _ _)) (by simpa using hone) (by omega) (by simp only [maxLen]; omega) (by omega) (by simp; omega) (w.heap.size + 2) (by simp) ?_; intro gg cap w1 hown1 hgrow hat hlt; have a1 : w1.cell? ⟨c.p, 2, none⟩ = some tv := (hgrow.cell_far ⟨c.p, 2, none⟩ (by simp; omega) (fun e => tvne e.symm)).trans (by simp [World.cell?_alloc_some, c2]); have a2 : w1.frozen? ⟨c.p, 2, none⟩ = false := (hgrow.frozen_far ⟨c.p, 2, none⟩ (by simp; omega) (fun e => tvne e.symm)).trans (by simp [World.cell?_alloc_some, frz_alloc, c2, z2])))
  all_goals
    go_wp2
    go_ret
    rw [← hcs] at hown1
    exact ⟨_, rfl, add_close h hr hn (((Fr.refl none_ w).alloc _).alloc _).drew hgrow hown1 (hat.imp id (by omega)) hlt⟩
end Go.Proofs.YtjagjjdkgidkjaaGreatDoor
namespace Go.Proofs.YtjagjjdkgidkjaaGreatDoor
open Go Go.RowKit
set_option maxRecDepth 1000000
variable {c : Cx} {U : Nat → Prop} {i : Nat} {tv : Value} {T : List Nd} {o : Nat} {w : World}
theorem info9 : (Tryz.prog.info? 9).map (fun i => (i.zero, i.size, i.bytes)) = some (some (.string ⟨#[]⟩), 1, 16) := by kernel_rfl
theorem und38 : Tryz.prog.underlying 38 = some (.slice 9) := by kernel_rfl
/-- How far the parser has read. -/
def Cx.idx (c : Cx) (w : World) : Nat := match w.cell? ⟨c.p, 1, none⟩ with | some (.int _ n) => n.toNat | _ => 0
theorem PS.idx (h : PS c U i tv T o w) : c.idx w = i := by simp [Cx.idx, h.c1]
/-- A row of the call's own, grown from base on. -/
def Row (base : Nat) (e : TypeId) (size : Nat) (w : World) (v : Value) (n : Nat) : Prop := ∃ xs, w.ownsRow base e size v n xs
theorem Row.shape {base e size n : Nat} {w : World} {v : Value} (h : Row base e size w v n) : ∃ a m k, v = .slice a m k := by
  obtain ⟨xs, _, hh | ⟨g, cap, cur, rfl, _⟩⟩ := h
  · exact ⟨_, _, _, hh.1⟩
  · exact ⟨_, _, _, rfl⟩
theorem own_at {S : Nat → Prop} {w w' : World} {base e size n : Nat} {v : Value} {xs : List Value} (h : w.ownsRow base e size v n xs) (hf : Fr S w w') (hS : ∀ k, base ≤ k → ¬ S k) : w'.ownsRow base e size v n xs :=
  ownsRow_keep h hf fun g hg => hS g (h.lt g hg).1
theorem PS.own1 {c : Cx} {U : Nat → Prop} {i : Nat} {tv : Value} {T : List Nd} {o : Nat} {w w1 w2 : World} (h0 : PS c U i tv T o w) {e size n : Nat} {v : Value} {xs : List Value} (h : w1.ownsRow w.heap.size e size v n xs) (hf : Fr c.S1 w1 w2) : w2.ownsRow w.heap.size e size v n xs :=
  own_at h hf fun k hk e => by have := h0.p_lt; unfold Cx.S1 at e; omega
theorem PS.grown {c : Cx} {U : Nat → Prop} {i j : Nat} {tv tv' : Value} {T T' : List Nd} {o o' : Nat} {w wx wy : World} (h0 : PS c U i tv T o w) (h : PS c U j tv' T' o' wx) (hf : Fr c.S1 w wx) {v : Value} {ob : Obj}
    (hv : ∀ g, v.ownBlock = some g → w.heap.size ≤ g) (hg : (wx.alloc ob).grownBy wy v.ownBlock) : PS c U j tv' T' o' wy ∧ Fr c.S1 w wy := by
  have f : Fr (fun k => v.ownBlock = some k) wx wy := ((Fr.refl _ wx).alloc ob).grown hg fun k hk _ => hk
  refine ⟨h.keep f ?_, hf.trans f fun k hk e => ?_⟩
  · rintro k hk e
    have := hv k e
    rcases hk with hk | rfl | rfl
    · have := h0.below k hk; omega
    · have := h0.bl_lt; omega
    · have := h0.p_lt; omega
  · have := hv k e; omega
def NamesOut (c : Cx) (U : Nat → Prop) (i : Nat) (tv : Value) (T : List Nd) (o : Nat) (w : World) (e : Ending) (w' : World) : Prop :=
  (∃ a m k i', e = .returned (.slice a m k) ∧ i < i' ∧ PS c U i' tv T o w' ∧ Fr c.S1 w w') ∨ (Stopped e ∧ Fr c.S1 w w')
theorem stop_end {R : Ending → World → Prop} {fn : Func} {a : Act} {w : World} {why at_ : Int} (hd : a.defers = []) (hw : why ≠ 0) (hR : ∀ e, Stopped e → R e w) :
    bodyPost Tryz.prog fn R (.panic [{ v := .iface 60 (.agg #[.int .i64 why, .int .i64 at_]), recovered := false }]) a w := ⟨hd, hR _ ⟨_, _, hw, rfl⟩⟩
set_option maxHeartbeats 4000000 in
theorem names_any (hN : NameOk) (h : PS c U i tv T o w) :
    Calls Tryz.prog 76 #[.pointer (some ⟨c.p, 0, none⟩)] w (NamesOut c U i tv T o w) := by
  obtain ⟨i0, hi0, hz0, hz1, hz2⟩ := info_parts info9
  go_enter Tryz.func76, Tryz.ntmps76
  go_wp2
  go_step3
  go_wp2_with (first
    | (go_at_call 118; ((with_reducible refine (paren_any h).mono ?_); rintro e w1 (⟨rfl, h1, hf1⟩ | ⟨⟨why, at_, hw, rfl⟩, hf1⟩))))
  case inr => exact ⟨rfl, .inr ⟨⟨why, at_, hw, rfl⟩, hf1⟩⟩
  go_step3
  go_wp2
  go_loopw [3] (fun v wr => ∃ (j n : Nat), PS c U j tv T (o + 1) wr ∧ i < j ∧ Row w.heap.size 9 1 wr v n ∧ n ≤ j ∧ Fr c.S1 w wr) (fun _ wr => c.l.length - c.idx wr)
  case atStart => exact ⟨_, 0, h1, Nat.lt_succ_self i, ⟨[], World.ownsRow_nil _ _ _ _⟩, Nat.zero_le _, hf1⟩
  case round =>
    obtain ⟨j, n, hj, hij, ⟨xs, hown⟩, hnj, hfr⟩ := hrel
    have hjl := hj.i_lt
    have hl := hj.ok.len
    have hidx := hj.idx
    go_wp2_with (first
      | (go_at_call 71; ((with_reducible refine (is_any hj _ _).mono ?_); rintro e w2 ⟨rfl, f2⟩; have h2 := hj.still f2))
      | (go_at_call 119; ((with_reducible refine (name_any hN h2).mono ?_); rintro e w3 (⟨s, rfl, h3, f3⟩ | ⟨⟨why, at_, hw, rfl⟩, f3⟩)))
      | (go_at_call 75; ((with_reducible refine (take_any h4.1 _ _ (by decide)).mono ?_); rintro e w5 (⟨rfl, h5, f5⟩ | ⟨rfl, h5, f5⟩)))
      | (go_at_call 120; (first | (with_reducible refine (close_any h5).mono ?_) | (with_reducible refine (close_any h2).mono ?_)); rintro e w6 (⟨rfl, h6, f6⟩ | ⟨⟨why, at_, hw, rfl⟩, f6⟩))
      | (at_builtin; refine wpList_append_lies _ rfl (.tmp 9) (.tmp 12) 38 rfl w.heap.size 9 i0 _ 1 16 und38 hi0 hz0 hz1 hz2 rfl (by decide) _ n xs rfl ((h.own1 (h.own1 hown f2.at1) f3).alloc _) ⟨w3.heap.size, 0, none⟩ 1 1 [.string s] rfl rfl (cell_one_new _ _ _) (by simp [Value.oneCell']) (by decide) (by simp only [maxLen]; omega) (by omega) (by have := hfr.size; have := f2.size; have := f3.size; simp; omega) _ rfl ?_; intro g cap w4 hown4 hgrow hat hlt; have h4 := h.grown h3 ((hfr.at1' f2).at2 f3) (fun g hg => (hown.lt g hg).1) hgrow))
    all_goals first
      | exact ⟨⟨_, n + 1, h5, by omega, ⟨_, h.own1 hown4 f5⟩, by omega, h4.2.at2 f5⟩, by rw [h5.idx, hidx]; have := h5.i_lt; omega⟩
      | (rw [Exit.noGoto_ret]; go_ret; exact .inl ⟨_, _, _, _, rfl, by omega, h6, (h4.2.at2 f5).at2 f6⟩)
      | (obtain ⟨a', m', k', rfl⟩ := Row.shape ⟨_, hown⟩; rw [Exit.noGoto_ret]; go_ret; exact .inl ⟨_, _, _, _, rfl, by omega, h6, (hfr.at1' f2).at2 f6⟩)
      | exact ⟨rfl, .inr ⟨⟨why, at_, hw, rfl⟩, (h4.2.at2 f5).at2 f6⟩⟩
      | exact ⟨rfl, .inr ⟨⟨why, at_, hw, rfl⟩, (hfr.at1' f2).at2 f6⟩⟩
      | exact ⟨rfl, .inr ⟨⟨why, at_, hw, rfl⟩, (hfr.at1' f2).at2 f3⟩⟩
end Go.Proofs.YtjagjjdkgidkjaaGreatDoor
