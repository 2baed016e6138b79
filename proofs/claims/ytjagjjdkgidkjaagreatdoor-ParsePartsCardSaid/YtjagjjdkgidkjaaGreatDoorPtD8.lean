/- Strconv's decimal: a part (Se) of the proof that the law ParseParts answers true. No condition. -/
import Derived.Test.YtjagjjdkgidkjaaGreatDoorPtD7
import Derived.Test.YtjagjjdkgidkjaaGreatDoorPtD2
import Derived.Deep.CutBlock
set_option linter.all false
namespace Go.Proofs.YtjagjjdkgidkjaaGreatDoor
open Go Go.RowKit
set_option maxRecDepth 1000000
def dpOf (b : Nat) (w : World) : Int := match w.cell? ⟨b, 801, none⟩ with | some v => intOf v | none => 0
def d0Of (b : Nat) (w : World) : Nat := match w.cell? ⟨b, 0, none⟩ with | some v => (intOf v).toNat | none => 0
theorem dpOf_eq {b : Nat} {f : Nat → Nat} {nd dp : Int} {ng tr : Bool} {w : World} (h : DB b f nd dp ng tr w) : dpOf b w = dp := by unfold dpOf; rw [h.dp_]; rfl
theorem d0Of_eq {b : Nat} {f : Nat → Nat} {nd dp : Int} {ng tr : Bool} {w : World} (h : DB b f nd dp ng tr w) : d0Of b w = f 0 := by unfold d0Of; rw [h.at_ 0 (by omega)]; simp [intOf]
/-- Two labels, as the walk wants it. -/
theorem wp_scope_fwd' {P : Program} {a : Act} {w : World} {Q : Exit → Act → World → Prop} {c : Code} (h1 : (findLabel c 1).isSome = true) (h0 : (findLabel c 0).isSome = true)
    (h : ∀ r1 r0, findLabel c 1 = some r1 → findLabel c 0 = some r0 → c.wp P (Exit.fwd1 P r1 r0 Q) a w) : (Code.scope c).wp P Q a w := by
  obtain ⟨r1, e1⟩ := Option.isSome_iff_exists.1 h1
  obtain ⟨r0, e0⟩ := Option.isSome_iff_exists.1 h0
  exact wp_scope_fwd e1 e0 (h r1 r0 e1 e0)
def FbOut (b : Nat) (w : World) (e : Ending) (w' : World) : Prop := ∃ (m : Int) (o : Bool), e = .returned (.tuple #[.int .u64 m, .bool o]) ∧ Fr (· = b) w w'
theorem fbOut_mk {b : Nat} {w w' : World} (m : Int) (o : Bool) (h : Fr (· = b) w w') : FbOut b w (.returned (.tuple #[.int .u64 m, .bool o])) w' := ⟨m, o, rfl, h⟩
def B1 (b : Nat) (ng : Bool) (w : World) (v6 : Value) (wx : World) : Prop :=
  ∃ (f : Nat → Nat) (nd : Nat) (dp : Int) (tr : Bool) (e : Int), v6 = .int .i64 e ∧ DB b f nd dp ng tr wx ∧ Good f nd ∧ 1 ≤ nd ∧ dp ≤ 310 ∧ -1000 ≤ dp ∧ 0 ≤ e ∧ e + 27 * (dp.toNat * 64 + (f 0 : Nat) : Nat) ≤ 540000 ∧ Fr (· = b) w wx
def B2 (b : Nat) (ng : Bool) (w : World) (v6 : Value) (wx : World) : Prop :=
  ∃ (f : Nat → Nat) (nd : Nat) (dp : Int) (tr : Bool) (e : Int), v6 = .int .i64 e ∧ DB b f nd dp ng tr wx ∧ Good f nd ∧ 1 ≤ nd ∧ dp ≤ 62 ∧ -1000 ≤ dp ∧ e ≤ 540000 ∧ -2000000 ≤ e - 27 * ((100 - dp).toNat * 64 + (64 - f 0) : Nat) ∧ Fr (· = b) w wx
set_option maxHeartbeats 8000000 in
theorem bits328 (b : Nat) (f : Nat → Nat) (nd : Nat) (dp : Int) (ng tr : Bool) (w : World) (hG : Good f nd) (hT : FlTab w) (hL0 : ∀ wx, Fr (· = b) w wx → LcTab wx) (hP0 : ∀ wx, Fr (· = b) w wx → PtTab wx) (hT0 : ∀ wx, Fr (· = b) w wx → FlTab wx) (hD : DB b f nd dp ng tr w) :
    Calls Tryz.prog 328 #[.pointer (some ⟨b, 0, none⟩), .pointer (some ⟨13, 0, none⟩)] w (FbOut b w) := by
  have hL := Lib.hid hL0
  have hP := Lib.hid hP0
  have hTT := Lib.hid hT0
  clear hL0 hP0 hT0
  have c0 := hD.nd_
  have c1 := hD.dp_
  have c2 := hD.ng_
  have m0 := hT.m0
  have m1 := hT.m1
  have m2 := hT.m2
  go_enter Tryz.func328, Tryz.ntmps328
  go_wp2
  refine wp_scope_fwd' (by kernel_rfl) (by kernel_rfl) fun r1 r0 e1 e0 => ?_
  have H1 := Lib.hid e1
  have H0 := Lib.hid e0
  clear e1 e0
  have F0 : Fr (· = b) w w := Fr.refl _ w
  by_cases hn : nd = 0
  · case _ =>
      have hb : ((nd : Int) == 0) = true := by simp [hn]
      go_wp2
      go_step3
      change Code.wp Tryz.prog r0 (Exit.noGoto _) _ _
      have e := Option.some.inj H0.out.symm
      clear H0
      subst e
      go_wp2
      go_quiet (fail)
      go_wp2
      all_goals first
        | (rw [Exit.noGoto_ret]; go_ret2; exact fbOut_mk _ _ (F0.drewN _))
        | (go_quiet (fail); go_wp2; rw [Exit.noGoto_ret]; go_ret2; exact fbOut_mk _ _ (F0.drewN _))
        | (go_quiet (fail); go_wp2; rw [Exit.noGoto_ret]; go_ret2; exact fbOut_mk _ _ ((F0.drewN _).drewN _))
        | (rw [Exit.noGoto_ret]; go_ret2; exact fbOut_mk _ _ F0)

  have hb : ((nd : Int) == 0) = false := by simp [hn]
  have hn1 : 1 ≤ nd := by omega
  by_cases h310 : 310 < dp
  · case _ =>
      go_wp2
      go_step3
      change Code.wp Tryz.prog r1 (Exit.fwd0 Tryz.prog r0 _) _ _
      have e := Option.some.inj H1.out.symm
      clear H1 H0
      subst e
      go_wp2
      go_quiet (fail)
      go_wp2
      go_step3
      go_wp2
      go_quiet (fail)
      go_wp2
      all_goals first
        | (rw [Exit.fwd0_ret]; go_ret2; exact fbOut_mk _ _ (F0.drewN _))
        | (go_quiet (fail); go_wp2; rw [Exit.fwd0_ret]; go_ret2; exact fbOut_mk _ _ (F0.drewN _))
        | (go_quiet (fail); go_wp2; rw [Exit.fwd0_ret]; go_ret2; exact fbOut_mk _ _ ((F0.drewN _).drewN _))
        | (rw [Exit.fwd0_ret]; go_ret2; exact fbOut_mk _ _ F0)

  by_cases h330 : dp < -330
  · case _ =>
      go_wp2
      go_step3
      change Code.wp Tryz.prog r0 (Exit.noGoto _) _ _
      have e := Option.some.inj H0.out.symm
      clear H0
      subst e
      go_wp2
      go_quiet (fail)
      go_wp2
      all_goals first
        | (rw [Exit.noGoto_ret]; go_ret2; exact fbOut_mk _ _ (F0.drewN _))
        | (go_quiet (fail); go_wp2; rw [Exit.noGoto_ret]; go_ret2; exact fbOut_mk _ _ (F0.drewN _))
        | (go_quiet (fail); go_wp2; rw [Exit.noGoto_ret]; go_ret2; exact fbOut_mk _ _ ((F0.drewN _).drewN _))
        | (rw [Exit.noGoto_ret]; go_ret2; exact fbOut_mk _ _ F0)

  have hd0 := hG.dig 0 hn1
  have HNB := Lib.hid hT.b13
  go_upto_block 0 with fail
  go_cut [6] (fun v6 wx => ∃ (f : Nat → Nat) (nd : Nat) (dp : Int) (tr : Bool) (e : Int), v6 = .int .i64 e ∧ DB b f nd dp ng tr wx ∧ Good f nd ∧ 1 ≤ nd ∧ dp ≤ 0 ∧ -1000 ≤ dp ∧ 0 ≤ e ∧ e ≤ 540000 ∧ Fr (· = b) w wx)
  case first => as_aux_lemma =>
    go_wp2
    go_loopw [6] (B1 b ng w) (fun _ wr => (dpOf b wr).toNat * 64 + d0Of b wr)
    case atStart => exact ⟨f, nd, dp, tr, 0, rfl, hD, hG, hn1, by omega, by omega, by omega, by omega, F0⟩
    case round =>
      clear hb hn1 h310 h330 hd0 c0 c1 c2 m0 m1 m2 hD hG F0
      obtain ⟨f, nd, dp, tr, e, rfl, D, G, hn1, hd1, hd2, he1, he2, F⟩ := hrel
      have c1 := D.dp_
      have hd0 := G.dig 0 hn1
      have hL2 := hL.out wr F
      have hP2 := hP.out wr F
      by_cases hdp : 0 < dp
      case neg =>
        go_wp2
        go_meet
        exact ⟨f, nd, dp, tr, e, rfl, D, G, hn1, by omega, by omega, he1, by omega, F⟩
      obtain ⟨B, O, C, pc, prow⟩ := hP2.row
      have PR := Lib.hid prow
      clear prow hP2
      go_upto_region 13 with fail
      go_cut [46] (fun v wx => v = .bool (decide (9 ≤ dp)) ∧ Fr none_ wr wx)
      case first =>
        go_quiet (fail)
        go_wp2
        go_meet
        exact ⟨rfl, (Fr.refl _ wr).drewN _⟩
      case rest =>
        obtain ⟨rfl, f1⟩ := hcut
        have D1 := D.fr f1 id
        have c11 := D1.dp_
        have pc1 := f1.cell pc id
        go_upto_if 46 with fail
        go_cut [8] (fun v wx => ∃ x : Int, v = .int .i64 x ∧ 1 ≤ x ∧ x ≤ 27 ∧ Fr none_ wr wx)
        case first =>
          by_cases h9 : 9 ≤ dp
          · go_wp2
            go_meet
            exact ⟨27, rfl, by omega, by omega, f1⟩
          · obtain ⟨k, rfl⟩ : ∃ k : Nat, dp = k := ⟨dp.toNat, by omega⟩
            obtain ⟨x, hx1, hx2, hx⟩ := PR.out k (by omega)
            have hx' := f1.cell hx id
            clear hx c1 pc
            go_wp2
            go_quiet (fail)
            go_wp2
            go_meet
            exact ⟨x, rfl, hx1, hx2, f1.drewN _⟩
        case rest =>
          clear f1 D1 c11 pc1 c1 pc
          obtain ⟨x, rfl, hx1, hx2, f2⟩ := hcut
          have D2 := D.fr f2 id
          have F2 : Fr (· = b) w _ := F.trans f2 fun _ _ e => e.elim
          have R := shiftR217 b f nd dp ng tr x _ hx1 (by omega) hn1 G (by omega) (by omega) D2
          go_wp2_with (first
            | (go_at_call 217; ((with_reducible refine R.mono ?_); rintro e w3 ⟨g, n, d, t, rfl, q1, q2, q3, q4, q5, q6⟩)))
          have hg0 := q2.dig 0 q3
          go_roundw
          case rel => exact ⟨g, n, d, t, _, rfl, q1, q2, q3, by omega, by omega, by omega, by omega, F2.trans q6 fun _ _ e => e⟩
          case measure =>
            rw [dpOf_eq q1, d0Of_eq q1, dpOf_eq D, d0Of_eq D]
            omega
  case rest =>
    clear hb hn1 h310 h330 hd0 c0 c1 c2 m0 m1 m2 hD hG F0 hT HNB
    obtain ⟨f, nd, dp, tr, e, rfl, D, G, hn1, hd1, hd2, he1, he2, F⟩ := hcut
    have hd0 := G.dig 0 hn1
    go_upto_block 2 with fail
    go_cut [6] (fun v6 wx => ∃ (f : Nat → Nat) (nd : Nat) (dp : Int) (tr : Bool) (e : Int), v6 = .int .i64 e ∧ DB b f nd dp ng tr wx ∧ Good f nd ∧ 1 ≤ nd ∧ dp ≤ 62 ∧ -1000 ≤ dp ∧ -2000000 ≤ e ∧ e ≤ 540000 ∧ Fr (· = b) w wx)
    case first => as_aux_lemma =>
      go_wp2
      go_loopw [6] (B2 b ng w) (fun _ wr => (100 - dpOf b wr).toNat * 64 + (64 - d0Of b wr))
      case atStart => exact ⟨f, nd, dp, tr, e, rfl, D, G, hn1, by omega, by omega, he2, by omega, F⟩
      case round =>
        clear hd0 D G hn1 hd1 hd2 he1 he2 F
        obtain ⟨f, nd, dp, tr, e, rfl, D, G, hn1, hd1, hd2, he1, he2, F⟩ := hrel
        have c1 := D.dp_
        have c4 := D.at_ 0 (by omega)
        have hd0 := G.dig 0 hn1
        have hL2 := hL.out wr F
        have hP2 := hP.out wr F
        obtain ⟨B, O, C, pc, prow⟩ := hP2.row
        have PR := Lib.hid prow
        clear prow hP2
        go_upto_region 18 with fail
        go_cut [80] (fun v wx => ∃ c : Bool, v = .bool c ∧ (c = true → dp ≤ 0) ∧ wr = wx)
        case first =>
          clear pc
          by_cases h1 : dp < 0
          · go_wp2
            all_goals go_meet
            all_goals exact ⟨_, rfl, fun _ => by omega, rfl⟩
          · by_cases h2 : dp = 0
            · have h2b : (dp == 0) = true := by simp [h2]
              clear h2
              go_wp2
              all_goals go_meet
              all_goals exact ⟨_, rfl, fun _ => by simp only [beq_iff_eq] at h2b; omega, rfl⟩
            · have h2b : (dp == 0) = false := by simp [h2]
              clear h2
              go_wp2
              all_goals go_meet
              all_goals exact ⟨false, rfl, fun h => (by cases h), rfl⟩
        case rest =>
          obtain ⟨c, rfl, hc, rfl⟩ := hcut
          cases c
          case false =>
            go_wp2
            go_meet
            exact ⟨f, nd, dp, tr, e, rfl, D, G, hn1, by omega, by omega, by omega, by omega, F⟩
          have hdp : dp ≤ 0 := hc rfl
          clear hc c4
          go_upto_region 20 with fail
          go_cut [88] (fun v wx => v = .bool (decide (9 ≤ -dp)) ∧ Fr none_ wr wx)
          case first =>
            go_quiet (fail)
            go_wp2
            go_meet
            exact ⟨rfl, (Fr.refl _ wr).drewN _⟩
          case rest =>
            obtain ⟨rfl, f1⟩ := hcut
            have D1 := D.fr f1 id
            have c11 := D1.dp_
            have pc1 := f1.cell pc id
            go_upto_if 88 with fail
            go_cut [9] (fun v wx => ∃ x : Int, v = .int .i64 x ∧ 1 ≤ x ∧ x ≤ 27 ∧ Fr none_ wr wx)
            case first =>
              by_cases h9 : 9 ≤ -dp
              · go_wp2
                go_meet
                exact ⟨27, rfl, by omega, by omega, f1⟩
              · obtain ⟨k, rfl⟩ : ∃ k : Nat, dp = -(k : Int) := ⟨(-dp).toNat, by omega⟩
                obtain ⟨x, hx1, hx2, hx⟩ := PR.out k (by omega)
                have hx' := f1.cell hx id
                have hk9 : k < 9 := by omega
                have hnn : -(-(k : Int)) = k := by omega
                clear hx c1 pc
                go_wp2
                go_quiet (fail)
                go_wp2
                go_meet
                exact ⟨x, rfl, hx1, hx2, f1.drewN _⟩
            case rest =>
              clear f1 D1 c11 pc1 c1 pc
              obtain ⟨x, rfl, hx1, hx2, f2⟩ := hcut
              have D2 := D.fr f2 id
              have F2 : Fr (· = b) w _ := F.trans f2 fun _ _ e => e.elim
              have R := shiftL217 b f nd dp ng tr x _ hx1 (by omega) hn1 G (by omega) (by omega) (hL2.fr f2) D2
              go_wp2_with (first
                | (go_at_call 217; ((with_reducible refine R.mono ?_); rintro e w3 ⟨g, n, d, t, rfl, q1, q2, q3, q4, q5, q6⟩)))
              have hg0 := q2.dig 0 q3
              go_roundw
              case rel => exact ⟨g, n, d, t, _, rfl, q1, q2, q3, by omega, by omega, by omega, by omega, F2.trans q6 fun _ _ e => e⟩
              case measure =>
                rw [dpOf_eq q1, d0Of_eq q1, dpOf_eq D, d0Of_eq D]
                omega
    case rest =>
      clear hd0 D G hn1 hd1 hd2 he1 he2 F
      obtain ⟨f, nd, dp, tr, e, rfl, D, G, hn1, hd1, hd2, he1, he2, F⟩ := hcut
      obtain ⟨w1, rfl⟩ : ∃ w1, w1 = wc := ⟨_, rfl⟩
      have T1 := hTT.out w1 F
      have m2 := T1.m2
      go_upto_if 111 with fail
      go_cut [6] (fun v6 wx => ∃ (f : Nat → Nat) (nd : Nat) (dp : Int) (tr : Bool) (e : Int), v6 = .int .i64 e ∧ DB b f nd dp ng tr wx ∧ Good f nd ∧ 1 ≤ nd ∧ dp ≤ 62 ∧ -2000000000 ≤ dp ∧ -2000000 ≤ e ∧ e ≤ 540000 ∧ Fr (· = b) w wx)
      case first => as_aux_lemma =>
        by_cases h : e - 1 < -1022
        · have R := shiftR217 b f nd dp ng tr (-1021 - e) w1 (by omega) (by omega) hn1 G (by omega) (by omega) D
          have R' := Lib.hid (show ∀ v : Int, v = -(-1021 - e) → Calls Tryz.prog 217 #[.pointer (some ⟨b, 0, none⟩), .int .i64 v] w1 (RsOut b f dp ng (900 * ((-1021 - e) / 60 + 1)) w1) from fun v hv => by rw [hv]; exact R)
          clear R
          go_wp2_with (first
            | (go_at_call 217; ((with_reducible refine (R'.out _ (by omega)).mono ?_); rintro e w3 ⟨g, n, d, t, rfl, q1, q2, q3, q4, q5, q6⟩)))
          go_meet
          exact ⟨g, n, d, t, _, rfl, q1, q2, q3, by omega, by omega, by omega, by omega, F.trans q6 fun _ _ e => e⟩
        · go_wp2
          go_meet
          exact ⟨f, nd, dp, tr, _, rfl, D, G, hn1, hd1, by omega, by omega, by omega, F⟩
      case rest =>
        clear D G hn1 hd1 hd2 he1 he2 F T1 m2
        obtain ⟨f, nd, dp, tr, e, rfl, D, G, hn1, hd1, hd2, he1, he2, F⟩ := hcut
        obtain ⟨w1, rfl⟩ : ∃ w1, w1 = wc := ⟨_, rfl⟩
        have T1 := hTT.out w1 F
        have m0 := T1.m0
        have m1 := T1.m1
        have m2 := T1.m2
        go_upto_region 30 with fail
        go_cut [138] (fun v wx => ∃ c : Bool, v = .bool c ∧ Fr none_ w1 wx)
        case first =>
          go_quiet (fail)
          go_wp2
          go_meet
          exact ⟨_, rfl, (Fr.refl _ w1).drewN _⟩
        case rest =>
          obtain ⟨c, rfl, f1⟩ := hcut
          obtain ⟨w2, rfl⟩ : ∃ w2, w2 = wc := ⟨_, rfl⟩
          have D2 := D.fr f1 id
          have F2 : Fr (· = b) w w2 := F.trans f1 fun _ _ e => e.elim
          have hL2 := hL.out w2 F2
          clear m0 m1 m2 T1 D F f1
          have T1 := hTT.out w2 F2
          have m0 := T1.m0
          have m1 := T1.m1
          have m2 := T1.m2
          have c2 := D2.ng_
          cases c
          case true =>
            go_wp2
            go_step3
            change Code.wp Tryz.prog r1 (Exit.fwd0 Tryz.prog r0 _) _ _
            have e := Option.some.inj H1.out.symm
            clear H1 H0
            subst e
            go_wp2
            go_quiet (fail)
            go_wp2
            go_step3
            go_wp2
            go_quiet (fail)
            go_wp2
            all_goals first
              | (rw [Exit.fwd0_ret]; go_ret2; exact fbOut_mk _ _ (F2.drewN _))
              | (go_quiet (fail); go_wp2; rw [Exit.fwd0_ret]; go_ret2; exact fbOut_mk _ _ (F2.drewN _))
              | (go_quiet (fail); go_wp2; rw [Exit.fwd0_ret]; go_ret2; exact fbOut_mk _ _ ((F2.drewN _).drewN _))
              | (rw [Exit.fwd0_ret]; go_ret2; exact fbOut_mk _ _ F2)

          case false =>
            have R : Calls Tryz.prog 217 #[.pointer (some ⟨b, 0, none⟩), .int .i64 53] w2 (LsOut b f dp ng 61 w2) := shiftL217 b f nd dp ng tr 53 w2 (by omega) (by omega) hn1 G (by omega) (by omega) hL2 D2
            go_upto_region 33 with (first
              | (go_at_call 217; ((with_reducible refine R.mono ?_); rintro e w3 ⟨g, n, d, t, rfl, q1, q2, q3, q4, q5, q6⟩))
              | (go_at_call 347; ((with_reducible refine (rounded347 b g n d ng t _ q2.le q1).mono ?_); rintro e w4 ⟨v, rfl, ⟨m, rfl⟩, rfl⟩)))
            have F3 : Fr (· = b) w w3 := F2.trans q6 fun _ _ e => e
            clear m0 m1 m2 c2 T1 D2 F2 hL2 R
            have T3 := hTT.out w3 F3
            have m0 := T3.m0
            have m1 := T3.m1
            have m2 := T3.m2
            have c2 := q1.ng_
            go_upto_if 155 with fail
            go_cut [6, 7] (fun v6 v7 wx => ∃ e m : Int, v6 = .int .i64 e ∧ v7 = .int .u64 m ∧ Fr none_ w3 wx)
            case first => as_aux_lemma =>
              cases hm : (m == 9007199254740992)
              · go_wp2
                go_meet
                exact ⟨_, _, rfl, rfl, Fr.refl _ w3⟩
              · go_wp2
                go_quiet (fail)
                go_wp2
                all_goals first
                  | (go_meet; exact ⟨_, _, rfl, rfl, (Fr.refl none_ w3).drewN _⟩)
                  | skip
                all_goals
                  go_step3
                  change Code.wp Tryz.prog r1 (Exit.fwd0 Tryz.prog r0 _) _ _
                  have e := Option.some.inj H1.out.symm
                  clear H1 H0
                  subst e
                  go_wp2
                  go_quiet (fail)
                  go_wp2
                  go_step3
                  go_wp2
                  go_quiet (fail)
                  go_wp2
                  all_goals first
                    | (rw [Exit.fwd0_ret]; go_ret2; exact fbOut_mk _ _ (F3.drewN _))
                    | (go_quiet (fail); go_wp2; rw [Exit.fwd0_ret]; go_ret2; exact fbOut_mk _ _ (F3.drewN _))
                    | (go_quiet (fail); go_wp2; rw [Exit.fwd0_ret]; go_ret2; exact fbOut_mk _ _ ((F3.drewN _).drewN _))
                    | (rw [Exit.fwd0_ret]; go_ret2; exact fbOut_mk _ _ F3)
            case rest =>
              obtain ⟨e4, m4, rfl, rfl, f4⟩ := hcut
              obtain ⟨w4, rfl⟩ : ∃ w4, w4 = wc := ⟨_, rfl⟩
              clear m0 m1 m2 c2 T3
              have D4 := q1.fr f4 id
              have F4 : Fr (· = b) w w4 := F3.trans f4 fun _ _ e => e.elim
              have T4 := hTT.out w4 F4
              have m0 := T4.m0
              have m1 := T4.m1
              have m2 := T4.m2
              have c2 := D4.ng_
              go_upto_if 180 with fail
              go_cut [6] (fun v6 wx => ∃ e : Int, v6 = .int .i64 e ∧ w4 = wx)
              case first => as_aux_lemma =>
                go_wp2
                all_goals go_meet
                all_goals exact ⟨_, rfl, rfl⟩
              case rest =>
                obtain ⟨e5, rfl, rfl⟩ := hcut
                go_wp2
                go_step3
                change Code.wp Tryz.prog r0 (Exit.noGoto _) _ _
                have e := Option.some.inj H0.out.symm
                clear H0
                subst e
                go_wp2
                go_quiet (fail)
                go_wp2
                all_goals first
                  | (rw [Exit.noGoto_ret]; go_ret2; exact fbOut_mk _ _ (F4.drewN _))
                  | (go_quiet (fail); go_wp2; rw [Exit.noGoto_ret]; go_ret2; exact fbOut_mk _ _ (F4.drewN _))
                  | (go_quiet (fail); go_wp2; rw [Exit.noGoto_ret]; go_ret2; exact fbOut_mk _ _ ((F4.drewN _).drewN _))
                  | (rw [Exit.noGoto_ret]; go_ret2; exact fbOut_mk _ _ F4)

end Go.Proofs.YtjagjjdkgidkjaaGreatDoor
