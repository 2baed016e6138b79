/- Strconv's decimal: a part (Dt) of the proof that the law ParseParts answers true. No condition. -/
import Derived.Test.YtjagjjdkgidkjaaGreatDoorPtD1
import Derived.Test.YtjagjjdkgidkjaaGreatDoorPtF2
import Derived.Deep.CutBlock
import Derived.StillTailTactics
set_option linter.all false
namespace Go.Proofs.YtjagjjdkgidkjaaGreatDoor
open Go Go.RowKit
set_option maxRecDepth 1000000
theorem is_nil' {s : ByteArray} (h : ¬ 0 < s.size) : s = ByteArray.empty := by
  have h0 : s.size = 0 := by omega
  cases s with | mk d => cases d with | mk l => cases l with
    | nil => rfl
    | cons a t => simp [ByteArray.size] at h0
def SetSt (b : Nat) (k : Nat) (w0 w : World) : Prop := ∃ (f : Nat → Nat) (nd : Nat) (dp : Int) (ng tr : Bool), DB b f nd dp ng tr w ∧ Good f nd ∧ -(k : Int) ≤ dp ∧ dp ≤ 800 ∧ Fr (· = b) w0 w
def SetOut (b m : Nat) (w : World) (e : Ending) (w' : World) : Prop := ∃ ok : Bool, e = .returned (.bool ok) ∧ DecOk b w w'
theorem SetSt.mono {b k k' : Nat} {w0 w : World} (h : SetSt b k w0 w) (hk : k ≤ k') : SetSt b k' w0 w := by
  obtain ⟨f, nd, dp, ng, tr, h1, h2, h3, h4, h5⟩ := h
  exact ⟨f, nd, dp, ng, tr, h1, h2, by omega, h4, h5⟩
theorem setOut_mk {b k : Nat} {w w' : World} (ok : Bool) (h : SetSt b k w w') (hk : k ≤ 2000000) : SetOut b 2000000 w (.returned (.bool ok)) w' := by
  obtain ⟨f, nd, dp, ng, tr, h1, h2, h3, h4, h5⟩ := h
  exact ⟨ok, rfl, f, nd, dp, ng, tr, h1, h2, by omega, by omega, h5⟩
def RowRel (b : Nat) (s : ByteArray) (w0 : World) (v5 v6 v7 : Value) (w : World) : Prop := ∃ (k : Nat) (x y : Bool), v5 = .int .i64 k ∧ v6 = .bool x ∧ v7 = .bool y ∧ k ≤ s.size ∧ SetSt b k w0 w
set_option maxHeartbeats 8000000 in
theorem setW (b : Nat) (s : ByteArray) (w : World) (hs : s.size ≤ 1000000) (h0 : DB b (fun _ => 0) 0 0 false false w) : Calls Tryz.prog 327 #[.pointer (some ⟨b, 0, none⟩), .string s] w (SetOut b 2000000 w) := by
  have zz := h0.fz
  have c2 := h0.ng_
  have c3 := h0.tr_
  have S0 : SetSt b 0 w ((w.setCell ⟨b, 802, none⟩ (.bool false)).setCell ⟨b, 803, none⟩ (.bool false)) := ⟨_, 0, 0, _, _, (h0.setNg false).setTr false, Good.zero _, by omega, by omega, ((Fr.refl _ w).setB _ _).setB _ _⟩
  have S1 : SetSt b 0 w (((w.setCell ⟨b, 802, none⟩ (.bool false)).setCell ⟨b, 803, none⟩ (.bool false)).setCell ⟨b, 802, none⟩ (.bool true)) := ⟨_, 0, 0, _, _, ((h0.setNg false).setTr false).setNg true, Good.zero _, by omega, by omega, (((Fr.refl _ w).setB _ _).setB _ _).setB _ _⟩
  by_cases hz : 0 < s.size
  case neg =>
    have hemp : s = ByteArray.empty := is_nil' hz
    go_enter Tryz.func327, Tryz.ntmps327
    go_wp2
    all_goals first
      | (go_ret; exact setOut_mk _ S0 (by omega))
  have hemp : ¬ s = ByteArray.empty := fun e => by subst e; exact absurd hz (by decide)
  have hb0 : (s[0]'hz).toNat < 256 := UInt8.toNat_lt _
  go_enter Tryz.func327, Tryz.ntmps327
  go_upto_block 0 with fail
  go_cut [5] (fun v5 wx => ∃ k : Nat, v5 = .int .i64 k ∧ k ≤ s.size ∧ SetSt b k w wx)
  case first => as_aux_lemma =>
    go_wp2
    all_goals go_meet
    all_goals first
      | exact ⟨0, rfl, by omega, S0⟩
      | exact ⟨1, rfl, by omega, S0.mono (by omega)⟩
      | exact ⟨1, rfl, by omega, S1.mono (by omega)⟩
  case rest =>
    obtain ⟨k, rfl, hk, S2⟩ := hcut
    clear S0 S1 c2 c3 zz h0
    go_upto_block 1 with fail
    go_cut [5, 6, 7] (RowRel b s w)
    case first => as_aux_lemma =>
      go_wp2
      go_loopw [5, 6, 7] (RowRel b s w) (fun i _ _ _ => s.size - (intOf i).toNat)
      case atStart => exact ⟨k, false, false, rfl, rfl, rfl, hk, S2⟩
      case round =>
        obtain ⟨k, x, y, rfl, rfl, rfl, hk, S⟩ := hrel
        by_cases hlt : k < s.size
        · have hb1 : (s[k]'hlt).toNat < 256 := UInt8.toNat_lt _
          go_upto_block 2 with fail
          go_cut [6, 7] (fun v6 v7 wx => ∃ x y : Bool, v6 = .bool x ∧ v7 = .bool y ∧ SetSt b (k + 1) w wx)
          case first =>
            obtain ⟨f, nd, dp, ng, tr, hD, hG, hdp, hdp2, hF⟩ := S
            have zz := hD.fz
            have c0 := hD.nd_
            have c1 := hD.dp_
            have c3 := hD.tr_
            have P0 : SetSt b (k + 1) w wr := SetSt.mono ⟨f, nd, dp, ng, tr, hD, hG, hdp, hdp2, hF⟩ (by omega)
            have P1 : SetSt b (k + 1) w (wr.setCell ⟨b, 801, none⟩ (.int .i64 nd)) := ⟨f, nd, nd, ng, tr, hD.setDp _, hG, by omega, by have := hG.le; omega, hF.setB _ _⟩
            have P2 : SetSt b (k + 1) w (wr.setCell ⟨b, 801, none⟩ (.int .i64 (dp - 1))) := ⟨f, nd, dp - 1, ng, tr, hD.setDp _, hG, by omega, by omega, hF.setB _ _⟩
            have P3 : SetSt b (k + 1) w (wr.setCell ⟨b, 803, none⟩ (.bool true)) := ⟨f, nd, dp, ng, true, hD.setTr _, hG, by omega, by omega, hF.setB _ _⟩
            have hw1 : IntKind.i64.wrap (dp - 1) = dp - 1 := IntWalk.i64_in _ (by omega)
            have hle := hG.le
            by_cases hn : nd < 800
            · have c4 := hD.at_ nd hn
              go_wp2
              all_goals first
                | (go_meet; exact ⟨x, y, rfl, rfl, P0⟩)
                | (go_meet; exact ⟨_, _, rfl, rfl, P1⟩)
                | (go_meet; exact ⟨_, _, rfl, rfl, P2⟩)
                | (go_meet; exact ⟨k, _, _, rfl, rfl, rfl, hk, ⟨f, nd, dp, ng, tr, hD, hG, hdp, hdp2, hF⟩⟩)
                | (rw [Exit.noGoto_ret]; go_ret; exact setOut_mk _ P0 (by omega))
                | (go_ret; exact setOut_mk _ P0 (by omega))
                | skip
              all_goals
                have hDd : DB b f nd dp ng tr wr.drew := hD.fr ((Fr.refl none_ wr).drew) id
                have hFd : Fr (· = b) w wr.drew := hF.drew
                go_still_tail 11, (by kernel_rfl)
                change wpList _ _ _ _ _ wr.drew
                generalize wr.drew = w2 at hDd hFd ⊢
                have zz2 := hDd.fz
                have c02 := hDd.nd_
                have c42 := hDd.at_ nd hn
                clear zz c0 c1 c3 c4 P0 P1 P2 P3
                go_wp2
                go_meet
                simp only [beq_eq_false_iff_ne, ne_eq, beq_iff_eq] at *
                first
                  | exact ⟨_, _, rfl, rfl, ⟨_, nd + 1, dp, _, _, (hDd.setD nd 48 hn).setNd _, hG.put hn (by omega) (by omega), by omega, by omega, (hFd.setB _ _).setB _ _⟩⟩
                  | exact ⟨_, _, rfl, rfl, ⟨_, nd + 1, dp, _, _, (hDd.setD nd (s[k]'hlt).toNat hn).setNd _, hG.put hn (by omega) (by omega), by omega, by omega, (hFd.setB _ _).setB _ _⟩⟩
            · have hd8 : nd = 800 := by omega
              subst hd8
              go_wp2
              all_goals first
                | (go_meet; exact ⟨_, _, rfl, rfl, P0⟩)
                | (go_meet; exact ⟨_, _, rfl, rfl, P1⟩)
                | (go_meet; exact ⟨_, _, rfl, rfl, P3⟩)
                | (go_meet; exact ⟨k, _, _, rfl, rfl, rfl, hk, ⟨f, 800, dp, ng, tr, hD, hG, hdp, hdp2, hF⟩⟩)
                | (go_ret; exact setOut_mk _ P0 (by omega))
          case rest =>
            obtain ⟨x, y, rfl, rfl, S⟩ := hcut
            go_wp2
            go_roundw
            case rel => exact ⟨k + 1, x, y, by go_num, rfl, rfl, by omega, S⟩
            case measure => simp [intOf]; omega
        · go_wp2
          go_meet
          exact ⟨k, x, y, rfl, rfl, rfl, hk, S⟩
    case rest =>
      obtain ⟨k, x, y, rfl, rfl, rfl, hk, S⟩ := hcut
      cases y
      case false =>
        go_wp2
        all_goals first
          | (go_ret; exact setOut_mk _ S (by omega))
      go_upto_if 120 with fail
      go_cut [] (fun wx => SetSt b k w wx)
      case first => as_aux_lemma =>
        obtain ⟨f, nd, dp, ng, tr, hD, hG, hdp, hdp2, hF⟩ := S
        have zz := hD.fz
        have c0 := hD.nd_
        have c1 := hD.dp_
        have hle := hG.le
        cases x
        · go_wp2
          go_meet
          exact ⟨f, nd, nd, ng, tr, hD.setDp _, hG, by omega, by omega, hF.setB _ _⟩
        · go_wp2
          go_meet
          exact ⟨f, nd, dp, ng, tr, hD, hG, hdp, hdp2, hF⟩
      case rest =>
        clear S
        have S := hcut
        obtain ⟨w1, rfl⟩ : ∃ w1, w1 = wc := ⟨_, rfl⟩
        clear hcut
        go_upto_region 32 with fail
        go_cut [138] (fun v wx => ∃ c : Bool, v = .bool c ∧ (c = true → k < s.size) ∧ w1 = wx)
        case first => as_aux_lemma =>
          by_cases h2 : k < s.size
          · go_wp2_with (first | (go_at_call 230; ((with_reducible refine (lower_any _ _ (UInt8.toNat_lt _)).mono ?_); rintro lowE lowW ⟨lowV, lowHe, ⟨lowN, lowHn, lowHv⟩, lowHw⟩; subst lowHe; subst lowHv; subst lowHw)))
            all_goals go_meet
            all_goals exact ⟨_, rfl, (fun _ => h2), rfl⟩
          · go_wp2
            all_goals go_meet
            all_goals exact ⟨_, rfl, (fun h => by cases h), rfl⟩
        case rest =>
          obtain ⟨c, rfl, hc, rfl⟩ := hcut
          cases c
          case false =>
            go_wp2
            all_goals first
              | (go_ret; exact setOut_mk _ S (by omega))
          have hk1 : k < s.size := by simpa using hc
          clear hc
          by_cases hk2 : k + 1 < s.size
          case neg =>
            go_wp2
            all_goals first
              | (go_ret; exact setOut_mk _ S (by omega))
          have hb1 : (s[k + 1]'hk2).toNat < 256 := UInt8.toNat_lt _
          go_upto_block 4 with fail
          go_cut [5, 8] (fun v5 v8 wx => ∃ (k : Nat) (sg : Int), v5 = .int .i64 k ∧ v8 = .int .i64 sg ∧ (sg = 1 ∨ sg = -1) ∧ k ≤ s.size ∧ w1 = wx)
          case first => as_aux_lemma =>
            go_wp2
            all_goals go_meet
            all_goals first
              | exact ⟨k + 1, _, by go_num, rfl, .inl rfl, by omega, rfl⟩
              | exact ⟨k + 1 + 1, _, by go_num, rfl, .inl rfl, by omega, rfl⟩
              | exact ⟨k + 1 + 1, _, by go_num, rfl, .inr rfl, by omega, rfl⟩
          case rest =>
            obtain ⟨k2, sg, rfl, rfl, hsg, hk2', rfl⟩ := hcut
            have HSG := Lib.hid hsg
            clear hsg
            go_upto_region 42 with fail
            go_cut [171] (fun v wx => ∃ c : Bool, v = .bool c ∧ w1 = wx)
            case first => as_aux_lemma =>
              by_cases h2 : k2 < s.size
              · go_wp2
                all_goals go_meet
                all_goals exact ⟨_, rfl, rfl⟩
              · go_wp2
                all_goals go_meet
                all_goals exact ⟨_, rfl, rfl⟩
            case rest =>
              obtain ⟨c, rfl, rfl⟩ := hcut
              cases c
              case true =>
                go_wp2
                all_goals first
                  | (go_ret; exact setOut_mk _ S (by omega))
              go_upto_block 5 with fail
              go_cut [5, 9] (fun v5 v9 wx => ∃ (k : Nat) (e : Int), v5 = .int .i64 k ∧ v9 = .int .i64 e ∧ 0 ≤ e ∧ e ≤ 100000 ∧ k ≤ s.size ∧ w1 = wx)
              case first => as_aux_lemma =>
                go_wp2
                go_loopw [5, 9] (fun v5 v9 wx => (∃ (k : Nat) (e : Int), v5 = .int .i64 k ∧ v9 = .int .i64 e ∧ 0 ≤ e ∧ e ≤ 100000 ∧ k ≤ s.size) ∧ w1 = wx) (fun i _ _ => s.size - (intOf i).toNat)
                case atStart => exact ⟨⟨k2, 0, rfl, rfl, by omega, by omega, hk2'⟩, rfl⟩
                case round =>
                  obtain ⟨⟨k3, e, rfl, rfl, he0, he1, hk3⟩, rfl⟩ := hrel
                  by_cases hlt : k3 < s.size
                  · have hb1 : (s[k3]'hlt).toNat < 256 := UInt8.toNat_lt _
                    go_upto_region 44 with fail
                    go_cut [193] (fun v wx => ∃ c : Bool, v = .bool c ∧ (c = true → (s[k3]'hlt).toNat = 95 ∨ (48 ≤ (s[k3]'hlt).toNat ∧ (s[k3]'hlt).toNat ≤ 57)) ∧ w1 = wx)
                    case first =>
                      by_cases hP : (s[k3]'hlt).toNat = 95 ∨ (48 ≤ (s[k3]'hlt).toNat ∧ (s[k3]'hlt).toNat ≤ 57)
                      · have HP := Lib.hid hP
                        clear hP
                        go_wp2
                        all_goals go_meet
                        all_goals exact ⟨_, rfl, (fun _ => HP.out), rfl⟩
                      · have hq : (((s[k3]'hlt).toNat : Int) == 95) = false := by
                          simp only [beq_eq_false_iff_ne, ne_eq]
                          omega
                        rcases (show (s[k3]'hlt).toNat < 48 ∨ 57 < (s[k3]'hlt).toNat by omega) with hB | hB
                        all_goals
                          clear hP
                          go_wp2
                          all_goals go_meet
                          all_goals first
                            | exact ⟨false, rfl, (fun h => absurd h (by decide)), rfl⟩
                            | exact ⟨_, rfl, (fun h => by have h9 := of_decide_eq_true h; omega), rfl⟩
                    case rest =>
                      obtain ⟨c, rfl, hc, rfl⟩ := hcut
                      cases c
                      case false =>
                        go_wp2
                        all_goals first
                          | (go_meet; exact ⟨_, _, rfl, rfl, he0, he1, hk3, rfl⟩)
                      have HC := Lib.hid (hc rfl)
                      clear hc
                      go_upto_block 6 with fail
                      go_cut [9] (fun v9 wx => ∃ e : Int, v9 = .int .i64 e ∧ 0 ≤ e ∧ e ≤ 100000 ∧ w1 = wx)
                      case first =>
                        by_cases h95 : (s[k3]'hlt).toNat = 95
                        · go_wp2
                          all_goals first
                            | (go_meet; exact ⟨_, rfl, he0, he1, rfl⟩)
                            | (exfalso; simp_all; done)
                        · obtain ⟨hd1, hd2⟩ := HC.out.resolve_left h95
                          go_wp2
                          all_goals first
                            | (go_meet; exact ⟨_, rfl, he0, he1, rfl⟩)
                            | (go_meet; exact ⟨_, rfl, by omega, by omega, rfl⟩)
                      case rest =>
                        obtain ⟨e, rfl, he0, he1, rfl⟩ := hcut
                        go_wp2
                        go_roundw
                        case rel => exact ⟨⟨k3 + 1, _, by go_num, rfl, he0, he1, by omega⟩, trivial⟩
                        case measure => simp [intOf]; omega
                  · go_wp2
                    all_goals first
                      | (go_meet; exact ⟨_, _, rfl, rfl, he0, he1, hk3, rfl⟩)
              case rest =>
                obtain ⟨k4, e, rfl, rfl, he0, he1, hk4, rfl⟩ := hcut
                obtain ⟨f, nd, dp, ng, tr, hD, hG, hdp, hdp2, hF⟩ := S
                have zz := hD.fz
                have c1 := hD.dp_
                have fin : ∀ y : Int, -2000000 ≤ y → y ≤ 2000000 → ∀ ok : Bool, SetOut b 2000000 w (.returned (.bool ok)) (w1.setCell ⟨b, 801, none⟩ (.int .i64 y)) := fun y h1 h2 ok => ⟨ok, rfl, f, nd, y, ng, tr, hD.setDp y, hG, h1, h2, hF.setB _ _⟩
                have FIN := Lib.hid fin
                clear fin
                rcases HSG.out with rfl | rfl
                all_goals
                  go_wp2
                  all_goals first
                    | (go_ret; exact FIN.out _ (by omega) (by omega) _)
end Go.Proofs.YtjagjjdkgidkjaaGreatDoor
