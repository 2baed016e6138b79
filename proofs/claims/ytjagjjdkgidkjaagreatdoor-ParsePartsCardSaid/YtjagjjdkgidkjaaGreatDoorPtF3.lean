/- Strconv's floating-point reading: a part (Rf) of the proof that the law ParseParts answers true. No condition. -/
import Derived.Test.YtjagjjdkgidkjaaGreatDoorPtF2
import Derived.Deep.CutBlock
import Derived.WalkMore
set_option linter.all false
namespace Go.Proofs.YtjagjjdkgidkjaaGreatDoor
open Go Go.RowKit
set_option maxRecDepth 1000000
def RfOut (s : ByteArray) (v : Value) : Prop :=
  ∃ (m x : Int) (neg tr hex : Bool) (i : Nat) (ok : Bool), v = .tuple #[.int .u64 m, .int .i64 x, .bool neg, .bool tr, .bool hex, .int .i64 i, .bool ok] ∧ U64 m ∧ i ≤ s.size
theorem rfOut_mk {s : ByteArray} {w : World} (m x : Int) (neg tr hex : Bool) (i : Nat) (ok : Bool) (hm : U64 m) (hi : i ≤ s.size) :
    ValOut (RfOut s) w (.returned (.tuple #[.int .u64 m, .int .i64 x, .bool neg, .bool tr, .bool hex, .int .i64 i, .bool ok])) w := valOut_mk ⟨m, x, neg, tr, hex, i, ok, rfl, hm, hi⟩
theorem rfOut_mk2 {s : ByteArray} {w : World} (m x : Int) (neg tr hex : Bool) (i : Int) (ok : Bool) (hm : U64 m) (h0 : 0 ≤ i) (hi : i ≤ s.size) :
    ValOut (RfOut s) w (.returned (.tuple #[.int .u64 m, .int .i64 x, .bool neg, .bool tr, .bool hex, .int .i64 i, .bool ok])) w := valOut_mk ⟨m, x, neg, tr, hex, i.toNat, ok, by rw [Int.toNat_of_nonneg h0], hm, by omega⟩
theorem results_tmp7 {fn : Func} {a b c d e f g : Tmp} (h : fn.results = #[.tmp a, .tmp b, .tmp c, .tmp d, .tmp e, .tmp f, .tmp g]) (tmps : Array Value) (P : Program) (w : World) :
    (results fn tmps).run P w = .ok (.tuple #[tmps.getD a undef, tmps.getD b undef, tmps.getD c undef, tmps.getD d undef, tmps.getD e undef, tmps.getD f undef, tmps.getD g undef]) w := by
  simp [results, h]
def RfRel (s : ByteArray) (v2 v5 v7 v9 v13 v14 v15 v16 v17 : Value) : Prop :=
  ∃ (m nd nm dp : Int) (x5 x9 x13 x14 : Bool) (k : Nat), v2 = .int .u64 m ∧ v5 = .bool x5 ∧ v7 = .int .i64 k ∧ v9 = .bool x9 ∧ v13 = .bool x13 ∧ v14 = .bool x14 ∧ v15 = .int .i64 nd ∧ v16 = .int .i64 nm ∧ v17 = .int .i64 dp ∧ U64 m ∧ k ≤ s.size
theorem rfRel_mk {s : ByteArray} (m nd nm dp : Int) (x5 x9 x13 x14 : Bool) (k : Nat) (hm : U64 m) (hk : k ≤ s.size) : RfRel s (.int .u64 m) (.bool x5) (.int .i64 k) (.bool x9) (.bool x13) (.bool x14) (.int .i64 nd) (.int .i64 nm) (.int .i64 dp) :=
  ⟨m, nd, nm, dp, x5, x9, x13, x14, k, rfl, rfl, rfl, rfl, rfl, rfl, rfl, rfl, rfl, hm, hk⟩
theorem rfRel_mk' {s : ByteArray} {w : World} (m nd nm dp : Int) (x5 x9 x13 x14 : Bool) (k : Nat) (hm : U64 m) (hk : k ≤ s.size) : RfRel s (.int .u64 m) (.bool x5) (.int .i64 k) (.bool x9) (.bool x13) (.bool x14) (.int .i64 nd) (.int .i64 nm) (.int .i64 dp) ∧ w = w :=
  ⟨rfRel_mk m nd nm dp x5 x9 x13 x14 k hm hk, rfl⟩
set_option maxHeartbeats 8000000 in
theorem readFloat_any (s : ByteArray) (w : World) (hs : s.size ≤ 10000000) : Calls Tryz.prog 321 #[.string s] w (ValOut (RfOut s) w) := by
  go_enter Tryz.func321, Tryz.ntmps321
  go_wp2
  go_step3
  by_cases h0 : 0 < s.size
  case neg =>
    have hz : (s.size : Int) = 0 := by omega
    go_wp2
    all_goals first
      | ((try simp only [Exit.inBlock, Exit.then, Exit.noGoto_ret]); refine bodyPost_ret (results_tmp7 rfl _ _ _) rfl ?_; exact rfOut_mk 0 0 false false false 0 false ⟨by decide, by decide⟩ (by omega))
  have hb0 : (s[0]'h0).toNat < 256 := UInt8.toNat_lt _
  have hemp : ¬ s = ByteArray.empty := fun e => by subst e; exact absurd h0 (by decide)
  go_upto_block 0 with fail
  go_cut [4, 7] (fun v4 v7 wx => ∃ (b : Bool) (i : Nat), v4 = .bool b ∧ v7 = .int .i64 i ∧ i ≤ s.size ∧ w = wx)
  case first => as_aux_lemma =>
    go_wp2
    all_goals go_meet
    all_goals first
      | exact ⟨_, 0, rfl, rfl, by omega, rfl⟩
      | exact ⟨_, 1, rfl, rfl, by omega, rfl⟩
  case rest =>
    obtain ⟨b4, i, rfl, rfl, hi, rfl⟩ := hcut
    clear hemp hb0
    go_upto_region 12 with fail
    go_cut [54] (fun v wx => ∃ b : Bool, v = .bool b ∧ (b = true → i + 2 < s.size) ∧ w = wx)
    case first => as_aux_lemma =>
      by_cases h2 : i + 2 < s.size
      · have h1 : i + 1 < s.size := by omega
        have h0 : i < s.size := by omega
        go_wp2_with (first | (go_at_call 230; ((with_reducible refine (lower_any _ _ (UInt8.toNat_lt _)).mono ?_); rintro lowE lowW ⟨lowV, lowHe, ⟨lowN, lowHn, lowHv⟩, lowHw⟩; subst lowHe; subst lowHv; subst lowHw)))
        all_goals go_meet
        all_goals exact ⟨_, rfl, (fun _ => h2), rfl⟩
      · go_wp2_with (first | (go_at_call 230; ((with_reducible refine (lower_any _ _ (UInt8.toNat_lt _)).mono ?_); rintro lowE lowW ⟨lowV, lowHe, ⟨lowN, lowHn, lowHv⟩, lowHw⟩; subst lowHe; subst lowHv; subst lowHw)))
        all_goals go_meet
        all_goals first
          | exact ⟨_, rfl, (fun h => by cases h), rfl⟩
          | (exfalso; omega)
    case rest =>
      obtain ⟨b, rfl, hb, rfl⟩ := hcut
      have HB := Lib.hid hb; clear hb
      go_upto_if 54 with fail
      go_cut [6, 7, 10, 11, 12] (fun v6 v7 v10 v11 v12 wx => ∃ (x : Bool) (j : Nat) (base mx : Int) (ec : Nat), v6 = .bool x ∧ v7 = .int .i64 j ∧ v10 = .int .u64 base ∧ v11 = .int .i64 mx ∧ v12 = .int .u8 ec ∧ ec < 256 ∧ j ≤ s.size ∧ w = wx)
      case first => as_aux_lemma =>
        cases b
        · go_wp2
          go_meet
          exact ⟨false, i, 10, 19, 101, rfl, rfl, rfl, rfl, rfl, by decide, hi, rfl⟩
        · have h2 := HB.out rfl
          go_wp2
          go_meet
          exact ⟨true, i + 2, 16, 16, 112, rfl, by go_num, rfl, rfl, rfl, by decide, by omega, rfl⟩
      case rest =>
        obtain ⟨x6, j, base, mx, ec, rfl, rfl, rfl, rfl, rfl, hec, hj, rfl⟩ := hcut
        clear HB hi i b
        go_wp2
        go_step3
        go_upto_block 1 with fail
        go_cut [2, 5, 7, 9, 13, 14, 15, 16, 17] (fun v2 v5 v7 v9 v13 v14 v15 v16 v17 wx => RfRel s v2 v5 v7 v9 v13 v14 v15 v16 v17 ∧ w = wx)
        case first => as_aux_lemma =>
          go_wp2
          go_loopw [2, 5, 7, 9, 13, 14, 15, 16, 17] (fun v2 v5 v7 v9 v13 v14 v15 v16 v17 wx => RfRel s v2 v5 v7 v9 v13 v14 v15 v16 v17 ∧ w = wx) (fun _ _ i _ _ _ _ _ _ _ => s.size - (intOf i).toNat)
          case atStart => exact rfRel_mk' 0 0 0 0 false false false false j ⟨by decide, by decide⟩ hj
          case round =>
            obtain ⟨⟨m, nd, nm, dp, x5, x9, x13, x14, k, rfl, rfl, rfl, rfl, rfl, rfl, rfl, rfl, rfl, hm, hk⟩, rfl⟩ := hrel
            by_cases hlt : k < s.size
            · have hb1 : (s[k]'hlt).toNat < 256 := UInt8.toNat_lt _
              go_upto_block 2 with fail
              go_cut [2, 5, 9, 13, 14, 15, 16, 17, 18] (fun v2 v5 v9 v13 v14 v15 v16 v17 _ wx => RfRel s v2 v5 (.int .i64 k) v9 v13 v14 v15 v16 v17 ∧ w = wx)
              case first => as_aux_lemma =>
                cases hbb : (base == 16)
                all_goals go_wp2_with (first | (go_at_call 230; ((with_reducible refine (lower_any _ _ (UInt8.toNat_lt _)).mono ?_); rintro lowE lowW ⟨lowV, lowHe, ⟨lowN, lowHn, lowHv⟩, lowHw⟩; subst lowHe; subst lowHv; subst lowHw)))
                all_goals first
                  | (go_meet; refine rfRel_mk' _ _ _ _ _ _ _ _ k ?_ hk; first | exact hm | exact u64_wrap _)
              case rest =>
                obtain ⟨⟨m, nd, nm, dp, x5, x9, x13, x14, k', rfl, rfl, hk', rfl, rfl, rfl, rfl, rfl, rfl, hm, hk2⟩, rfl⟩ := hcut
                clear hk' hk2 k'
                go_wp2
                go_roundw
                case rel => exact ⟨⟨_, _, _, _, _, _, _, _, k + 1, rfl, rfl, by go_num, rfl, rfl, rfl, rfl, rfl, rfl, hm, by omega⟩, trivial⟩
                case measure => simp [intOf]; omega
            · go_wp2
              all_goals first
                | (go_meet; exact rfRel_mk' _ _ _ _ _ _ _ _ k hm hk)
        case rest =>
          obtain ⟨⟨m, nd, nm, dp, x5, x9, x13, x14, k, rfl, rfl, rfl, rfl, rfl, rfl, rfl, rfl, rfl, hm, hk⟩, rfl⟩ := hcut
          clear hj j
          cases x14
          case false =>
            go_wp2
            all_goals first
              | ((try simp only [Exit.inBlock, Exit.then, Exit.noGoto_ret]); refine bodyPost_ret (results_tmp7 rfl _ _ _) rfl ?_; exact rfOut_mk _ _ _ _ _ _ _ hm hk)
          go_upto_if 142 with fail
          go_cut [17] (fun v17 wx => ∃ dp : Int, v17 = .int .i64 dp ∧ w = wx)
          case first => as_aux_lemma =>
            cases x13
            all_goals
              go_wp2
              go_meet
              exact ⟨_, rfl, rfl⟩
          case rest =>
            obtain ⟨dp, rfl, rfl⟩ := hcut
            go_upto_if 145 with fail
            go_cut [16, 17] (fun v16 v17 wx => ∃ nm dp : Int, v16 = .int .i64 nm ∧ v17 = .int .i64 dp ∧ w = wx)
            case first => as_aux_lemma =>
              cases hbb : (base == 16)
              all_goals
                go_wp2
                go_meet
                exact ⟨_, _, rfl, rfl, rfl⟩
            case rest =>
              clear nm dp
              obtain ⟨nm, dp, rfl, rfl, rfl⟩ := hcut
              go_upto_region 57 with fail
              go_cut [161] (fun v wx => ∃ b : Bool, v = .bool b ∧ (b = true → k < s.size) ∧ w = wx)
              case first => as_aux_lemma =>
                by_cases h2 : k < s.size
                · go_wp2_with (first | (go_at_call 230; ((with_reducible refine (lower_any _ _ (UInt8.toNat_lt _)).mono ?_); rintro lowE lowW ⟨lowV, lowHe, ⟨lowN, lowHn, lowHv⟩, lowHw⟩; subst lowHe; subst lowHv; subst lowHw)))
                  all_goals go_meet
                  all_goals exact ⟨_, rfl, (fun _ => h2), rfl⟩
                · go_wp2
                  all_goals go_meet
                  all_goals first
                    | exact ⟨_, rfl, (fun h => by cases h), rfl⟩
              case rest =>
                obtain ⟨b, rfl, hb, rfl⟩ := hcut
                have HB := Lib.hid hb; clear hb
                go_upto_if 161 with fail
                go_cut [7, 9, 17, 19, 20] (fun v7 v9 v17 _ _ wx => ∃ (k : Nat) (x9 : Bool) (dp : Int), v7 = .int .i64 k ∧ v9 = .bool x9 ∧ v17 = .int .i64 dp ∧ k ≤ s.size ∧ w = wx)
                case first => as_aux_lemma =>
                  cases b
                  case false =>
                    cases hbb : (base == 16)
                    all_goals go_wp2
                    all_goals first
                      | (go_meet; exact ⟨_, _, _, rfl, rfl, rfl, hk, rfl⟩)
                      | ((try simp only [Exit.inBlock, Exit.then, Exit.noGoto_ret]); refine bodyPost_ret (results_tmp7 rfl _ _ _) rfl ?_; exact rfOut_mk _ _ _ _ _ _ _ hm hk)
                  case true =>
                    have hk1 := HB.out rfl
                    by_cases hk2 : k + 1 < s.size
                    case neg =>
                      go_wp2
                      all_goals first
                        | ((try simp only [Exit.inBlock, Exit.then, Exit.noGoto_ret]); refine bodyPost_ret (results_tmp7 rfl _ _ _) rfl ?_; exact rfOut_mk2 _ _ _ _ _ _ _ hm (by omega) (by omega))
                    have hb1 : (s[k + 1]'hk2).toNat < 256 := UInt8.toNat_lt _
                    go_upto_block 4 with fail
                    go_cut [7, 19] (fun v7 v19 wx => ∃ (k : Nat) (sg : Int), v7 = .int .i64 k ∧ v19 = .int .i64 sg ∧ k ≤ s.size ∧ w = wx)
                    case first => as_aux_lemma =>
                      go_wp2
                      all_goals go_meet
                      all_goals first
                        | exact ⟨k + 1, _, by go_num, rfl, by omega, rfl⟩
                        | exact ⟨k + 1 + 1, _, by go_num, rfl, by omega, rfl⟩
                    case rest =>
                      obtain ⟨k2, sg, rfl, rfl, hk2', rfl⟩ := hcut
                      go_upto_region 67 with fail
                      go_cut [194] (fun v wx => ∃ b : Bool, v = .bool b ∧ w = wx)
                      case first => as_aux_lemma =>
                        by_cases h2 : k2 < s.size
                        · go_wp2
                          all_goals go_meet
                          all_goals exact ⟨_, rfl, rfl⟩
                        · go_wp2
                          all_goals go_meet
                          all_goals first
                            | exact ⟨_, rfl, rfl⟩
                      case rest =>
                        obtain ⟨b, rfl, rfl⟩ := hcut
                        cases b
                        case true =>
                          go_wp2
                          all_goals first
                            | ((try simp only [Exit.inBlock, Exit.then, Exit.noGoto_ret]); refine bodyPost_ret (results_tmp7 rfl _ _ _) rfl ?_; exact rfOut_mk _ _ _ _ _ _ _ hm hk2')
                        go_wp2
                        go_loopw [7, 9, 20] (fun v7 v9 v20 wx => (∃ (k : Nat) (x9 : Bool) (e : Int), v7 = .int .i64 k ∧ v9 = .bool x9 ∧ v20 = .int .i64 e ∧ k ≤ s.size) ∧ w = wx) (fun i _ _ _ => s.size - (intOf i).toNat)
                        case atStart => exact ⟨⟨k2, x9, 0, rfl, rfl, rfl, hk2'⟩, rfl⟩
                        case round =>
                          obtain ⟨⟨k3, x9, e, rfl, rfl, rfl, hk3⟩, rfl⟩ := hrel
                          by_cases hlt : k3 < s.size
                          · have hb1 : (s[k3]'hlt).toNat < 256 := UInt8.toNat_lt _
                            go_upto_region 69 with fail
                            go_cut [216] (fun v wx => ∃ b : Bool, v = .bool b ∧ w = wx)
                            case first => as_aux_lemma =>
                              go_wp2
                              all_goals go_meet
                              all_goals exact ⟨_, rfl, rfl⟩
                            case rest =>
                              obtain ⟨b, rfl, rfl⟩ := hcut
                              cases b
                              case false =>
                                go_wp2
                                all_goals first
                                  | (go_meet; exact ⟨_, _, _, rfl, rfl, rfl, hk3, rfl⟩)
                              go_upto_block 6 with fail
                              go_cut [9, 20] (fun v9 v20 wx => ∃ (x9 : Bool) (e : Int), v9 = .bool x9 ∧ v20 = .int .i64 e ∧ w = wx)
                              case first => as_aux_lemma =>
                                go_wp2
                                all_goals first
                                  | (go_meet; exact ⟨_, _, rfl, rfl, rfl⟩)
                              case rest =>
                                obtain ⟨x9, e, rfl, rfl, rfl⟩ := hcut
                                go_wp2
                                go_roundw
                                case rel => exact ⟨⟨k3 + 1, _, _, by go_num, rfl, rfl, by omega⟩, trivial⟩
                                case measure => simp [intOf]; omega
                          · go_wp2
                            all_goals first
                              | (go_meet; exact ⟨_, _, _, rfl, rfl, rfl, hk3, rfl⟩)
                case rest =>
                  clear HB b hk k x9 dp
                  obtain ⟨k, x9, dp, rfl, rfl, rfl, hk, rfl⟩ := hcut
                  go_upto_if 241 with fail
                  go_cut [3] (fun v wx => ∃ x : Int, v = .int .i64 x ∧ w = wx)
                  case first => as_aux_lemma =>
                    go_wp2
                    all_goals go_meet
                    all_goals exact ⟨_, rfl, rfl⟩
                  case rest =>
                    obtain ⟨x, rfl, rfl⟩ := hcut
                    cases x9
                    all_goals go_wp2_with (first
                      | (go_at_call 231; ((with_reducible refine (under_any _ _ (by rw [ByteArray.size_extract]; omega)).mono ?_); rintro e w1 ⟨v, rfl, ⟨b, rfl⟩, rfl⟩; cases b)))
                    all_goals first
                      | ((try simp only [Exit.inBlock, Exit.then, Exit.noGoto_ret]); refine bodyPost_ret (results_tmp7 rfl _ _ _) rfl ?_; exact rfOut_mk _ _ _ _ _ _ _ hm hk)
end Go.Proofs.YtjagjjdkgidkjaaGreatDoor
