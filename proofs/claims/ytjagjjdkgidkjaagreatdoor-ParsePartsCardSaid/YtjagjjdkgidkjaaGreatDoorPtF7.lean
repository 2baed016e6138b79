/- Strconv's floating-point reading: a part (Pq) of the proof that the law ParseParts answers true. No condition. -/
import Derived.Test.YtjagjjdkgidkjaaGreatDoorPtF5
import Derived.Test.YtjagjjdkgidkjaaGreatDoorPtF6
set_option linter.all false
namespace Go.Proofs.YtjagjjdkgidkjaaGreatDoor
open Go Go.RowKit
set_option maxRecDepth 1000000
theorem or_one_le (a : Nat) : a ||| 1 ≤ a + 1 := by
  have h1 : (a ||| 1) / 2 = a / 2 := by rw [Nat.or_div_two]; simp
  have h2 : (a ||| 1) % 2 ≤ 1 := by omega
  omega
/-- 'm>>1 | m&1'. -/
theorem half_or (m : Int) (h : U64 m) : ∃ k : Int, bits .or .u64 (m / 2) (bits .and .u64 m 1) = k ∧ U64 k ∧ k ≤ m / 2 + m % 2 := by
  have h1 := h.1
  have h2 := h.2
  rw [and_one_u64 m h1 (by omega)]
  have h3 := bits_or_u64_nat (m / 2).toNat (m % 2).toNat (by omega) (by omega)
  rw [Int.toNat_of_nonneg (by omega), Int.toNat_of_nonneg (by omega)] at h3
  refine ⟨_, h3, ?_, ?_⟩
  all_goals
    have h4 : (m / 2).toNat ||| (m % 2).toNat ≤ (m / 2).toNat + (m % 2).toNat := by
      rcases (show (m % 2).toNat = 0 ∨ (m % 2).toNat = 1 by omega) with e | e
      · rw [e]; simp
      · rw [e]; exact or_one_le _
  · unfold U64; omega
  · omega
theorem run_frombits324 (n : Int) (w : World) : Sem.run Tryz.prog (callFunc 324 #[.int .u32 n]) w = .ok (.value (.float .f32 n.toNat)) w := by
  rw [run_callFunc_extern (e := Extern.MathFloatBits.float32frombits) Tryz.func324 (by kernel_rfl) (by kernel_rfl) (by kernel_rfl) (by kernel_rfl)]
  rfl
theorem u64_bits (op : BinOp) (x y : Int) : U64 (bits op .u64 x y) := u64_wrap _
set_option maxHeartbeats 8000000 in
theorem hex_any (s : ByteArray) (m x : Int) (ng tr : Bool) (w : World) (hm : U64 m) (hT : FlTab w) : Calls Tryz.prog 322 #[.string s, .pointer (some ⟨13, 0, none⟩), .int .u64 m, .int .i64 x, .bool ng, .bool tr] w (FrOut FlEr w) := by
  have rfb := run_frombits329
  have rfb2 := run_frombits324
  have m0 := hT.m0
  have m1 := hT.m1
  have m2 := hT.m2
  go_enter Tryz.func322, Tryz.ntmps322
  go_upto_region 1 with fail
  go_cut [14] (fun v wx => ∃ a : Int, v = .int .i64 a ∧ Fr none_ w wx)
  case first => as_aux_lemma =>
    go_quiet (fail)
    go_wp2
    go_meet
    exact ⟨_, rfl, (Fr.refl _ w).drewN _⟩
  case rest =>
    obtain ⟨mx, rfl, F1⟩ := hcut
    have n0 := F1.cell m0 id
    have n1 := F1.cell m1 id
    have n2 := F1.cell m2 id
    clear m0 m1 m2
    obtain ⟨w1, rfl⟩ : ∃ w1, w1 = wc := ⟨_, rfl⟩
    go_upto_block 0 with fail
    go_cut [2, 3] (fun v2 v3 wx => ∃ m x : Int, v2 = .int .u64 m ∧ v3 = .int .i64 x ∧ U64 m ∧ w1 = wx)
    case first => as_aux_lemma =>
      go_wp2
      go_loopw [2, 3] (fun v2 v3 wx => (∃ m x : Int, v2 = .int .u64 m ∧ v3 = .int .i64 x ∧ U64 m) ∧ w1 = wx) (fun v _ _ => 18014398509481984 - (intOf v).toNat)
      case atStart => exact ⟨⟨m, _, rfl, rfl, hm⟩, rfl⟩
      case round =>
        obtain ⟨⟨m, x, rfl, rfl, hm⟩, rfl⟩ := hrel
        have hm1 := hm.1
        have hm2 := hm.2
        by_cases hz : 0 < m ∧ m < 18014398509481984
        · have h1 : (m != 0) = true := by simp; omega
          have h2 : (m / 18014398509481984 == 0) = true := by simp; omega
          have h3 : IntKind.u64.wrap (m * 2) = m * 2 := by show (m * 2) % 18446744073709551616 = _; omega
          go_wp2
          all_goals first
            | exact ⟨⟨⟨_, _, rfl, rfl, ⟨by omega, by omega⟩⟩, trivial⟩, by simp [intOf]; omega⟩
            | (go_meet; exact ⟨_, _, rfl, rfl, hm, rfl⟩)
        · have h2 : (m != 0 && m / 18014398509481984 == 0) = false := by
            by_cases e : m = 0
            · simp [e]
            · have : ¬ m / 18014398509481984 = 0 := by omega
              simp [this]
          go_wp2
          all_goals first
            | (go_meet; exact ⟨_, _, rfl, rfl, hm, rfl⟩)
            | (go_meet; exact ⟨_, _, rfl, rfl, ⟨by decide, by decide⟩, rfl⟩)
            | (exfalso; simp_all; done)
    case rest =>
      clear hm
      obtain ⟨m, x, rfl, rfl, hm, rfl⟩ := hcut
      go_upto_if 58 with fail
      go_cut [2] (fun v2 wx => ∃ m : Int, v2 = .int .u64 m ∧ U64 m ∧ w1 = wx)
      case first => as_aux_lemma =>
        cases tr
        all_goals
          go_wp2
          go_meet
          first
            | exact ⟨_, rfl, hm, rfl⟩
            | exact ⟨_, rfl, u64_bits _ _ _, rfl⟩
      case rest =>
        clear hm
        obtain ⟨m, rfl, hm, rfl⟩ := hcut
        go_upto_block 2 with fail
        go_cut [2, 3] (fun v2 v3 wx => ∃ m x : Int, v2 = .int .u64 m ∧ v3 = .int .i64 x ∧ U64 m ∧ w1 = wx)
        case first => as_aux_lemma =>
          go_wp2
          go_loopw [2, 3] (fun v2 v3 wx => (∃ m x : Int, v2 = .int .u64 m ∧ v3 = .int .i64 x ∧ U64 m) ∧ w1 = wx) (fun v _ _ => (intOf v).toNat)
          case atStart => exact ⟨⟨m, _, rfl, rfl, hm⟩, rfl⟩
          case round =>
            obtain ⟨⟨m, x, rfl, rfl, hm⟩, rfl⟩ := hrel
            obtain ⟨k, hk, hk64, hkle⟩ := half_or m hm
            have hm1 := hm.1
            by_cases hz : m < 36028797018963968
            · have h1 : (m / 36028797018963968 != 0) = false := by
                have : m / 36028797018963968 = 0 := by omega
                simp [this]
              go_wp2
              go_meet
              exact ⟨_, _, rfl, rfl, hm, rfl⟩
            · have h1 : (m / 36028797018963968 != 0) = true := by
                have : ¬ m / 36028797018963968 = 0 := by omega
                simp [this]
              go_wp2
              have hk0 := hk64.1
              exact ⟨⟨⟨_, _, rfl, rfl, hk64⟩, trivial⟩, by simp [intOf]; omega⟩
        case rest =>
          clear hm
          obtain ⟨m, x, rfl, rfl, hm, rfl⟩ := hcut
          go_upto_block 4 with fail
          go_cut [2, 3] (fun v2 v3 wx => ∃ m x : Int, v2 = .int .u64 m ∧ v3 = .int .i64 x ∧ U64 m ∧ w1 = wx)
          case first => as_aux_lemma =>
            go_wp2
            go_loopw [2, 3] (fun v2 v3 wx => (∃ m x : Int, v2 = .int .u64 m ∧ v3 = .int .i64 x ∧ U64 m) ∧ w1 = wx) (fun v _ _ => (intOf v).toNat)
            case atStart => exact ⟨⟨m, _, rfl, rfl, hm⟩, rfl⟩
            case round =>
              obtain ⟨⟨m, x, rfl, rfl, hm⟩, rfl⟩ := hrel
              obtain ⟨k, hk, hk64, hkle⟩ := half_or m hm
              have hm1 := hm.1
              have hk0 := hk64.1
              go_wp2
              all_goals first
                | (go_meet; exact ⟨_, _, rfl, rfl, hm, rfl⟩)
                | exact ⟨⟨⟨_, _, rfl, rfl, hk64⟩, trivial⟩, by simp [intOf]; omega⟩
          case rest =>
            clear hm
            obtain ⟨m, x, rfl, rfl, hm, rfl⟩ := hcut
            go_upto_if 103 with fail
            go_cut [2, 3] (fun v2 v3 wx => ∃ m x : Int, v2 = .int .u64 m ∧ v3 = .int .i64 x ∧ w1 = wx)
            case first => as_aux_lemma =>
              go_wp2
              all_goals go_meet
              all_goals exact ⟨_, _, rfl, rfl, rfl⟩
            case rest =>
              clear hm
              obtain ⟨m, x, rfl, rfl, rfl⟩ := hcut
              go_upto_if 124 with fail
              go_cut [3] (fun v3 wx => ∃ x : Int, v3 = .int .i64 x ∧ w1 = wx)
              case first => as_aux_lemma =>
                go_wp2
                all_goals go_meet
                all_goals exact ⟨_, rfl, rfl⟩
              case rest =>
                obtain ⟨x, rfl, rfl⟩ := hcut
                go_upto_if 131 with fail
                go_cut [2, 3, 17] (fun v2 v3 v17 wx => ∃ (m x : Int) (er : Value), v2 = .int .u64 m ∧ v3 = .int .i64 x ∧ v17 = er ∧ Er er ∧ w1 = wx)
                case first => as_aux_lemma =>
                  go_wp2
                  all_goals go_meet
                  all_goals first
                    | exact ⟨_, _, _, rfl, rfl, rfl, .inl rfl, rfl⟩
                    | exact ⟨_, _, _, rfl, rfl, rfl, .inr (.inl rfl), rfl⟩
                case rest =>
                  obtain ⟨m, x, er, rfl, rfl, rfl, her, rfl⟩ := hcut
                  go_upto_region 32 with fail
                  go_cut [18] (fun v wx => ∃ a : Int, v = .int .u64 a ∧ Fr none_ w wx)
                  case first => as_aux_lemma =>
                    go_quiet (fail)
                    go_wp2
                    all_goals go_meet
                    all_goals exact ⟨_, rfl, F1.drewN _⟩
                  case rest =>
                    clear F1 n0 n1 n2
                    obtain ⟨a, rfl, F1⟩ := hcut
                    have HT := Lib.hid hT
                    have n0 := F1.cell hT.m0 id
                    have n1 := F1.cell hT.m1 id
                    obtain ⟨w2, rfl⟩ : ∃ w2, w2 = wc := ⟨_, rfl⟩
                    clear HT
                    go_upto_if 169 with fail
                    go_cut [18] (fun v wx => ∃ a : Int, v = .int .u64 a ∧ Fr none_ w wx)
                    case first => as_aux_lemma =>
                      cases ng
                      · go_wp2
                        go_meet
                        exact ⟨_, rfl, F1⟩
                      · go_wp2
                        go_quiet (fail)
                        go_wp2
                        all_goals go_meet
                        all_goals exact ⟨_, rfl, F1.drewN _⟩
                    case rest =>
                      clear F1 n0 n1
                      obtain ⟨a, rfl, F1⟩ := hcut
                      obtain ⟨ca, ta, fa, ha, hn⟩ := hT.b13
                      obtain ⟨cb, tb, fb, hb⟩ := hT.b12
                      have ha' := F1.get ha id
                      obtain ⟨c, w4, hq, F4⟩ := ptr_eql ha' (F1.get hb id) (by simp [World.frozen?, ha']; omega)
                      have F5 := F1.none2 F4
                      obtain ⟨r, w5, hr, F6⟩ := conv32 (a % 4294967296).toNat w4
                      have F7 := F5.none2 F6
                      clear ha hn hb ha' hT F4 F6
                      go_wp2
                      all_goals first
                        | (go_ret2; exact frOut_mk ⟨_, _, rfl, her⟩ F5)
                        | (go_ret2; exact frOut_mk ⟨_, _, rfl, her⟩ F7)
end Go.Proofs.YtjagjjdkgidkjaaGreatDoor
