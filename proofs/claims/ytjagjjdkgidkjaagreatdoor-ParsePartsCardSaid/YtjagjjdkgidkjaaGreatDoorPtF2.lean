/- Strconv's floating-point reading: a part (Us Rfx) of the proof that the law ParseParts answers true. No condition. -/
import Derived.Test.YtjagjjdkgidkjaaGreatDoorPtF1
set_option linter.all false
namespace Go.Proofs.YtjagjjdkgidkjaaGreatDoor
open Go Go.RowKit
set_option maxRecDepth 1000000
set_option maxHeartbeats 8000000 in
theorem under_any (s : ByteArray) (w : World) (hs : s.size ≤ 10000000) : Calls Tryz.prog 231 #[.string s] w (ValOut Bl w) := by
  go_enter Tryz.func231, Tryz.ntmps231
  go_upto_region 3 with fail
  go_cut [18] (fun v wx => ∃ b : Bool, v = .bool b ∧ (b = true → 0 < s.size) ∧ w = wx)
  case first =>
    by_cases h0 : 0 < s.size
    · have h1 : ¬ (s.size : Int) < 1 := by omega
      go_wp2
      all_goals go_meet
      all_goals exact ⟨_, rfl, fun _ => h0, rfl⟩
    · go_wp2
      all_goals go_meet
      all_goals first
        | exact ⟨_, rfl, (fun h => by cases h), rfl⟩
        | (exfalso; omega)
  case rest =>
    obtain ⟨b, rfl, hb, rfl⟩ := hcut
    have HB := Lib.hid hb; clear hb
    go_upto_if 18 with fail
    go_cut [0] (fun v0 wx => ∃ t : ByteArray, v0 = .string t ∧ t.size ≤ 10000000 ∧ w = wx)
    case first =>
      cases b
      · go_wp2
        go_meet
        exact ⟨s, rfl, hs, rfl⟩
      · have h0 := HB.out rfl
        go_wp2
        go_meet
        exact ⟨_, rfl, by rw [ByteArray.size_extract]; omega, rfl⟩
    case rest =>
      obtain ⟨t, rfl, ht, rfl⟩ := hcut
      clear hs HB b s
      go_upto_region 6 with fail
      go_cut [46] (fun v wx => ∃ b : Bool, v = .bool b ∧ (b = true → 2 ≤ t.size) ∧ w = wx)
      case first =>
        by_cases h2 : 2 ≤ t.size
        · have h1 : ¬ (t.size : Int) < 2 := by omega
          go_wp2_with (first | (go_at_call 230; ((with_reducible refine (lower_any _ _ (UInt8.toNat_lt _)).mono ?_); rintro lowE lowW ⟨lowV, lowHe, ⟨lowN, lowHn, lowHv⟩, lowHw⟩; subst lowHe; subst lowHv; subst lowHw)))
          all_goals go_meet
          all_goals exact ⟨_, rfl, fun _ => h2, rfl⟩
        · go_wp2_with (first | (go_at_call 230; ((with_reducible refine (lower_any _ _ (UInt8.toNat_lt _)).mono ?_); rintro lowE lowW ⟨lowV, lowHe, ⟨lowN, lowHn, lowHv⟩, lowHw⟩; subst lowHe; subst lowHv; subst lowHw)))
          all_goals go_meet
          all_goals first
            | exact ⟨_, rfl, (fun h => by cases h), rfl⟩
            | (exfalso; omega)
      case rest =>
        obtain ⟨b, rfl, hb, rfl⟩ := hcut
        have HB := Lib.hid hb; clear hb
        go_upto_if 46 with fail
        go_cut [3, 4, 5] (fun v3 v4 v5 wx => ∃ (c : Int) (j : Nat) (x : Bool), v3 = .int .i32 c ∧ v4 = .int .i64 j ∧ v5 = .bool x ∧ j ≤ t.size ∧ w = wx)
        case first =>
          cases b
          · go_wp2
            go_meet
            exact ⟨94, 0, false, rfl, rfl, rfl, by omega, rfl⟩
          · have h0 := HB.out rfl
            go_wp2_with (first | (go_at_call 230; ((with_reducible refine (lower_any _ _ (UInt8.toNat_lt _)).mono ?_); rintro lowE lowW ⟨lowV, lowHe, ⟨lowN, lowHn, lowHv⟩, lowHw⟩; subst lowHe; subst lowHv; subst lowHw)))
            all_goals go_meet
            exact ⟨48, 2, _, rfl, rfl, rfl, h0, rfl⟩
        case rest =>
          obtain ⟨c, j, x, rfl, rfl, rfl, hj, rfl⟩ := hcut
          clear HB b
          go_wp2
          go_loop [3, 4] (fun v3 v4 => ∃ (c : Int) (k : Nat), k ≤ t.size ∧ v3 = .int .i32 c ∧ v4 = .int .i64 k) (fun _ i => t.size - (intOf i).toNat)
          case atStart => exact ⟨c, j, hj, rfl, rfl⟩
          case round =>
            obtain ⟨c, k, hk, rfl, rfl⟩ := hrel
            by_cases hlt : k < t.size
            · have hb0 : (t[k]'hlt).toNat < 256 := UInt8.toNat_lt _
              cases x
              all_goals go_wp2_with (first | (go_at_call 230; ((with_reducible refine (lower_any _ _ (UInt8.toNat_lt _)).mono ?_); rintro lowE lowW ⟨lowV, lowHe, ⟨lowN, lowHn, lowHv⟩, lowHw⟩; subst lowHe; subst lowHv; subst lowHw)))
              all_goals first
                | (go_ret; exact valOut_mk ⟨_, rfl⟩)
                | exact ⟨⟨_, k + 1, by omega, rfl, by go_num⟩, by simp [intOf]; omega⟩
            · go_wp2
              all_goals first
                | (go_ret; exact valOut_mk ⟨_, rfl⟩)
end Go.Proofs.YtjagjjdkgidkjaaGreatDoor
namespace Go.Proofs.YtjagjjdkgidkjaaGreatDoor
open Go Go.RowKit
def U64 (x : Int) : Prop := 0 ≤ x ∧ x < 18446744073709551616
theorem u64_wrap (x : Int) : U64 (IntKind.u64.wrap x) := by
  show U64 (x % 18446744073709551616)
  unfold U64; omega
end Go.Proofs.YtjagjjdkgidkjaaGreatDoor
