/- Strconv's decimal: a part (Dv) of the proof that the law ParseParts answers true. No condition. -/
import Derived.Test.YtjagjjdkgidkjaaGreatDoorPtD1
import Derived.Deep.CutBlock
set_option linter.all false
namespace Go.Proofs.YtjagjjdkgidkjaaGreatDoor
open Go Go.RowKit
set_option maxRecDepth 1000000
set_option maxHeartbeats 4000000 in
theorem round264 (b : Nat) (f : Nat → Nat) (nd : Nat) (dp : Int) (ng tr : Bool) (n : Int) (w : World) (h8 : nd ≤ 800) (hD : DB b f nd dp ng tr w) : Calls Tryz.prog 264 #[.pointer (some ⟨b, 0, none⟩), .int .i64 n] w (ValOut Bl w) := by
  have c0 := hD.nd_
  have c3 := hD.tr_
  by_cases h0 : n < 0
  · go_enter Tryz.func264, Tryz.ntmps264
    go_wp2
    all_goals first
      | (go_ret; exact valOut_mk ⟨_, rfl⟩)
  obtain ⟨k, rfl⟩ : ∃ k : Nat, n = k := ⟨n.toNat, by omega⟩
  by_cases hk : k < nd
  · have c4 := hD.at_ k (by omega)
    have c5 := hD.at_ (k - 1) (by omega)
    by_cases hk0 : 0 < k
    · have e1 : ((k - 1 : Nat) : Int) = (k : Int) - 1 := by omega
      have hz : (k : Int) - 1 = ((k - 1 : Nat) : Int) := by omega
      generalize hj : k - 1 = j at c5 hz
      obtain rfl : k = j + 1 := by omega
      clear hj hz e1
      go_enter Tryz.func264, Tryz.ntmps264
      go_wp2
      all_goals first
        | (go_ret; exact valOut_mk ⟨_, rfl⟩)
    · obtain rfl : k = 0 := by omega
      clear c5
      go_enter Tryz.func264, Tryz.ntmps264
      go_wp2
      all_goals first
        | (go_ret; exact valOut_mk ⟨_, rfl⟩)
  · go_enter Tryz.func264, Tryz.ntmps264
    go_wp2
    all_goals first
      | (go_ret; exact valOut_mk ⟨_, rfl⟩)
set_option maxHeartbeats 4000000 in
theorem rounded347 (b : Nat) (f : Nat → Nat) (nd : Nat) (dp : Int) (ng tr : Bool) (w : World) (h8 : nd ≤ 800) (hD : DB b f nd dp ng tr w) : Calls Tryz.prog 347 #[.pointer (some ⟨b, 0, none⟩)] w (ValOut I64u w) := by
  have c0 := hD.nd_
  have c1 := hD.dp_
  by_cases hd : 20 < dp
  · go_enter Tryz.func347, Tryz.ntmps347
    go_wp2
    all_goals first
      | (go_ret; exact valOut_mk ⟨_, rfl⟩)
  go_enter Tryz.func347, Tryz.ntmps347
  go_upto_block 0 with fail
  go_cut [3, 4] (fun v3 v4 wx => ∃ (k : Nat) (m : Int), v3 = .int .i64 k ∧ v4 = .int .u64 m ∧ k ≤ 800 ∧ w = wx)
  case first => as_aux_lemma =>
    go_wp2
    go_loopw [3, 4] (fun v3 v4 wx => (∃ (k : Nat) (m : Int), v3 = .int .i64 k ∧ v4 = .int .u64 m ∧ k ≤ nd) ∧ w = wx) (fun v _ _ => 800 - (intOf v).toNat)
    case atStart => exact ⟨⟨0, 0, rfl, rfl, by omega⟩, rfl⟩
    case round =>
      obtain ⟨⟨k, m, rfl, rfl, hk⟩, rfl⟩ := hrel
      by_cases hlt : k < nd
      · have c4 := hD.at_ k (by omega)
        go_wp2
        all_goals first
          | exact ⟨⟨⟨k + 1, _, by go_num, rfl, by omega⟩, trivial⟩, by simp [intOf]; omega⟩
          | (go_meet; exact ⟨k, m, rfl, rfl, by omega, rfl⟩)
      · go_wp2
        all_goals first
          | (go_meet; exact ⟨k, m, rfl, rfl, by omega, rfl⟩)
  case rest =>
    obtain ⟨k, m, rfl, rfl, hk, rfl⟩ := hcut
    go_wp2
    go_loopw [3, 4] (fun v3 v4 wx => (∃ (k : Nat) (m : Int), v3 = .int .i64 k ∧ v4 = .int .u64 m ∧ k ≤ 820) ∧ w = wx) (fun v _ _ => 820 - (intOf v).toNat)
    case atStart => exact ⟨⟨k, m, rfl, rfl, by omega⟩, rfl⟩
    case round =>
      obtain ⟨⟨k, m, rfl, rfl, hk⟩, rfl⟩ := hrel
      by_cases hlt : (k : Int) < dp
      · go_wp2
        all_goals first
          | exact ⟨⟨⟨k + 1, _, by go_num, rfl, by omega⟩, trivial⟩, by simp [intOf]; omega⟩
      · go_wp2_with (first
          | (go_at_call 264; ((with_reducible refine (round264 _ _ _ _ _ _ _ _ h8 hD).mono ?_); rintro e w1 ⟨v, rfl, ⟨c, rfl⟩, rfl⟩; cases c)))
        all_goals first
          | (go_ret; exact valOut_mk ⟨_, rfl⟩)
end Go.Proofs.YtjagjjdkgidkjaaGreatDoor
