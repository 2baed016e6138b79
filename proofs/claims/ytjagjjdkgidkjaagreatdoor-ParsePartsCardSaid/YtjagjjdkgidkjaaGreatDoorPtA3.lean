/- The parser's reading: a part (Lx4) of the proof that the law ParseParts answers true. No condition. -/
import Derived.Test.YtjagjjdkgidkjaaGreatDoorPtA1
import Derived.Deep.DeepCutAuto
import Derived.Tactics2
set_option linter.all false
namespace Go.Proofs.YtjagjjdkgidkjaaGreatDoor
open Go Go.RowKit
set_option maxRecDepth 1000000
/-- Some int64, and the world as it was. -/
def SomeInt (w : World) (e : Ending) (w' : World) : Prop := ∃ n : Int, e = .returned (.int .i64 n) ∧ w = w'
set_option maxHeartbeats 4000000 in
theorem times_any (s : ByteArray) (ms : Int) (w : World) (hs : s.size ≤ maxLen) (hm : 1 ≤ ms) (hm2 : ms ≤ 31536000000) :
    Calls Tryz.prog 106 #[.string s, .int .i64 ms] w (SomeInt w) := by
  unfold maxLen at hs
  go_enter Tryz.func106, Tryz.ntmps106
  go_wp2
  go_loop [5, 9] (fun n i => ∃ (k : Nat) (x : Int), k ≤ s.size ∧ i = .int .i64 k ∧ n = .int .i64 x ∧ 0 ≤ x ∧ x ≤ 1099511627777) (fun _ i => s.size - (intOf i).toNat)
  case atStart => exact ⟨0, 0, by omega, rfl, rfl, by omega, by omega⟩
  case round =>
    obtain ⟨k, x, hk, rfl, rfl, hx0, hx1⟩ := hrel
    by_cases hlt : k < s.size
    · have hb : s[k].toNat < 256 := s[k].toNat_lt
      go_wp2
      refine ⟨⟨k + 1, _, by omega, by go_num, rfl, ?_, ?_⟩, by simp [intOf]; omega⟩
      · split <;> omega
      · split <;> omega
    · go_wp2
      all_goals
        go_ret
        exact ⟨_, rfl, rfl⟩
end Go.Proofs.YtjagjjdkgidkjaaGreatDoor
