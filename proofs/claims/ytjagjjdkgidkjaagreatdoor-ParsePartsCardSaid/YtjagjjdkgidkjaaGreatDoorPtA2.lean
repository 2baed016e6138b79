/- The parser's reading: a part (Lx3) of the proof that the law ParseParts answers true. No condition. -/
import Derived.Test.YtjagjjdkgidkjaaGreatDoorPtA1
import Derived.Deep.DeepCutAuto
import Derived.Tactics2
import Derived.Test.YtjagjjdkgidkjaaGreatDoorShelf
set_option linter.all false
namespace Go.Proofs.YtjagjjdkgidkjaaGreatDoor
open Go Go.RowKit
set_option maxRecDepth 1000000
theorem prefix_any (s p : ByteArray) (w : World) : Calls Tryz.prog 66 #[.string s, .string p] w fun e w' => e = .returned (.bool (Lib.hasPrefix s.data.toList p.data.toList)) ∧ w = w' :=
  (Tryz.strings_HasPrefix s p w).mono fun _ _ ⟨h, k⟩ => ⟨h, k.symm⟩
/-- A count within a bound, and the world as it was. -/
def CountTo (m : Nat) (w : World) (e : Ending) (w' : World) : Prop := ∃ n : Nat, e = .returned (.int .i64 n) ∧ n ≤ m ∧ w = w'
theorem countTo_mk {m : Nat} {w : World} {x : Int} (h0 : 0 ≤ x) (h : x ≤ m) : CountTo m w (.returned (.int .i64 x)) w :=
  ⟨x.toNat, by rw [Int.toNat_of_nonneg h0], by omega, rfl⟩
set_option maxHeartbeats 4000000 in
theorem number_dec (s : ByteArray) (w : World) (hs : s.size ≤ maxLen) (h1 : Lib.hasPrefix s.data.toList [48, 120] = false) (h2 : Lib.hasPrefix s.data.toList [48, 88] = false) :
    Calls Tryz.prog 62 #[.string s] w (CountTo s.size w) := by
  have hs' := hs
  unfold maxLen at hs'
  have HS := Lib.hid hs; clear hs
  go_enter Tryz.func62, Tryz.ntmps62
  go_wp2_with (first
    | (go_at_call 66; ((with_reducible refine (prefix_any _ _ _).mono ?_); rintro e w' ⟨rfl, rfl⟩))
    | (go_at_call 59; ((with_reducible refine (runN_61 _ _ _ HS.out (by omega) (by omega)).mono ?_); rintro e w' ⟨n, hn, hle, rfl, rfl⟩)))
  all_goals
    go_ret
    exact countTo_mk (by omega) (by omega)
theorem prefix_size {s : ByteArray} {a b : UInt8} (h : Lib.hasPrefix s.data.toList [a, b] = true) : 2 ≤ s.size := by
  unfold Lib.hasPrefix at h
  have := List.isPrefixOf_iff_prefix.1 h
  have := this.length_le
  simpa using this
set_option maxHeartbeats 4000000 in
theorem number_any (s : ByteArray) (w : World) (hs : s.size ≤ maxLen) : Calls Tryz.prog 62 #[.string s] w (CountTo s.size w) := by
  by_cases h1 : Lib.hasPrefix s.data.toList [48, 120] = true ∨ Lib.hasPrefix s.data.toList [48, 88] = true
  case neg =>
    simp only [not_or, Bool.not_eq_true] at h1
    exact number_dec s w hs h1.1 h1.2
  have h2 : 2 ≤ s.size := by
    rcases h1 with h | h
    · exact prefix_size h
    · exact prefix_size h
  clear h1
  have hs' := hs
  unfold maxLen at hs'
  have HS := Lib.hid hs; clear hs
  go_enter Tryz.func62, Tryz.ntmps62
  go_upto_if 14 with (first
    | (go_at_call 66; ((with_reducible refine (prefix_any _ _ _).mono ?_); rintro e w' ⟨rfl, rfl⟩)))
  all_goals go_cut [] (fun wx => w = wx)
  case first | first =>
    go_wp2_with (first
      | (go_at_call 66; ((with_reducible refine (prefix_any _ _ _).mono ?_); rintro e w' ⟨rfl, rfl⟩))
      | (go_at_call 59; ((with_reducible refine (runN_103 _ _ _ HS.out (by omega) (by omega)).mono ?_); rintro e w' ⟨n, hn, hle, rfl, rfl⟩)))
    all_goals first
      | (go_ret; exact countTo_mk (by omega) (by omega))
      | (go_meet; exact rfl)
  case rest | rest =>
    obtain rfl := hcut
    go_wp2_with (first
      | (go_at_call 59; ((with_reducible refine (runN_61 _ _ _ HS.out (by omega) (by omega)).mono ?_); rintro e w' ⟨n, hn, hle, rfl, rfl⟩)))
    all_goals
      go_ret
      exact countTo_mk (by omega) (by omega)
end Go.Proofs.YtjagjjdkgidkjaaGreatDoor
