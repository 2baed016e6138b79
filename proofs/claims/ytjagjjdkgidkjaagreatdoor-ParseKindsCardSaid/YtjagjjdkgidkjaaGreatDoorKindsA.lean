/- The law ParseKinds: the closed runs: the first examples; each known name, and any other one, with each number. No condition. -/
import Derived.Test.YtjagjjdkgidkjaaGreatDoorEv29
import Derived.Test.YtjagjjdkgidkjaaGreatDoorRows
import Derived.Test.YtjagjjdkgidkjaaGreatDoorChecked
set_option linter.all false
namespace Go.Proofs.YtjagjjdkgidkjaaGreatDoor
open Go Go.RowKit
open Go.Proofs.YtjagjjdkgidkjaaGreatDoor.Ev
set_option maxRecDepth 1000000

theorem ownK : ownKnob Tryz.prog.godebug = Option.none := by kernel_rfl
theorem mixedK : Tryz.prog.follows .mixedOrders = true := by kernel_rfl
theorem plainK : (Rows.parseKindsRow.laid.filter fun x => x.2.handleName?.isSome) = [] := by kernel_rfl
/-- The first examples, run. -/
theorem awakeK : closedTrue Tryz.prog Rows.parseKindsRow.laid 40 10 [] = true := by kernel_rfl

noncomputable def sumK (f : FuncId) : Option AV := match Nat.beq f 10 with
  | true => some (.bool true)
  | false => Option.none
noncomputable def oneK (xs : List AV) : Bool := match evCallS Tryz.prog (fun _ => false) sumK 20 7 xs ⟨.nil, 100⟩ with
  | some (.returned (.bool true), _) => true
  | _ => false
/-- The names that the chapter knows. -/
def wordsK : List (List Nat) := [[97, 118, 103, 95, 111, 118, 101, 114, 95, 116, 105, 109, 101], [99, 104, 97, 110, 103, 101, 115], [99, 111, 117, 110, 116, 95, 111, 118, 101, 114, 95, 116, 105, 109, 101], [100, 101, 108, 116, 97], [105, 100, 101, 108, 116, 97], [105, 110, 99, 114, 101, 97, 115, 101], [105, 114, 97, 116, 101], [108, 97, 115, 116, 95, 111, 118, 101, 114, 95, 116, 105, 109, 101], [109, 97, 120, 95, 111, 118, 101, 114, 95, 116, 105, 109, 101], [109, 105, 110, 95, 111, 118, 101, 114, 95, 116, 105, 109, 101], [112, 114, 101, 115, 101, 110, 116, 95, 111, 118, 101, 114, 95, 116, 105, 109, 101], [114, 97, 116, 101], [114, 101, 115, 101, 116, 115], [115, 117, 109, 95, 111, 118, 101, 114, 95, 116, 105, 109, 101], [97, 98, 115, 101, 110, 116, 95, 111, 118, 101, 114, 95, 116, 105, 109, 101], [113, 117, 97, 110, 116, 105, 108, 101, 95, 111, 118, 101, 114, 95, 116, 105, 109, 101], [97, 98, 115], [99, 101, 105, 108], [102, 108, 111, 111, 114], [114, 111, 117, 110, 100], [115, 113, 114, 116], [115, 103, 110], [115, 111, 114, 116], [115, 111, 114, 116, 95, 100, 101, 115, 99], [116, 105, 109, 101, 115, 116, 97, 109, 112], [97, 98, 115, 101, 110, 116], [99, 108, 97, 109, 112], [99, 108, 97, 109, 112, 95, 109, 105, 110], [99, 108, 97, 109, 112, 95, 109, 97, 120], [104, 105, 115, 116, 111, 103, 114, 97, 109, 95, 113, 117, 97, 110, 116, 105, 108, 101], [108, 97, 98, 101, 108, 95, 106, 111, 105, 110], [115, 99, 97, 108, 97, 114], [118, 101, 99, 116, 111, 114], [116, 105, 109, 101]]
noncomputable def allK (n : Int) : Bool := oneK [.ostr wordsK, .int .i64 n] && wordsK.all fun l => oneK [.str l, .int .i64 n]
theorem kOp0 : allK 0 = true := by kernel_rfl
theorem kOp1 : allK 1 = true := by kernel_rfl
theorem kOp2 : allK 2 = true := by kernel_rfl
theorem kOp3 : allK 3 = true := by kernel_rfl
theorem kOp4 : allK 4 = true := by kernel_rfl
theorem kOp5 : allK 5 = true := by kernel_rfl
theorem kOp6 : allK 6 = true := by kernel_rfl
theorem kOp7 : allK 7 = true := by kernel_rfl
theorem kOp8 : allK 8 = true := by kernel_rfl
theorem kOp9 : allK 9 = true := by kernel_rfl
theorem kOp10 : allK 10 = true := by kernel_rfl
theorem kOp11 : allK 11 = true := by kernel_rfl
theorem kOp12 : allK 12 = true := by kernel_rfl
theorem kOp13 : allK 13 = true := by kernel_rfl
theorem kOp14 : allK 14 = true := by kernel_rfl
theorem kOp15 : allK 15 = true := by kernel_rfl
theorem kNeg (m : Nat) : allK (.negSucc m) = true := by kernel_rfl
theorem kBig (m : Nat) : allK (.ofNat (m + 16)) = true := by kernel_rfl
theorem kAny (n : Int) : allK n = true := by
  cases n with
  | negSucc m => exact kNeg m
  | ofNat k =>
    rcases Nat.lt_or_ge k 16 with h | h
    · match k, h with
      | 0, _ => exact kOp0
      | 1, _ => exact kOp1
      | 2, _ => exact kOp2
      | 3, _ => exact kOp3
      | 4, _ => exact kOp4
      | 5, _ => exact kOp5
      | 6, _ => exact kOp6
      | 7, _ => exact kOp7
      | 8, _ => exact kOp8
      | 9, _ => exact kOp9
      | 10, _ => exact kOp10
      | 11, _ => exact kOp11
      | 12, _ => exact kOp12
      | 13, _ => exact kOp13
      | 14, _ => exact kOp14
      | 15, _ => exact kOp15
      | k + 16, h => omega
    · obtain ⟨m, rfl⟩ : ∃ m, k = m + 16 := ⟨k - 16, by omega⟩
      exact kBig m

end Go.Proofs.YtjagjjdkgidkjaaGreatDoor
