/- The parser's reading: a part (Lx5) of the proof that the law ParseParts answers true. No condition. -/
import Derived.Test.YtjagjjdkgidkjaaGreatDoorPtA2
import Derived.Test.YtjagjjdkgidkjaaGreatDoorPtA3
import Derived.Deep.QuietTactic
import Derived.BigQuiet
set_option linter.all false
namespace Go.Proofs.YtjagjjdkgidkjaaGreatDoor
open Go Go.RowKit
set_option maxRecDepth 1000000
def unitRow : Array Value := #[.string ⟨#[121]⟩, .int .i64 31536000000, .string ⟨#[119]⟩, .int .i64 604800000, .string ⟨#[100]⟩, .int .i64 86400000, .string ⟨#[104]⟩, .int .i64 3600000, .string ⟨#[109]⟩, .int .i64 60000, .string ⟨#[115]⟩, .int .i64 1000, .string ⟨#[109, 115]⟩, .int .i64 1]
set_option maxHeartbeats 1000000 in
theorem units_any (w : World) : Calls Tryz.prog 105 #[] w fun e w' => e = .returned (.slice (some ⟨w.heap.size, 0, none⟩) 7 7) ∧ w' = w.alloc (.cells unitRow 136) := by
  go_enter Tryz.func105, Tryz.ntmps105
  go_wp2
  go_ret
  simp [unitRow]
theorem unit_cells (w : World) (i : Nat) (h : i < 7) : ∃ (nm : ByteArray) (ms : Int), (w.alloc (.cells unitRow 136)).cell? ⟨w.heap.size, i * 2, none⟩ = some (.string nm) ∧ (w.alloc (.cells unitRow 136)).cell? ⟨w.heap.size, i * 2 + 1, none⟩ = some (.int .i64 ms) ∧ 1 ≤ ms ∧ ms ≤ 31536000000 := by
  simp only [World.cell?_alloc_new]
  match i, h with
  | 0, _ => exact ⟨_, _, rfl, rfl, by omega, by omega⟩
  | 1, _ => exact ⟨_, _, rfl, rfl, by omega, by omega⟩
  | 2, _ => exact ⟨_, _, rfl, rfl, by omega, by omega⟩
  | 3, _ => exact ⟨_, _, rfl, rfl, by omega, by omega⟩
  | 4, _ => exact ⟨_, _, rfl, rfl, by omega, by omega⟩
  | 5, _ => exact ⟨_, _, rfl, rfl, by omega, by omega⟩
  | 6, _ => exact ⟨_, _, rfl, rfl, by omega, by omega⟩
end Go.Proofs.YtjagjjdkgidkjaaGreatDoor
