/- The lexer: a part (Nm) of the proof that the law ParseParts answers true. No condition. -/
import Derived.Test.YtjagjjdkgidkjaaGreatDoorPtA4
import Derived.Lib.ConvBytes
import Derived.Lib.Strings
import Derived.Lib.Slices
set_option linter.all false
namespace Go.Proofs.YtjagjjdkgidkjaaGreatDoor
open Go Go.RowKit
set_option maxRecDepth 1000000
def BoolOut (w : World) (e : Ending) (w' : World) : Prop := ∃ b : Bool, e = .returned (.bool b) ∧ w = w'
theorem boolOut_mk (w : World) (b : Bool) : BoolOut w (.returned (.bool b)) w := ⟨b, rfl, rfl⟩
set_option maxHeartbeats 1000000 in
theorem ldigit_any (c : Nat) (w : World) (hc : c < 256) : Calls Tryz.prog 191 #[.int .u8 c] w (BoolOut w) := by
  go_enter Tryz.func191, Tryz.ntmps191
  go_wp2
  all_goals (go_ret; exact boolOut_mk _ _)
set_option maxHeartbeats 1000000 in
theorem lletter_any (c : Nat) (w : World) (hc : c < 256) : Calls Tryz.prog 192 #[.int .u8 c] w (BoolOut w) := by
  go_enter Tryz.func192, Tryz.ntmps192
  go_wp2
  all_goals (go_ret; exact boolOut_mk _ _)
def NameOut (w : World) (e : Ending) (w' : World) : Prop := ∃ b : Bool, e = .returned (.bool b) ∧ Fr none_ w w'
theorem nameOut_mk {w w' : World} (b : Bool) (h : Fr none_ w w') : NameOut w (.returned (.bool b)) w' := ⟨b, rfl, h⟩
theorem bytes_fr (w : World) (e : TypeId) (s : ByteArray) : Fr none_ w (Lib.bytesWorld w e s) :=
  ⟨by simp [Lib.bytesWorld, World.freeze, World.alloc, World.drew, -World.alloc_eq, -World.drew_eq], by simp [Lib.bytesWorld, World.freeze, World.alloc, World.drew, -World.alloc_eq, -World.drew_eq], by simp [Lib.bytesWorld, World.freeze, World.alloc, World.drew, -World.alloc_eq, -World.drew_eq],
   by rw [Lib.bytesWorld_size]; omega, fun k hk _ => Lib.bytesWorld_at_old w e s k hk⟩
set_option maxHeartbeats 4000000 in
theorem named_any (s : ByteArray) (w : World) (hs : s.size ≤ 262144) : Calls Tryz.prog 158 #[.string s, .int .i64 64, .bool false] w (NameOut w) := by
  by_cases h0 : 0 < s.size
  case neg =>
    have he : s.toList = [] := by
      rw [Lib.toList_data]
      exact List.eq_nil_of_length_eq_zero (by rw [← Lib.size_eq]; omega)
    go_enter Tryz.func158, Tryz.ntmps158
    go_wp2
    go_ret
    exact nameOut_mk _ (Fr.refl _ w)
  have hne : s.toList.isEmpty = false := by
    rw [Lib.toList_data]
    have : s.data.toList.length = s.size := (Lib.size_eq s).symm
    cases hl : s.data.toList with
    | nil => rw [hl] at this; simp at this; omega
    | cons _ _ => rfl
  by_cases h64 : 64 < s.size
  · have hd : decide ((64 : Int) < (s.size : Int)) = true := by simp; omega
    go_enter Tryz.func158, Tryz.ntmps158
    go_wp2
    go_ret
    exact nameOut_mk _ (Fr.refl _ w)
  have hd : decide ((64 : Int) < (s.size : Int)) = false := by simp; omega
  have hcv := Lib.run_convert_string_bytes (P := Tryz.prog) w 9 39 5 s (u := .string) Tryz.underlying9 Tryz.underlying39 Tryz.underlying5
  have hB : ∀ j, j < s.size → (Lib.bytesWorld w 5 s).cell? ⟨w.heap.size, j, none⟩ = some (.int .u8 (s.data.toList.getD j 0).toNat) := fun j hj => Lib.bytesWorld_cell w 5 s j hj
  have hF := bytes_fr w 5 s
  obtain ⟨W1, hW1⟩ : ∃ W1, W1 = Lib.bytesWorld w 5 s := ⟨_, rfl⟩
  rw [← hW1] at hcv hB hF
  clear hW1
  have HB := Lib.hid hB; clear hB
  go_enter Tryz.func158, Tryz.ntmps158
  go_wp2_with (first
    | (go_at_call 191; ((with_reducible refine (ldigit_any _ _ (UInt8.toNat_lt _)).mono ?_); rintro e w' ⟨b, rfl, rfl⟩; cases b)))
  all_goals try (go_ret; exact nameOut_mk _ (Fr.refl _ w))
  go_loopw [25] (fun v wr => ∃ k : Nat, k ≤ s.size ∧ v = .int .i64 k ∧ wr = W1) (fun v _ => s.size - (intOf v).toNat)
  case atStart => exact ⟨0, Nat.zero_le _, rfl, rfl⟩
  case round =>
    obtain ⟨k, hk, rfl, rfl⟩ := hrel
    by_cases hlt : k < s.size
    · have hc := HB.out k hlt
      have hb := UInt8.toNat_lt (s.data.toList.getD k 0)
      generalize (s.data.toList.getD k 0).toNat = x at hc hb
      go_wp2_with (first
        | (go_at_call 192; ((with_reducible refine (lletter_any _ _ hb).mono ?_); rintro e w' ⟨b1, rfl, rfl⟩; cases b1))
        | (go_at_call 191; ((with_reducible refine (ldigit_any _ _ hb).mono ?_); rintro e w' ⟨b2, rfl, rfl⟩; cases b2)))
      all_goals first
        | (go_ret; exact nameOut_mk _ hF)
        | exact ⟨⟨k + 1, by omega, by go_num, trivial⟩, by simp [intOf]; omega⟩
    · go_wp2
      all_goals first
        | (go_ret; exact nameOut_mk _ hF)
set_option maxHeartbeats 4000000 in
theorem nameOk : NameOk := by
  intro s w hs
  refine Calls.mono (R := NameOut w) ?_ fun _ _ h => h
  go_enter Tryz.func114, Tryz.ntmps114
  go_wp2_with (first
    | (go_at_call 158; ((with_reducible refine (named_any s w hs).mono ?_); rintro e w' ⟨b, rfl, hf⟩)))
  go_ret
  exact nameOut_mk _ hf
end Go.Proofs.YtjagjjdkgidkjaaGreatDoor
