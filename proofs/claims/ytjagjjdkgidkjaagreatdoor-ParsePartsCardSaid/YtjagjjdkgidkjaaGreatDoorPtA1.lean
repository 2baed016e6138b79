/- The parser's reading: a part (Lx1 Lx2) of the proof that the law ParseParts answers true. No condition. -/
import Derived.Test.YtjagjjdkgidkjaaGreatDoorChecked
import Derived.ProofKit
import Derived.LoopTactic
import Derived.WalkKit
import Derived.Lib.Hide
import Derived.IntWalk
set_option linter.all false
namespace Go.Proofs.YtjagjjdkgidkjaaGreatDoor
open Go Go.RowKit
set_option maxRecDepth 1000000

/-! ### tests of bytes -/
def isLetter (c : Nat) : Bool := decide ((97 ≤ c ∧ c ≤ 122) ∨ (65 ≤ c ∧ c ≤ 90) ∨ c = 95 ∨ c = 58)
def isDigit (c : Nat) : Bool := decide (48 ≤ c ∧ c ≤ 57)
def isHex (c : Nat) : Bool := decide ((48 ≤ c ∧ c ≤ 57) ∨ (97 ≤ c ∧ c ≤ 102) ∨ (65 ≤ c ∧ c ≤ 70))
def isWord (c : Nat) : Bool := decide ((97 ≤ c ∧ c ≤ 122) ∨ (65 ≤ c ∧ c ≤ 90) ∨ c = 95 ∨ c = 58 ∨ (48 ≤ c ∧ c ≤ 57))
def isLower (c : Nat) : Bool := decide (97 ≤ c ∧ c ≤ 122)
def BT (g : FuncId) (p : Nat → Bool) : Prop := ∀ (c : Nat) (w : World), c < 256 → Calls Tryz.prog g #[.int .u8 c] w fun e w' => e = .returned (.bool (p c)) ∧ w = w'
theorem ret_bool {a b : Bool} (h : a = b) : Ending.returned (.bool a) = .returned (.bool b) := by rw [h]
theorem ret_int {k : IntKind} {a b : Int} (h : a = b) : Ending.returned (.int k a) = .returned (.int k b) := by rw [h]
set_option maxHeartbeats 1000000 in
theorem digit_bt : BT 61 isDigit := by
  intro c w hc
  go_enter Tryz.func61, Tryz.ntmps61
  go_wp2
  all_goals
    go_ret
    refine ⟨ret_bool ?_, rfl⟩
    rw [Bool.eq_iff_iff]; simp [isDigit]; omega
set_option maxHeartbeats 1000000 in
theorem letter_bt : BT 58 isLetter := by
  intro c w hc
  go_enter Tryz.func58, Tryz.ntmps58
  go_wp2
  all_goals
    go_ret
    refine ⟨ret_bool ?_, rfl⟩
    rw [Bool.eq_iff_iff]; simp [isLetter]; omega
set_option maxHeartbeats 1000000 in
theorem hex_bt : BT 103 isHex := by
  intro c w hc
  go_enter Tryz.func103, Tryz.ntmps103
  go_wp2_with (go_at_call 61; refine (digit_bt _ _ hc).mono ?_; rintro e w' ⟨rfl, rfl⟩)
  all_goals
    go_ret
    refine ⟨ret_bool ?_, rfl⟩
    rw [Bool.eq_iff_iff]; simp_all [isHex, isDigit]; try omega
set_option maxHeartbeats 1000000 in
theorem word_bt : BT 60 isWord := by
  intro c w hc
  go_enter Tryz.func60, Tryz.ntmps60
  go_wp2_with (first | (go_at_call 61; refine (digit_bt _ _ hc).mono ?_; rintro e w' ⟨rfl, rfl⟩) | (go_at_call 58; refine (letter_bt _ _ hc).mono ?_; rintro e w' ⟨rfl, rfl⟩))
  all_goals
    go_ret
    refine ⟨ret_bool ?_, rfl⟩
    rw [Bool.eq_iff_iff]; simp_all [isWord, isLetter, isDigit]; try omega
set_option maxHeartbeats 1000000 in
theorem lower_bt : BT 104 isLower := by
  intro c w hc
  go_enter Tryz.func104, Tryz.ntmps104
  go_wp2
  all_goals
    go_ret
    refine ⟨ret_bool ?_, rfl⟩
    rw [Bool.eq_iff_iff]; simp [isLower]; omega
end Go.Proofs.YtjagjjdkgidkjaaGreatDoor
namespace Go.Proofs.YtjagjjdkgidkjaaGreatDoor
open Go Go.RowKit
set_option maxRecDepth 1000000
/-- How many bytes of a kind stand ahead. -/
def runF (p : Nat → Bool) : List UInt8 → Nat
  | [] => 0
  | c :: l => if p c.toNat then runF p l + 1 else 0
theorem runF_le (p : Nat → Bool) : ∀ l : List UInt8, runF p l ≤ l.length
  | [] => by simp [runF]
  | c :: l => by
    have := runF_le p l
    unfold runF
    split <;> simp <;> omega
theorem runF_drop (p : Nat → Bool) (s : ByteArray) (k : Nat) (h : k < s.size) : runF p (s.data.toList.drop k) = if p s[k].toNat then runF p (s.data.toList.drop (k + 1)) + 1 else 0 := by
  rw [List.drop_eq_getElem_cons (by simpa using h)]
  rfl
theorem runF_room (p : Nat → Bool) (s : ByteArray) (k : Nat) (h : k ≤ s.size) : k + runF p (s.data.toList.drop k) ≤ s.size := by
  have := runF_le p (s.data.toList.drop k)
  simp at this; omega
set_option maxHeartbeats 1000000 in
theorem run_61 (p : Nat → Bool) (hg : BT 61 p) (s : ByteArray) (at_ : Nat) (w : World) (hs : s.size ≤ maxLen) (ha : at_ ≤ s.size) :
    Calls Tryz.prog 59 #[.string s, .int .i64 at_, .func (.func 61) #[] #[]] w fun e w' => e = .returned (.int .i64 (runF p (s.data.toList.drop at_))) ∧ w = w' := by
  unfold maxLen at hs
  go_enter Tryz.func59, Tryz.ntmps59
  go_wp2
  go_loop [7] (fun n => ∃ k : Nat, at_ + k ≤ s.size ∧ n = .int .i64 k ∧ runF p (s.data.toList.drop at_) = k + runF p (s.data.toList.drop (at_ + k))) (fun n => s.size - (intOf n).toNat)
  case atStart => exact ⟨0, by omega, rfl, by simp⟩
  case round =>
    obtain ⟨k, hk, rfl, hr⟩ := hrel
    have H := Lib.hid hr; clear hr
    by_cases hlt : at_ + k < s.size
    · have hb : s[at_ + k].toNat < 256 := s[at_ + k].toNat_lt
      have hc := runF_drop p s (at_ + k) hlt
      have HC := Lib.hid hc; clear hc
      go_wp2_with (go_at_call 61; refine (hg _ _ hb).mono ?_; rintro e w' ⟨rfl, rfl⟩)
      · rename_i hp
        refine ⟨⟨k + 1, by omega, by go_num, ?_⟩, by simp [intOf]; omega⟩
        rw [H.out, HC.out, if_pos hp, Nat.add_assoc]; omega
      · rename_i hp
        go_ret
        refine ⟨?_, rfl⟩
        rw [H.out, HC.out, if_neg (by rw [hp]; simp)]; simp
    · go_wp2
      go_ret
      refine ⟨?_, rfl⟩
      rw [H.out, List.drop_eq_nil_of_le (show s.data.toList.length ≤ at_ + k by simp; omega)]; simp [runF]
set_option maxHeartbeats 1000000 in
theorem run_103 (p : Nat → Bool) (hg : BT 103 p) (s : ByteArray) (at_ : Nat) (w : World) (hs : s.size ≤ maxLen) (ha : at_ ≤ s.size) :
    Calls Tryz.prog 59 #[.string s, .int .i64 at_, .func (.func 103) #[] #[]] w fun e w' => e = .returned (.int .i64 (runF p (s.data.toList.drop at_))) ∧ w = w' := by
  unfold maxLen at hs
  go_enter Tryz.func59, Tryz.ntmps59
  go_wp2
  go_loop [7] (fun n => ∃ k : Nat, at_ + k ≤ s.size ∧ n = .int .i64 k ∧ runF p (s.data.toList.drop at_) = k + runF p (s.data.toList.drop (at_ + k))) (fun n => s.size - (intOf n).toNat)
  case atStart => exact ⟨0, by omega, rfl, by simp⟩
  case round =>
    obtain ⟨k, hk, rfl, hr⟩ := hrel
    have H := Lib.hid hr; clear hr
    by_cases hlt : at_ + k < s.size
    · have hb : s[at_ + k].toNat < 256 := s[at_ + k].toNat_lt
      have hc := runF_drop p s (at_ + k) hlt
      have HC := Lib.hid hc; clear hc
      go_wp2_with (go_at_call 103; refine (hg _ _ hb).mono ?_; rintro e w' ⟨rfl, rfl⟩)
      · rename_i hp
        refine ⟨⟨k + 1, by omega, by go_num, ?_⟩, by simp [intOf]; omega⟩
        rw [H.out, HC.out, if_pos hp, Nat.add_assoc]; omega
      · rename_i hp
        go_ret
        refine ⟨?_, rfl⟩
        rw [H.out, HC.out, if_neg (by rw [hp]; simp)]; simp
    · go_wp2
      go_ret
      refine ⟨?_, rfl⟩
      rw [H.out, List.drop_eq_nil_of_le (show s.data.toList.length ≤ at_ + k by simp; omega)]; simp [runF]
set_option maxHeartbeats 1000000 in
theorem run_60 (p : Nat → Bool) (hg : BT 60 p) (s : ByteArray) (at_ : Nat) (w : World) (hs : s.size ≤ maxLen) (ha : at_ ≤ s.size) :
    Calls Tryz.prog 59 #[.string s, .int .i64 at_, .func (.func 60) #[] #[]] w fun e w' => e = .returned (.int .i64 (runF p (s.data.toList.drop at_))) ∧ w = w' := by
  unfold maxLen at hs
  go_enter Tryz.func59, Tryz.ntmps59
  go_wp2
  go_loop [7] (fun n => ∃ k : Nat, at_ + k ≤ s.size ∧ n = .int .i64 k ∧ runF p (s.data.toList.drop at_) = k + runF p (s.data.toList.drop (at_ + k))) (fun n => s.size - (intOf n).toNat)
  case atStart => exact ⟨0, by omega, rfl, by simp⟩
  case round =>
    obtain ⟨k, hk, rfl, hr⟩ := hrel
    have H := Lib.hid hr; clear hr
    by_cases hlt : at_ + k < s.size
    · have hb : s[at_ + k].toNat < 256 := s[at_ + k].toNat_lt
      have hc := runF_drop p s (at_ + k) hlt
      have HC := Lib.hid hc; clear hc
      go_wp2_with (go_at_call 60; refine (hg _ _ hb).mono ?_; rintro e w' ⟨rfl, rfl⟩)
      · rename_i hp
        refine ⟨⟨k + 1, by omega, by go_num, ?_⟩, by simp [intOf]; omega⟩
        rw [H.out, HC.out, if_pos hp, Nat.add_assoc]; omega
      · rename_i hp
        go_ret
        refine ⟨?_, rfl⟩
        rw [H.out, HC.out, if_neg (by rw [hp]; simp)]; simp
    · go_wp2
      go_ret
      refine ⟨?_, rfl⟩
      rw [H.out, List.drop_eq_nil_of_le (show s.data.toList.length ≤ at_ + k by simp; omega)]; simp [runF]
set_option maxHeartbeats 1000000 in
theorem run_104 (p : Nat → Bool) (hg : BT 104 p) (s : ByteArray) (at_ : Nat) (w : World) (hs : s.size ≤ maxLen) (ha : at_ ≤ s.size) :
    Calls Tryz.prog 59 #[.string s, .int .i64 at_, .func (.func 104) #[] #[]] w fun e w' => e = .returned (.int .i64 (runF p (s.data.toList.drop at_))) ∧ w = w' := by
  unfold maxLen at hs
  go_enter Tryz.func59, Tryz.ntmps59
  go_wp2
  go_loop [7] (fun n => ∃ k : Nat, at_ + k ≤ s.size ∧ n = .int .i64 k ∧ runF p (s.data.toList.drop at_) = k + runF p (s.data.toList.drop (at_ + k))) (fun n => s.size - (intOf n).toNat)
  case atStart => exact ⟨0, by omega, rfl, by simp⟩
  case round =>
    obtain ⟨k, hk, rfl, hr⟩ := hrel
    have H := Lib.hid hr; clear hr
    by_cases hlt : at_ + k < s.size
    · have hb : s[at_ + k].toNat < 256 := s[at_ + k].toNat_lt
      have hc := runF_drop p s (at_ + k) hlt
      have HC := Lib.hid hc; clear hc
      go_wp2_with (go_at_call 104; refine (hg _ _ hb).mono ?_; rintro e w' ⟨rfl, rfl⟩)
      · rename_i hp
        refine ⟨⟨k + 1, by omega, by go_num, ?_⟩, by simp [intOf]; omega⟩
        rw [H.out, HC.out, if_pos hp, Nat.add_assoc]; omega
      · rename_i hp
        go_ret
        refine ⟨?_, rfl⟩
        rw [H.out, HC.out, if_neg (by rw [hp]; simp)]; simp
    · go_wp2
      go_ret
      refine ⟨?_, rfl⟩
      rw [H.out, List.drop_eq_nil_of_le (show s.data.toList.length ≤ at_ + k by simp; omega)]; simp [runF]
theorem runAt_61 (s : ByteArray) (i : Int) (w : World) (hs : s.size ≤ maxLen) (h0 : 0 ≤ i) (hi : i ≤ s.size) :
    Calls Tryz.prog 59 #[.string s, .int .i64 i, .func (.func 61) #[] #[]] w fun e w' => e = .returned (.int .i64 (runF isDigit (s.data.toList.drop i.toNat))) ∧ w = w' := by
  obtain ⟨n, rfl⟩ : ∃ n : Nat, i = n := ⟨i.toNat, by omega⟩
  exact run_61 isDigit digit_bt s n w hs (by omega)
theorem runAt_103 (s : ByteArray) (i : Int) (w : World) (hs : s.size ≤ maxLen) (h0 : 0 ≤ i) (hi : i ≤ s.size) :
    Calls Tryz.prog 59 #[.string s, .int .i64 i, .func (.func 103) #[] #[]] w fun e w' => e = .returned (.int .i64 (runF isHex (s.data.toList.drop i.toNat))) ∧ w = w' := by
  obtain ⟨n, rfl⟩ : ∃ n : Nat, i = n := ⟨i.toNat, by omega⟩
  exact run_103 isHex hex_bt s n w hs (by omega)
theorem runAt_60 (s : ByteArray) (i : Int) (w : World) (hs : s.size ≤ maxLen) (h0 : 0 ≤ i) (hi : i ≤ s.size) :
    Calls Tryz.prog 59 #[.string s, .int .i64 i, .func (.func 60) #[] #[]] w fun e w' => e = .returned (.int .i64 (runF isWord (s.data.toList.drop i.toNat))) ∧ w = w' := by
  obtain ⟨n, rfl⟩ : ∃ n : Nat, i = n := ⟨i.toNat, by omega⟩
  exact run_60 isWord word_bt s n w hs (by omega)
theorem runAt_104 (s : ByteArray) (i : Int) (w : World) (hs : s.size ≤ maxLen) (h0 : 0 ≤ i) (hi : i ≤ s.size) :
    Calls Tryz.prog 59 #[.string s, .int .i64 i, .func (.func 104) #[] #[]] w fun e w' => e = .returned (.int .i64 (runF isLower (s.data.toList.drop i.toNat))) ∧ w = w' := by
  obtain ⟨n, rfl⟩ : ∃ n : Nat, i = n := ⟨i.toNat, by omega⟩
  exact run_104 isLower lower_bt s n w hs (by omega)
theorem runN_61 (s : ByteArray) (i : Int) (w : World) (hs : s.size ≤ maxLen) (h0 : 0 ≤ i) (hi : i ≤ s.size) :
    Calls Tryz.prog 59 #[.string s, .int .i64 i, .func (.func 61) #[] #[]] w fun e w' => ∃ n : Nat, Hid (n = runF isDigit (s.data.toList.drop i.toNat)) ∧ i + n ≤ s.size ∧ e = .returned (.int .i64 n) ∧ w = w' := by
  refine (runAt_61 s i w hs h0 hi).mono ?_
  rintro e w' ⟨rfl, rfl⟩
  refine ⟨_, Lib.hid rfl, ?_, rfl, rfl⟩
  have := runF_room isDigit s i.toNat (by omega)
  omega
theorem runN_103 (s : ByteArray) (i : Int) (w : World) (hs : s.size ≤ maxLen) (h0 : 0 ≤ i) (hi : i ≤ s.size) :
    Calls Tryz.prog 59 #[.string s, .int .i64 i, .func (.func 103) #[] #[]] w fun e w' => ∃ n : Nat, Hid (n = runF isHex (s.data.toList.drop i.toNat)) ∧ i + n ≤ s.size ∧ e = .returned (.int .i64 n) ∧ w = w' := by
  refine (runAt_103 s i w hs h0 hi).mono ?_
  rintro e w' ⟨rfl, rfl⟩
  refine ⟨_, Lib.hid rfl, ?_, rfl, rfl⟩
  have := runF_room isHex s i.toNat (by omega)
  omega
theorem runN_60 (s : ByteArray) (i : Int) (w : World) (hs : s.size ≤ maxLen) (h0 : 0 ≤ i) (hi : i ≤ s.size) :
    Calls Tryz.prog 59 #[.string s, .int .i64 i, .func (.func 60) #[] #[]] w fun e w' => ∃ n : Nat, Hid (n = runF isWord (s.data.toList.drop i.toNat)) ∧ i + n ≤ s.size ∧ e = .returned (.int .i64 n) ∧ w = w' := by
  refine (runAt_60 s i w hs h0 hi).mono ?_
  rintro e w' ⟨rfl, rfl⟩
  refine ⟨_, Lib.hid rfl, ?_, rfl, rfl⟩
  have := runF_room isWord s i.toNat (by omega)
  omega
theorem runN_104 (s : ByteArray) (i : Int) (w : World) (hs : s.size ≤ maxLen) (h0 : 0 ≤ i) (hi : i ≤ s.size) :
    Calls Tryz.prog 59 #[.string s, .int .i64 i, .func (.func 104) #[] #[]] w fun e w' => ∃ n : Nat, Hid (n = runF isLower (s.data.toList.drop i.toNat)) ∧ i + n ≤ s.size ∧ e = .returned (.int .i64 n) ∧ w = w' := by
  refine (runAt_104 s i w hs h0 hi).mono ?_
  rintro e w' ⟨rfl, rfl⟩
  refine ⟨_, Lib.hid rfl, ?_, rfl, rfl⟩
  have := runF_room isLower s i.toNat (by omega)
  omega
end Go.Proofs.YtjagjjdkgidkjaaGreatDoor
