/- The lexer: a part (Pu Es) of the proof that the law ParseParts answers true. No condition. -/
import Derived.Test.YtjagjjdkgidkjaaGreatDoorPtB2
import Derived.Test.YtjagjjdkgidkjaaGreatDoorPtB1
set_option linter.all false
namespace Go.Proofs.YtjagjjdkgidkjaaGreatDoor
open Go Go.RowKit
set_option maxRecDepth 1000000
/-- A hexadecimal letter, lowered. -/
def LowerOut (w : World) (e : Ending) (w' : World) : Prop := ∃ y : Int, 97 ≤ y ∧ y ≤ 102 ∧ e = .returned (.int .u8 y) ∧ w = w'
theorem hexLow : ∀ c : Nat, c < 256 → ((65 ≤ c ∧ c ≤ 70) ∨ (97 ≤ c ∧ c ≤ 102)) → 97 ≤ bits .or .u8 (c : Int) 32 ∧ bits .or .u8 (c : Int) 32 ≤ 102 := by
  intro c _ h
  have : c = 65 ∨ c = 66 ∨ c = 67 ∨ c = 68 ∨ c = 69 ∨ c = 70 ∨ c = 97 ∨ c = 98 ∨ c = 99 ∨ c = 100 ∨ c = 101 ∨ c = 102 := by omega
  rcases this with rfl | rfl | rfl | rfl | rfl | rfl | rfl | rfl | rfl | rfl | rfl | rfl
  all_goals decide
theorem lower_hex (c : Nat) (hc : c < 256) (h : (65 ≤ c ∧ c ≤ 70) ∨ (97 ≤ c ∧ c ≤ 102)) (w : World) : Calls Tryz.prog 230 #[.int .u8 c] w (LowerOut w) :=
  (Tryz.internal_strconv_lower c w).mono fun _ _ ⟨he, hw⟩ => ⟨_, (hexLow c hc h).1, (hexLow c hc h).2, he, hw.symm⟩
def PuOut (w : World) (e : Ending) (w' : World) : Prop := ∃ n : Nat, n < 256 ∧ e = .returned (.tuple #[.int .u64 n, .nilIface]) ∧ Fr none_ w w'
theorem puOut_mk {w w' : World} {n : Int} (h0 : 0 ≤ n) (h1 : n < 256) (h : Fr none_ w w') : PuOut w (.returned (.tuple #[.int .u64 n, .nilIface])) w' := ⟨n.toNat, by omega, by rw [Int.toNat_of_nonneg h0], h⟩
set_option maxHeartbeats 8000000 in
theorem parseUint2 (s : ByteArray) (w : World) (h2 : s.size = 2) (hx : ∀ j, j < 2 → isHex (s.data.toList.getD j 0).toNat = true) :
    Calls Tryz.prog 185 #[.string s, .int .i64 16, .int .i64 8] w (PuOut w) := by
  have hne : s.toList.isEmpty = false := by
    rw [Lib.toList_data]
    have : s.data.toList.length = s.size := (Lib.size_eq s).symm
    cases hl : s.data.toList with
    | nil => rw [hl] at this; simp at this; omega
    | cons _ _ => rfl
  have hcv := Lib.run_convert_string_bytes (P := Tryz.prog) w 9 39 5 s (u := .string) Tryz.underlying9 Tryz.underlying39 Tryz.underlying5
  have hB : ∀ j, j < s.size → (Lib.bytesWorld w 5 s).cell? ⟨w.heap.size, j, none⟩ = some (.int .u8 (s.data.toList.getD j 0).toNat) := fun j hj => Lib.bytesWorld_cell w 5 s j hj
  have hF := bytes_fr w 5 s
  obtain ⟨W1, hW1⟩ : ∃ W1, W1 = Lib.bytesWorld w 5 s := ⟨_, rfl⟩
  rw [← hW1] at hcv hB hF
  clear hW1
  rw [h2] at hcv hB
  have HB := Lib.hid hB; clear hB
  have HX := Lib.hid hx; clear hx
  have H2 := Lib.hid h2; clear h2
  go_enter Tryz.func185, Tryz.ntmps185
  go_wp2
  go_loopw [12, 13, 101] (fun v12 v13 v wr => ∃ (k : Nat) (n : Int), k ≤ 2 ∧ v12 = .bool false ∧ v13 = .int .u64 n ∧ v = .int .i64 k ∧ 0 ≤ n ∧ n ≤ 255 ∧ Hid ((k = 0 → n = 0) ∧ (k = 1 → n ≤ 15)) ∧ wr = W1) (fun _ _ v _ => 2 - (intOf v).toNat)
  case atStart => exact ⟨0, 0, by omega, rfl, rfl, rfl, by omega, by omega, Lib.hid ⟨fun _ => rfl, by omega⟩, rfl⟩
  case round =>
    obtain ⟨k, n, hk, rfl, rfl, rfl, hn0, hn1, hh, rfl⟩ := hrel
    by_cases hlt : k < 2
    · have hc := HB.out k hlt
      have hb := UInt8.toNat_lt (s.data.toList.getD k 0)
      have hhex := HX.out k hlt
      generalize (s.data.toList.getD k 0).toNat = x at hc hb hhex
      have hn : n ≤ 15 := by
        rcases (show k = 0 ∨ k = 1 by omega) with e | e
        · have := hh.out.1 e; omega
        · exact hh.out.2 e
      have hn' : k = 0 → n = 0 := hh.out.1
      have HN := Lib.hid hn'; clear hn'
      have hhex' : (48 ≤ x ∧ x ≤ 57) ∨ ((65 ≤ x ∧ x ≤ 70) ∨ (97 ≤ x ∧ x ≤ 102)) := by unfold isHex at hhex; have := of_decide_eq_true hhex; omega
      clear hhex
      rcases hhex' with hd | hl
      · obtain ⟨hd1, hd2⟩ := hd
        go_wp2
        exact ⟨⟨k + 1, _, by omega, rfl, rfl, by go_num, by omega, by omega, Lib.hid ⟨by omega, fun e => by have := HN.out (by omega); omega⟩, trivial⟩, by simp [intOf]; omega⟩
      · have HL := Lib.hid hl
        have hl1 : 57 < x := by omega
        go_wp2_with (first
          | (go_at_call 230; ((with_reducible refine (lower_hex x hb HL.out _).mono ?_); rintro e w' ⟨y, hy1, hy2, rfl, rfl⟩)))
        exact ⟨⟨k + 1, _, by omega, rfl, rfl, by go_num, by omega, by omega, Lib.hid ⟨by omega, fun e => by have := HN.out (by omega); omega⟩, trivial⟩, by simp [intOf]; omega⟩
    · go_wp2
      go_ret2
      exact puOut_mk hn0 (by omega) hF
set_option maxHeartbeats 8000000 in
theorem publicUint2 (s : ByteArray) (w : World) (h2 : s.size = 2) (hx : ∀ j, j < 2 → isHex (s.data.toList.getD j 0).toNat = true) :
    Calls Tryz.prog 152 #[.string s, .int .i64 16, .int .i64 8] w (PuOut w) := by
  have H2 := Lib.hid h2; clear h2
  have HX := Lib.hid hx; clear hx
  go_enter Tryz.func152, Tryz.ntmps152
  go_wp2_with (first
    | (go_at_call 185; ((with_reducible refine (parseUint2 s w H2.out HX.out).mono ?_); rintro e w' ⟨n, hn, rfl, hf⟩)))
  go_ret2
  exact puOut_mk (by omega) (by omega) hf
end Go.Proofs.YtjagjjdkgidkjaaGreatDoor
namespace Go.Proofs.YtjagjjdkgidkjaaGreatDoor
open Go Go.RowKit
set_option maxRecDepth 1000000
def EscOut (m : Nat) (w : World) (e : Ending) (w' : World) : Prop := ∃ x k : Nat, x < 256 ∧ k ≤ m ∧ e = .returned (.tuple #[.int .u8 x, .int .i64 k]) ∧ Fr none_ w w'
theorem escOut_mk {m : Nat} {w w' : World} {x : Int} (k : Int) (h0 : 0 ≤ x) (h1 : x < 256) (h2 : 0 ≤ k) (h3 : k ≤ m) (h : Fr none_ w w') : EscOut m w (.returned (.tuple #[.int .u8 x, .int .i64 k])) w' :=
  ⟨x.toNat, k.toNat, by omega, by omega, by rw [Int.toNat_of_nonneg h0, Int.toNat_of_nonneg h2], h⟩
theorem hex_val (c : Nat) (b : Bool) (hb : isHex c = b) (w : World) (hc : c < 256) : Calls Tryz.prog 103 #[.int .u8 c] w fun e w' => e = .returned (.bool b) ∧ w = w' := hb ▸ hex_bt c w hc
theorem ext2 (s : ByteArray) (h : 2 < s.size) (h1 : isHex (s[1]'(by omega)).toNat = true) (h2 : isHex (s[2]'h).toNat = true) : (s.extract 1 3).size = 2 ∧ ∀ j, j < 2 → isHex ((s.extract 1 3).data.toList.getD j 0).toNat = true := by
  have hz : (s.extract 1 3).size = 2 := by rw [ByteArray.size_extract]; omega
  refine ⟨hz, fun j hj => ?_⟩
  have hlen : (s.extract 1 3).data.toList.length = 2 := hz
  have e : ∀ j (hj : j < 2), (s.extract 1 3).data.toList.getD j 0 = s[1 + j]'(by omega) := by
    intro j hj
    rw [List.getD_eq_getElem?_getD, List.getElem?_eq_getElem (by omega), Option.getD_some]
    have : (s.extract 1 3)[j]'(by omega) = s[1 + j]'(by omega) := by
      rw [ByteArray.getElem_extract]
    rw [Array.getElem_toList]
    exact this
  rcases (show j = 0 ∨ j = 1 by omega) with rfl | rfl
  · rw [e 0 (by omega)]; exact h1
  · rw [e 1 (by omega)]; exact h2
set_option maxHeartbeats 8000000 in
theorem escape_any (s : ByteArray) (w : World) (hs : s.size ≤ 262144) : Calls Tryz.prog 108 #[.string s] w (EscOut s.size w) := by
  by_cases h0 : 0 < s.size
  case neg =>
    have he : s.toList = [] := by
      rw [Lib.toList_data]
      exact List.eq_nil_of_length_eq_zero (by rw [← Lib.size_eq]; omega)
    go_enter Tryz.func108, Tryz.ntmps108
    go_wp2
    go_ret2
    exact escOut_mk _ (by omega) (by omega) (by omega) (by omega) (Fr.refl _ w)
  have hne : s.toList.isEmpty = false := by
    rw [Lib.toList_data]
    have : s.data.toList.length = s.size := (Lib.size_eq s).symm
    cases hl : s.data.toList with
    | nil => rw [hl] at this; simp at this; omega
    | cons _ _ => rfl
  have hb0 : (s[0]'h0).toNat < 256 := UInt8.toNat_lt _
  by_cases h3 : 2 < s.size
  · cases h1 : isHex (s[1]'(by omega)).toNat
    · go_enter Tryz.func108, Tryz.ntmps108
      go_wp2_with (first
        | (go_at_call 103; ((with_reducible refine (hex_val _ false h1 _ (UInt8.toNat_lt _)).mono ?_); rintro e w' ⟨rfl, rfl⟩)))
      all_goals (go_ret2; exact escOut_mk _ (by omega) (by omega) (by omega) (by omega) (Fr.refl _ w))
    · cases h2 : isHex (s[2]'h3).toNat
      · go_enter Tryz.func108, Tryz.ntmps108
        go_wp2_with (first
          | (go_at_call 103; ((with_reducible refine (hex_val _ true h1 _ (UInt8.toNat_lt _)).mono ?_); rintro e w' ⟨rfl, rfl⟩))
          | (go_at_call 103; ((with_reducible refine (hex_val _ false h2 _ (UInt8.toNat_lt _)).mono ?_); rintro e w' ⟨rfl, rfl⟩)))
        all_goals (go_ret2; exact escOut_mk _ (by omega) (by omega) (by omega) (by omega) (Fr.refl _ w))
      · have hx := ext2 s h3 h1 h2
        have HX := Lib.hid hx; clear hx
        go_enter Tryz.func108, Tryz.ntmps108
        go_wp2_with (first
          | (go_at_call 103; ((with_reducible refine (hex_val _ true h1 _ (UInt8.toNat_lt _)).mono ?_); rintro e w' ⟨rfl, rfl⟩))
          | (go_at_call 103; ((with_reducible refine (hex_val _ true h2 _ (UInt8.toNat_lt _)).mono ?_); rintro e w' ⟨rfl, rfl⟩))
          | (go_at_call 152; ((with_reducible refine (publicUint2 _ _ HX.out.1 HX.out.2).mono ?_); rintro e w' ⟨n, hn, rfl, hf⟩)))
        all_goals first
          | (go_ret2; exact escOut_mk _ (by omega) (by omega) (by omega) (by omega) (Fr.refl _ w))
          | (go_ret2; exact escOut_mk _ (by omega) (by omega) (by omega) (by omega) hf)
  · go_enter Tryz.func108, Tryz.ntmps108
    go_wp2
    all_goals (go_ret2; exact escOut_mk _ (by omega) (by omega) (by omega) (by omega) (Fr.refl _ w))
end Go.Proofs.YtjagjjdkgidkjaaGreatDoor
