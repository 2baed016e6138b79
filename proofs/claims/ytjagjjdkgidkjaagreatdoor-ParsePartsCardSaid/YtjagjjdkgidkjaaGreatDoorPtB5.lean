/- The lexer: a part (Nu) of the proof that the law ParseParts answers true. No condition. -/
import Derived.Test.YtjagjjdkgidkjaaGreatDoorPtA2
set_option linter.all false
namespace Go.Proofs.YtjagjjdkgidkjaaGreatDoor
open Go Go.RowKit
set_option maxRecDepth 1000000
/-- These bytes are ASCII. -/
def Seg (s : ByteArray) (i n : Int) : Prop := ∀ j (h : j < s.size), i ≤ (j : Int) → (j : Int) < i + n → (s[j]'h).toNat < 128
theorem runF_all (p : Nat → Bool) : ∀ (l : List UInt8) (j : Nat) (h : j < l.length), j < runF p l → p (l[j]'h).toNat = true
  | [], j, h, _ => by simp at h
  | c :: l, 0, _, hj => by
    unfold runF at hj
    split at hj
    · assumption
    · omega
  | c :: l, j + 1, h, hj => by
    unfold runF at hj
    split at hj
    · exact runF_all p l j (by simpa using h) (by omega)
    · omega
theorem seg_run (p : Nat → Bool) (hp : ∀ c, p c = true → c < 128) (s : ByteArray) (i : Int) (n : Nat) (h0 : 0 ≤ i) (hn : n = runF p (s.data.toList.drop i.toNat)) : Seg s i n := by
  intro j hj h1 h2
  have hl : s.data.toList.length = s.size := rfl
  have h3 : j - i.toNat < (s.data.toList.drop i.toNat).length := by rw [List.length_drop, hl]; omega
  have h4 := runF_all p _ (j - i.toNat) h3 (by omega)
  rw [List.getElem_drop] at h4
  have e : i.toNat + (j - i.toNat) = j := by omega
  simp only [e] at h4
  exact hp _ h4
theorem digit_ascii (c : Nat) (h : isDigit c = true) : c < 128 := by unfold isDigit at h; have := of_decide_eq_true h; omega
theorem hex_ascii (c : Nat) (h : isHex c = true) : c < 128 := by unfold isHex at h; have := of_decide_eq_true h; omega
theorem runS_61 (s : ByteArray) (i : Int) (w : World) (hs : s.size ≤ maxLen) (h0 : 0 ≤ i) (hi : i ≤ s.size) :
    Calls Tryz.prog 59 #[.string s, .int .i64 i, .func (.func 61) #[] #[]] w fun e w' => ∃ n : Nat, Hid (Seg s i n) ∧ i + n ≤ s.size ∧ e = .returned (.int .i64 n) ∧ w = w' :=
  (runN_61 s i w hs h0 hi).mono fun _ _ ⟨n, hn, hle, he, hw⟩ => ⟨n, Lib.hid (seg_run _ digit_ascii s i n h0 hn.out), hle, he, hw⟩
theorem runS_103 (s : ByteArray) (i : Int) (w : World) (hs : s.size ≤ maxLen) (h0 : 0 ≤ i) (hi : i ≤ s.size) :
    Calls Tryz.prog 59 #[.string s, .int .i64 i, .func (.func 103) #[] #[]] w fun e w' => ∃ n : Nat, Hid (Seg s i n) ∧ i + n ≤ s.size ∧ e = .returned (.int .i64 n) ∧ w = w' :=
  (runN_103 s i w hs h0 hi).mono fun _ _ ⟨n, hn, hle, he, hw⟩ => ⟨n, Lib.hid (seg_run _ hex_ascii s i n h0 hn.out), hle, he, hw⟩
/-- A count of ASCII bytes, and the world as it was. -/
def NumOut (s : ByteArray) (w : World) (e : Ending) (w' : World) : Prop := ∃ n : Nat, e = .returned (.int .i64 n) ∧ n ≤ s.size ∧ Seg s 0 n ∧ w = w'
theorem numOut_mk {s : ByteArray} {w : World} {x : Int} (h0 : 0 ≤ x) (h : x ≤ s.size) (hs : Seg s 0 x) : NumOut s w (.returned (.int .i64 x)) w :=
  ⟨x.toNat, by rw [Int.toNat_of_nonneg h0], by omega, by rw [Int.toNat_of_nonneg h0]; exact hs, rfl⟩
theorem seg_nil (s : ByteArray) : Seg s 0 0 := fun j _ h1 h2 => by omega
theorem seg_app {s : ByteArray} {i a b : Int} (h : Seg s i a) (k : Seg s (i + a) b) : Seg s i (a + b) := fun j hj h1 h2 => by
  by_cases hl : (j : Int) < i + a
  · exact h j hj h1 hl
  · exact k j hj (by omega) (by omega)
theorem seg_one {s : ByteArray} {k : Nat} (h : k < s.size) (hc : (s[k]'h).toNat < 128) : Seg s k 1 := fun j hj h1 h2 => by
  obtain rfl : j = k := by omega
  exact hc
theorem segA {s : ByteArray} {a b : Nat} (h1 : Hid (Seg s 0 a)) (hd : a < s.size) (hc : (s[a]'hd).toNat < 128) (h2 : Hid (Seg s (a + 1) b)) : Seg s 0 (a + (1 + b)) := by
  have h3 := seg_app (seg_one hd hc) h2.out
  exact seg_app h1.out (by simpa using h3)
theorem segE {s : ByteArray} {x : Int} {k n : Nat} (hx : x = k) (h1 : Seg s 0 x) (hd : k < s.size) (hc : (s[k]'hd).toNat < 128) (h2 : Hid (Seg s (x + 1) n)) : Seg s 0 (x + 1 + n) := by
  subst hx
  exact seg_app (seg_app h1 (by simpa using seg_one hd hc)) (by simpa using h2.out)
theorem segE2 {s : ByteArray} {x : Int} {k n : Nat} (hx : x = k) (h1 : Seg s 0 x) (hd : k + 1 < s.size) (hc : (s[k]'(by omega)).toNat < 128) (hc' : (s[k + 1]'hd).toNat < 128) (h2 : Hid (Seg s (x + 1 + 1) n)) : Seg s 0 (x + 1 + 1 + n) := by
  subst hx
  have h3 : Seg s ((k : Int) + 1) 1 := seg_one hd hc'
  exact seg_app (seg_app (seg_app h1 (by simpa using seg_one _ hc)) (by simpa using h3)) (by simpa using h2.out)
set_option maxHeartbeats 8000000 in
theorem number_dec' (s : ByteArray) (w : World) (hs : s.size ≤ maxLen) (h1 : Lib.hasPrefix s.data.toList [48, 120] = false) (h2 : Lib.hasPrefix s.data.toList [48, 88] = false) :
    Calls Tryz.prog 62 #[.string s] w (NumOut s w) := by
  have hs' := hs
  unfold maxLen at hs'
  have HS := Lib.hid hs; clear hs
  go_enter Tryz.func62, Tryz.ntmps62
  go_wp2_with (first
    | (go_at_call 66; ((with_reducible refine (prefix_any _ _ _).mono ?_); rintro e w' ⟨rfl, rfl⟩))
    | (go_at_call 59; ((with_reducible refine (runS_61 _ 0 _ HS.out (by omega) (by omega)).mono ?_); rintro e w' ⟨a, ha, hla, rfl, rfl⟩))
    | (go_at_call 59; ((with_reducible refine (runS_61 _ ((a : Int) + 1) _ HS.out (by omega) (by omega)).mono ?_); rintro e w' ⟨b, hb, hlb, rfl, rfl⟩))
    | (go_at_call 59; ((with_reducible refine (runS_61 _ _ _ HS.out (by omega) (by omega)).mono ?_); rintro e w' ⟨d, hd, hld, rfl, rfl⟩)))
  all_goals
    go_ret
    first
      | exact numOut_mk (by omega) (by omega) (seg_nil s)
      | (refine numOut_mk (by omega) (by omega) ?_
         try simp only [beq_iff_eq] at *
         first
           | exact ha.out
           | exact segA ha (by omega) (by omega) hb
           | exact segE (k := a + (1 + b)) (by simp) (segA ha (by omega) (by omega) hb) (by omega) (by omega) hd
           | exact segE2 (k := a + (1 + b)) (by simp) (segA ha (by omega) (by omega) hb) (by omega) (by omega) (by omega) hd
           | exact segE (k := a) rfl ha.out (by omega) (by omega) hb
           | exact segE2 (k := a) rfl ha.out (by omega) (by omega) (by omega) hd)
theorem pre_two {s : ByteArray} {x y : UInt8} (h : Lib.hasPrefix s.data.toList [x, y] = true) : ∃ h0 : 1 < s.size, s[0]'(by omega) = x ∧ s[1]'h0 = y := by
  have h2 := prefix_size h
  unfold Lib.hasPrefix at h
  obtain ⟨t, ht⟩ := List.isPrefixOf_iff_prefix.1 h
  have e0 : s.data.toList[0]? = some x := by rw [← ht]; rfl
  have e1 : s.data.toList[1]? = some y := by rw [← ht]; rfl
  refine ⟨by omega, ?_, ?_⟩
  · rw [List.getElem?_eq_getElem (by simpa using (by omega : 0 < s.size))] at e0
    exact Option.some.inj e0
  · rw [List.getElem?_eq_getElem (by simpa using (by omega : 1 < s.size))] at e1
    exact Option.some.inj e1
theorem seg_hex {s : ByteArray} {n : Nat} (h1 : 1 < s.size) (c0 : (s[0]'(by omega)).toNat < 128) (c1 : (s[1]'h1).toNat < 128) (h : Hid (Seg s 2 n)) : Seg s 0 (2 + n) := by
  intro j hj ha hb
  rcases (show j = 0 ∨ j = 1 ∨ 2 ≤ j by omega) with rfl | rfl | h2
  · exact c0
  · exact c1
  · exact h.out j hj (by omega) (by omega)
set_option maxHeartbeats 16000000 in
theorem number_seg (s : ByteArray) (w : World) (hs : s.size ≤ maxLen) : Calls Tryz.prog 62 #[.string s] w (NumOut s w) := by
  by_cases h1 : Lib.hasPrefix s.data.toList [48, 120] = true ∨ Lib.hasPrefix s.data.toList [48, 88] = true
  case neg =>
    simp only [not_or, Bool.not_eq_true] at h1
    exact number_dec' s w hs h1.1 h1.2
  obtain ⟨h2, c0, c1⟩ : ∃ h0 : 1 < s.size, (s[0]'(by omega)).toNat < 128 ∧ (s[1]'h0).toNat < 128 := by
    rcases h1 with h | h
    · obtain ⟨a, b, d⟩ := pre_two h
      exact ⟨a, by rw [b]; decide, by rw [d]; decide⟩
    · obtain ⟨a, b, d⟩ := pre_two h
      exact ⟨a, by rw [b]; decide, by rw [d]; decide⟩
  have h2' : 2 ≤ s.size := h2
  clear h1
  have hs' := hs
  unfold maxLen at hs'
  have HS := Lib.hid hs; clear hs
  go_enter Tryz.func62, Tryz.ntmps62
  go_upto_if 14 with (first
    | (go_at_call 66; ((with_reducible refine (prefix_any _ _ _).mono ?_); rintro e w' ⟨rfl, rfl⟩)))
  all_goals go_cut [] (fun wx => w = wx)
  case first | first =>
    go_wp2_with (first
      | (go_at_call 66; ((with_reducible refine (prefix_any _ _ _).mono ?_); rintro e w' ⟨rfl, rfl⟩))
      | (go_at_call 59; ((with_reducible refine (runS_103 _ _ _ HS.out (by omega) (by omega)).mono ?_); rintro e w' ⟨n, hn, hle, rfl, rfl⟩)))
    all_goals first
      | (go_ret; exact numOut_mk (by omega) (by omega) (seg_hex h2 c0 c1 hn))
      | (go_meet; exact rfl)
  case rest | rest =>
    obtain rfl := hcut
    go_wp2_with (first
      | (go_at_call 59; ((with_reducible refine (runS_61 _ 0 _ HS.out (by omega) (by omega)).mono ?_); rintro e w' ⟨a, ha, hla, rfl, rfl⟩))
      | (go_at_call 59; ((with_reducible refine (runS_61 _ ((a : Int) + 1) _ HS.out (by omega) (by omega)).mono ?_); rintro e w' ⟨b, hb, hlb, rfl, rfl⟩))
      | (go_at_call 59; ((with_reducible refine (runS_61 _ _ _ HS.out (by omega) (by omega)).mono ?_); rintro e w' ⟨d, hd, hld, rfl, rfl⟩)))
    all_goals
      go_ret
      first
        | exact numOut_mk (by omega) (by omega) (seg_nil s)
        | (refine numOut_mk (by omega) (by omega) ?_
           try simp only [beq_iff_eq] at *
           first
             | exact ha.out
             | exact segA ha (by omega) (by omega) hb
             | exact segE (k := a + (1 + b)) (by simp) (segA ha (by omega) (by omega) hb) (by omega) (by omega) hd
             | exact segE2 (k := a + (1 + b)) (by simp) (segA ha (by omega) (by omega) hb) (by omega) (by omega) (by omega) hd
             | exact segE (k := a) rfl ha.out (by omega) (by omega) hb
             | exact segE2 (k := a) rfl ha.out (by omega) (by omega) (by omega) hd)

end Go.Proofs.YtjagjjdkgidkjaaGreatDoor
