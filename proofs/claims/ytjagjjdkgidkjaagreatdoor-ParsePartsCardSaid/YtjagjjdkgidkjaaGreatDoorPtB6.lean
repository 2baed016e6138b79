/- The lexer: a part (On Op Sk To) of the proof that the law ParseParts answers true. No condition. -/
import Derived.Test.YtjagjjdkgidkjaaGreatDoorPtB5
import Derived.Test.YtjagjjdkgidkjaaGreatDoorPtB4
import Derived.Test.YtjagjjdkgidkjaaGreatDoorPtA8
import Derived.Test.YtjagjjdkgidkjaaGreatDoorPtA7
import Derived.Lib.RuneCountTail
import Derived.Deep.AppendLies
set_option linter.all false
namespace Go.Proofs.YtjagjjdkgidkjaaGreatDoor
open Go Go.RowKit
set_option maxRecDepth 1000000
def OneOut (s : ByteArray) (w : World) (e : Ending) (w' : World) : Prop :=
  ∃ (kind n : Nat) (t : ByteArray), e = .returned (.tuple #[.agg #[.int .i64 kind, .string t, .int .i64 0], .int .i64 n]) ∧ kind ≤ 5 ∧ (n ≠ 0 → 1 ≤ kind) ∧ t.size ≤ 4 * s.size ∧ n ≤ s.size ∧ (kind = 2 → Seg s 0 n) ∧ Fr none_ w w'
def signRow : Array Value := #[.string ⟨#[33, 61]⟩, .string ⟨#[61, 126]⟩, .string ⟨#[33, 126]⟩, .string ⟨#[61, 61]⟩, .string ⟨#[62, 61]⟩, .string ⟨#[60, 61]⟩, .string ⟨#[40]⟩, .string ⟨#[41]⟩, .string ⟨#[123]⟩, .string ⟨#[125]⟩, .string ⟨#[91]⟩, .string ⟨#[93]⟩, .string ⟨#[44]⟩, .string ⟨#[61]⟩, .string ⟨#[43]⟩, .string ⟨#[45]⟩, .string ⟨#[42]⟩, .string ⟨#[47]⟩, .string ⟨#[37]⟩, .string ⟨#[94]⟩, .string ⟨#[62]⟩, .string ⟨#[60]⟩]
set_option maxHeartbeats 1000000 in
theorem signs_any (w : World) : Calls Tryz.prog 65 #[] w fun e w' => e = .returned (.slice (some ⟨w.heap.size, 0, none⟩) 22 22) ∧ w' = w.alloc (.cells signRow 9) := by
  go_enter Tryz.func65, Tryz.ntmps65
  go_wp2
  go_ret
  simp [signRow]
theorem sign_cell (w : World) (i : Nat) (h : i < 22) : ∃ t : ByteArray, 1 ≤ t.size ∧ t.size ≤ 2 ∧ (w.alloc (.cells signRow 9)).cell? ⟨w.heap.size, i, none⟩ = some (.string t) := by
  simp only [World.cell?_alloc_new]
  have : ∀ i, i < 22 → ∃ t : ByteArray, 1 ≤ t.size ∧ t.size ≤ 2 ∧ signRow[i]? = some (.string t) := by
    intro i hi
    match i, hi with
    | 0, _ | 1, _ | 2, _ | 3, _ | 4, _ | 5, _ | 6, _ | 7, _ | 8, _ | 9, _ | 10, _ | 11, _ | 12, _ | 13, _ | 14, _ | 15, _ | 16, _ | 17, _ | 18, _ | 19, _ | 20, _ | 21, _ => exact ⟨_, by decide, by decide, rfl⟩
    | i + 22, h => exact absurd h (by omega)
  exact this i h
theorem bt_val {g : FuncId} {p : Nat → Bool} (h : BT g p) (c : Nat) (w : World) (hc : c < 256) : Calls Tryz.prog g #[.int .u8 c] w fun e w' => ∃ b : Bool, e = .returned (.bool b) ∧ w = w' :=
  (h c w hc).mono fun _ _ ⟨he, hw⟩ => ⟨_, he, hw⟩
theorem bt_of {g : FuncId} {p : Nat → Bool} (h : BT g p) (c : Nat) (b : Bool) (hb : p c = b) (w : World) (hc : c < 256) : Calls Tryz.prog g #[.int .u8 c] w fun e w' => e = .returned (.bool b) ∧ w = w' := hb ▸ h c w hc
theorem ext_size (s : ByteArray) (n : Nat) (h : n ≤ s.size) : (s.extract 0 n).size ≤ 4 * s.size := by rw [ByteArray.size_extract]; omega
theorem oneOut_mk {s : ByteArray} {w w' : World} (kind n : Nat) (t : ByteArray) (h5 : kind ≤ 5) (h1 : n ≠ 0 → 1 ≤ kind) (ht : t.size ≤ 4 * s.size) (hn : n ≤ s.size) (hk : kind = 2 → Seg s 0 n) (hf : Fr none_ w w') :
    OneOut s w (.returned (.tuple #[.agg #[.int .i64 kind, .string t, .int .i64 0], .int .i64 n])) w' := ⟨kind, n, t, rfl, h5, h1, ht, hn, hk, hf⟩
set_option maxHeartbeats 16000000 in
theorem one_letter (s : ByteArray) (w : World) (hs : s.size ≤ 262144) (h0 : 0 < s.size) (hl : isLetter (s[0]'h0).toNat = true) : Calls Tryz.prog 35 #[.string s] w (OneOut s w) := by
  have HS : s.size ≤ maxLen := by unfold maxLen; omega
  have hb0 : (s[0]'h0).toNat < 256 := UInt8.toNat_lt _
  go_enter Tryz.func35, Tryz.ntmps35
  go_wp2_with (first
    | (go_at_call 58; ((with_reducible refine (bt_of letter_bt _ true hl _ (by exact UInt8.toNat_lt _)).mono ?_); rintro e w' ⟨rfl, rfl⟩))
    | (go_at_call 59; ((with_reducible refine (runN_60 _ _ _ HS (by omega) (by omega)).mono ?_); rintro e w' ⟨n, hn, hn1, rfl, rfl⟩)))
  refine bodyPost_ret (v := .tuple #[.agg #[.int .i64 1, .string (s.extract 0 n), .int .i64 0], .int .i64 n]) ?_ rfl (oneOut_mk 1 n _ (by decide) (fun _ => by decide) (ext_size s n (by omega)) (by omega) (fun h => by omega) ((Fr.refl _ w).alloc _))
  simp [results, Tryz.f35, go_sem]
set_option maxHeartbeats 16000000 in
theorem one_number (s : ByteArray) (w : World) (hs : s.size ≤ 262144) (h0 : 0 < s.size) (hl : isLetter (s[0]'h0).toNat = false) (hd : isDigit (s[0]'h0).toNat = true ∨ (isDigit (s[0]'h0).toNat = false ∧ (((s[0]'h0).toNat : Int) == 46) = true)) : Calls Tryz.prog 35 #[.string s] w (OneOut s w) := by
  have HS : s.size ≤ maxLen := by unfold maxLen; omega
  have hb0 : (s[0]'h0).toNat < 256 := UInt8.toNat_lt _
  rcases hd with hd | ⟨hd, h46⟩
  all_goals
    go_enter Tryz.func35, Tryz.ntmps35
    go_upto_if 42 with (first
      | (go_at_call 58; ((with_reducible refine (bt_of letter_bt _ false hl _ (by exact UInt8.toNat_lt _)).mono ?_); rintro e w' ⟨rfl, rfl⟩))
      | (go_at_call 61; (first | (with_reducible refine (bt_of digit_bt _ true hd _ (by exact UInt8.toNat_lt _)).mono ?_) | (with_reducible refine (bt_of digit_bt _ false hd _ (by exact UInt8.toNat_lt _)).mono ?_)); rintro e w' ⟨rfl, rfl⟩)
      | (go_at_call 62; ((with_reducible refine (number_seg _ _ HS).mono ?_); rintro e w' ⟨n, rfl, hn, hseg, rfl⟩; have HG := Lib.hid hseg; clear hseg))
      | (go_at_call 63; ((with_reducible refine (span_lex _ _ (by omega)).mono ?_); rintro e w2 ⟨m, ms, hm, rfl, f2⟩; have n2 := f2.get (heap_alloc_new w (.cells #[.int .i64 0, .string ⟨#[]⟩, .int .i64 0] 41)) id; have F2 : Fr none_ w w2 := ((Fr.refl _ w).alloc _).none2 f2)))
    go_cut [6, 7] (fun v6 v7 wx => ∃ K L : Nat, v6 = .int .i64 K ∧ v7 = .int .i64 L ∧ (2 ≤ K ∧ K ≤ 3) ∧ L ≤ s.size ∧ Hid (K = 2 → Seg s 0 L) ∧ w2 = wx)
    case first =>
      go_wp2
      all_goals go_meet
      · exact ⟨3, m, rfl, rfl, by omega, hm, Lib.hid (fun h => by omega), rfl⟩
      · exact ⟨2, n, rfl, rfl, by omega, hn, Lib.hid (fun _ => HG.out), rfl⟩
    case rest =>
      obtain ⟨K, L, rfl, rfl, ⟨hK2, hK3⟩, hL, hS, rfl⟩ := hcut
      clear hn hm HG f2
      have c0 := cell_at' n2 0
      have c1 := cell_at' n2 1
      have c2 := cell_at' n2 2
      simp only [List.getElem?_toArray, List.getElem?_cons_zero, List.getElem?_cons_succ] at c0 c1 c2
      have zz : ∀ j, w2.frozen? ⟨w.heap.size, j, none⟩ = false := fun j => by simp [World.frozen?, n2]
      have hq := size_of_get n2
      have Fs : ∀ a b d : Value, Fr none_ w (((w2.setCell ⟨w.heap.size, 0, none⟩ a).setCell ⟨w.heap.size, 1, none⟩ b).setCell ⟨w.heap.size, 2, none⟩ d) := fun a b d => ((F2.own (Nat.le_refl _) 0 a).own (Nat.le_refl _) 1 b).own (Nat.le_refl _) 2 d
      have FS := Lib.hid Fs; clear Fs
      by_cases hlt : L < s.size
      · go_wp2_with (first
          | (go_at_call 58; ((with_reducible refine (bt_val letter_bt _ _ (by exact UInt8.toNat_lt _)).mono ?_); rintro e w' ⟨b, rfl, rfl⟩; cases b))
          | (go_at_call 61; ((with_reducible refine (bt_val digit_bt _ _ (by exact UInt8.toNat_lt _)).mono ?_); rintro e w' ⟨b, rfl, rfl⟩; cases b)))
        all_goals first
          | (refine bodyPost_ret (v := .tuple #[.agg #[.int .i64 0, .string ⟨#[]⟩, .int .i64 0], .int .i64 0]) ?_ rfl (oneOut_mk 0 0 _ (by decide) (fun h => absurd rfl h) (by show 0 ≤ _; omega) (by omega) (fun h => by omega) (FS.out _ _ _))
             simp [results, Tryz.f35, go_sem, *]
             done)
          | (refine bodyPost_ret (v := .tuple #[.agg #[.int .i64 K, .string (s.extract 0 L), .int .i64 0], .int .i64 L]) ?_ rfl (oneOut_mk K L _ (by omega) (fun _ => by omega) (ext_size s L hL) hL hS.out (FS.out _ _ _))
             simp [results, Tryz.f35, go_sem, *]
             done)
      · go_wp2
        all_goals first
          | (refine bodyPost_ret (v := .tuple #[.agg #[.int .i64 K, .string (s.extract 0 L), .int .i64 0], .int .i64 L]) ?_ rfl (oneOut_mk K L _ (by omega) (fun _ => by omega) (ext_size s L hL) hL hS.out (FS.out _ _ _))
             simp [results, Tryz.f35, go_sem, *]
             done)
end Go.Proofs.YtjagjjdkgidkjaaGreatDoor
namespace Go.Proofs.YtjagjjdkgidkjaaGreatDoor
open Go Go.RowKit
set_option maxRecDepth 1000000
theorem prefix_le {s t : ByteArray} (h : Lib.hasPrefix s.data.toList t.data.toList = true) : t.size ≤ s.size := by
  unfold Lib.hasPrefix at h
  exact (List.isPrefixOf_iff_prefix.1 h).length_le
set_option maxHeartbeats 16000000 in
theorem one_quote {W0 : World} (hL : Laid W0) (s : ByteArray) (w : World) (hs : s.size ≤ 262144) (h0 : 0 < s.size) (g : Gw W0 w) (hl : isLetter (s[0]'h0).toNat = false) (hd : isDigit (s[0]'h0).toNat = false) (h46 : (((s[0]'h0).toNat : Int) == 46) = false)
    (hq : (((s[0]'h0).toNat : Int) == 34) = true ∨ ((((s[0]'h0).toNat : Int) == 34) = false ∧ (((s[0]'h0).toNat : Int) == 39) = true)) : Calls Tryz.prog 35 #[.string s] w (OneOut s w) := by
  have hb0 : (s[0]'h0).toNat < 256 := UInt8.toNat_lt _
  have g1 : Gw W0 (w.alloc (.cells #[.int .i64 0, .string ⟨#[]⟩, .int .i64 0] 41)) := g.fr ((Fr.refl _ w).alloc _)
  rcases hq with hq | ⟨h34, hq⟩
  all_goals
    go_enter Tryz.func35, Tryz.ntmps35
    go_wp2_with (first
      | (go_at_call 58; ((with_reducible refine (bt_of letter_bt _ false hl _ (by exact UInt8.toNat_lt _)).mono ?_); rintro e w' ⟨rfl, rfl⟩))
      | (go_at_call 61; ((with_reducible refine (bt_of digit_bt _ false hd _ (by exact UInt8.toNat_lt _)).mono ?_); rintro e w' ⟨rfl, rfl⟩)))
    refine (quoted_any hL _ _ hs h0 g1).mono ?_
    rintro e w2 ⟨t, n, ht, hn, rfl, f2⟩
    have n2 := f2.get (heap_alloc_new w (.cells #[.int .i64 0, .string ⟨#[]⟩, .int .i64 0] 41)) id
    have F2 : Fr none_ w w2 := ((Fr.refl _ w).alloc _).none2 f2
    have c0 := cell_at' n2 0
    have c1 := cell_at' n2 1
    have c2 := cell_at' n2 2
    simp only [List.getElem?_toArray, List.getElem?_cons_zero, List.getElem?_cons_succ] at c0 c1 c2
    have zz : ∀ j, w2.frozen? ⟨w.heap.size, j, none⟩ = false := fun j => by simp [World.frozen?, n2]
    have hqz := size_of_get n2
    go_wp2
    have Fs : ∀ a b d : Value, Fr none_ w (((w2.setCell ⟨w.heap.size, 0, none⟩ a).setCell ⟨w.heap.size, 1, none⟩ b).setCell ⟨w.heap.size, 2, none⟩ d) := fun a b d => ((F2.own (Nat.le_refl _) 0 a).own (Nat.le_refl _) 1 b).own (Nat.le_refl _) 2 d
    refine bodyPost_ret (v := .tuple #[.agg #[.int .i64 4, .string t, .int .i64 0], .int .i64 n]) ?_ rfl (oneOut_mk 4 n _ (by omega) (fun _ => by omega) ht hn (fun h => by omega) (Fs _ _ _))
    simp [results, Tryz.f35, go_sem, *]
set_option maxHeartbeats 16000000 in
theorem one_sign (s : ByteArray) (w : World) (h0 : 0 < s.size) (hl : isLetter (s[0]'h0).toNat = false) (hd : isDigit (s[0]'h0).toNat = false) (h46 : (((s[0]'h0).toNat : Int) == 46) = false)
    (h34 : (((s[0]'h0).toNat : Int) == 34) = false) (h39 : (((s[0]'h0).toNat : Int) == 39) = false) : Calls Tryz.prog 35 #[.string s] w (OneOut s w) := by
  have hb0 : (s[0]'h0).toNat < 256 := UInt8.toNat_lt _
  go_enter Tryz.func35, Tryz.ntmps35
  go_wp2_with (first
    | (go_at_call 58; ((with_reducible refine (bt_of letter_bt _ false hl _ (by exact UInt8.toNat_lt _)).mono ?_); rintro e w' ⟨rfl, rfl⟩))
    | (go_at_call 61; ((with_reducible refine (bt_of digit_bt _ false hd _ (by exact UInt8.toNat_lt _)).mono ?_); rintro e w' ⟨rfl, rfl⟩))
    | (go_at_call 65; ((with_reducible refine (signs_any _).mono ?_); rintro e w' ⟨rfl, rfl⟩)))
  have HU := Lib.hid (sign_cell (w.alloc (.cells #[.int .i64 0, .string ⟨#[]⟩, .int .i64 0] 41)))
  simp only [World.size_alloc] at HU ⊢
  go_loopw [90] (fun v wr => ∃ i : Nat, i ≤ 22 ∧ v = .int .i64 i ∧ Fr none_ ((w.alloc (.cells #[.int .i64 0, .string ⟨#[]⟩, .int .i64 0] 41)).alloc (.cells signRow 9)) wr) (fun v _ => 22 - (intOf v).toNat)
  case atStart => exact ⟨0, by omega, rfl, Fr.refl _ _⟩
  case round =>
    obtain ⟨i, hi, rfl, hg⟩ := hrel
    have n2 := hg.get (heap_new1 w (.cells #[.int .i64 0, .string ⟨#[]⟩, .int .i64 0] 41) (.cells signRow 9)) id
    have F2 : Fr none_ w wr := (((Fr.refl _ w).alloc _).alloc _).none2 hg
    have c0 := cell_at' n2 0
    have c1 := cell_at' n2 1
    have c2 := cell_at' n2 2
    simp only [List.getElem?_toArray, List.getElem?_cons_zero, List.getElem?_cons_succ] at c0 c1 c2
    have zz : ∀ j, wr.frozen? ⟨w.heap.size, j, none⟩ = false := fun j => by simp [World.frozen?, n2]
    have hqz := size_of_get n2
    have Fs : ∀ a b d : Value, Fr none_ w (((wr.setCell ⟨w.heap.size, 0, none⟩ a).setCell ⟨w.heap.size, 1, none⟩ b).setCell ⟨w.heap.size, 2, none⟩ d) := fun a b d => ((F2.own (Nat.le_refl _) 0 a).own (Nat.le_refl _) 1 b).own (Nat.le_refl _) 2 d
    have FS := Lib.hid Fs; clear Fs
    by_cases hlt : i < 22
    · obtain ⟨t, ht1, ht2, ht⟩ := HU.out i hlt
      have r0 := hg.cell ht id
      clear ht
      go_wp2_with (first
        | (go_at_call 66; ((with_reducible refine (prefix_any _ _ _).mono ?_); rintro e w' ⟨rfl, rfl⟩; cases hp : Lib.hasPrefix s.data.toList t.data.toList)))
      · go_roundw
        case rel => exact ⟨i + 1, by omega, by go_num, hg⟩
        case measure => simp [intOf]; omega
      · have hle := prefix_le hp
        refine bodyPost_ret (v := .tuple #[.agg #[.int .i64 5, .string t, .int .i64 0], .int .i64 t.size]) ?_ rfl (oneOut_mk 5 t.size _ (by omega) (fun _ => by omega) (by omega) hle (fun h => by omega) (FS.out _ _ _))
        simp [results, Tryz.f35, go_sem, *]
    · go_wp2
      refine bodyPost_ret (v := .tuple #[.agg #[.int .i64 0, .string ⟨#[]⟩, .int .i64 0], .int .i64 0]) ?_ rfl (oneOut_mk 0 0 _ (by decide) (fun h => absurd rfl h) (by show 0 ≤ _; omega) (by omega) (fun h => by omega) (FS.out _ _ _))
      simp [results, Tryz.f35, go_sem, *]
theorem one_any {W0 : World} (hL : Laid W0) (s : ByteArray) (w : World) (hs : s.size ≤ 262144) (h0 : 0 < s.size) (g : Gw W0 w) : Calls Tryz.prog 35 #[.string s] w (OneOut s w) := by
  cases hl : isLetter (s[0]'h0).toNat
  case true => exact one_letter s w hs h0 hl
  cases hd : isDigit (s[0]'h0).toNat
  case true => exact one_number s w hs h0 hl (.inl hd)
  cases h46 : (((s[0]'h0).toNat : Int) == 46)
  case true => exact one_number s w hs h0 hl (.inr ⟨hd, h46⟩)
  cases h34 : (((s[0]'h0).toNat : Int) == 34)
  case true => exact one_quote hL s w hs h0 g hl hd h46 (.inl h34)
  cases h39 : (((s[0]'h0).toNat : Int) == 39)
  case true => exact one_quote hL s w hs h0 g hl hd h46 (.inr ⟨h34, h39⟩)
  exact one_sign s w h0 hl hd h46 h34 h39
end Go.Proofs.YtjagjjdkgidkjaaGreatDoor
namespace Go.Proofs.YtjagjjdkgidkjaaGreatDoor
open Go Go.RowKit
set_option maxRecDepth 1000000
def SkipOut (a m : Nat) (w : World) (e : Ending) (w' : World) : Prop := ∃ n : Nat, e = .returned (.int .i64 n) ∧ a ≤ n ∧ n ≤ m ∧ Fr none_ w w'
theorem skipOut_mk {a m : Nat} {w w' : World} {x : Int} (h1 : (a : Int) ≤ x) (h2 : x ≤ m) (h : Fr none_ w w') : SkipOut a m w (.returned (.int .i64 x)) w' := ⟨x.toNat, by rw [Int.toNat_of_nonneg (by omega)], by omega, by omega, h⟩
theorem fr_iter (w : World) (s : ByteArray) (pos : Nat) : Fr none_ w (w.iter s pos) := (Fr.refl _ w).alloc _
theorem width_le (s : ByteArray) (pos : Nat) (h : pos < s.size) : pos + (Utf8.decode s pos).2 ≤ s.size := by
  have h1 := Lib.decodeGo_le_size (s.extract pos s.size)
  unfold Lib.decodeGo at h1
  rw [if_neg (by rw [ByteArray.size_extract]; omega), Lib.tail_decode, ByteArray.size_extract] at h1
  simp only [Nat.add_zero, Nat.min_self] at h1
  omega
set_option maxHeartbeats 8000000 in
theorem skip_any (s : ByteArray) (a : Nat) (w : World) (hs : s.size ≤ 262144) (ha : a ≤ s.size) : Calls Tryz.prog 34 #[.string s, .int .i64 a] w (SkipOut a s.size w) := by
  have hz : (s.extract a s.size).size = s.size - a := by rw [ByteArray.size_extract]; omega
  go_enter Tryz.func34, Tryz.ntmps34
  go_wp2
  generalize s.extract a s.size = u at hz
  have hzl : u.size ≤ s.size - a := by omega
  clear hz
  go_loopw [5] (fun v wr => ∃ (pos : Nat) (b : Bool), v = .bool b ∧ wr = w.iter u pos ∧ pos ≤ u.size) (fun _ wr => u.size - wr.iterPos w.heap.size)
  case atStart => exact ⟨0, false, rfl, rfl, Nat.zero_le _⟩
  case round =>
    obtain ⟨pos, b, rfl, rfl, hp0⟩ := hrel
    by_cases hp : pos < u.size
    · have hnx : ∀ ty, (Instr.next (.pointer (some ⟨w.heap.size, 0, none⟩)) true ty).run Tryz.prog (w.iter u pos) = _ := fun ty => run_next_any w u pos ty hp
      have hwd := width_pos u pos hp
      have hwl := width_le u pos hp
      have hfr := fr_iter w u (pos + (Utf8.decode u pos).2)
      generalize (Utf8.decode u pos).2 = d at hwd hwl hfr hnx
      generalize (Utf8.decode u pos).1 = r at hnx
      cases b
      all_goals
        go_wp2
        all_goals first
          | (go_ret; exact skipOut_mk (by omega) (by omega) hfr)
          | exact ⟨⟨pos + d, _, rfl, rfl, hwl⟩, by simp; omega⟩
    · have hnx : ∀ ty, (Instr.next (.pointer (some ⟨w.heap.size, 0, none⟩)) true ty).run Tryz.prog (w.iter u pos) = _ := fun ty => run_next_end w u pos ty hp
      have hfr := fr_iter w u pos
      go_wp2
      all_goals first
        | (go_ret; exact skipOut_mk (by omega) (by omega) hfr)
end Go.Proofs.YtjagjjdkgidkjaaGreatDoor
namespace Go.Proofs.YtjagjjdkgidkjaaGreatDoor
open Go Go.RowKit
set_option maxRecDepth 1000000
theorem info41 : (Tryz.prog.info? 41).map (fun i => (i.zero, i.size, i.bytes)) = some (some (.agg #[.int .i64 0, .string ⟨#[]⟩, .int .i64 0]), 3, 32) := by kernel_rfl
theorem und35 : Tryz.prog.underlying 35 = some (.slice 41) := by kernel_rfl
def tcells (t : Tok) : List Value := [.int .i64 t.kind, .string t.text, .int .i64 t.at_]
theorem flat3 : ∀ (l : List Tok) (j : Nat) (h : j < l.length), ((l.map tcells).flatten)[j * 3]? = some (.int .i64 l[j].kind) ∧ ((l.map tcells).flatten)[j * 3 + 1]? = some (.string l[j].text) ∧ ((l.map tcells).flatten)[j * 3 + 2]? = some (.int .i64 l[j].at_)
  | [], j, h => by simp at h
  | t :: l, 0, _ => by simp [tcells]
  | t :: l, j + 1, h => by
    have ih := flat3 l j (by simpa using h)
    have e : ∀ q, ((List.map tcells (t :: l)).flatten)[(j + 1) * 3 + q]? = ((l.map tcells).flatten)[j * 3 + q]? := by
      intro q
      rw [List.map_cons, List.flatten_cons, List.getElem?_append_right (by simp [tcells]; omega)]
      congr 1
      simp [tcells]; omega
    exact ⟨(e 0).trans ih.1, (e 1).trans ih.2.1, (e 2).trans ih.2.2⟩
theorem flat_len (l : List Tok) : ((l.map tcells).flatten).length = l.length * 3 := by
  induction l with
  | nil => rfl
  | cons t l ih => simp only [List.map_cons, List.flatten_cons, List.length_append, ih, List.length_cons, tcells, List.length_nil]; omega
theorem own_cell {w : World} {base : Nat} {e : TypeId} {size g n cap : Nat} {xs : List Value} (h : w.ownsRow base e size (.slice (some ⟨g, 0, none⟩) n cap) n xs) (q : Nat) (v : Value) (hq : xs[q]? = some v) : w.cell? ⟨g, q, none⟩ = some v := by
  obtain ⟨hl, hh | ⟨g', cap', cur, he, hb, hg, _, _, _, ht⟩⟩ := h
  · exact absurd hh.1 (by simp)
  · simp only [Value.slice.injEq, Option.some.injEq, Addr.mk.injEq, and_true] at he
    obtain ⟨rfl, -, -⟩ := he
    rw [cell_at' hg q]
    rw [← ht, List.getElem?_take] at hq
    split at hq
    · simpa using hq
    · cases hq
theorem own_toks {w : World} {base g cap : Nat} {l : List Tok} (h : w.ownsRow base 41 3 (.slice (some ⟨g, 0, none⟩) l.length cap) l.length ((l.map tcells).flatten)) : Toks g l w := fun j hj =>
  ⟨own_cell h _ _ (flat3 l j hj).1, own_cell h _ _ (flat3 l j hj).2.1, own_cell h _ _ (flat3 l j hj).2.2⟩
/-- Tokens that may stand ahead of the last one. -/
def Inner (l : List Tok) : Prop := ∀ t ∈ l, 1 ≤ t.kind ∧ t.kind ≤ 5 ∧ t.text.size ≤ 262144
def TokOut (w : World) (e : Ending) (w' : World) : Prop :=
  ((∃ why at_ : Int, why ≠ 0 ∧ e = .returned (.tuple #[.slice none 0 0, .int .i64 why, .int .i64 at_])) ∧ Fr none_ w w') ∨
  (∃ (g cap : Nat) (l : List Tok) (z : Tok), e = .returned (.tuple #[.slice (some ⟨g, 0, none⟩) (l.length + 1 : Nat) cap, .int .i64 0, .int .i64 0]) ∧ w.heap.size ≤ g ∧ g < w'.heap.size ∧ Toks g (l ++ [z]) w' ∧ l.length + 1 ≤ 4096 ∧ Inner l ∧ z.kind = 0 ∧ z.text.size ≤ 262144 ∧ Fr none_ w w')
theorem tokOut_err {w w' : World} (why at_ : Int) (hw : why ≠ 0) (h : Fr none_ w w') : TokOut w (.returned (.tuple #[.slice none 0 0, .int .i64 why, .int .i64 at_])) w' := .inl ⟨⟨why, at_, hw, rfl⟩, h⟩
/-- The tokens so far. -/
def TkRel (s : ByteArray) (w : World) (v5 v6 : Value) (wr : World) : Prop :=
  ∃ (k : Nat) (l : List Tok), v6 = .int .i64 k ∧ k ≤ s.size ∧ l.length ≤ k ∧ wr.ownsRow w.heap.size 41 3 v5 l.length ((l.map tcells).flatten) ∧ Inner l ∧ Fr none_ w wr
theorem skip_int (s : ByteArray) (x : Int) (w : World) (hs : s.size ≤ 262144) (h0 : 0 ≤ x) (h1 : x ≤ s.size) : Calls Tryz.prog 34 #[.string s, .int .i64 x] w fun e w' => ∃ n : Nat, e = .returned (.int .i64 n) ∧ x ≤ n ∧ n ≤ s.size ∧ Fr none_ w w' := by
  obtain ⟨a, rfl⟩ : ∃ a : Nat, x = a := ⟨x.toNat, by omega⟩
  exact (skip_any s a w hs (by omega)).mono fun _ _ ⟨n, he, ha, hn, hf⟩ => ⟨n, he, by omega, hn, hf⟩
theorem tk_own {w w' : World} {base g cap : Nat} {l : List Tok} (t : Tok) (h : w.ownsRow base 41 3 (.slice (some ⟨g, 0, none⟩) (l.length + 1) cap) (l.length + 1) ((l.map tcells).flatten ++ tcells t)) (hf : Fr none_ w w') :
    w'.ownsRow base 41 3 (.slice (some ⟨g, 0, none⟩) (l.length + 1) cap) (l ++ [t]).length (((l ++ [t]).map tcells).flatten) := by
  have e : (((l ++ [t]).map tcells).flatten) = (l.map tcells).flatten ++ tcells t := by simp
  have e2 : (l ++ [t]).length = l.length + 1 := by simp
  rw [e, e2]
  exact ownsRow_keep h hf fun _ _ e => e
theorem inner_snoc {l : List Tok} (h : Inner l) {t : Tok} (h1 : 1 ≤ t.kind) (h5 : t.kind ≤ 5) (ht : t.text.size ≤ 262144) : Inner (l ++ [t]) := fun x hx => by
  rcases List.mem_append.1 hx with e | e
  · exact h x e
  · rw [List.mem_singleton.1 e]; exact ⟨h1, h5, ht⟩
theorem tokOut_ok {w w' : World} {g cap : Nat} {l : List Tok} {z : Tok} (h1 : w'.ownsRow w.heap.size 41 3 (.slice (some ⟨g, 0, none⟩) (l.length + 1) cap) (l ++ [z]).length (((l ++ [z]).map tcells).flatten)) (h2 : l.length + 1 ≤ 4096) (hi : Inner l) (hz : z.kind = 0) (hzt : z.text.size ≤ 262144) (hf : Fr none_ w w') :
    TokOut w (.returned (.tuple #[.slice (some ⟨g, 0, none⟩) (l.length + 1) cap, .int .i64 0, .int .i64 0])) w' := by
  have e2 : (l ++ [z]).length = l.length + 1 := by simp
  refine .inr ⟨g, cap, l, z, rfl, ?_, ?_, ?_, h2, hi, hz, hzt, hf⟩
  · exact (h1.lt g rfl).1
  · exact (h1.lt g rfl).2
  · rw [← e2] at h1
    exact own_toks h1
set_option maxHeartbeats 16000000 in
theorem tokens_any {W0 : World} (hL : Laid W0) (s : ByteArray) (w : World) (hs : s.size ≤ maxLen) (g : Gw W0 w) : Calls Tryz.prog 15 #[.string s] w (TokOut w) := by
  unfold maxLen at hs
  obtain ⟨i0, hi0, hz0, hz1, hz2⟩ := info_parts info41
  by_cases hbig : 65536 < s.size
  · go_enter Tryz.func15, Tryz.ntmps15
    go_wp2
    go_ret3
    exact tokOut_err _ _ (by decide) (Fr.refl _ w)
  have hsm : s.size ≤ 65536 := by omega
  go_enter Tryz.func15, Tryz.ntmps15
  go_wp2_with (first
    | (go_at_call 34; ((with_reducible refine (skip_int s 0 w (by omega) (by omega) (by omega)).mono ?_); rintro e w1 ⟨n, rfl, -, hn, f1⟩)))
  go_loopw [5, 6] (TkRel s w) (fun _ v _ => s.size - (intOf v).toNat)
  case atStart => exact ⟨n, [], rfl, hn, Nat.zero_le _, World.ownsRow_nil _ _ _ _, (fun t h => by simp at h), f1⟩
  case round =>
    clear f1
    obtain ⟨k, l, rfl, hk, hlk, hown, hin, hf⟩ := hrel
    have HO := Lib.hid hown; clear hown
    by_cases hlt : k < s.size
    · have hz : (s.extract k s.size).size = s.size - k := by rw [ByteArray.size_extract]; omega
      have hz1' : (s.extract k s.size).size ≤ 262144 := by omega
      have hz0' : 0 < (s.extract k s.size).size := by omega
      have HZ := Lib.hid hz; clear hz
      go_wp2_with (first
        | (go_at_call 35; ((with_reducible refine (one_any hL _ _ hz1' hz0' (g.fr hf)).mono ?_); rintro e w2 ⟨kind, n2, t, rfl, hk5, hk1, ht, hn2, -, f2⟩; rw [HZ.out] at ht hn2; have O2 := Lib.hid ((ownsRow_keep HO.out f2 fun _ _ e => e).alloc (.cells #[.int .i64 kind, .string t, .int .i64 k] 41)); have F2 : Fr none_ w w2 := hf.none2 f2; by_cases hz : n2 = 0))
        | (at_builtin; refine wpList_append_lies _ rfl (.tmp 30) (.tmp 32) 35 rfl w.heap.size 41 i0 _ 3 32 und35 hi0 hz0 hz1 hz2 rfl (by decide) _ l.length ((l.map tcells).flatten) rfl (O2.out.alloc _) ⟨w2.heap.size + 1, 0, none⟩ 1 1 [.int .i64 kind, .string t, .int .i64 k] rfl rfl (World.news_of_block (cs := #[.int .i64 kind, .string t, .int .i64 k]) (t := 41) (fr := (0, 0)) (heap_new2 w2 _ _)) (by simp [Value.oneCell']) (by decide) (by simp only [maxLen]; omega) (by omega) (by have := F2.size; simp; omega) _ rfl ?_; intro gg cap w4 hown4 hgrow hat hlt4; have F4 : Fr none_ w w4 := ((F2.alloc _).alloc _).grown hgrow (fun q hq hlt => by have := (O2.out.lt q hq).1; omega); have O4 := Lib.hid hown4; clear hown4)
        | (go_at_call 34; ((with_reducible refine (skip_int s _ _ (by omega) (by omega) (by omega)).mono ?_); rintro e w5 ⟨n5, rfl, ha5, hn5, f5⟩)))
      · go_ret3
        exact tokOut_err _ _ (by decide) (F2.alloc _)
      · go_roundw
        case rel => exact ⟨n5, l ++ [⟨kind, t, k⟩], rfl, hn5, by rw [List.length_append]; simp only [List.length_cons, List.length_nil]; omega, tk_own ⟨kind, t, k⟩ O4.out f5, inner_snoc hin (hk1 hz) hk5 (by show t.size ≤ _; omega), F4.none2 f5⟩
        case measure => simp [intOf]; omega
    · go_wp2_with (first
        | (at_builtin; refine wpList_append_lies _ rfl (.tmp 39) (.tmp 43) 35 rfl w.heap.size 41 i0 _ 3 32 und35 hi0 hz0 hz1 hz2 rfl (by decide) _ l.length ((l.map tcells).flatten) rfl (HO.out.alloc _) ⟨wr.heap.size, 0, none⟩ 1 1 [.int .i64 0, .string ⟨#[]⟩, .int .i64 s.size] rfl rfl (World.news_of_block (cs := #[.int .i64 0, .string ⟨#[]⟩, .int .i64 s.size]) (t := 41) (fr := (0, 0)) (heap_alloc_new wr _)) (by simp [Value.oneCell']) (by decide) (by simp only [maxLen]; omega) (by omega) (by have := hf.size; simp; omega) _ rfl ?_; intro gg cap w4 hown4 hgrow hat hlt4; have F4 : Fr none_ w w4 := (hf.alloc _).grown hgrow (fun q hq hlt => by have := (HO.out.lt q hq).1; omega); have O4 := Lib.hid hown4; clear hown4))
      all_goals first
        | (go_ret3; exact tokOut_err _ _ (by decide) F4)
        | (go_ret3; exact tokOut_ok (tk_own ⟨0, ⟨#[]⟩, s.size⟩ O4.out (Fr.refl _ w4)) (by omega) hin rfl (by show 0 ≤ _; omega) F4)
end Go.Proofs.YtjagjjdkgidkjaaGreatDoor
