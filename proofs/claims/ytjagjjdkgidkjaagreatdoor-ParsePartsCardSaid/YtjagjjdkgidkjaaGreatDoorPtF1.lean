/- Strconv's floating-point reading: a part (Fl Fm) of the proof that the law ParseParts answers true. No condition. -/
import Derived.Test.YtjagjjdkgidkjaaGreatDoorPtA4
import Derived.Test.YtjagjjdkgidkjaaGreatDoorPtB1
import Derived.Test.YtjagjjdkgidkjaaGreatDoorShelf
set_option linter.all false
namespace Go.Proofs.YtjagjjdkgidkjaaGreatDoor
open Go Go.RowKit
set_option maxRecDepth 1000000
theorem run_frombits329 (n : Int) (w : World) : Sem.run Tryz.prog (callFunc 329 #[.int .u64 n]) w = .ok (.value (.float .f64 n.toNat)) w := by
  rw [run_callFunc_extern (e := Extern.MathFloatBits.float64frombits) Tryz.func329 (by kernel_rfl) (by kernel_rfl) (by kernel_rfl) (by kernel_rfl)]
  rfl
/-- One value, the world as it was. -/
def ValOut (p : Value → Prop) (w : World) (e : Ending) (w' : World) : Prop := ∃ v, e = .returned v ∧ p v ∧ w = w'
theorem valOut_mk {p : Value → Prop} {w : World} {v : Value} (h : p v) : ValOut p w (.returned v) w := ⟨v, rfl, h, rfl⟩
def U8 (v : Value) : Prop := ∃ n : Nat, n < 256 ∧ v = .int .u8 n
def Bl (v : Value) : Prop := ∃ b : Bool, v = .bool b
def Fl64 (v : Value) : Prop := ∃ f : Nat, v = .float .f64 f
theorem bits_u8 (c : Nat) (h : c < 256) : ∃ n : Nat, n < 256 ∧ bits .or .u8 c 32 = n := by
  revert c
  decide
set_option maxHeartbeats 1000000 in
theorem lower_any (c : Nat) (w : World) (hc : c < 256) : Calls Tryz.prog 230 #[.int .u8 c] w (ValOut U8 w) :=
  (Tryz.internal_strconv_lower c w).mono fun _ _ ⟨he, hw⟩ => by
    obtain ⟨n, hn, h⟩ := bits_u8 c hc
    exact ⟨_, he, ⟨n, hn, by rw [h]⟩, hw.symm⟩
set_option maxHeartbeats 1000000 in
theorem bool2_291 (b : Bool) (w : World) : Calls Tryz.prog 291 #[.bool b] w (ValOut (fun v => ∃ n : Nat, n ≤ 1 ∧ v = .int .u64 n) w) := by
  cases b
  all_goals
    go_enter Tryz.func291, Tryz.ntmps291
    go_wp2
    go_ret
    exact valOut_mk ⟨_, by decide, rfl⟩
set_option maxHeartbeats 1000000 in
theorem bool2_258 (b : Bool) (w : World) : Calls Tryz.prog 258 #[.bool b] w (ValOut (fun v => ∃ n : Nat, n ≤ 1 ∧ v = .int .i64 n) w) := by
  cases b
  all_goals
    go_enter Tryz.func258, Tryz.ntmps258
    go_wp2
    go_ret
    exact valOut_mk ⟨_, by decide, rfl⟩
set_option maxHeartbeats 1000000 in
theorem inf_any (n : Int) (w : World) : Calls Tryz.prog 344 #[.int .i64 n] w (ValOut Fl64 w) := by
  have rfb := run_frombits329
  go_enter Tryz.func344, Tryz.ntmps344
  go_wp2
  all_goals
    go_ret
    exact valOut_mk ⟨_, rfl⟩
set_option maxHeartbeats 1000000 in
theorem nan_any (w : World) : Calls Tryz.prog 345 #[] w (ValOut Fl64 w) := by
  have rfb := run_frombits329
  go_enter Tryz.func345, Tryz.ntmps345
  go_wp2
  go_ret
  exact valOut_mk ⟨_, rfl⟩
set_option maxHeartbeats 4000000 in
theorem common_any (s t : ByteArray) (w : World) (hs : s.size ≤ maxLen) (ht : t.size ≤ maxLen) : Calls Tryz.prog 343 #[.string s, .string t] w (ValOut (fun v => ∃ n : Nat, n ≤ s.size ∧ n ≤ t.size ∧ v = .int .i64 n) w) := by
  unfold maxLen at hs ht
  go_enter Tryz.func343, Tryz.ntmps343
  go_wp2
  go_loop [6] (fun i => ∃ k : Nat, k ≤ s.size ∧ k ≤ t.size ∧ i = .int .i64 k) (fun i => s.size - (intOf i).toNat)
  case atStart => exact ⟨0, by omega, by omega, rfl⟩
  case round =>
    obtain ⟨k, hk, hk2, rfl⟩ := hrel
    by_cases h1 : k < s.size
    · by_cases h2 : k < t.size
      · have hb : s[k].toNat < 256 := s[k].toNat_lt
        have hb2 : t[k].toNat < 256 := t[k].toNat_lt
        have hlt : (k : Int) < min (t.size : Int) (s.size : Int) := Int.lt_min.2 ⟨by omega, by omega⟩
        go_wp2
        all_goals first
          | exact ⟨⟨k + 1, by omega, by omega, by go_num⟩, by simp [intOf]; omega⟩
          | (go_ret; exact valOut_mk ⟨k, by omega, by omega, rfl⟩)
      · have hmin : min (t.size : Int) (s.size : Int) = k := by omega
        go_wp2
        all_goals first
          | (go_ret; exact valOut_mk ⟨k, by omega, by omega, rfl⟩)
    · have hmin : min (t.size : Int) (s.size : Int) = k := by omega
      go_wp2
      all_goals first
        | (go_ret; exact valOut_mk ⟨k, by omega, by omega, rfl⟩)
end Go.Proofs.YtjagjjdkgidkjaaGreatDoor
namespace Go.Proofs.YtjagjjdkgidkjaaGreatDoor
open Go Go.RowKit
set_option maxRecDepth 1000000
theorem results_tmp3 {fn : Func} {t u v : Tmp} (h : fn.results = #[.tmp t, .tmp u, .tmp v]) (tmps : Array Value) (P : Program) (w : World) :
    (results fn tmps).run P w = .ok (.tuple #[tmps.getD t undef, tmps.getD u undef, tmps.getD v undef]) w := by
  simp [results, h]
def SpecOut (v : Value) : Prop := ∃ (f : Nat) (n : Int) (b : Bool), v = .tuple #[.float .f64 f, .int .i64 n, .bool b]
theorem specOut_mk {w : World} (f : Nat) (n : Int) (b : Bool) : ValOut SpecOut w (.returned (.tuple #[.float .f64 f, .int .i64 n, .bool b])) w := valOut_mk ⟨f, n, b, rfl⟩
set_option maxHeartbeats 8000000 in
theorem special320 (s : ByteArray) (w : World) (hs : s.size ≤ 10000000) : Calls Tryz.prog 320 #[.string s] w (ValOut SpecOut w) := by
  by_cases h0 : 0 < s.size
  · have hb0 : (s[0]'h0).toNat < 256 := UInt8.toNat_lt _
    have hsz : ¬ ((s.size : Int) = 0) := by omega
    go_enter Tryz.func320, Tryz.ntmps320
    go_wp2_with (first
      | (go_at_call 343; ((with_reducible refine (common_any _ _ _ (by unfold maxLen; first | omega | (rw [ByteArray.size_extract]; omega)) (by decide)).mono ?_); rintro e w1 ⟨v, rfl, ⟨n, hn, hn8, rfl⟩, rfl⟩))
      | (go_at_call 344; ((with_reducible refine (inf_any _ _).mono ?_); rintro e w1 ⟨v, rfl, ⟨f, rfl⟩, rfl⟩))
      | (go_at_call 345; ((with_reducible refine (nan_any _).mono ?_); rintro e w1 ⟨v, rfl, ⟨f, rfl⟩, rfl⟩)))
    all_goals first
      | (((try simp only [Exit.inBlock, Exit.then]); refine bodyPost_ret (results_tmp3 rfl _ _ _) rfl ?_); exact specOut_mk _ _ _)
  · have hsz : (s.size : Int) = 0 := by omega
    go_enter Tryz.func320, Tryz.ntmps320
    go_wp2
    all_goals first
      | (((try simp only [Exit.inBlock, Exit.then]); refine bodyPost_ret (results_tmp3 rfl _ _ _) rfl ?_); exact specOut_mk _ _ _)
end Go.Proofs.YtjagjjdkgidkjaaGreatDoor
