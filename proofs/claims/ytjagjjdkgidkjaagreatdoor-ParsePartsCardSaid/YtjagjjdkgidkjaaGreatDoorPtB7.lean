/- The lexer: a part (Al) of the proof that the law ParseParts answers true. No condition. -/
import Derived.Test.YtjagjjdkgidkjaaGreatDoorPtB6
set_option linter.all false
namespace Go.Proofs.YtjagjjdkgidkjaaGreatDoor
open Go Go.RowKit
set_option maxRecDepth 1000000
def AloneOut (s : ByteArray) (k : Nat) (w : World) (e : Ending) (w' : World) : Prop :=
  ∃ b : Bool, e = .returned (.bool b) ∧ (b = true → k = 2 → 0 < s.size ∧ Seg s 0 s.size) ∧ Fr none_ w w'
theorem aloneOut_mk {s : ByteArray} {k : Nat} {w w' : World} (b : Bool) (h : b = true → k = 2 → 0 < s.size ∧ Seg s 0 s.size) (hf : Fr none_ w w') : AloneOut s k w (.returned (.bool b)) w' := ⟨b, rfl, h, hf⟩
theorem ne_nil {s : ByteArray} (h : 0 < s.size) : s.toList.isEmpty = false := by
  rw [Lib.toList_data]
  have : s.data.toList.length = s.size := (Lib.size_eq s).symm
  cases hl : s.data.toList with
  | nil => rw [hl] at this; simp at this; omega
  | cons _ _ => rfl
theorem is_nil {s : ByteArray} (h : ¬ 0 < s.size) : s = ⟨#[]⟩ := by
  have h0 : s.size = 0 := by omega
  cases s with | mk d => cases d with | mk l => cases l with
    | nil => rfl
    | cons a t => simp [ByteArray.size] at h0
set_option maxHeartbeats 4000000 in
theorem alone_any {W0 : World} (hL : Laid W0) (s : ByteArray) (k : Nat) (hk : k ≤ 5) (w : World) (hs : s.size ≤ 262144) (g : Gw W0 w) : Calls Tryz.prog 193 #[.string s, .int .i64 k] w (AloneOut s k w) := by
  by_cases h0 : 0 < s.size
  case neg =>
    rw [is_nil h0]
    go_enter Tryz.func193, Tryz.ntmps193
    go_wp2
    go_ret
    exact aloneOut_mk _ (fun h => by cases h) (Fr.refl _ w)
  have hne := ne_nil h0
  go_enter Tryz.func193, Tryz.ntmps193
  go_wp2_with (first
    | (go_at_call 35; ((with_reducible refine (one_any hL _ _ hs h0 g).mono ?_); rintro e w1 ⟨kind, n, t, rfl, hk5, h1, ht, hn, hseg, f1⟩)))
  · go_ret
    exact aloneOut_mk _ (fun hb h2 => by
      have he : (kind : Int) = k := by simpa using hb
      have hns : n = s.size := by omega
      exact ⟨h0, hns ▸ hseg (by omega)⟩) ((f1.alloc _))
  · go_ret
    exact aloneOut_mk _ (fun h => by cases h) (f1.alloc _)
def SpnOut (w : World) (e : Ending) (w' : World) : Prop := ∃ n k : Int, e = .returned (.tuple #[.int .i64 n, .int .i64 k]) ∧ Fr none_ w w'
theorem spnOut_mk {w w' : World} (n k : Int) (h : Fr none_ w w') : SpnOut w (.returned (.tuple #[.int .i64 n, .int .i64 k])) w' := ⟨n, k, rfl, h⟩
theorem alone_3 {W0 : World} (hL : Laid W0) (s : ByteArray) (w : World) (hs : s.size ≤ 262144) (g : Gw W0 w) : Calls Tryz.prog 193 #[.string s, .int .i64 3] w (AloneOut s 3 w) := alone_any hL s 3 (by decide) w hs g
theorem alone_2 {W0 : World} (hL : Laid W0) (s : ByteArray) (w : World) (hs : s.size ≤ 262144) (g : Gw W0 w) : Calls Tryz.prog 193 #[.string s, .int .i64 2] w (AloneOut s 2 w) := alone_any hL s 2 (by decide) w hs g
set_option maxHeartbeats 4000000 in
theorem spanOk {W0 : World} (hL : Laid W0) : SpanOk (Gw W0) := by
  intro s w hs g
  refine Calls.mono (R := SpnOut w) ?_ fun _ _ h => h
  go_enter Tryz.func244, Tryz.ntmps244
  go_wp2_with (first
    | (go_at_call 193; ((with_reducible refine (alone_3 hL s w hs g).mono ?_); rintro e w1 ⟨b, rfl, hb, f1⟩; cases b))
    | (go_at_call 63; ((with_reducible refine (span_lex _ _ (by omega)).mono ?_); rintro e w2 ⟨n, k, hn, rfl, f2⟩)))
  all_goals go_ret2
  · exact spnOut_mk _ _ f1
  · exact spnOut_mk _ _ (f1.none2 f2)
  · exact spnOut_mk _ _ (f1.none2 f2)
end Go.Proofs.YtjagjjdkgidkjaaGreatDoor
