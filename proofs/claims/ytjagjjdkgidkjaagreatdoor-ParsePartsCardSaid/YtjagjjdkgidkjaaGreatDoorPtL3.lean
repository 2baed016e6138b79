/- Parse and the law's walk: a part (Pm5) of the proof that the law ParseParts answers true. No condition. -/
import Derived.Test.YtjagjjdkgidkjaaGreatDoorPtL2
set_option linter.all false
namespace Go.Proofs.YtjagjjdkgidkjaaGreatDoor
open Go Go.RowKit
set_option maxRecDepth 1000000
theorem make34 (n : Nat) (hn : n ≤ 1000) (w : World) : (Instr.makeSlice 34 (.int .i64 n) (.int .i64 n)).run Tryz.prog w = .ok (.slice (some ⟨w.heap.size, 0, none⟩) n n) (w.alloc (.cells (madeCells #[.int .i64 0] (n * 1)) 3)) := by
  have hu : Tryz.prog.underlying 34 = some (.slice 3) := by kernel_rfl
  obtain ⟨i, hi, hz, hb, hs⟩ : ∃ i, Tryz.prog.info? 3 = some i ∧ i.zero = some (.int .i64 0) ∧ i.bytes = 8 ∧ i.size = 1 := by
    have h1 : (Tryz.prog.info? 3).map (fun i => (i.bytes, i.size)) = some (8, 1) := by kernel_rfl
    have h2 : (Tryz.prog.info? 3).bind (fun i => i.zero) = some (.int .i64 0) := by kernel_rfl
    cases hi : Tryz.prog.info? 3 with
    | none => rw [hi] at h1; cases h1
    | some i =>
      rw [hi] at h1 h2
      simp only [Option.map_some, Option.some.injEq, Prod.mk.injEq] at h1
      exact ⟨i, rfl, h2, h1.1, h1.2⟩
  have := run_makeSlice (P := Tryz.prog) w 34 3 i (.int .i64 0) hu hi hz .i64 .i64 n n (by omega) (Int.le_refl _) (by rw [hs]; omega) (by rw [hb]; omega) (by omega)
  rw [this, hs]
  simp [Value.cells]
theorem list16n : ∀ l : List Value, l.length = 16 → ∃ x0 x1 x2 x3 x4 x5 x6 x7 x8 x9 x10 x11 x12 x13 x14 x15 : Value, l = [x0, x1, x2, x3, x4, x5, x6, x7, x8, x9, x10, x11, x12, x13, x14, x15]
  | [x0, x1, x2, x3, x4, x5, x6, x7, x8, x9, x10, x11, x12, x13, x14, x15], _ => ⟨x0, x1, x2, x3, x4, x5, x6, x7, x8, x9, x10, x11, x12, x13, x14, x15, rfl⟩
theorem kv_form {Q : Nat → Prop} {w : World} {v : Value} {ks : List Nat} (h : KV Q w v ks) : ∃ (p : Option Addr) (c : Nat), v = .slice p ks.length c ∧ ∀ j (h : j < ks.length), ∃ g, p = some ⟨g, 0, none⟩ ∧ Q g ∧ w.cell? ⟨g, j, none⟩ = some (.int .i64 (ks[j] : Nat)) := by
  rcases h with ⟨rfl, rfl⟩ | ⟨g, cap, rfl, hq, hc⟩
  · exact ⟨none, 0, rfl, fun j h => by simp at h⟩
  · exact ⟨_, cap, rfl, fun j h => ⟨g, rfl, hq, hc j h⟩⟩
def L5 (mb N : Nat) (T : List Nd) (w1 : World) (v : Value) (wx : World) : Prop := ∃ i : Nat, v = .int .i64 i ∧ i ≤ T.length ∧ Met5 mb T.length (cntAt T i) wx ∧ Fr (fun k => N ≤ k) w1 wx
def L6 (mb n : Nat) (f : Nat → Nat) (ks : List Nat) (w3 : World) (v : Value) (wx : World) : Prop := ∃ j : Nat, v = .int .i64 j ∧ j ≤ ks.length ∧ Met5 mb n (fun k => f k + (ks.take j).count k) wx ∧ Fr (· = mb) w3 wx
theorem rep_len {U : Nat → Prop} {tv : Value} {w : World} {nd : Nd} (h : Rep U tv w nd) : nd.kids.length ≤ 9223372036854775807 := by
  obtain ⟨h1, h2, kind, a, b, av, c0, c2, c3, c12, hk, hg⟩ := h
  rcases hk with ⟨_, x, _, e⟩ | ⟨_, x, y, _, _, e⟩ | ⟨_, ⟨x, _, _, e⟩ | ⟨x, y, _, _, e⟩⟩ | ⟨_, h⟩ | ⟨_, e⟩
  · rw [e]; simp
  · rw [e]; simp
  · rw [e]; simp
  · rw [e]; simp
  · rcases h.2 with ⟨_, h0⟩ | ⟨g, cap, cur, _, _, _, hn, hc, _⟩
    · omega
    · unfold maxLen at hc; omega
  · rw [e]; simp
theorem cnt_take_le (k : Nat) (N : List (List Nat)) (i : Nat) : Fo.cnt k (N.take i) ≤ Fo.cnt k N := by
  have h := Fo.cnt_append k (N.take i) (N.drop i)
  rw [List.take_append_drop] at h
  omega
theorem met_bound {T : List Nd} (hF : Fo.Forest 0 (T.map Nd.kids) [T.length - 1]) (i : Nat) (hi : i < T.length) (x : Nat) (hx : x < T.length) (j : Nat) : cntAt T i x + (T[i].kids.take j).count x ≤ 1 := by
  have h1 := cntAt_succ T i hi x
  have h2 : cntAt T (i + 1) x ≤ cntAt T T.length x := by
    unfold cntAt
    rw [List.take_of_length_le (i := T.length) (by simp)]
    exact cnt_take_le x _ _
  have h3 := forest_counts hF x hx
  have h4 : (T[i].kids.take j).count x ≤ T[i].kids.count x := (List.take_sublist j T[i].kids).count_le x
  split at h3 <;> omega
set_option maxHeartbeats 8000000 in
theorem parts5 {W0 : World} (hP : ∀ (s : ByteArray) (w : World), s.size ≤ maxLen → Gw W0 w → Calls Tryz.prog 9 #[.string s] w (ParseOut w)) (hA : ∀ w, Gw W0 w → Calls Tryz.prog 10 #[] w fun e w' => e = .returned (.bool true) ∧ Below w.heap.size w w')
    (s : ByteArray) (hs : s.size ≤ maxLen) : Calls Tryz.prog 5 #[.string s] W0 fun e w' => e = .returned (.bool true) ∧ Fr none_ W0 w' := by
  have g0 : Gw W0 W0 := Below.refl _ _
  have P := hP s W0 hs g0
  clear hP
  have HA := Lib.hid hA
  clear hA
  go_enter Tryz.func5, Tryz.ntmps5
  go_upto_region 2 with (go_at_call 9; ((with_reducible refine P.mono ?_); rintro e w1 (⟨why, at_, hw, rfl, F1⟩ | ⟨tv, T, rfl, ⟨B, U, hown, hrep, hn1, hn2, hfo⟩, F1⟩); rotate_left; (obtain ⟨gt, capt, rfl⟩ := tree_row hown hn1; have HO := Lib.hid hown; have HR := Lib.hid hrep; have HF := Lib.hid hfo; clear hown hrep hfo)))
  · clear P
    have hmk := make34 T.length hn2
    go_upto_block 0 with fail
    have FN : Fr (fun k => w1.heap.size ≤ k) w1 ((w1.alloc (Obj.cells #[Value.slice (some { block := gt, off := 0 }) T.length capt] 24)).alloc (Obj.cells (madeCells #[Value.int IntKind.i64 0] T.length) 3)) := ((Fr.refl _ w1).alloc _).alloc _
    have M0 : Met5 (w1.heap.size + 1) T.length (cntAt T 0) ((w1.alloc (Obj.cells #[Value.slice (some { block := gt, off := 0 }) T.length capt] 24)).alloc (Obj.cells (madeCells #[Value.int IntKind.i64 0] T.length) 3)) := by
      have h := heap_alloc_new (w1.alloc (Obj.cells #[Value.slice (some { block := gt, off := 0 }) T.length capt] 24)) (Obj.cells (madeCells #[Value.int IntKind.i64 0] T.length) 3)
      refine ⟨_, by simpa using h, size_madeCells _ _, fun j hj => ?_⟩
      have := made_zero T.length j hj
      rw [Nat.mul_one] at this
      rw [this]
      rfl
    clear hmk
    generalize ((w1.alloc (Obj.cells #[Value.slice (some { block := gt, off := 0 }) T.length capt] 24)).alloc (Obj.cells (madeCells #[Value.int IntKind.i64 0] T.length) 3)) = w2 at FN M0 ⊢
    generalize hmb : w1.heap.size + 1 = mb at M0 ⊢
    have HMB := Lib.hid hmb
    clear hmb
    obtain ⟨D49, HU49, HS49⟩ := row49
    go_cut [29] (fun _ wx => Met5 mb T.length (cntAt T T.length) wx ∧ Fr (fun k => w1.heap.size ≤ k) w1 wx)
    case first => as_aux_lemma =>
      go_wp2
      go_loopw [29] (L5 mb w1.heap.size T w1) (fun v _ => T.length - (intOf v).toNat)
      case atStart => exact ⟨0, rfl, by omega, M0, FN⟩
      case round =>
        clear FN M0
        obtain ⟨i, rfl, hi, M, G⟩ := hrel
        by_cases hlt : i < T.length
        case neg =>
          obtain rfl : i = T.length := by omega
          go_wp2
          go_meet
          exact ⟨M, G⟩
        have hrep := HR.out T[i] (List.getElem_mem hlt)
        have hahead := Lib.hid (forest_ahead HF.out i hlt)
        have hsucc := Lib.hid (cntAt_succ T i hlt)
        have hown := HO.out
        have hcells := flat16 T (fun nd h => (HR.out nd h).len) i hlt
        obtain ⟨x0, x1, x2, x3, x4, x5, x6, x7, x8, x9, x10, x11, x12, x13, x14, x15, hcs⟩ := list16n T[i].cs hrep.len
        have hra : wr.rangeAt gt (i * 16) [x0, x1, x2, x3, x4, x5, x6, x7, x8, x9, x10, x11, x12, x13, x14, x15] := fun j v hv => row_cell (own_old hown (Nat.le_refl _) G) (i * 16 + j) v (hcells j v (by rw [hcs]; exact hv))
        have q0 : wr.cell? ⟨gt, i * 16, none⟩ = some x0 := hra 0 x0 rfl
        have q1 : wr.cell? ⟨gt, i * 16 + 1, none⟩ = some x1 := hra 1 x1 rfl
        have q2 : wr.cell? ⟨gt, i * 16 + 2, none⟩ = some x2 := hra 2 x2 rfl
        have q3 : wr.cell? ⟨gt, i * 16 + 3, none⟩ = some x3 := hra 3 x3 rfl
        have q4 : wr.cell? ⟨gt, i * 16 + 4, none⟩ = some x4 := hra 4 x4 rfl
        have q5 : wr.cell? ⟨gt, i * 16 + 5, none⟩ = some x5 := hra 5 x5 rfl
        have q6 : wr.cell? ⟨gt, i * 16 + 6, none⟩ = some x6 := hra 6 x6 rfl
        have q7 : wr.cell? ⟨gt, i * 16 + 7, none⟩ = some x7 := hra 7 x7 rfl
        have q8 : wr.cell? ⟨gt, i * 16 + 8, none⟩ = some x8 := hra 8 x8 rfl
        have q9 : wr.cell? ⟨gt, i * 16 + 9, none⟩ = some x9 := hra 9 x9 rfl
        have q10 : wr.cell? ⟨gt, i * 16 + 10, none⟩ = some x10 := hra 10 x10 rfl
        have q11 : wr.cell? ⟨gt, i * 16 + 11, none⟩ = some x11 := hra 11 x11 rfl
        have q12 : wr.cell? ⟨gt, i * 16 + 12, none⟩ = some x12 := hra 12 x12 rfl
        have q13 : wr.cell? ⟨gt, i * 16 + 13, none⟩ = some x13 := hra 13 x13 rfl
        have q14 : wr.cell? ⟨gt, i * 16 + 14, none⟩ = some x14 := hra 14 x14 rfl
        have q15 : wr.cell? ⟨gt, i * 16 + 15, none⟩ = some x15 := hra 15 x15 rfl
        have hmlt := M.lt
        have hone : (#[x0, x1, x2, x3, x4, x5, x6, x7, x8, x9, x10, x11, x12, x13, x14, x15] : Array Value).all (·.oneCell') = true := by
          rw [Array.all_eq_true_iff_forall_mem]
          intro u hu
          exact hrep.one u (by rw [hcs]; simpa using hu)
        have hK := kids17 (fun k => k ≠ mb) T[i] (wr.alloc (.cells #[x0, x1, x2, x3, x4, x5, x6, x7, x8, x9, x10, x11, x12, x13, x14, x15] 49)) (rep_old (rep_old hrep (Nat.le_refl _) G) (Nat.le_refl _) ((Fr.refl _ wr).alloc _)) (fun g hg => by simp at hg; omega) (fun av g h0 h12 hg => by have := rep_lt hrep av g h0 h12 hg; have := HMB.out; omega)
        rw [hcs] at hK
        have hbd := Lib.hid (met_bound HF.out i hlt)
        have hkn := rep_len hrep
        generalize hks : T[i].kids = ks at hK hahead hsucc hbd hkn
        have KK : Calls Tryz.prog 17 #[.agg #[x0, x1, x2, x3, x4, x5, x6, x7, x8, x9, x10, x11, x12, x13, x14, x15]] (wr.alloc (.cells #[x0, x1, x2, x3, x4, x5, x6, x7, x8, x9, x10, x11, x12, x13, x14, x15] 49)) (KidsOut (fun k => k ≠ mb) ks (wr.alloc (.cells #[x0, x1, x2, x3, x4, x5, x6, x7, x8, x9, x10, x11, x12, x13, x14, x15] 49))) := hK
        clear hK hra hcells hown hrep hcs hks
        go_upto_block 2 with (first
          | ((with_reducible refine (wpList_store_new 49 (.tmp 8) (.tmp 33) _ #[x0, x1, x2, x3, x4, x5, x6, x7, x8, x9, x10, x11, x12, x13, x14, x15] ?_ ?_ ?_ ?_ ?_ ?_)); exact rfl; exact rfl; exact sz49; exact rfl; exact hone)
          | (go_at_call 17; ((with_reducible refine KK.mono ?_); rintro e w3 ⟨v, rfl, hKV, F3⟩; obtain ⟨pk, ck, rfl, hck⟩ := kv_form hKV)))
        have G3 : Fr (fun k => w1.heap.size ≤ k) w1 w3 := (G.alloc _).trans F3 fun _ _ e => e.elim
        have M3 := (M.fr ((Fr.refl none_ wr).alloc (.cells #[x0, x1, x2, x3, x4, x5, x6, x7, x8, x9, x10, x11, x12, x13, x14, x15] 49)) id).fr F3 id
        have HCK := Lib.hid hck
        clear hck hKV KK M G F3 q0 q1 q2 q3 q4 q5 q6 q7 q8 q9 q10 q11 q12 q13 q14 q15
        go_wp2
        go_loopw [37] (L6 mb T.length (cntAt T i) ks w3) (fun v _ => ks.length - (intOf v).toNat)
        case atStart => exact ⟨0, rfl, by omega, M3.congr fun j _ => by simp, Fr.refl _ w3⟩
        case round =>
          clear M3
          obtain ⟨j, rfl, hj, M, F⟩ := hrel
          by_cases hjl : j < ks.length
          case neg =>
            obtain rfl : j = ks.length := by omega
            have M' : Met5 mb T.length (cntAt T (i + 1)) wr := M.congr fun k _ => by rw [hsucc.out, count_all]
            go_wp2
            go_roundw
            case rel => exact ⟨i + 1, by go_num, by omega, M', G3.trans F fun k _ e => by have := HMB.out; omega⟩
            case measure => simp [intOf]; omega
          obtain ⟨gk, rfl, hq, hc⟩ := HCK.out j hjl
          have hkl := hahead.out ks[j] (List.getElem_mem hjl)
          have hct := Lib.hid (count_take ks j hjl)
          have c4 := F.cell hc hq
          generalize ks[j] = x at hkl hct c4
          clear hc
          have c5 := M.at_ x (by omega)
          have z5 := M.fz x
          have M2 := M.up x (by omega)
          have hb5 := hbd.out x (by omega) j
          have M6 : Met5 mb T.length (fun k => cntAt T i k + (ks.take (j + 1)).count k) (wr.setCell ⟨mb, x, none⟩ (.int .i64 (((cntAt T i x + (ks.take j).count x : Nat) : Int) + 1))) := M2.congr fun k _ => by rw [hct.out]; omega
          generalize hcx : cntAt T i x + (ks.take j).count x = cx at c5 M6 hb5
          have M7 := Lib.hid M6
          clear M6 M2 hcx M
          go_wp2
          go_roundw
          case rel => exact ⟨j + 1, by go_num, by omega, M7.out, F.setCell ⟨mb, x, none⟩ _ fun _ => rfl⟩
          case measure => simp [intOf]; omega
    case rest =>
      clear FN M0
      obtain ⟨M, G⟩ := hcut
      obtain ⟨w3, rfl⟩ : ∃ w3, w3 = wc := ⟨_, rfl⟩
      have hcnt := Lib.hid (forest_counts HF.out)
      have g3 : Gw W0 w3 := (g0.fr F1).fr ⟨G.os, G.tape, G.output, G.size, fun k hk _ => G.block k hk (by omega)⟩
      have F3 : Fr none_ W0 w3 := F1.none2 ⟨G.os, G.tape, G.output, G.size, fun k hk _ => G.block k hk (by omega)⟩
      go_upto_block 4 with fail
      go_cut [58] (fun _ wx => w3 = wx)
      case first => as_aux_lemma =>
        go_wp2
        go_loopw [58] (fun v wx => (∃ i : Nat, v = .int .i64 i ∧ i ≤ T.length) ∧ w3 = wx) (fun v _ => T.length - (intOf v).toNat)
        case atStart => exact ⟨⟨0, rfl, by omega⟩, rfl⟩
        case round =>
          obtain ⟨⟨i, rfl, hi⟩, rfl⟩ := hrel
          by_cases hlt : i < T.length
          case neg =>
            obtain rfl : i = T.length := by omega
            go_wp2
            go_meet
            exact rfl
          have c4 := M.at_ i hlt
          rw [hcnt.out i hlt] at c4
          by_cases he : i = T.length - 1
          · rw [if_pos he] at c4
            have c5 : w3.cell? ⟨mb, i, none⟩ = some (.int .i64 0) := c4
            clear c4
            have hx : (i : Int) = (T.length : Int) - 1 := by omega
            have hb1 : ((i : Int) == (T.length : Int) - 1) = true := by simp [hx]
            have hnl : (T.length : Int) - 1 ≤ (i : Int) := by omega
            clear he hx
            go_wp2
            all_goals first
              | exact ⟨⟨⟨i + 1, by go_num, by omega⟩, trivial⟩, by simp [intOf]; omega⟩
              | (exfalso; simp only [beq_iff_eq, beq_eq_false_iff_ne, ne_eq] at hb1; omega)
          · rw [if_neg he] at c4
            have c5 : w3.cell? ⟨mb, i, none⟩ = some (.int .i64 1) := c4
            clear c4
            have hb1 : ((i : Int) == (T.length : Int) - 1) = false := by simp; omega
            clear he
            go_wp2
            all_goals first
              | exact ⟨⟨⟨i + 1, by go_num, by omega⟩, trivial⟩, by simp [intOf]; omega⟩
              | (exfalso; simp only [beq_iff_eq, beq_eq_false_iff_ne, ne_eq] at hb1; omega)
      case rest =>
        obtain rfl := hcut
        go_wp2_with (go_at_call 10; ((with_reducible refine (HA.out _ g3).mono ?_); rintro e w4 ⟨rfl, hb⟩))
        go_ret
        exact ⟨rfl, F3.none2 (fr_below hb)⟩
  · have hwb : (why != 0) = true := by simpa using hw
    clear P hw
    have g1 : Gw W0 (w1.alloc (.cells #[.slice none 0 0] 24)) := (g0.fr F1).fr ((Fr.refl none_ w1).alloc _)
    go_wp2_with (go_at_call 10; ((with_reducible refine (HA.out _ g1).mono ?_); rintro e w2 ⟨rfl, hb⟩))
    go_ret
    exact ⟨rfl, (F1.alloc _).none2 (fr_below hb)⟩
end Go.Proofs.YtjagjjdkgidkjaaGreatDoor
