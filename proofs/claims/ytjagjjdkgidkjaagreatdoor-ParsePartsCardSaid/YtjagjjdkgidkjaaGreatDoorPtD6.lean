/- Strconv's decimal: a part (Sc) of the proof that the law ParseParts answers true. No condition. -/
import Derived.Test.YtjagjjdkgidkjaaGreatDoorPtD1
import Derived.Test.YtjagjjdkgidkjaaGreatDoorPtD4
import Derived.Deep.CutBlock
set_option linter.all false
namespace Go.Proofs.YtjagjjdkgidkjaaGreatDoor
open Go Go.RowKit
set_option maxRecDepth 1000000
/-- The library's table of what a shift to the left brings. -/
structure LcTab (W : World) : Prop where
  row : ∃ B o n c : Nat, 61 ≤ n ∧ W.cell? ⟨9, 0, none⟩ = some (.slice (some ⟨B, o, none⟩) n c) ∧ ∀ k, 1 ≤ k → k ≤ 60 → ∃ (d : Nat) (s : ByteArray), W.cell? ⟨B, o + k * 2, none⟩ = some (.int .i64 d) ∧ W.cell? ⟨B, o + k * 2 + 1, none⟩ = some (.string s) ∧
    Dm.Row k d (dl s) ∧ s.size ≤ 100 ∧ (∀ i (h : i < s.size), 48 ≤ (s[i]'h).toNat ∧ (s[i]'h).toNat ≤ 57)
theorem LcTab.fr {W w : World} (h : LcTab W) (f : Fr none_ W w) : LcTab w :=
  let ⟨B, o, n, c, hn, hc, hr⟩ := h.row
  ⟨B, o, n, c, hn, f.cell hc id, fun k h1 h2 => let ⟨d, s, a1, a2, a3⟩ := hr k h1 h2; ⟨d, s, f.cell a1 id, f.cell a2 id, a3⟩⟩
/-- What a shift to the left leaves: more of it. -/
def LsOut (b : Nat) (f : Nat → Nat) (dp : Int) (ng : Bool) (hi : Int) (w : World) (e : Ending) (w' : World) : Prop :=
  ∃ (g : Nat → Nat) (n : Nat) (d : Int) (t : Bool), e = .returned (.tuple #[]) ∧ DB b g n d ng t w' ∧ Good g n ∧ 1 ≤ n ∧ (dp < d ∨ d = dp ∧ f 0 < g 0) ∧ d ≤ dp + hi ∧ Fr (· = b) w w'
/-- How many digits come, what is carried. -/
def Delta (k : Nat) (f : Nat → Nat) (nd d : Nat) : Prop := d ≤ 61 ∧ Sl.cy k f nd 0 < 10 ^ d ∧ (1 ≤ d → 10 ^ (d - 1) ≤ Sl.cy k f nd 0)
theorem delta_of {k nd d : Nat} {f : Nat → Nat} {s : ByteArray} (hk1 : 1 ≤ k) (hk : k ≤ 60) (hn : 1 ≤ nd) (hG : Good f nd) (hr : Dm.Row k d (dl s)) : 1 ≤ d ∧ d ≤ 61 ∧ Delta k f nd (if lessAt f nd s 0 = true then d - 1 else d) := by
  have hdig := Sl.lst_dig (f := f) (m := nd) (i := 0) (fun j _ h => hG.dig j (by omega))
  have h0 := hG.dig 0 hn
  have hl := hG.lead hn
  have hlow : 10 ^ ((Sl.lst f 0 nd).length - 1) ≤ Dm.val (Sl.lst f 0 nd) := by
    obtain ⟨m, rfl⟩ : ∃ m, nd = m + 1 := ⟨nd - 1, by omega⟩
    rw [Sl.lst_len]
    exact Sl.lst_low (by omega)
  have hg := Dm.grow hr hdig hlow (by rw [Sl.lst_len]; omega) (by omega)
  have hlen := hr.len
  have ec : Dm.carry k (Sl.lst f 0 nd) = Sl.cy k f nd 0 := by unfold Sl.cy; rw [Nat.sub_zero]
  have el : Dm.less (Sl.lst f 0 nd) (dl s) = lessAt f nd s 0 := by unfold lessAt; rw [Nat.sub_zero, List.drop_zero]
  rw [ec, el] at hg
  by_cases e : lessAt f nd s 0 = true
  · rw [if_pos e] at hg ⊢
    exact ⟨hg.1, by omega, by omega, hg.2.1, fun h => by have := hg.2.2 (by omega); rwa [show d - 1 - 1 = d - 2 by omega]⟩
  · rw [if_neg e] at hg ⊢
    exact ⟨hg.1, by omega, by omega, hg.2.1, fun _ => hg.2.2⟩
def L1 (b k : Nat) (f : Nat → Nat) (nd d : Nat) (dp : Int) (ng : Bool) (w : World) (v5 v6 v7 : Value) (wx : World) : Prop :=
  ∃ (r : Nat) (g : Nat → Nat) (t : Bool), v5 = .int .i64 ((r : Int) - 1) ∧ v6 = .int .i64 (r + d : Nat) ∧ v7 = .int .u64 (Sl.cy k f nd r : Nat) ∧ r ≤ nd ∧ Sl.Wl k f nd d r g ∧ DB b g nd dp ng t wx ∧ Fr (· = b) w wx
def L2 (b : Nat) (f0 : Nat) (nd d : Nat) (dp : Int) (ng : Bool) (w : World) (v6 v7 : Value) (wx : World) : Prop :=
  ∃ (x n : Nat) (g : Nat → Nat) (t : Bool), v6 = .int .i64 x ∧ v7 = .int .u64 n ∧ n < 18446744073709551616 ∧ Sl.We n x d nd f0 g ∧ DB b g nd dp ng t wx ∧ Fr (· = b) w wx
theorem cut_dec (b nd : Nat) (h : nd ≤ 800) (w : World) : (Instr.sliceAt 234 (.pointer (some ⟨b, 0, none⟩)) (some (.int .i64 0)) (some (.int .i64 nd)) none).run Tryz.prog w = .ok (.slice (some ⟨b, 0, none⟩) nd 800) w := by
  have hl : Tryz.prog.arrayLen 234 = 800 := by kernel_rfl
  have ht : Tryz.prog.underlying 234 = some (TypeDesc.array (Tryz.prog.arrayLen 234) (Tryz.prog.elem 234)) := by kernel_rfl
  have hs : (sizeOf (Tryz.prog.elem 234)).run Tryz.prog w = .ok 1 w := by kernel_rfl
  rw [run_sliceAt_array_lh w 234 ⟨b, 0, none⟩ ht _ _ 0 nd (by omega) (by omega) (by rw [hl]; omega), hs, hl]
  by_cases e : (800 : Nat) = (0 : Int).toNat
  · simp at e
  · simp [Result.andThen, slicedAt, Addr.add]
theorem shl_eq {a k x : Nat} (h48 : 48 ≤ a) (hx : (a - 48) * 2 ^ k = x) (hx9 : x ≤ 9 * 1152921504606846976) : IntKind.u64.wrap (((a : Int) - 48) * 2 ^ k) = (x : Int) := by
  have e : ((a : Int) - 48) * 2 ^ k = (x : Int) := by
    rw [← hx, Int.natCast_mul, Int.natCast_pow, Int.natCast_sub h48]
    rfl
  rw [e]
  exact IntWalk.u64_in _ (by omega)
set_option maxHeartbeats 8000000 in
theorem left262 (b : Nat) (f : Nat → Nat) (nd : Nat) (dp : Int) (ng tr : Bool) (k : Nat) (w : World) (hk1 : 1 ≤ k) (hk : k ≤ 60) (hn : 1 ≤ nd) (hG : Good f nd) (hp1 : -4000000000 ≤ dp) (hp2 : dp ≤ 4000000000) (hT : LcTab w) (hD : DB b f nd dp ng tr w) :
    Calls Tryz.prog 262 #[.pointer (some ⟨b, 0, none⟩), .int .u64 k] w (LsOut b f dp ng 61 w) := by
  have hn8 := hG.le
  have hlead := hG.lead hn
  have hd0 := hG.dig 0 hn
  obtain ⟨B, O, N, C, hN, hcT, hrow⟩ := hT.row
  obtain ⟨d, s, a1, a2, hR, hs, hsd⟩ := hrow k hk1 hk
  have HR := Lib.hid (delta_of hk1 hk hn hG hR)
  have HS := Lib.hid hsd
  have HF := Lib.hid hG.dig
  clear hrow hR hsd hT
  have c0 := hD.nd_
  have hslc := cut_dec b nd hn8
  have i0 : (0 : Int) ≤ (k : Int) := by omega
  have i1 : (k : Int) < (N : Int) := by omega
  go_enter Tryz.func262, Tryz.ntmps262
  go_upto_region 1 with fail
  go_cut [30] (fun v30 wx => v30 = .bool (lessAt f nd s 0) ∧ Fr none_ w wx)
  case first =>
    have HK := Lib.hid (show ∀ X, Fr none_ w X → (X.cell? ⟨b, 800, none⟩ = some (.int .i64 nd) ∧ X.cell? ⟨9, 0, none⟩ = some (.slice (some ⟨B, O, none⟩) N C) ∧ X.cell? ⟨B, O + k * 2 + 1, none⟩ = some (.string s) ∧ Fr none_ w X) from fun X F => ⟨F.cell c0 id, F.cell hcT id, F.cell a2 id, F⟩)
    have FD : Fr none_ w w.drew := (Fr.refl none_ w).drew
    go_region_held3 (fun X => X.cell? ⟨b, 800, none⟩ = some (.int .i64 nd) ∧ X.cell? ⟨9, 0, none⟩ = some (.slice (some ⟨B, O, none⟩) N C) ∧ X.cell? ⟨B, O + k * 2 + 1, none⟩ = some (.string s) ∧ Fr none_ w X)
      (first | exact HK.out _ FD | exact HK.out _ (FD.none2 f1) | go_keep)
      (first
        | (go_at_call 293; ((with_reducible refine (prefix293 b 800 f nd dp ng tr s _ hn8 hn8 (Nat.le_refl _) hs HF.out HS.out (hD.fr FD id)).mono ?_); rintro e w1 ⟨v, rfl, rfl, f1⟩)))
    go_wp2
    go_meet
    exact ⟨rfl, FD.none2 f1⟩
  case rest =>
    obtain ⟨rfl, F1⟩ := hcut
    have hrr := HR.out
    obtain ⟨hd1, hd61, hdel⟩ := hrr
    have D1 := hD.fr F1 id
    clear hslc i0 i1 c0 a1 a2 hcT hD
    obtain ⟨dd, hdd⟩ : ∃ dd, (if lessAt f nd s 0 = true then d - 1 else d) = dd := ⟨_, rfl⟩
    rw [hdd] at hdel
    have F1b : Fr (· = b) w wc := F1.mono fun _ _ e => e.elim
    obtain ⟨w1, rfl⟩ : ∃ w1, w1 = wc := ⟨_, rfl⟩
    go_upto_if 30 with fail
    go_cut [4] (fun v4 wx => v4 = .int .i64 dd ∧ w1 = wx)
    case first =>
      cases hb : lessAt f nd s 0
      · rw [hb] at hdd
        simp only [Bool.false_eq_true, if_false] at hdd
        subst hdd
        go_wp2
        go_meet
        exact ⟨rfl, rfl⟩
      · rw [hb] at hdd
        simp only [if_true] at hdd
        subst hdd
        go_wp2
        go_meet
        exact ⟨by go_num, rfl⟩
    case rest =>
      obtain ⟨rfl, rfl⟩ := hcut
      clear hdd
      have hd61' : dd ≤ 61 := hdel.1
      have HDEL := Lib.hid hdel
      have hdz := Lib.hid (show dd = 0 → Sl.cy k f nd 0 = 0 from fun e => by have h := hdel.2.1; rw [e] at h; simpa using h)
      clear hdel
      have c0 := D1.nd_
      go_upto_block 0 with fail
      go_cut [6, 7] (fun v6 v7 wx => ∃ (g : Nat → Nat) (t : Bool), v6 = .int .i64 dd ∧ v7 = .int .u64 (Sl.cy k f nd 0 : Nat) ∧ Sl.Wl k f nd dd 0 g ∧ DB b g nd dp ng t wx ∧ Fr (· = b) w wx)
      case first =>
        go_wp2
        go_loopw [5, 6, 7] (L1 b k f nd dd dp ng w) (fun v5 _ _ _ => (intOf v5 + 1).toNat)
        case atStart => exact ⟨nd, f, tr, rfl, by go_num, by rw [Sl.cy_end]; rfl, Nat.le_refl _, Sl.Wl.start k f nd dd hn, D1, F1b⟩
        case round =>
          obtain ⟨r, g, t, rfl, rfl, rfl, hr, hW, D2, F2⟩ := hrel
          have zz := D2.fz
          have c3 := D2.tr_
          rcases Nat.eq_zero_or_pos r with hr0 | hr0
          · subst hr0
            go_wp2
            go_meet
            exact ⟨g, t, by go_num, rfl, hW, D2, F2⟩
          · obtain ⟨r, rfl⟩ : ∃ r', r = r' + 1 := ⟨r - 1, by omega⟩
            have e5 : ((r + 1 : Nat) : Int) - 1 = (r : Int) := by omega
            have e6 : ((r + 1 + dd : Nat) : Int) = ((r + dd : Nat) : Int) + 1 := by omega
            rw [e5, e6]
            have c4 := D2.at_ r (by omega)
            rw [hW.old r (by omega)] at c4
            have hdr := HF.out r (by omega)
            have hcl := Sl.cy_lt k f nd (r + 1) HF.out
            have hcap := Sl.cap k hk
            have hst := Lib.hid (Sl.cy_step k f nd r (by omega))
            obtain ⟨x, hx⟩ : ∃ x, (f r - 48) * 2 ^ k = x := ⟨_, rfl⟩
            have hx9 : x ≤ 9 * 1152921504606846976 := by
              rw [← hx]
              exact Nat.le_trans (Nat.mul_le_mul_right _ (show f r - 48 ≤ 9 by omega)) (Nat.mul_le_mul_left _ hcap)
            have hsm : Sl.sm k f nd r = Sl.cy k f nd (r + 1) + x := by unfold Sl.sm; rw [hx]
            have hshl := shl_eq hdr.1 hx hx9
            have HSM := Lib.hid hsm
            have HWD := Lib.hid hW
            have hcl2 : Sl.cy k f nd (r + 1) < 1152921504606846976 := by omega
            have HX := Lib.hid hx
            clear e5 e6 hsm hW hcl hcap hx
            generalize hc : Sl.cy k f nd (r + 1) = c at hcl2 ⊢
            generalize hy : r + dd = y
            have HC := Lib.hid hc
            have HY := Lib.hid hy
            have hy1 : y ≤ 861 := by omega
            clear hc hy
            have e7 := Lib.hid (show Value.int .u64 (((c : Int) + x) / 10) = .int .u64 (Sl.cy k f nd r : Nat) from by
              rw [hst.out, HC.out, HX.out]
              simp)
            by_cases hy8 : y < 800
            · have c5 := D2.at_ y hy8
              have hW2 := Lib.hid (HWD.out.step hk1 (by omega) HF.out hlead hdz.out)
              have D3 := D2.setD y (Sl.sm k f nd r % 10 + 48) hy8
              have ev : ((Sl.sm k f nd r % 10 + 48 : Nat) : Int) = (c : Int) + x - 10 * (((c : Int) + x) / 10) + 48 := by
                rw [HSM.out, HC.out]
                omega
              rw [ev] at D3
              have HD3 := Lib.hid D3
              clear D3 ev
              go_wp2
              go_roundw
              case rel =>
                have hW3 := hW2.out
                rw [HY.out] at hW3
                exact ⟨r, _, t, rfl, by rw [← HY.out], e7.out, by omega, hW3, HD3.out, F2.setB _ _⟩
              case measure => simp only [intOf]; omega
            · have hW2 := Lib.hid (HWD.out.skip (by have := HY.out; omega))
              by_cases hz : (((c : Int) + x) - 10 * (((c : Int) + x) / 10)) = 0
              · have hzb : (((c : Int) + x) - 10 * (((c : Int) + x) / 10) != 0) = false := by simp [hz]
                clear hz
                go_wp2
                go_roundw
                case rel => exact ⟨r, g, t, rfl, by rw [← HY.out], e7.out, by omega, hW2.out, D2, F2⟩
                case measure => simp only [intOf]; omega
              · have hzb : (((c : Int) + x) - 10 * (((c : Int) + x) / 10) != 0) = true := by simpa using hz
                clear hz
                go_wp2
                go_roundw
                case rel => exact ⟨r, g, true, rfl, by rw [← HY.out], e7.out, by omega, hW2.out, D2.setTr true, F2.setB _ _⟩
                case measure => simp only [intOf]; omega
      case rest =>
        clear D1 F1b
        obtain ⟨g, t, rfl, rfl, hW, D2, F2⟩ := hcut
        have hE := hW.done HDEL.out.2.1 HDEL.out.2.2
        have hcl := Nat.lt_of_lt_of_le (Sl.cy_lt k f nd 0 HF.out) (Sl.cap k hk)
        clear hW
        generalize Sl.cy k f nd 0 = n0 at hE hcl ⊢
        go_upto_block 2 with fail
        go_cut [] (fun wx => ∃ (g : Nat → Nat) (t : Bool), Sl.We 0 0 dd nd (f 0) g ∧ DB b g nd dp ng t wx ∧ Fr (· = b) w wx)
        case first =>
          go_wp2
          go_loopw [6, 7] (L2 b (f 0) nd dd dp ng w) (fun _ v7 _ => (intOf v7).toNat)
          case atStart => exact ⟨dd, n0, g, t, rfl, rfl, by omega, hE, D2, F2⟩
          case round =>
            clear hE D2 F2 hcl
            obtain ⟨x, n, g, t, rfl, rfl, hn64, hE, D2, F2⟩ := hrel
            have zz := D2.fz
            have c3 := D2.tr_
            by_cases hn0 : 0 < n
            case neg =>
              obtain rfl : n = 0 := by omega
              have hx0 := hE.end0
              subst hx0
              go_wp2
              go_meet
              exact ⟨g, t, hE, D2, F2⟩
            have hx1 := hE.pos hn0
            obtain ⟨y, rfl⟩ : ∃ y, x = y + 1 := ⟨x - 1, by omega⟩
            have hy1 := hE.wd
            have e6 : ((y + 1 : Nat) : Int) = (y : Int) + 1 := by omega
            rw [e6]
            have HE := Lib.hid hE
            clear hE e6
            by_cases hy8 : y < 800
            · have c5 := D2.at_ y hy8
              have D3 := D2.setD y (n % 10 + 48) hy8
              have ev : ((n % 10 + 48 : Nat) : Int) = (n : Int) - 10 * ((n : Int) / 10) + 48 := by omega
              rw [ev] at D3
              have HD3 := Lib.hid D3
              clear D3 ev
              go_wp2
              go_roundw
              case rel => exact ⟨y, n / 10, _, t, rfl, by simp, by omega, HE.out.step hn0, HD3.out, F2.setB _ _⟩
              case measure => simp only [intOf]; omega
            · omega
        case rest =>
          clear hE D2 F2 hcl
          obtain ⟨g, t, hE, D2, F2⟩ := hcut
          have hg0 : g 0 ≠ 48 := by
            rcases Nat.eq_zero_or_pos dd with e | e
            · have := hE.zero e; omega
            · exact hE.lead e rfl
          have HE := Lib.hid hE
          clear hE
          have c0 := D2.nd_
          have c1 := D2.dp_
          have zz := D2.fz
          have hlex := Lib.hid (show dp < dp + dd ∨ dp + (dd : Int) = dp ∧ f 0 < g 0 from by
            rcases Nat.eq_zero_or_pos dd with e | e
            · exact .inr ⟨by omega, HE.out.zero e⟩
            · exact .inl (by omega))
          by_cases h8 : nd + dd < 800
          · have D4 : DB b g ((nd + dd : Nat) : Int) (dp + dd) ng t ((wc.setCell ⟨b, 800, none⟩ (.int .i64 ((nd : Int) + dd))).setCell ⟨b, 801, none⟩ (.int .i64 (dp + dd))) := (D2.setNd ((nd : Int) + dd)).setDp (dp + dd)
            have F4 := (F2.setB 800 (.int .i64 ((nd : Int) + dd))).setB 801 (.int .i64 (dp + dd))
            go_wp2_with (first
              | (go_at_call 261; ((with_reducible refine (trim261 b g (nd + dd) (dp + dd) ng t _ (by omega) (by omega) hg0 D4).mono ?_); rintro e w3 ⟨n, rfl, hn1, hn2, D5, F5⟩)))
            refine bodyPost_end (results_none rfl _ _ _) rfl ?_
            exact ⟨g, n, dp + dd, t, rfl, D5, ⟨by omega, fun i hi => HE.out.dig i (by omega) (by omega) (by omega), fun _ => hg0⟩, hn1, hlex.out, by omega, F4.trans F5 fun _ _ e => e⟩
          · have D4 : DB b g ((800 : Nat) : Int) (dp + dd) ng t (((wc.setCell ⟨b, 800, none⟩ (.int .i64 ((nd : Int) + dd))).setCell ⟨b, 800, none⟩ (.int .i64 800)).setCell ⟨b, 801, none⟩ (.int .i64 (dp + dd))) := ((D2.setNd ((nd : Int) + dd)).setNd 800).setDp (dp + dd)
            have F4 := ((F2.setB 800 (.int .i64 ((nd : Int) + dd))).setB 800 (.int .i64 800)).setB 801 (.int .i64 (dp + dd))
            go_wp2_with (first
              | (go_at_call 261; ((with_reducible refine (trim261 b g 800 (dp + dd) ng t _ (by omega) (by omega) hg0 D4).mono ?_); rintro e w3 ⟨n, rfl, hn1, hn2, D5, F5⟩)))
            refine bodyPost_end (results_none rfl _ _ _) rfl ?_
            exact ⟨g, n, dp + dd, t, rfl, D5, ⟨by omega, fun i hi => HE.out.dig i (by omega) (by omega) (by omega), fun _ => hg0⟩, hn1, hlex.out, by omega, F4.trans F5 fun _ _ e => e⟩
end Go.Proofs.YtjagjjdkgidkjaaGreatDoor
