/- Strconv's decimal: a part (Sa) of the proof that the law ParseParts answers true. No condition. -/
import Derived.Test.YtjagjjdkgidkjaaGreatDoorPtD1
import Derived.Test.YtjagjjdkgidkjaaGreatDoorPtD4
import Derived.Deep.CutBlock
set_option linter.all false
namespace Go.Proofs.YtjagjjdkgidkjaaGreatDoor
open Go Go.RowKit
set_option maxRecDepth 1000000
/-- What a shift to the right leaves: less of it. -/
def RsOut (b : Nat) (f : Nat → Nat) (dp : Int) (ng : Bool) (lo : Int) (w : World) (e : Ending) (w' : World) : Prop :=
  ∃ (g : Nat → Nat) (n : Nat) (d : Int) (t : Bool), e = .returned (.tuple #[]) ∧ DB b g n d ng t w' ∧ Good g n ∧ 1 ≤ n ∧ (d < dp ∨ d = dp ∧ g 0 < f 0) ∧ dp - lo ≤ d ∧ Fr (· = b) w w'
theorem natdiv {n k q : Nat} (h : n / 2 ^ k = q) : (n : Int) / 2 ^ k = (q : Int) := by
  rw [← h]; simp
theorem natand {n k m mk : Nat} (hk : k ≤ 60) (hn : n < 18446744073709551616) (hmk : 2 ^ k = mk + 1) (h : n % 2 ^ k = m) : bits .and .u64 (n : Int) (mk : Int) = (m : Int) := by
  have hc := Sl.cap k hk
  rw [u64_and_nat n mk hn (by omega)]
  have e : mk = 2 ^ k - 1 := by omega
  rw [e, Nat.and_two_pow_sub_one_eq_mod, h]
theorem mask_eq {k mk : Nat} (hk : k ≤ 60) (h : 2 ^ k = mk + 1) : IntKind.u64.wrap (IntKind.u64.wrap ((2 : Int) ^ k) - 1) = (mk : Int) := by
  have hc := Sl.cap k hk
  have e : ((2 : Int) ^ k) = ((mk + 1 : Nat) : Int) := by rw [← h]; simp
  rw [e, IntWalk.u64_in ((mk + 1 : Nat) : Int) (by omega), IntWalk.u64_in _ (by omega)]
  omega
/-- The first loop: digits are picked up. -/
def R1 (k : Nat) (f : Nat → Nat) (nd : Nat) (w : World) (v4 v6 : Value) (wx : World) : Prop :=
  ∃ r n : Nat, v4 = .int .i64 r ∧ v6 = .int .u64 n ∧ r ≤ nd ∧ n < 10 * 2 ^ k ∧ (r = 0 → n = 0) ∧ (1 ≤ r → 1 ≤ n) ∧ (r = 1 → n = f 0 - 48) ∧ w = wx
def R1e (k : Nat) (f : Nat → Nat) (w : World) (v4 v6 : Value) (wx : World) : Prop :=
  ∃ r n : Nat, v4 = .int .i64 r ∧ v6 = .int .u64 n ∧ 2 ^ k ≤ n ∧ n < 10 * 2 ^ k ∧ 1 ≤ r ∧ (r = 1 → n = f 0 - 48) ∧ r ≤ 870 ∧ w = wx
def R1i (k : Nat) (f : Nat → Nat) (nd : Nat) (w : World) (v4 v6 : Value) (wx : World) : Prop :=
  ∃ j n : Nat, v4 = .int .i64 (nd + j : Nat) ∧ v6 = .int .u64 n ∧ 2 ^ j ≤ n ∧ n < 10 * 2 ^ k ∧ (nd + j = 1 → n = f 0 - 48) ∧ w = wx
def R2 (b k n0 : Nat) (f : Nat → Nat) (nd : Nat) (dp : Int) (ng tr : Bool) (w : World) (v4 v5 v6 : Value) (wx : World) : Prop :=
  ∃ (r x n : Nat) (g : Nat → Nat), v4 = .int .i64 r ∧ v5 = .int .i64 x ∧ v6 = .int .u64 n ∧ Sl.Wr k n0 n x g ∧ (∀ i, r ≤ i → g i = f i) ∧ x < r ∧ r ≤ 870 ∧ x ≤ nd ∧ DB b g nd dp ng tr wx ∧ Fr (· = b) w wx
def R3 (b k n0 : Nat) (nd : Nat) (dp : Int) (ng : Bool) (w : World) (v5 v6 : Value) (wx : World) : Prop :=
  ∃ (x n : Nat) (g : Nat → Nat) (t : Bool), v5 = .int .i64 x ∧ v6 = .int .u64 n ∧ Sl.Wr k n0 n x g ∧ x ≤ 800 ∧ DB b g nd dp ng t wx ∧ Fr (· = b) w wx
theorem pow_le_lt {j k n : Nat} (h : 2 ^ j ≤ n) (h2 : n < 10 * 2 ^ k) (hk : k ≤ 60) : j ≤ 64 := by
  have hc := Sl.cap k hk
  rcases Nat.lt_or_ge 64 j with e | e
  · have := Nat.pow_le_pow_right (n := 2) (by omega) (show 65 ≤ j by omega)
    simp at this
    omega
  · exact e
set_option maxHeartbeats 8000000 in
theorem right263 (b : Nat) (f : Nat → Nat) (nd : Nat) (dp : Int) (ng tr : Bool) (k : Nat) (w : World) (hk1 : 1 ≤ k) (hk : k ≤ 60) (hn : 1 ≤ nd) (hG : Good f nd) (hp1 : -4000000000 ≤ dp) (hp2 : dp ≤ 4000000000) (hD : DB b f nd dp ng tr w) :
    Calls Tryz.prog 263 #[.pointer (some ⟨b, 0, none⟩), .int .u64 k] w (RsOut b f dp ng 900 w) := by
  have hP := Sl.cap k hk
  have hP1 := Sl.pow_pos k
  have hn8 := hG.le
  have hlead := hG.lead hn
  have hd0 := hG.dig 0 hn
  go_enter Tryz.func263, Tryz.ntmps263
  go_upto_block 0 with fail
  go_cut [4, 6] (R1e k f w)
  case first =>
    have c0 := hD.nd_
    go_wp2
    go_loopw [4, 6] (R1 k f nd w) (fun v4 _ _ => nd + 1 - (intOf v4).toNat)
    case atStart => exact ⟨0, 0, rfl, rfl, by omega, by omega, fun _ => rfl, by omega, by omega, rfl⟩
    case round =>
      obtain ⟨r, n, rfl, rfl, hr, hnl, hz, hz1, h1, rfl⟩ := hrel
      obtain ⟨q, hq⟩ : ∃ q, n / 2 ^ k = q := ⟨_, rfl⟩
      have hqd := natdiv hq
      by_cases hq0 : q = 0
      case neg =>
        have hb : ((q : Int) == 0) = false := by simp [hq0]
        have hge : 2 ^ k ≤ n := by
          rcases Nat.lt_or_ge n (2 ^ k) with e | e
          · rw [Nat.div_eq_of_lt e] at hq; omega
          · exact e
        have hr1 : 1 ≤ r := by
          rcases Nat.eq_zero_or_pos r with e | e
          · have := hz e; omega
          · exact e
        clear hq hz1 hz
        go_wp2
        go_meet
        exact ⟨r, n, rfl, rfl, hge, hnl, hr1, h1, by omega, rfl⟩
      have hb : ((q : Int) == 0) = true := by simp [hq0]
      have hlt : n < 2 ^ k := by
        rcases Nat.lt_or_ge n (2 ^ k) with e | e
        · exact e
        · have := Sl.top1 n k e; omega
      subst hq0
      clear hq
      by_cases hrn : r < nd
      · have c4 := hD.at_ r (by omega)
        have hdr := hG.dig r hrn
        have hn1 : n < 1152921504606846976 := by omega
        have key := Lib.hid (show r + 1 = 1 → n * 10 + (f r - 48) = f 0 - 48 from fun e => by
          have h0 : r = 0 := by omega
          subst h0
          have := hz rfl
          omega)
        have key2 : 1 ≤ n * 10 + (f r - 48) := by
          rcases Nat.eq_zero_or_pos r with e | e
          · subst e; omega
          · have := hz1 e; omega
        clear h1 hz hz1
        go_wp2
        go_roundw
        case rel => exact ⟨r + 1, n * 10 + (f r - 48), by go_num, by go_num, by omega, by omega, by omega, fun _ => key2, key.out, rfl⟩
        case measure => simp [intOf]; omega
      · obtain rfl : r = nd := by omega
        have hn1 : 1 ≤ n := by omega
        have hnb : ((n : Int) == 0) = false := by simp; omega
        clear hz hz1
        go_wp2
        go_loopw [4, 6] (R1i k f r w) (fun _ v6 _ => 18446744073709551616 - (intOf v6).toNat)
        case atStart => exact ⟨0, n, rfl, rfl, by omega, hnl, fun e => h1 (by omega), rfl⟩
        case round =>
          clear h1 hqd hb hlt hnl hn1 hnb
          obtain ⟨j, n2, rfl, rfl, hj, hn2, h1, rfl⟩ := hrel
          obtain ⟨q, hq⟩ : ∃ q, n2 / 2 ^ k = q := ⟨_, rfl⟩
          have hqd := natdiv hq
          by_cases hq0 : q = 0
          case neg =>
            have hb : ((q : Int) == 0) = false := by simp [hq0]
            have hge : 2 ^ k ≤ n2 := by
              rcases Nat.lt_or_ge n2 (2 ^ k) with e | e
              · rw [Nat.div_eq_of_lt e] at hq; omega
              · exact e
            have hj64 := pow_le_lt hj hn2 hk
            clear hq
            go_wp2
            go_meet
            exact ⟨r + j, n2, rfl, rfl, hge, hn2, by omega, h1, by omega, rfl⟩
          have hb : ((q : Int) == 0) = true := by simp [hq0]
          have hlt : n2 < 2 ^ k := by
            rcases Nat.lt_or_ge n2 (2 ^ k) with e | e
            · exact e
            · have := Sl.top1 n2 k e; omega
          have hj64 := pow_le_lt hj hn2 hk
          have hn1 : n2 < 1152921504606846976 := by omega
          have hp1 : 2 ^ (j + 1) ≤ n2 * 10 := by rw [Nat.pow_succ]; omega
          have hpp : 0 < 2 ^ j := Nat.pow_pos (by omega)
          subst hq0
          clear hq h1
          go_wp2
          go_roundw
          case rel => exact ⟨j + 1, n2 * 10, by go_num, by go_num, hp1, by omega, by omega, rfl⟩
          case measure => simp [intOf]; omega
  case rest =>
    obtain ⟨r0, n0, rfl, rfl, hge, hn0, hr0, h1, hr8, rfl⟩ := hcut
    have HK := Lib.hid h1
    have HR8 := Lib.hid hr8
    clear h1
    have zz := hD.fz
    have c1 := hD.dp_
    obtain ⟨mk, hmk⟩ : ∃ mk, 2 ^ k = mk + 1 := ⟨2 ^ k - 1, by omega⟩
    have hsh := mask_eq hk hmk
    have D1 := hD.setDp (dp - ((r0 : Int) - 1))
    have F1 : Fr (· = b) w (w.setCell ⟨b, 801, none⟩ (.int .i64 (dp - ((r0 : Int) - 1)))) := (Fr.refl _ w).setB _ _
    go_upto_block 4 with fail
    generalize w.setCell ⟨b, 801, none⟩ (.int .i64 (dp - ((r0 : Int) - 1))) = w1 at D1 F1 ⊢
    clear hsh c1 zz hD
    generalize hdp' : dp - ((r0 : Int) - 1) = dp' at D1
    have HDP := Lib.hid hdp'
    clear hdp'
    go_cut [4, 5, 6] (R2 b k n0 f nd dp' ng tr w)
    case first =>
      clear hge
      go_wp2
      go_loopw [4, 5, 6] (R2 b k n0 f nd dp' ng tr w) (fun v4 _ _ _ => nd - (intOf v4).toNat)
      case atStart => exact ⟨r0, 0, n0, f, rfl, rfl, rfl, ⟨hn0, fun _ => rfl, fun h => by omega, fun i h => by omega⟩, fun _ _ => rfl, by omega, hr8, by omega, D1, F1⟩
      case round =>
        clear D1 F1 hn0 hr8 hr0
        obtain ⟨r, x, n, g, rfl, rfl, rfl, hW, hold, hxr, hr8, hxn, D2, F2⟩ := hrel
        have zz := D2.fz
        have c0 := D2.nd_
        by_cases hlt : r < nd
        · have c4 := D2.at_ r (by omega)
          have e4 := hold r (Nat.le_refl r)
          rw [e4] at c4
          have c5 := D2.at_ x (by omega)
          have hdr := hG.dig r hlt
          have h9 := Sl.top n k hW.lt
          obtain ⟨q, hq⟩ : ∃ q, n / 2 ^ k = q := ⟨_, rfl⟩
          obtain ⟨m, hm⟩ : ∃ m, n % 2 ^ k = m := ⟨_, rfl⟩
          have hqd := natdiv hq
          have hml : m < 1152921504606846976 := by have := Nat.mod_lt n hP1; omega
          have hnl := hW.lt
          have hand := natand hk (show n < 18446744073709551616 by omega) hmk hm
          rw [hq] at h9
          have HQ := Lib.hid hq
          have HM := Lib.hid hm
          have HO := Lib.hid hold
          clear hq hm hmk hold e4
          go_wp2
          go_roundw
          case rel =>
            refine ⟨r + 1, x + 1, m * 10 + (f r - 48), _, by go_num, by go_num, by go_num, ?_, ?_, by omega, by omega, by omega, D2.setD x (q + 48) (by omega), F2.setB _ _⟩
            · have hp := hW.put (c := f r - 48) (by omega)
              rw [HM.out, HQ.out] at hp
              exact hp
            · intro i hi
              rw [if_neg (by omega)]
              exact HO.out i (by omega)
          case measure => simp [intOf]; omega
        · go_wp2
          go_meet
          exact ⟨r, x, n, g, rfl, rfl, rfl, hW, hold, hxr, hr8, hxn, D2, F2⟩
    case rest =>
      clear D1 F1 hn0 hr8
      obtain ⟨r, x, n, g, rfl, rfl, rfl, hW, hold, hxr, hr8, hxn, D2, F2⟩ := hcut
      clear hold
      go_upto_block 6 with fail
      go_cut [5, 6] (fun v5 v6 wx => ∃ (x : Nat) (g : Nat → Nat) (t : Bool), v5 = .int .i64 x ∧ Sl.Wr k n0 0 x g ∧ x ≤ 800 ∧ DB b g nd dp' ng t wx ∧ Fr (· = b) w wx)
      case first =>
        clear hge
        go_wp2
        go_loopw [5, 6] (R3 b k n0 nd dp' ng w) (fun _ v6 _ => Sl.mu k (intOf v6).toNat)
        case atStart => exact ⟨x, n, g, tr, rfl, rfl, hW, by omega, D2, F2⟩
        case round =>
          clear D2 F2 hW hxr hr8 hxn hr0
          obtain ⟨x, n, g, t, rfl, rfl, hW, hx8, D2, F2⟩ := hrel
          have zz := D2.fz
          have c3 := D2.tr_
          have h9 := Sl.top n k hW.lt
          have hnl := hW.lt
          obtain ⟨q, hq⟩ : ∃ q, n / 2 ^ k = q := ⟨_, rfl⟩
          obtain ⟨m, hm⟩ : ∃ m, n % 2 ^ k = m := ⟨_, rfl⟩
          have hqd := natdiv hq
          have hml : m < 1152921504606846976 := by have := Nat.mod_lt n hP1; omega
          have hand := natand hk (show n < 18446744073709551616 by omega) hmk hm
          have hmu := Lib.hid (show n ≠ 0 → Sl.mu k (m * 10) < Sl.mu k n from fun h => by rw [← hm]; exact Sl.mu_dec k n h)
          rw [hq] at h9
          have HQ := Lib.hid hq
          have HM := Lib.hid hm
          clear hq hm hmk
          by_cases hn : 0 < n
          case neg =>
            have h0 : n = 0 := by omega
            subst h0
            go_wp2
            go_meet
            exact ⟨x, g, t, rfl, hW, hx8, D2, F2⟩
          by_cases hx : x < 800
          · have c5 := D2.at_ x hx
            go_wp2
            go_roundw
            case rel =>
              refine ⟨x + 1, m * 10, _, t, by go_num, by go_num, ?_, by omega, D2.setD x (q + 48) hx, F2.setB _ _⟩
              have hp := hW.put (c := 0) (by omega)
              rw [HM.out, HQ.out] at hp
              exact hp
            case measure =>
              simp only [intOf]
              have hm' := hmu.out (by omega)
              rwa [show ((m : Int) * 10).toNat = m * 10 by omega, Int.toNat_natCast]
          · by_cases hq0 : 0 < q
            · go_wp2
              go_roundw
              case rel =>
                refine ⟨x, m * 10, _, true, rfl, by go_num, ?_, hx8, D2.setTr true, F2.setB _ _⟩
                have hp := hW.skip (by omega)
                rw [HM.out] at hp
                exact hp
              case measure =>
                simp only [intOf]
                have hm' := hmu.out (by omega)
                rwa [show ((m : Int) * 10).toNat = m * 10 by omega, Int.toNat_natCast]
            · go_wp2
              go_roundw
              case rel =>
                refine ⟨x, m * 10, _, t, rfl, by go_num, ?_, hx8, D2, F2⟩
                have hp := hW.skip (by omega)
                rw [HM.out] at hp
                exact hp
              case measure =>
                simp only [intOf]
                have hm' := hmu.out (by omega)
                rwa [show ((m : Int) * 10).toNat = m * 10 by omega, Int.toNat_natCast]
      case rest =>
        clear D2 F2 hW hxr hr8 hxn
        obtain ⟨x, g, t, rfl, hW, hx8, D2, F2⟩ := hcut
        have hx0 : 1 ≤ x := by
          rcases Nat.eq_zero_or_pos x with e | e
          · have := hW.start e; omega
          · exact e
        have h48 := hW.first hx0
        have htop := Sl.top1 n0 k hge
        have D3 := D2.setNd (x : Int)
        have F3 : Fr (· = b) w (wc.setCell ⟨b, 800, none⟩ (.int .i64 x)) := F2.setB _ _
        have c0 := D2.nd_
        have zz := D2.fz
        have hg0 : g 0 ≠ 48 := by omega
        have HW := Lib.hid hW
        have HX := Lib.hid (show dp' < dp ∨ dp' = dp ∧ g 0 < f 0 from by
          have hd := HDP.out
          by_cases e : r0 = 1
          · have h2 := HK.out e
            have h3 : 2 ≤ 2 ^ k := by have := Nat.pow_le_pow_right (n := 2) (by omega) hk1; simpa using this
            have h4 := Nat.div_lt_self (n := n0) (k := 2 ^ k) (by omega) (by omega)
            right
            omega
          · left; omega)
        have HY := Lib.hid (show dp - 900 ≤ dp' from by have := HDP.out; have := HR8.out; omega)
        clear hW h48 htop hge hmk
        go_wp2_with (first
          | (go_at_call 261; ((with_reducible refine (trim261 b g x dp' ng t _ hx0 hx8 hg0 D3).mono ?_); rintro e w3 ⟨n, rfl, hn1, hn2, D4, F4⟩)))
        refine bodyPost_end (results_none rfl _ _ _) rfl ?_
        exact ⟨g, n, dp', t, rfl, D4, ⟨by omega, fun i hi => HW.out.dig i (by omega), fun _ => hg0⟩, hn1, HX.out, HY.out, F3.trans F4 fun _ _ e => e⟩
end Go.Proofs.YtjagjjdkgidkjaaGreatDoor
