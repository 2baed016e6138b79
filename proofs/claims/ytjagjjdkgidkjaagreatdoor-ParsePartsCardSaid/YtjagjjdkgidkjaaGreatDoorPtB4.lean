/- The lexer: a part (Qu Sp) of the proof that the law ParseParts answers true. No condition. -/
import Derived.Test.YtjagjjdkgidkjaaGreatDoorPtB3
import Derived.Test.YtjagjjdkgidkjaaGreatDoorPtA5
import Derived.Laws.RangeAny
import Derived.Shelf.Unicode.DecodeLastEight
import Derived.Deep.RegionHeld3
import Derived.Deep.RegionWith
import Derived.BigRegion
set_option linter.all false
namespace Go.Proofs.YtjagjjdkgidkjaaGreatDoor
open Go Go.RowKit
set_option maxRecDepth 1000000
/-- What the library's own variables hold in the world in which the law began. -/
structure Laid (W : World) : Prop where
  utf8 : Lib.Utf8Tabs 1 2 W
  maxlen : ∃ m, W.cell? ⟨7, 0, none⟩ = some (.int .i64 m)
  blocks : 17 ≤ W.heap.size
/-- The world, and the one in which the law began: what was there is there. -/
@[reducible] def Gw (W0 w : World) : Prop := Below W0.heap.size W0 w
theorem fr_below {w w' : World} (h : Below w.heap.size w w') : Fr none_ w w' := ⟨h.os, h.tape, h.output, h.size, fun k hk _ => h.block k hk⟩
theorem Gw.fr {W0 w w' : World} (g : Gw W0 w) (h : Fr none_ w w') : Gw W0 w' := g.trans ⟨h.os, h.tape, h.output, h.size, fun k hk => h.block k (Nat.lt_of_lt_of_le hk g.size) id⟩
theorem Gw.cell {W0 w : World} (g : Gw W0 w) {a : Addr} {v : Value} (h : W0.cell? a = some v) : w.cell? a = some v := (Below.cell g (World.block_lt_of_cell? W0 a h)).trans h
theorem Laid.utf8At {W0 w : World} (hL : Laid W0) (g : Gw W0 w) : Lib.Utf8Tabs 1 2 w := Go.Proofs.Utf8Tabs_below hL.utf8 g
def DecOut (m : Nat) (w : World) (e : Ending) (w' : World) : Prop := ∃ r n : Nat, r ≤ 2147483647 ∧ n ≤ m ∧ (0 < m → 1 ≤ n) ∧ e = .returned (.tuple #[.int .i32 r, .int .i64 n]) ∧ Fr none_ w w'
theorem width_pos (s : ByteArray) (pos : Nat) (h : pos < s.size) : 1 ≤ (Utf8.decode s pos).2 := by
  by_cases ha : (s[pos]'h).toNat < 128
  · rw [decode_ascii s pos h ha]; exact Nat.le_refl _
  · exact (decode_high s pos h (by omega)).2
theorem decode_any {W0 : World} (hL : Laid W0) (s : ByteArray) (w : World) (g : Gw W0 w) : Calls Tryz.prog 107 #[.string s] w (DecOut s.size w) :=
  (Tryz.utf8_DecodeRuneInString s w (hL.utf8At g)).mono fun _ _ ⟨he, hb⟩ => ⟨_, _, by
    unfold Lib.decodeGo
    split
    · decide
    · exact decode_le s 0, Lib.decodeGo_le_size s, fun h => by
    unfold Lib.decodeGo
    rw [if_neg (by omega)]
    exact width_pos s 0 h, he, fr_below hb⟩
theorem isBuilder_keep {B b : Nat} {bs : List Value} {w w' : World} (h : Lib.IsBuilder 93 5 B b bs w) (hf : Fr none_ w w') : Lib.IsBuilder 93 5 B b bs w' := by
  rcases h with ⟨hB, v, hb, hown, hne⟩ | ⟨hB, v, hb, hown, hne⟩
  · exact .inl ⟨hB, v, hf.get hb id, ownsRow_keep hown hf fun _ _ e => e, hne⟩
  · exact .inr ⟨hB, v, hf.get hb id, ownsRow_keep hown hf fun _ _ e => e, hne⟩
def QOut (m : Nat) (w : World) (e : Ending) (w' : World) : Prop := ∃ (t : ByteArray) (n : Nat), t.size ≤ 4 * m ∧ n ≤ m ∧ e = .returned (.tuple #[.string t, .int .i64 n]) ∧ Fr none_ w w'
theorem qOut_mk {m : Nat} {w w' : World} {t : ByteArray} {n : Int} (h1 : t.size ≤ 4 * m) (h0 : 0 ≤ n) (h2 : n ≤ m) (h : Fr none_ w w') : QOut m w (.returned (.tuple #[.string t, .int .i64 n])) w' :=
  ⟨t, n.toNat, h1, by omega, by rw [Int.toNat_of_nonneg h0], h⟩
def QRel (m : Nat) (w : World) (v : Value) (wr : World) : Prop :=
  ∃ (k : Nat) (l : List UInt8), 1 ≤ k ∧ k ≤ m ∧ v = .int .i64 k ∧ Lib.IsBuilder 93 5 w.heap.size w.heap.size (Lib.byteCells l) wr ∧ l.length ≤ 4 * k ∧ Fr none_ w wr
theorem fr_then {w0 w w' : World} (hf : Fr none_ w0 w) (h : Below w0.heap.size w w') : Fr none_ w0 w' :=
  ⟨h.os.trans hf.os, h.tape.trans hf.tape, h.output.trans hf.output, Nat.le_trans hf.size h.size, fun k hk _ => (h.block k hk).trans (hf.block k hk id)⟩
theorem wrune {w0 w : World} {l : List UInt8} (hf : Fr none_ w0 w) (h : Lib.IsBuilder 93 5 w0.heap.size w0.heap.size (Lib.byteCells l) w) (r : Int) (hr0 : 0 ≤ r) (hr1 : r ≤ 2147483647) (hl : l.length ≤ 10000000) :
    Calls Tryz.prog 110 #[.pointer (some ⟨w0.heap.size, 0, none⟩), .int .i32 r] w fun e w' => ∃ v l', e = .returned v ∧ l'.length ≤ l.length + 4 ∧ Lib.IsBuilder 93 5 w0.heap.size w0.heap.size (Lib.byteCells l') w' ∧ Fr none_ w0 w' :=
  (writeRune_ok _ _ _ r (by omega) hr1 w h (by rw [Lib.byteCells_length]; omega) hf.size).mono fun _ _ ⟨⟨v, he⟩, hb, hw⟩ =>
    ⟨v, l ++ Lib.encodeRune r, he, by rw [List.length_append, ← Lib.runeCells_length]; have := (Lib.runeCells_le r).2; omega, by rw [Lib.byteCells_append, Lib.byteCells_encodeRune]; exact hb, fr_then hf hw⟩
theorem wbyte {w0 w : World} {l : List UInt8} (hf : Fr none_ w0 w) (h : Lib.IsBuilder 93 5 w0.heap.size w0.heap.size (Lib.byteCells l) w) (c : Nat) (hc : c < 256) (hl : l.length ≤ 10000000) :
    Calls Tryz.prog 109 #[.pointer (some ⟨w0.heap.size, 0, none⟩), .int .u8 c] w fun e w' => ∃ l', e = .returned .nilIface ∧ l'.length ≤ l.length + 1 ∧ Lib.IsBuilder 93 5 w0.heap.size w0.heap.size (Lib.byteCells l') w' ∧ Fr none_ w0 w' :=
  (writeByte_ok _ _ _ c w h (by rw [Lib.byteCells_length]; omega) hf.size).mono fun _ _ ⟨he, hb, hw⟩ =>
    ⟨l ++ [UInt8.ofNat c], he, by simp, by rw [Lib.byteCells_append]; simpa [Lib.byteCells, Nat.mod_eq_of_lt hc] using hb, fr_then hf hw⟩
theorem bstring {w0 w : World} {l : List UInt8} (hf : Fr none_ w0 w) (h : Lib.IsBuilder 93 5 w0.heap.size w0.heap.size (Lib.byteCells l) w) :
    Calls Tryz.prog 45 #[.pointer (some ⟨w0.heap.size, 0, none⟩)] w fun e w' => e = .returned (.string ⟨l.toArray⟩) ∧ Fr none_ w0 w' :=
  (Tryz.Builder_String_any_k _ _ l w (Lib.IsBuilderF.of h) hf.size).mono fun _ _ ⟨he, _, hw, _⟩ => ⟨he, fr_then hf hw⟩
set_option maxHeartbeats 8000000 in
theorem quoted_any {W0 : World} (hL : Laid W0) (s : ByteArray) (w : World) (hs : s.size ≤ 262144) (h0 : 0 < s.size) (g : Gw W0 w) : Calls Tryz.prog 64 #[.string s] w (QOut s.size w) := by
  have hb0 : (s[0]'h0).toNat < 256 := UInt8.toNat_lt _
  go_enter Tryz.func64, Tryz.ntmps64
  go_wp2
  go_loopw [6] (QRel s.size w) (fun v _ => s.size - (intOf v).toNat)
  case atStart => exact ⟨1, [], by omega, by omega, rfl, Lib.fresh_isBuilder 93 5 w, by simp, (Fr.refl _ w).alloc _⟩
  case round =>
    obtain ⟨k, l, hk0, hk, rfl, hb, hl, hf⟩ := hrel
    have HB := Lib.hid hb; clear hb
    by_cases hlt : k < s.size
    · go_wp2_with (first
        | (go_at_call 107; ((with_reducible refine (decode_any hL _ _ (g.fr hf)).mono ?_); rintro e w1 ⟨r, n, hr, hn, hn1, rfl, f1⟩; simp only [ByteArray.size_extract, Nat.min_self] at hn hn1))
        | (go_at_call 45; ((with_reducible refine (bstring (hf.none2 f1) (isBuilder_keep HB.out f1)).mono ?_); rintro e w2 ⟨rfl, f2⟩))
        | (go_at_call 108; ((with_reducible refine (escape_any _ _ (by rw [ByteArray.size_extract]; omega)).mono ?_); rintro e w2 ⟨x, kk, hx, hkk, rfl, f2⟩; simp only [ByteArray.size_extract, Nat.min_self] at hkk))
        | (go_at_call 109; ((with_reducible refine (wbyte ((hf.none2 f1).none2 f2) (isBuilder_keep (isBuilder_keep HB.out f1) f2) _ hx (by omega)).mono ?_); rintro e w3 ⟨l', rfl, hl', hb', f3⟩))
        | (go_at_call 110; ((with_reducible refine (wrune (hf.none2 f1) (isBuilder_keep HB.out f1) _ (by omega) (by omega) (by omega)).mono ?_); rintro e w3 ⟨v, l', rfl, hl', hb', f3⟩)))
      all_goals first
        | (go_ret2; exact qOut_mk (by show 0 ≤ _; omega) (by omega) (by omega) (hf.none2 f1))
        | (go_ret2; exact qOut_mk (by show 0 ≤ _; omega) (by omega) (by omega) ((hf.none2 f1).none2 f2))
        | (go_ret2; exact qOut_mk (by show l.toArray.size ≤ _; simp; omega) (by omega) (by omega) f2)
        | exact ⟨⟨k + (1 + kk), l', by omega, by omega, by go_num, hb', by omega, f3⟩, by simp [intOf]; omega⟩
        | exact ⟨⟨k + n, l', by omega, by omega, by go_num, hb', by omega, f3⟩, by simp [intOf]; omega⟩
    · go_wp2
      go_ret2
      exact qOut_mk (by show 0 ≤ _; omega) (by omega) (by omega) hf
end Go.Proofs.YtjagjjdkgidkjaaGreatDoor
namespace Go.Proofs.YtjagjjdkgidkjaaGreatDoor
open Go Go.RowKit
set_option maxRecDepth 1000000
def SpOut (m : Nat) (w : World) (e : Ending) (w' : World) : Prop := ∃ (n : Nat) (k : Int), n ≤ m ∧ e = .returned (.tuple #[.int .i64 n, .int .i64 k]) ∧ Fr none_ w w'
theorem spOut_mk {m : Nat} {w w' : World} {n k : Int} (h0 : 0 ≤ n) (h1 : n ≤ m) (h : Fr none_ w w') : SpOut m w (.returned (.tuple #[.int .i64 n, .int .i64 k])) w' := ⟨n.toNat, k, by omega, by rw [Int.toNat_of_nonneg h0], h⟩
def SpRel (m : Nat) (w : World) (v4 v5 v6 : Value) (wr : World) : Prop :=
  ∃ (k f : Nat) (x : Int), k ≤ m ∧ f ≤ 7 ∧ 0 ≤ x ∧ x ≤ 1099511627777 ∧ v4 = .int .i64 k ∧ v5 = .int .i64 f ∧ v6 = .int .i64 x ∧ Fr none_ w wr
/-- Some int64 that is not below zero, the world as it was. -/
def TimesOut (w : World) (e : Ending) (w' : World) : Prop := ∃ n : Int, 0 ≤ n ∧ n ≤ 1099511627777 ∧ e = .returned (.int .i64 n) ∧ w = w'
theorem timesOut_mk {w : World} {n : Int} (h0 : 0 ≤ n) (h1 : n ≤ 1099511627777) : TimesOut w (.returned (.int .i64 n)) w := ⟨n, h0, h1, rfl, rfl⟩
theorem wrap_in {y : Int} (h0 : -9223372036854775808 ≤ y) (h1 : y ≤ 9223372036854775807) : wrap64 y = y := by unfold wrap64; omega
theorem times_range {x ms : Int} (hx : 0 ≤ x) (hm : 1 ≤ ms) (hm2 : ms ≤ 31536000000) (h : x ≤ wrap64 (1099511627776 / ms + 1)) : 0 ≤ min (wrap64 (x * ms)) 1099511627777 ∧ min (wrap64 (x * ms)) 1099511627777 ≤ 1099511627777 := by
  have h1 : 0 ≤ 1099511627776 / ms := Int.ediv_nonneg (by omega) (by omega)
  have h2 : 1099511627776 / ms ≤ 1099511627776 := Int.ediv_le_self _ (by omega)
  rw [wrap_in (by omega) (by omega)] at h
  have h3 : x * ms ≤ (1099511627776 / ms + 1) * ms := Int.mul_le_mul_of_nonneg_right h (by omega)
  have h4 : 1099511627776 / ms * ms ≤ 1099511627776 := Int.ediv_mul_le _ (by omega)
  have h5 : (1099511627776 / ms + 1) * ms = 1099511627776 / ms * ms + ms := by rw [Int.add_mul, Int.one_mul]
  have h6 : 0 ≤ x * ms := Int.mul_nonneg hx (by omega)
  rw [wrap_in (by omega) (by omega)]
  exact ⟨Int.le_min.2 ⟨h6, by omega⟩, Int.min_le_right _ _⟩
set_option maxHeartbeats 4000000 in
theorem times_ok (s : ByteArray) (ms : Int) (w : World) (hs : s.size ≤ maxLen) (hm : 1 ≤ ms) (hm2 : ms ≤ 31536000000) :
    Calls Tryz.prog 106 #[.string s, .int .i64 ms] w (TimesOut w) := by
  unfold maxLen at hs
  go_enter Tryz.func106, Tryz.ntmps106
  go_wp2
  go_loop [5, 9] (fun n i => ∃ (k : Nat) (x : Int), k ≤ s.size ∧ i = .int .i64 k ∧ n = .int .i64 x ∧ 0 ≤ x ∧ x ≤ 1099511627777) (fun _ i => s.size - (intOf i).toNat)
  case atStart => exact ⟨0, 0, by omega, rfl, rfl, by omega, by omega⟩
  case round =>
    obtain ⟨k, x, hk, rfl, rfl, hx0, hx1⟩ := hrel
    by_cases hlt : k < s.size
    · have hb : s[k].toNat < 256 := s[k].toNat_lt
      go_wp2
      refine ⟨⟨k + 1, _, by omega, by go_num, rfl, ?_, ?_⟩, by simp [intOf]; omega⟩
      · exact Int.le_min.2 ⟨by omega, by omega⟩
      · exact Int.min_le_right _ _
    · go_wp2
      all_goals
        go_ret
        first
          | exact timesOut_mk (by omega) (by omega)
          | (have hr := times_range hx0 hm hm2 (by assumption); exact timesOut_mk hr.1 hr.2)
theorem cell_at' {w : World} {q : Nat} {cs : Array Value} {t : TypeId} {fr : Nat × Nat} (h : w.heap[q]? = some (.cells cs t fr)) (j : Nat) : w.cell? ⟨q, j, none⟩ = cs[j]? := by simp [World.cell?, h]
theorem Fr.drewN {S : Nat → Prop} {w w' : World} (h : Fr S w w') (n : Nat) : Fr S w (w'.drewN n) := ⟨h.os, h.tape, h.output, h.size, h.block⟩
set_option maxHeartbeats 16000000 in
theorem span_lex (s : ByteArray) (w : World) (hs : s.size ≤ 1048576) : Calls Tryz.prog 63 #[.string s] w (SpOut s.size w) := by
  have HS : s.size ≤ maxLen := by unfold maxLen; omega
  go_enter Tryz.func63, Tryz.ntmps63
  go_wp2
  go_step3
  go_wp2
  go_step3
  go_wp2
  go_loopw [4, 5, 6] (SpRel s.size w) (fun v _ _ _ => s.size - (intOf v).toNat)
  case atStart => exact ⟨0, 0, 0, by omega, by omega, by omega, by omega, rfl, rfl, rfl, Fr.refl _ w⟩
  case round =>
    obtain ⟨k, f, x, hk, hf7, hx0, hx1, rfl, rfl, rfl, hf⟩ := hrel
    go_wp2_with (first
      | (go_at_call 59; ((with_reducible refine (runN_61 _ _ _ HS (by omega) (by omega)).mono ?_); rintro e w1 ⟨n, hn, hn1, rfl, rfl⟩; by_cases hz : n = 0))
      | (go_at_call 59; ((with_reducible refine (runN_104 _ _ _ HS (by omega) (by omega)).mono ?_); rintro e w1 ⟨n2, hn2, hn3, rfl, rfl⟩))
      | (go_at_call 105; ((with_reducible refine (units_any _).mono ?_); rintro e w1 ⟨rfl, rfl⟩)))
    · rw [Exit.noGoto_ret]
      go_ret2
      exact spOut_mk (by omega) (by omega) hf
    · obtain ⟨wo, rfl⟩ : ∃ wo : World, wo = wr := ⟨_, rfl⟩
      have HU := Lib.hid (unit_cells wo)
      go_hide hQ
      go_loopw [4, 5, 6, 25] (fun v4 v5 v6 v wr => ∃ i : Nat, i ≤ 7 ∧ v4 = .int .i64 k ∧ v5 = .int .i64 f ∧ v6 = .int .i64 x ∧ v = .int .i64 i ∧ Fr none_ (wo.alloc (.cells unitRow 136)) wr) (fun _ _ _ v _ => 7 - (intOf v).toNat)
      case atStart => exact ⟨0, by omega, rfl, rfl, rfl, rfl, Fr.refl _ _⟩
      case round =>
        obtain ⟨i, hi, rfl, rfl, rfl, rfl, hg⟩ := hrel
        by_cases hlt : i < 7
        · obtain ⟨nm, ms, u0, u1, hm1, hm2⟩ := HU.out i hlt
          have r0 := hg.cell u0 id
          have r1 := hg.cell u1 id
          clear u0 u1
          go_upto_region 8 with fail
          have hb := heap_alloc_new wr (.cells #[.string nm, .int .i64 ms] 136)
          have c0 := cell_at' hb 0
          have c1 := cell_at' hb 1
          simp only [List.getElem?_toArray, List.getElem?_cons_zero, List.getElem?_cons_succ] at c0 c1
          have hg1 : Fr none_ (wo.alloc (.cells unitRow 136)) (wr.alloc (.cells #[.string nm, .int .i64 ms] 136)) := hg.alloc _
          go_cut [45] (fun v wx => ∃ b : Bool, v = .bool b ∧ wx.heap[wr.heap.size]? = some (.cells #[.string nm, .int .i64 ms] 136 (0, 0)) ∧ Fr none_ (wo.alloc (.cells unitRow 136)) wx)
          case first =>
            by_cases hge : f ≤ i
            · go_quiet (fail)
              go_wp2
              go_meet
              exact ⟨_, rfl, hb, hg1.drewN _⟩
            · go_quiet (fail)
              go_wp2
              go_meet
              exact ⟨_, rfl, hb, hg1.drewN _⟩
          case rest =>
            clear hb c0 c1 hg1 r0 r1
            obtain ⟨b, rfl, hb, hg1⟩ := hcut
            have hmsl := Lib.hid hm1
            cases b
            case false =>
              go_wp2
              go_roundw
              case rel => exact ⟨i + 1, by omega, rfl, rfl, rfl, by go_num, hg1⟩
              case measure => simp [intOf]; omega
            case true =>
              have c1 := cell_at' hb 1
              simp only [List.getElem?_toArray, List.getElem?_cons_zero, List.getElem?_cons_succ] at c1
              go_upto_region 9 with fail
              go_cut [6] (fun v wx => ∃ y : Int, 0 ≤ y ∧ y ≤ 1099511627777 ∧ v = .int .i64 y ∧ Fr none_ (wo.alloc (.cells unitRow 136)) wx)
              case first =>
                have hw1 : IntKind.i64.wrap ((k : Int) + n) = (k : Int) + n := IntWalk.i64_in _ (by omega)
                have hb1 : (k : Int) + n ≤ s.size := by omega
                have hb2 : (k : Int) ≤ (k : Int) + n := by omega
                have hb3 : ((k : Int) + n).toNat = k + n := by omega
                have hb4 : (0 : Int) ≤ (k : Int) + n := by omega
                go_region_held3 (fun X => X.cell? ⟨wr.heap.size, 1, none⟩ = some (.int .i64 ms)) (first | exact c1 | go_keep)
                  ((first | (go_at_call 106; ((with_reducible refine (times_ok _ _ _ (by unfold maxLen; rw [ByteArray.size_extract]; omega) hm1 hm2).mono ?_); rintro e w1 ⟨y, hy0, hy1, rfl, rfl⟩; have hw2 : IntKind.i64.wrap (x + y) = x + y := IntWalk.i64_in _ (by omega)))))
                go_wp2
                go_meet
                exact ⟨_, Int.le_min.2 ⟨by omega, by omega⟩, Int.min_le_right _ _, rfl, hg1.drew⟩
              case rest =>
                clear hb hg1 c1
                obtain ⟨y, hy0, hy1, rfl, hg1⟩ := hcut
                go_wp2
                subst hQ
                go_wp2
                exact ⟨⟨k + (n + n2), i + 1, y, by omega, by omega, hy0, hy1, by go_num, by go_num, rfl, (hf.alloc _).none2 hg1⟩, by simp [intOf]; omega⟩
        · go_wp2
          subst hQ
          go_wp2
          rw [Exit.noGoto_ret]
          go_ret2
          exact spOut_mk (by omega) (by omega) ((hf.alloc _).none2 hg)
end Go.Proofs.YtjagjjdkgidkjaaGreatDoor
