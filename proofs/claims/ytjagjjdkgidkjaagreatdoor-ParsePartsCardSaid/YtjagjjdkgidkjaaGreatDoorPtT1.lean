/- Numbers: a part (Nd0 At Pz Nd1) of the proof that the law ParseParts answers true. No condition. -/
import Derived.Test.YtjagjjdkgidkjaaGreatDoorPtB7
import Derived.Test.YtjagjjdkgidkjaaGreatDoorPtB6
import Derived.Test.YtjagjjdkgidkjaaGreatDoorPtF4
import Derived.Test.YtjagjjdkgidkjaaGreatDoorPtF3
import Derived.Test.YtjagjjdkgidkjaaGreatDoorPtF7
import Derived.Test.YtjagjjdkgidkjaaGreatDoorPtD7
import Derived.Test.YtjagjjdkgidkjaaGreatDoorShelf
import Derived.Shelf.Strings.SlTrimAscii
import Derived.Lib.IndexAny
import Derived.Lib.ItoaLen
set_option linter.all false
namespace Go.Proofs.YtjagjjdkgidkjaaGreatDoor
open Go Go.RowKit
set_option maxRecDepth 1000000
theorem indexAny_lt (c : List UInt8) : ∀ l : List UInt8, Lib.indexAny l c < l.length ∨ Lib.indexAny l c = -1
  | [] => .inr rfl
  | b :: l => by
    unfold Lib.indexAny
    split
    · simp only [List.length_cons]; left; omega
    · rcases indexAny_lt c l with h | h
      · split
        · right; rfl
        · simp only [List.length_cons]; left; omega
      · rw [h]; right; simp
theorem asc_of {s : ByteArray} (h : Seg s 0 s.size) : ∀ (j : Nat) b, s.data.toList[j]? = some b → b.toNat < 128 := by
  intro j b hb
  obtain ⟨hj, rfl⟩ := List.getElem?_eq_some_iff.1 hb
  have hj2 : j < s.size := hj
  exact h j hj2 (by omega) (by omega)
theorem fr_of_below {w w' : World} (h : Below w.heap.size w w') : Fr none_ w w' := fr_below h
theorem idx_any (s : ByteArray) (w : World) (hs : s.size ≤ 262144) (hseg : Seg s 0 s.size) : Calls Tryz.prog 239 #[.string s, .string ⟨#[101, 69]⟩] w (FrOut (fun v => ∃ n : Int, v = .int .i64 n ∧ n < s.size) w) :=
  (Tryz.strings_IndexAny_laid s ⟨#[101, 69]⟩ w (by omega) (by decide) (asc_of hseg) (ascii_of_all (by decide))).mono fun _ _ ⟨he, hw⟩ =>
    ⟨_, he, ⟨_, rfl, by
      rcases indexAny_lt [101, 69] s.data.toList with h | h
      · exact h
      · have h' : Lib.indexAny s.data.toList (ByteArray.mk #[101, 69]).data.toList = -1 := h
        rw [h']; omega⟩, fr_below hw⟩
theorem trim_any (s : ByteArray) (cs : ByteArray) (w : World) (hc : cs.data.toList.all (fun b => decide (b.toNat < 128)) = true) (hcs : cs.size < 4294967281) : Calls Tryz.prog 241 #[.string s, .string cs] w (FrOut (fun v => ∃ t : ByteArray, v = .string t ∧ t.size ≤ s.size) w) :=
  (Any.strings_TrimLeft_laid Tryz.lays161 (by kernel_rfl) s cs w hcs (ascii_of_all hc)).mono fun _ _ ⟨he, hw⟩ =>
    ⟨_, he, ⟨_, rfl, by
      have := (List.dropWhile_suffix (fun b => cs.data.toList.contains b) (l := s.data.toList)).length_le
      have h2 : s.data.toList.length = s.size := rfl
      show ((Lib.trimLeftS s.data.toList cs.data.toList).toArray).size ≤ s.size
      unfold Lib.trimLeftS
      rw [List.size_toArray]; omega⟩, fr_below hw⟩
theorem cut_any {W0 w : World} (hL : Laid W0) (s : ByteArray) (g : Gw W0 w) (hs : s.size ≤ 262144) : Calls Tryz.prog 240 #[.string s, .string ⟨#[46]⟩] w (FrOut (fun v => ∃ (a b : ByteArray) (c : Bool), v = .tuple #[.string a, .string b, .bool c] ∧ a.size ≤ s.size ∧ b.size ≤ s.size) w) := by
  obtain ⟨m, hm⟩ := hL.maxlen
  refine (Tryz.strings_Cut s ⟨#[46]⟩ m w (by omega) (g.cell hm)).mono fun _ _ ⟨he, n, hw⟩ => ⟨_, he, ⟨_, _, _, rfl, ?_, ?_⟩, by rw [hw]; exact (Fr.refl _ w).drewN n⟩
  · show ((Lib.cut s.data.toList [46]).1.toArray).size ≤ s.size
    have h2 : s.data.toList.length = s.size := rfl
    unfold Lib.cut
    rw [List.size_toArray]
    split
    · simp only [List.length_take]; omega
    · exact Nat.le_of_eq h2
  · show ((Lib.cut s.data.toList [46]).2.1.toArray).size ≤ s.size
    have h2 : s.data.toList.length = s.size := rfl
    unfold Lib.cut
    rw [List.size_toArray]
    split
    · simp only [List.length_drop]; omega
    · simp
theorem fr_grow (w : World) (os : Array Obj) : Fr none_ w (Sort.grow w os) :=
  ⟨rfl, rfl, rfl, by simp [Sort.grow], fun k hk _ => by simp [Sort.grow, Array.getElem?_append_left hk]⟩
structure ItoaTab (W : World) : Prop where
  tab : Lib.TabIs Tryz.prog W "internal/strconv.uint64pow10" .u64 Lib.pow10Tab
theorem itoa_any (n : Int) (h0 : -1000 ≤ n) (h1 : n ≤ 1000) (w : World) (hT : ItoaTab w) : Calls Tryz.prog 242 #[.int .i64 n] w (FrOut (fun v => ∃ t : ByteArray, v = .string t ∧ t.size ≤ 21) w) :=
  (Tryz.strconv_Itoa n (by omega) (by omega) w hT.tab).mono fun _ _ ⟨he, k, os, hw⟩ => ⟨_, he, ⟨_, rfl, by
    have := Lib.itoa_length_le n (by omega) (by omega)
    show ((Lib.itoa n).toArray).size ≤ 21
    rw [List.size_toArray]; exact this⟩, by rw [hw]; exact ((Fr.refl _ w).drewN k).none2 (fr_grow _ os)⟩
end Go.Proofs.YtjagjjdkgidkjaaGreatDoor
namespace Go.Proofs.YtjagjjdkgidkjaaGreatDoor
open Go Go.RowKit
set_option maxRecDepth 1000000
/-- A decimal of 804 cells, all of them nought. -/
def ZeroDec (b : Nat) (w : World) : Prop := w.heap[b]? = some (.cells Tryz.zeroCells236 236 (0, 0))
structure SlowOk (D : Nat → World → Prop) : Prop where
  set : ∀ (b : Nat) (s : ByteArray) (w : World), s.size ≤ 1000000 → ZeroDec b w → Calls Tryz.prog 327 #[.pointer (some ⟨b, 0, none⟩), .string s] w fun e w' => ∃ ok : Bool, e = .returned (.bool ok) ∧ (ok = true → D b w') ∧ Fr (· = b) w w'
  bits : ∀ (b : Nat) (w0 w : World), D b w → NumTab w0 → Fr none_ w0 w → w0.heap.size ≤ b → Calls Tryz.prog 328 #[.pointer (some ⟨b, 0, none⟩), .pointer (some ⟨13, 0, none⟩)] w fun e w' => ∃ (m : Int) (o : Bool), e = .returned (.tuple #[.int .u64 m, .bool o]) ∧ Fr (· = b) w w'
def FlIE (v : Value) : Prop := ∃ (f : Nat) (n : Int) (er : Value), v = .tuple #[.float .f64 f, .int .i64 n, er] ∧ Er er
theorem flIE_mk {w w' : World} (f : Nat) (n : Int) (er : Value) (h : Er er) (hf : Fr none_ w w') : FrOut FlIE w (.returned (.tuple #[.float .f64 f, .int .i64 n, er])) w' := frOut_mk ⟨f, n, er, rfl, h⟩ hf
set_option maxHeartbeats 8000000 in
theorem atof_any {D : Nat → World → Prop} (hD : SlowOk D) (s : ByteArray) (w : World) (hs : s.size ≤ 1000000) (hN : NumTab w) : Calls Tryz.prog 305 #[.string s] w (FrOut FlIE w) := by
  have rfb := run_frombits329
  obtain ⟨ob, hob⟩ := hN.opt
  go_enter Tryz.func305, Tryz.ntmps305
  go_upto_if 49 with (first
    | (go_at_call 320; ((with_reducible refine (special320 _ _ (by omega)).mono ?_); rintro e w1 ⟨v, rfl, ⟨f, n, b, rfl⟩, rfl⟩; cases b))
    | (go_at_call 321; ((with_reducible refine (readFloat_any _ _ (by omega)).mono ?_); rintro e w1 ⟨v, rfl, ⟨m, x, ng, tr, hx, i, ok, rfl, hm, hi⟩, rfl⟩; cases ok)))
  · refine bodyPost_ret (results_tmp3 rfl _ _ _) rfl ?_
    exact flIE_mk _ _ _ (.inr (.inr rfl)) (Fr.refl _ w)
  · cases hx
    case true =>
      go_wp2_with (first
        | (go_at_call 322; ((with_reducible refine (hex_any _ _ _ _ _ _ hm hN.fl).mono ?_); rintro e w1 ⟨v, rfl, ⟨f, er, rfl, her⟩, f1⟩)))
      all_goals first
        | (refine bodyPost_ret (results_tmp3 rfl _ _ _) rfl ?_; exact flIE_mk _ _ _ her f1)
    go_upto_if 64 with fail
    go_cut [2, 3, 4, 16, 17, 18, 19, 20, 21, 22] (fun _ v3 v4 _ _ _ _ _ _ _ wx => v3 = .int .i64 i ∧ v4 = .nilIface ∧ Fr none_ w wx)
    case first =>
      cases ob
      case false =>
        go_wp2
        go_meet
        exact ⟨rfl, rfl, Fr.refl _ w⟩
      go_wp2_with (first
        | (go_at_call 291; ((with_reducible refine (bool2_291 _ _).mono ?_); rintro e w1 ⟨v, rfl, ⟨p, hp, rfl⟩, rfl⟩))
        | (go_at_call 330; ((with_reducible refine (exact_any _ _ _ _ hm (by omega) (by omega) hN.fl hN.pw).mono ?_); rintro e w1 ⟨v, rfl, ⟨fx, bx, rfl⟩, rfl⟩; cases bx))
        | (go_at_call 331; ((with_reducible refine (parse64_any _ _ _ _ (by first | exact hm | exact u64_wrap _) (by omega) (by omega) hN.fl (by have := hN.big; omega)).mono ?_); rintro e w1 ⟨v, rfl, ⟨f3, er3, rfl, her3⟩, f31⟩))
        | (go_at_call 331; ((with_reducible refine (parse64_any _ _ _ _ (by first | exact hm | exact u64_wrap _) (by omega) (by omega) (hN.fr f31).fl (by have := (hN.fr f31).big; omega)).mono ?_); rintro e w2 ⟨v, rfl, ⟨f4, er4, rfl, her4⟩, f32⟩)))
      all_goals first
        | (refine bodyPost_ret (results_tmp3 rfl _ _ _) rfl ?_; exact flIE_mk _ _ _ (.inl rfl) (Fr.refl _ w))
        | (refine bodyPost_ret (results_tmp3 rfl _ _ _) rfl ?_; exact flIE_mk _ _ _ (.inr (.inl rfl)) (Fr.refl _ w))
        | (refine bodyPost_ret (results_tmp3 rfl _ _ _) rfl ?_; exact flIE_mk _ _ _ her3 f31)
        | (refine bodyPost_ret (results_tmp3 rfl _ _ _) rfl ?_; exact flIE_mk _ _ _ her3 (f31.none2 f32))
        | (go_meet; exact ⟨rfl, rfl, Fr.refl _ w⟩)
        | (go_meet; exact ⟨rfl, rfl, f31.none2 f32⟩)
    case rest =>
      obtain ⟨rfl, rfl, F1⟩ := hcut
      obtain ⟨w1, rfl⟩ : ∃ w1, w1 = wc := ⟨_, rfl⟩
      have z0 : ZeroDec w1.heap.size (w1.alloc (.cells Tryz.zeroCells236 236)) := heap_alloc_new w1 _
      go_wp2_with (first
        | (go_at_call 327; ((with_reducible refine (hD.set _ _ _ (by rw [ByteArray.size_extract]; omega) z0).mono ?_); rintro e w2 ⟨ok, rfl, hd, f2⟩; have F2 := (F1.alloc _).none3 f2 F1.size; have N2 := hN.fr F2; cases ok <;> (try have hd2 := hd rfl)))
        | (go_at_call 328; ((with_reducible refine (hD.bits _ w _ hd2 hN F2 F1.size).mono ?_); rintro e w3 ⟨mm, oo, rfl, f3⟩; have F3 := F2.none3 f3 F1.size)))
      all_goals first
        | (refine bodyPost_ret (results_tmp3 rfl _ _ _) rfl ?_; exact flIE_mk _ _ _ (.inl rfl) F3)
        | (refine bodyPost_ret (results_tmp3 rfl _ _ _) rfl ?_; exact flIE_mk _ _ _ (.inr (.inl rfl)) F3)
        | (refine bodyPost_ret (results_tmp3 rfl _ _ _) rfl ?_; exact flIE_mk _ _ _ (.inr (.inr rfl)) F2)
  · refine bodyPost_ret (results_tmp3 rfl _ _ _) rfl ?_
    exact flIE_mk _ _ _ (.inl rfl) (Fr.refl _ w)
end Go.Proofs.YtjagjjdkgidkjaaGreatDoor
namespace Go.Proofs.YtjagjjdkgidkjaaGreatDoor
open Go Go.RowKit
set_option maxRecDepth 1000000
set_option maxHeartbeats 2000000 in
theorem prefix280 {D : Nat → World → Prop} (hD : SlowOk D) (s : ByteArray) (w : World) (hs : s.size ≤ 1000000) (hN : NumTab w) : Calls Tryz.prog 280 #[.string s, .int .i64 64] w (FrOut FlIE w) := by
  go_enter Tryz.func280, Tryz.ntmps280
  go_wp2_with (first
    | (go_at_call 305; ((with_reducible refine (atof_any hD _ _ hs hN).mono ?_); rintro e w1 ⟨v, rfl, ⟨f, n, er, rfl, her⟩, f1⟩)))
  refine bodyPost_ret (results_tmp3 rfl _ _ _) rfl ?_
  exact flIE_mk _ _ _ her f1
set_option maxHeartbeats 2000000 in
theorem parse238 {D : Nat → World → Prop} (hD : SlowOk D) (s : ByteArray) (w : World) (hs : s.size ≤ 1000000) (hN : NumTab w) : Calls Tryz.prog 238 #[.string s, .int .i64 64] w (FrOut FlEr w) := by
  go_enter Tryz.func238, Tryz.ntmps238
  go_wp2_with (first
    | (go_at_call 280; ((with_reducible refine (prefix280 hD _ _ hs hN).mono ?_); rintro e w1 ⟨v, rfl, ⟨f, n, er, rfl, her⟩, f1⟩)))
  all_goals first
    | (go_ret2; exact frOut_mk ⟨_, _, rfl, her⟩ f1)
    | (go_ret2; exact frOut_mk ⟨_, _, rfl, .inr (.inr rfl)⟩ f1)
def FlAny (v : Value) : Prop := ∃ (f : Nat) (e : Value), v = .tuple #[.float .f64 f, e]
set_option maxHeartbeats 2000000 in
theorem parse194 {D : Nat → World → Prop} (hD : SlowOk D) (s : ByteArray) (w : World) (hs : s.size ≤ 1000000) (hN : NumTab w) : Calls Tryz.prog 194 #[.string s, .int .i64 64] w (FrOut FlAny w) := by
  go_enter Tryz.func194, Tryz.ntmps194
  go_upto_region 2 with (first
    | (go_at_call 238; ((with_reducible refine (parse238 hD _ _ hs hN).mono ?_); rintro e w1 ⟨v, rfl, ⟨f, er, rfl, her⟩, f1⟩)))
  rcases her with rfl | her
  · go_wp2
    go_ret2
    exact frOut_mk ⟨_, _, rfl⟩ f1
  · have E1 := (hN.fr f1).er
    rcases her with rfl | rfl
    all_goals
      go_wp2_with (first
        | (go_at_call 186; ((with_reducible refine (toErr_any _ _ (by first | exact .inl rfl | exact .inr rfl) _ (by omega) E1).mono ?_); rintro e w2 ⟨v, rfl, _, f2⟩)))
      go_ret2
      exact frOut_mk ⟨_, _, rfl⟩ (f1.none2 f2)
end Go.Proofs.YtjagjjdkgidkjaaGreatDoor
namespace Go.Proofs.YtjagjjdkgidkjaaGreatDoor
open Go Go.RowKit
set_option maxRecDepth 1000000
theorem var_fr {P : Program} {W w : World} {nm : String} {cs : Array Value} (h : W.var? P nm = some cs) (f : Fr none_ W w) : w.var? P nm = some cs := by
  unfold World.var? at h ⊢
  cases hg : P.globalNamed nm with
  | none => rw [hg] at h; cases h
  | some g =>
    rw [hg] at h
    simp only [Option.bind_some] at h ⊢
    cases hh : W.heap[g]? with
    | none => rw [hh] at h; cases h
    | some o => rw [f.get hh id]; rw [hh] at h; exact h
theorem ItoaTab.fr {W w : World} (h : ItoaTab W) (f : Fr none_ W w) : ItoaTab w := ⟨var_fr h.tab f⟩
structure NumEnv (W : World) : Prop where
  laid : Laid W
  num : NumTab W
  ito : ItoaTab W
def DecF (v : Value) : Prop := ∃ f : Nat, v = .float .f64 f
theorem num_size {t y : ByteArray} (ht : t.size ≤ 524288) (hy : y.size ≤ 21) : ((ByteArray.mk #[48, 46]) ++ t ++ (ByteArray.mk #[101]) ++ y).size ≤ 1000000 := by
  rw [ByteArray.size_append, ByteArray.size_append, ByteArray.size_append, show (ByteArray.mk #[48, 46]).size = 2 from rfl, show (ByteArray.mk #[101]).size = 1 from rfl]
  omega
set_option maxHeartbeats 8000000 in
theorem decimal_any {D : Nat → World → Prop} (hD : SlowOk D) {W0 : World} (hE : NumEnv W0) (s : ByteArray) (w : World) (hs : s.size ≤ 262144) (hseg : Seg s 0 s.size) (g : Gw W0 w) : Calls Tryz.prog 195 #[.string s] w (FrOut DecF w) := by
  go_enter Tryz.func195, Tryz.ntmps195
  go_upto_if 20 with (first
    | (go_at_call 239; ((with_reducible refine (idx_any _ _ hs hseg).mono ?_); rintro e w1 ⟨v, rfl, ⟨n, rfl, hn⟩, f1⟩)))
  go_cut [3, 4] (fun v3 v4 wx => ∃ a b : ByteArray, v3 = .string a ∧ v4 = .string b ∧ a.size ≤ 262144 ∧ b.size ≤ 262144 ∧ Fr none_ w wx)
  case first => as_aux_lemma =>
    by_cases h0 : 0 ≤ n
    · obtain ⟨k, rfl⟩ : ∃ k : Nat, n = k := ⟨n.toNat, by omega⟩
      have hk1 : (k : Int) + 1 ≤ s.size := by omega
      have hk2 : k ≤ s.size := by omega
      have hk3 : IntKind.i64.wrap ((k : Int) + 1) = (k : Int) + 1 := IntWalk.i64_in _ (by omega)
      go_wp2
      go_quiet (fail)
      go_wp2
      all_goals go_meet
      all_goals exact ⟨_, _, rfl, rfl, by rw [ByteArray.size_extract]; omega, by rw [ByteArray.size_extract]; omega, f1.drewN _⟩
    · go_wp2
      all_goals go_meet
      all_goals exact ⟨_, _, rfl, rfl, hs, by decide, f1⟩
  case rest =>
    clear f1 hn hseg
    obtain ⟨a, b, rfl, rfl, ha, hb, f1⟩ := hcut
    obtain ⟨w2, rfl⟩ : ∃ w2, w2 = wc := ⟨_, rfl⟩
    have g1 := g.fr f1
    go_upto_if 39 with (first
      | (go_at_call 240; ((with_reducible refine (cut_any hE.laid _ g1 ha).mono ?_); rintro e w3 ⟨v, rfl, ⟨c, d, x, rfl, hc, hd⟩, f2⟩))
      | (go_at_call 241; ((with_reducible refine (trim_any _ _ _ (by decide) (by decide)).mono ?_); rintro e w4 ⟨v, rfl, ⟨t, rfl, ht⟩, f3⟩)))
    have F3 := (f1.none2 f2).none2 f3
    clear f1 f2 f3
    cases hte : t.toList.isEmpty
    case true =>
      go_wp2
      all_goals first
        | (go_ret; exact frOut_mk ⟨_, rfl⟩ F3)
    rw [ByteArray.size_append] at ht
    have G3 := g.fr F3
    go_wp2_with (first
      | (go_at_call 241; ((with_reducible refine (trim_any _ _ _ (by decide) (by decide)).mono ?_); rintro e w5 ⟨v, rfl, ⟨u, rfl, hu⟩, f5⟩)))
    have F5 := F3.none2 f5
    clear F3 f5
    go_loopw [10] (fun v wr => ∃ (n : Int) (pos : Nat), v = .int .i64 n ∧ wr = w5.iter u pos ∧ pos ≤ u.size) (fun _ wr => u.size - wr.iterPos w5.heap.size)
    case atStart => exact ⟨0, 0, rfl, rfl, Nat.zero_le _⟩
    case round =>
      obtain ⟨n, pos, rfl, rfl, hp0⟩ := hrel
      by_cases hp : pos < u.size
      · have hnx : ∀ ty, (Instr.next (.pointer (some ⟨w5.heap.size, 0, none⟩)) true ty).run Tryz.prog (w5.iter u pos) = _ := fun ty => run_next_any w5 u pos ty hp
        have hwd := width_pos u pos hp
        have hwl := width_le u pos hp
        generalize (Utf8.decode u pos).2 = d at hwd hwl hnx
        generalize (Utf8.decode u pos).1 = r at hnx
        go_wp2
        all_goals first
          | exact ⟨⟨_, pos + d, rfl, rfl, hwl⟩, by simp; omega⟩
      · have hnx : ∀ ty, (Instr.next (.pointer (some ⟨w5.heap.size, 0, none⟩)) true ty).run Tryz.prog (w5.iter u pos) = _ := fun ty => run_next_end w5 u pos ty hp
        have F6 := F5.none2 (fr_iter w5 u pos)
        have I6 := hE.ito.fr (fr_below (g.fr F6))
        have N6 := hE.num.fr (fr_below (g.fr F6))
        generalize w5.iter u pos = w6 at hnx F6 I6 N6 ⊢
        go_wp2_with (first
          | (go_at_call 66; ((with_reducible refine (prefix_any _ _ _).mono ?_); rintro e w7 ⟨rfl, rfl⟩; cases hpf : Lib.hasPrefix u.data.toList (ByteArray.mk #[45]).data.toList))
          | (go_at_call 242; ((with_reducible refine (itoa_any _ (by omega) (by omega) _ I6).mono ?_); rintro e w7 ⟨v, rfl, ⟨y, rfl, hy⟩, f7⟩; have N7 := N6.fr f7))
          | (go_at_call 194; ((with_reducible refine (parse194 hD _ _ (num_size (by omega) hy) N7).mono ?_); rintro e w8 ⟨v, rfl, ⟨fl, er, rfl⟩, f8⟩)))
        all_goals first
          | (go_ret; exact frOut_mk ⟨_, rfl⟩ ((F6.none2 f7).none2 f8))
set_option maxHeartbeats 4000000 in
theorem number160 {D : Nat → World → Prop} (hD : SlowOk D) {W0 : World} (hE : NumEnv W0) (s : ByteArray) (w : World) (hs : s.size ≤ 262144) (g : Gw W0 w) : Calls Tryz.prog 160 #[.string s] w (FrOut (fun v => ∃ (f : Nat) (k : Int), v = .tuple #[.float .f64 f, .int .i64 k]) w) := by
  go_enter Tryz.func160, Tryz.ntmps160
  go_upto_if 8 with (first
    | (go_at_call 193; ((with_reducible refine (alone_2 hE.laid _ _ hs g).mono ?_); rintro e w1 ⟨b, rfl, hb, f1⟩; cases b)))
  · go_wp2
    go_ret2
    exact frOut_mk ⟨_, _, rfl⟩ f1
  · obtain ⟨h0, hseg⟩ : 0 < s.size ∧ Seg s 0 s.size := by simpa using hb
    clear hb
    have g1 := g.fr f1
    have N1 := hE.num.fr (fr_below g1)
    by_cases h1 : 1 < s.size
    · have hb1 : (s[1]'h1).toNat < 256 := UInt8.toNat_lt _
      go_wp2_with (first
        | (go_at_call 194; ((with_reducible refine (parse194 hD _ _ (by rw [ByteArray.size_append, show (ByteArray.mk #[112, 48]).size = 2 from rfl]; omega) N1).mono ?_); rintro e w8 ⟨v, rfl, ⟨fl, er, rfl⟩, f8⟩))
        | (go_at_call 195; ((with_reducible refine (decimal_any hD hE _ _ hs hseg g1).mono ?_); rintro e w8 ⟨v, rfl, ⟨fl, rfl⟩, f8⟩)))
      all_goals first
        | (go_ret2; exact frOut_mk ⟨_, _, rfl⟩ (f1.none2 f8))
    · go_wp2_with (first
        | (go_at_call 195; ((with_reducible refine (decimal_any hD hE _ _ hs hseg g1).mono ?_); rintro e w8 ⟨v, rfl, ⟨fl, rfl⟩, f8⟩)))
      all_goals first
        | (go_ret2; exact frOut_mk ⟨_, _, rfl⟩ (f1.none2 f8))
theorem numberOk {D : Nat → World → Prop} (hD : SlowOk D) {W0 : World} (hE : NumEnv W0) : NumberOk (Gw W0) := fun s w hs g =>
  (number160 hD hE s w hs g).mono fun _ _ ⟨_, he, ⟨f, k, hv⟩, hf⟩ => ⟨f, k, hv ▸ he, hf⟩
end Go.Proofs.YtjagjjdkgidkjaaGreatDoor
