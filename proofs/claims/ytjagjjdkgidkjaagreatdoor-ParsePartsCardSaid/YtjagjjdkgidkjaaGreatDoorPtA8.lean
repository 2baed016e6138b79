/- The parser's reading: a part (PG PH) of the proof that the law ParseParts answers true. No condition. -/
import Derived.Test.YtjagjjdkgidkjaaGreatDoorPtA7
set_option linter.all false
namespace Go.Proofs.YtjagjjdkgidkjaaGreatDoor
open Go Go.RowKit
set_option maxRecDepth 1000000
variable {c : Cx} {U : Nat → Prop} {i : Nat} {tv : Value} {T : List Nd} {o : Nat} {w : World}
def SomeBool (w : World) (e : Ending) (w' : World) : Prop := ∃ b : Bool, e = .returned (.bool b) ∧ w = w'
set_option maxHeartbeats 4000000 in
theorem reserved_any (s : ByteArray) (w : World) : Calls Tryz.prog 171 #[.string s] w (SomeBool w) := by
  go_enter Tryz.func171, Tryz.ntmps171
  go_wp2
  all_goals (go_ret; exact ⟨_, rfl, rfl⟩)
set_option maxHeartbeats 4000000 in
theorem aggregation_any (s : ByteArray) (w : World) : Calls Tryz.prog 196 #[.string s] w (SomeBool w) := by
  go_enter Tryz.func196, Tryz.ntmps196
  go_wp2
  all_goals (go_ret; exact ⟨_, rfl, rfl⟩)
def SpanOut (c : Cx) (U : Nat → Prop) (i : Nat) (tv : Value) (T : List Nd) (o : Nat) (w : World) (e : Ending) (w' : World) : Prop :=
  (∃ n : Int, e = .returned (.int .i64 n) ∧ PS c U (i + 1) tv T o w' ∧ Fr c.S1 w w') ∨ (Stopped e ∧ Fr c.S1 w w')
set_option maxHeartbeats 4000000 in
theorem span_any {G : World → Prop} (hS : SpanOk G) (hG : ∀ w', Fr none_ w w' → G w') (h : PS c U i tv T o w) :
    Calls Tryz.prog 200 #[.pointer (some ⟨c.p, 0, none⟩)] w (SpanOut c U i tv T o w) := by
  have ht := h.ok.texts i h.i_lt
  have hl := h.ok.len
  have hi := h.i_lt
  go_enter Tryz.func200, Tryz.ntmps200
  go_wp2_with (first
    | (go_at_call 27; ((with_reducible refine (peek_any h).mono ?_); rintro e w' ⟨rfl, hf⟩; have h0 := h.still hf))
    | (go_at_call 244; ((with_reducible refine (hS _ _ ht (hG _ (hf.alloc _))).mono ?_); rintro e w2 ⟨n, k, rfl, f2⟩; have h2 := (h0.still ((Fr.refl none_ _).alloc _)).still f2; have c1 := h2.c1; have z1 := h2.fz 1; have t2 := f2.cell (World.cell?_alloc_new _ _ _ 2) id; simp only [List.getElem_toArray, List.getElem_cons_zero, List.getElem_cons_succ] at t2))
    | (go_at_call 28; ((with_reducible refine (fail_any (h0.still ((Fr.refl none_ _).alloc _))).mono ?_); rintro e w3 ⟨⟨why, at_, hw, rfl⟩, f3⟩)))
  · exact ⟨rfl, .inr ⟨⟨why, at_, hw, rfl⟩, ((hf.alloc _).none2 f3).at1⟩⟩
  · exact ⟨rfl, .inr ⟨⟨_, _, by decide, rfl⟩, ((hf.alloc _).none2 f2).at1⟩⟩
  · rename_i hk _
    go_ret
    have hk' : ((c.l[i]'h.i_lt).kind : Int) = 3 := by simpa using hk
    exact .inl ⟨_, rfl, h2.set1 (Nat.le_succ i) (h2.next (by omega)), ((hf.alloc _).none2 f2).at1.set _ _⟩
theorem und38' : Tryz.prog.underlying 38 = some (.slice 9) := by kernel_rfl
set_option maxHeartbeats 4000000 in
theorem index_any (b n cap : Nat) (f : Nat → ByteArray) (s : ByteArray) (w : World) (hn : n ≤ maxLen) (hc : ∀ j, j < n → w.cell? ⟨b, j, none⟩ = some (.string (f j))) :
    Calls Tryz.prog 159 #[.slice (some ⟨b, 0, none⟩) n cap, .string s] w fun e w' => ∃ k : Int, e = .returned (.int .i64 k) ∧ -1 ≤ k ∧ k < n ∧ w = w' := by
  unfold maxLen at hn
  go_enter Tryz.func159, Tryz.ntmps159
  go_wp2
  go_loop [8] (fun v => ∃ k : Nat, k ≤ n ∧ v = .int .i64 k) (fun v => n - (intOf v).toNat)
  case atStart => exact ⟨0, by omega, rfl⟩
  case round =>
    obtain ⟨k, hk, rfl⟩ := hrel
    by_cases hlt : k < n
    · have hcell := hc k hlt
      go_wp2
      all_goals first
        | (go_ret; exact ⟨_, rfl, by omega, by omega, rfl⟩)
        | (go_round
           case rel => exact ⟨k + 1, by omega, by go_num⟩
           case measure => simp [intOf]; omega)
    · go_wp2
      go_ret
      exact ⟨_, rfl, by omega, by omega, rfl⟩
theorem PS.setOwn {c : Cx} {U : Nat → Prop} {i : Nat} {tv : Value} {T : List Nd} {o : Nat} {w : World} (h : PS c U i tv T o w) {q : Nat} (hq : ∀ k, U k ∨ k = c.bl ∨ k = c.p → k ≠ q) (n : Nat) (v : Value) : PS c U i tv T o (w.setCell ⟨q, n, none⟩ v) :=
  h.keep (S := fun k => k = q) ((Fr.refl _ w).setCell ⟨q, n, none⟩ v fun _ => rfl) hq
theorem PS.fresh {c : Cx} {U : Nat → Prop} {i : Nat} {tv : Value} {T : List Nd} {o : Nat} {w : World} (h : PS c U i tv T o w) {q : Nat} (hq : w.heap.size ≤ q) : ∀ k, U k ∨ k = c.bl ∨ k = c.p → k ≠ q := by
  rintro k (hk | rfl | rfl) e
  · have := h.below k hk; omega
  · have := h.bl_lt; omega
  · have := h.p_lt; omega
theorem Fr.own {S : Nat → Prop} {w w' : World} (h : Fr S w w') {q : Nat} (hq : w.heap.size ≤ q) (n : Nat) (v : Value) : Fr S w (w'.setCell ⟨q, n, none⟩ v) := h.setCell ⟨q, n, none⟩ v fun hlt => absurd hlt (by simp; omega)
theorem Fr.frozen {S : Nat → Prop} {w w' : World} (h : Fr S w w') {a : Addr} (ha : a.block < w.heap.size) (hn : ¬ S a.block) : w'.frozen? a = w.frozen? a := World.frozen?_of_block (h.block a.block ha hn)
theorem cell_at {w : World} {q : Nat} {cs : Array Value} {t : TypeId} {fr : Nat × Nat} (h : w.heap[q]? = some (.cells cs t fr)) (j : Nat) : w.cell? ⟨q, j, none⟩ = cs[j]? := by simp [World.cell?, h]
theorem frz_at {w : World} {q : Nat} {cs : Array Value} {t : TypeId} (h : w.heap[q]? = some (.cells cs t (0, 0))) (j : Nat) : w.frozen? ⟨q, j, none⟩ = false := by simp [World.frozen?, h]
theorem heap_new1 (w : World) (o o' : Obj) : ((w.alloc o).alloc o').heap[w.heap.size]? = some o := by
  rw [Below.heap_alloc _ _ _ (by simp)]; exact heap_alloc_new w o
def MatcherOut (c : Cx) (U : Nat → Prop) (i : Nat) (tv : Value) (T : List Nd) (o : Nat) (w : World) (e : Ending) (w' : World) : Prop :=
  (∃ (n : Int) (a b : ByteArray) (i' : Nat), e = .returned (.agg #[.int .i64 n, .string a, .string b]) ∧ i < i' ∧ PS c U i' tv T o w' ∧ Fr c.S1 w w') ∨ (Stopped e ∧ Fr c.S1 w w')
def opRow : Nat → ByteArray := fun j => [⟨#[61]⟩, ⟨#[33, 61]⟩, ⟨#[61, 126]⟩, ⟨#[33, 126]⟩].getD j ⟨#[]⟩
theorem opRow_get {j : Nat} (hj : j < 4) : (#[Value.string ⟨#[61]⟩, .string ⟨#[33, 61]⟩, .string ⟨#[61, 126]⟩, .string ⟨#[33, 126]⟩] : Array Value)[j]? = some (.string (opRow j)) := by
  match j, hj with
  | 0, _ => rfl
  | 1, _ => rfl
  | 2, _ => rfl
  | 3, _ => rfl
set_option maxHeartbeats 4000000 in
theorem matcher_any (hN : NameOk) (h : PS c U i tv T o w) (b : Bool) :
    Calls Tryz.prog 199 #[.pointer (some ⟨c.p, 0, none⟩), .bool b] w (MatcherOut c U i tv T o w) := by
  have hl := h.ok.len
  have hi := h.i_lt
  have f0 := tok_f0
  have f1 := tok_f1
  have hp := h.p_lt
  have h0 := h.still ((Fr.refl none_ w).alloc (.cells #[.int .i64 0, .string ⟨#[]⟩, .string ⟨#[]⟩] 128))
  go_enter Tryz.func199, Tryz.ntmps199
  go_upto_region 1 with fail
  go_cut [1, 11] (fun _ v wx => ∃ t : Bool, v = .bool t ∧ PS c U i tv T o wx ∧ wx.heap[w.heap.size]? = some (.cells #[.int .i64 0, .string ⟨#[]⟩, .string ⟨#[]⟩] 128 (0, 0)) ∧ Fr c.S1 w wx)
  case first =>
    have hb0 := heap_alloc_new w (.cells #[.int .i64 0, .string ⟨#[]⟩, .string ⟨#[]⟩] 128)
    go_wp2_with (first
      | (go_at_call 71; ((with_reducible refine (is_any h0 _ _).mono ?_); rintro e w1 ⟨rfl, g1⟩; have h1 := h0.still g1)))
    all_goals go_meet
    all_goals first
      | exact ⟨_, rfl, h1, g1.get hb0 id, ((Fr.refl none_ w).alloc _).at1.at1' g1⟩
      | exact ⟨_, rfl, h0, hb0, ((Fr.refl none_ w).alloc _).at1⟩
  case rest =>
    obtain ⟨t, rfl, hc, rb, hF⟩ := hcut
    clear h0
    have hrp : ¬ c.S1 w.heap.size := Ne.symm (Nat.ne_of_lt hp)
    go_wp2_with (first
      | (go_at_call 28; (first | (with_reducible refine (fail_any hc).mono ?_) | (with_reducible refine (fail_any h4).mono ?_) | (with_reducible refine (fail_any (h5.still ((Fr.refl none_ w5).alloc _))).mono ?_)); rintro e w9 ⟨⟨why, at_, hw, rfl⟩, g9⟩)
      | (go_at_call 119; (with_reducible refine (name_any hN hc).mono ?_); rintro e w2 (⟨s, rfl, h2, g2⟩ | ⟨⟨why, at_, hw, rfl⟩, g2⟩))
      | (go_at_call 27; (with_reducible refine (peek_any (h2.still (((Fr.refl none_ w2).alloc _).alloc _))).mono ?_); rintro e w3 ⟨rfl, g3⟩; have h3 := (h2.still (((Fr.refl none_ w2).alloc _).alloc _)).still g3; have M3 := g3.get (heap_new1 w2 _ _) id; have R3 := g3.get (heap_new2 w2 _ _) id; have G3 := ((g2.alloc _).alloc _).at1' g3; have m0 := cell_at M3 0; have mz := frz_at M3 0; simp only [List.getElem?_toArray, List.getElem?_cons_zero] at m0; have hR : ∀ j : Nat, j < 4 → w3.cell? ⟨w2.heap.size + 1, j, none⟩ = some (.string (opRow j)) := (fun j hj => (cell_at R3 j).trans (opRow_get hj)))
      | (go_at_call 159; (with_reducible refine (index_any (w2.heap.size + 1) 4 4 opRow _ w3 (by decide) hR).mono ?_); rintro e wx ⟨k, rfl, hk1, hk2, rfl⟩)
      | (go_at_call 27; (with_reducible refine (peek_any (h3.setOwn (h2.fresh (Nat.le_refl _)) 0 (.int .i64 (1 + k)))).mono ?_); rintro e w4 ⟨rfl, g4⟩; have h4 := (h3.setOwn (h2.fresh (Nat.le_refl _)) 0 (.int .i64 (1 + k))).still g4; have M4 := g4.get (heap_set M3 (n := 0) (.int .i64 (1 + k))) id; have G4 := (G3.own g2.size 0 (.int .i64 (1 + k))).at1' g4; have c1 := h4.c1; have z1 := h4.fz 1; simp only [List.setIfInBounds_toArray, List.set_cons_zero] at M4; have m0' := cell_at M4 0; simp only [List.getElem?_toArray, List.getElem?_cons_zero] at m0'; have hi4 := h4.i_lt)
      | (go_at_call 27; have A5 := h4.next (by omega); have h50 := (show PS c U (i + 1 + 1) tv T o (w4.setCell ⟨c.p, 1, none⟩ (.int .i64 ((i : Int) + 1 + 1))) from h4.set1 (Nat.le_succ _) A5); (with_reducible refine (peek_any h50).mono ?_); rintro e w5 ⟨rfl, g5⟩; have h5 := h50.still g5; have G5 := (G4.set 1 (.int .i64 ((i : Int) + 1 + 1))).at1' g5; have M5 := g5.get ((Below.heap_setCell w4 ⟨c.p, 1, none⟩ (.int .i64 ((i : Int) + 1 + 1)) w2.heap.size (Ne.symm (Nat.ne_of_lt h2.p_lt))).trans M4) id; have m50 := cell_at M5 0; have m51 := cell_at M5 1; have m52 := cell_at M5 2; have R5 := G5.get rb hrp; have r50 := cell_at R5 0; have r51 := cell_at R5 1; have r52 := cell_at R5 2; simp only [List.getElem?_toArray, List.getElem?_cons_zero, List.getElem?_cons_succ] at m50 m51 m52 r50 r51 r52; have mz5 := frz_at M5; have rz5 := frz_at R5; have hp5 := h5.p_lt; have hi5 := h5.i_lt; have c51 := h5.c1; have z51 := h5.fz 1; have hq5 := size_of_get M5; have hr5 := size_of_get R5; have hpq := Nat.ne_of_lt h2.p_lt; have hqp := Ne.symm hpq; have hrq := Nat.ne_of_lt (size_of_get (g2.get rb hrp)); have hqr := Ne.symm hrq; have hpr := Nat.ne_of_lt hp; have hrp' := Ne.symm hpr))
    all_goals first
      | exact ⟨rfl, .inr ⟨⟨why, at_, hw, rfl⟩, hF.at1' g9⟩⟩
      | exact ⟨rfl, .inr ⟨⟨why, at_, hw, rfl⟩, hF.at2 g2⟩⟩
      | exact ⟨rfl, .inr ⟨⟨why, at_, hw, rfl⟩, (hF.at2 G4).at1' g9⟩⟩
      | exact ⟨rfl, .inr ⟨⟨why, at_, hw, rfl⟩, ((hF.at2 G5).alloc _).at1' g9⟩⟩
      | skip
    rename_i hk4
    have hk4' : ((c.l[i + 1 + 1]'hi5).kind : Int) = 4 := by simpa using hk4
    have A6 := h5.next (by omega)
    have Pq := h2.fresh (Nat.le_refl _)
    have Pr := h.fresh (Nat.le_refl _)
    refine bodyPost_ret (v := .agg #[.int .i64 (1 + k), .string s, .string (c.l[i + 1 + 1]'hi5).text]) ?_ rfl (.inl ⟨_, _, _, i + 1 + 1 + 1, rfl, by omega, (((((h5.set1 (Nat.le_succ _) A6).setOwn Pq 2 _).setOwn Pr 0 _).setOwn Pr 1 _).setOwn Pr 2 _).still ((Fr.refl none_ _).alloc _), ((((((hF.at2 G5).set 1 _).own (Nat.le_of_lt (Nat.lt_of_le_of_ne (Nat.le_trans hF.size g2.size) hrq)) 2 _).own (Nat.le_refl _) 0 _).own (Nat.le_refl _) 1 _).own (Nat.le_refl _) 2 _).alloc _⟩)
    simp [results, Tryz.f199, go_sem, *]
end Go.Proofs.YtjagjjdkgidkjaaGreatDoor
namespace Go.Proofs.YtjagjjdkgidkjaaGreatDoor
open Go Go.RowKit
set_option maxRecDepth 1000000
variable {c : Cx} {U : Nat → Prop} {i : Nat} {tv : Value} {T : List Nd} {o : Nat} {w : World}
/-- What the parser and a node under way may write to. -/
def Cx.S2 (c : Cx) (nb : Nat) (k : Nat) : Prop := k = c.p ∨ k = nb
/-- A node under way: what the operator's words may turn of it. -/
def Keeps (cs cs' : List Value) : Prop := cs'.length = 16 ∧ (∀ u ∈ cs', u.oneCell' = true) ∧ ∀ k, k < 6 ∨ 12 ≤ k → cs'[k]? = cs[k]?
def NodeAt (nb : Nat) (cs : List Value) (w : World) : Prop := w.heap[nb]? = some (.cells cs.toArray 49 (0, 0))
def WordsOut (c : Cx) (U : Nat → Prop) (i : Nat) (tv : Value) (T : List Nd) (o nb : Nat) (cs : List Value) (w : World) (e : Ending) (w' : World) : Prop :=
  (∃ v i' cs', e = .returned v ∧ i ≤ i' ∧ PS c U i' tv T o w' ∧ NodeAt nb cs' w' ∧ Keeps cs cs' ∧ Fr (c.S2 nb) w w') ∨ (Stopped e ∧ Fr (c.S2 nb) w w')
/-- What grouping comes to. -/
def GroupOut (c : Cx) (U : Nat → Prop) (i : Nat) (tv : Value) (T : List Nd) (o nb : Nat) (cs : List Value) (w : World) (e : Ending) (w' : World) : Prop :=
  (∃ (b : Bool) (i' : Nat) (cs' : List Value), e = .returned (.bool b) ∧ i ≤ i' ∧ PS c U i' tv T o w' ∧ NodeAt nb cs' w' ∧ Keeps cs cs' ∧ Fr (c.S2 nb) w w') ∨ (Stopped e ∧ Fr (c.S2 nb) w w')
theorem Fr.s2 {c : Cx} {w w' : World} (h : Fr c.S1 w w') (nb : Nat) : Fr (c.S2 nb) w w' := h.mono fun _ _ e => .inl e
theorem Fr.n2 {c : Cx} {w w' : World} (h : Fr none_ w w') (nb : Nat) : Fr (c.S2 nb) w w' := h.mono fun _ _ e => e.elim
theorem Fr.then2 {c : Cx} {nb : Nat} {w w' w'' : World} (h : Fr (c.S2 nb) w w') (h' : Fr (c.S2 nb) w' w'') : Fr (c.S2 nb) w w'' := h.trans h' fun _ _ e => e
theorem Fr.setn {c : Cx} {nb : Nat} {w w' : World} (h : Fr (c.S2 nb) w w') (n : Nat) (v : Value) : Fr (c.S2 nb) w (w'.setCell ⟨nb, n, none⟩ v) := h.setCell ⟨nb, n, none⟩ v fun _ => .inr rfl
theorem Fr.setp {c : Cx} {nb : Nat} {w w' : World} (h : Fr (c.S2 nb) w w') (n : Nat) (v : Value) : Fr (c.S2 nb) w (w'.setCell ⟨c.p, n, none⟩ v) := h.setCell ⟨c.p, n, none⟩ v fun _ => .inl rfl
theorem heap_else {w : World} {p q n : Nat} {ob : Obj} (h : w.heap[q]? = some ob) (hne : q ≠ p) (v : Value) : (w.setCell ⟨p, n, none⟩ v).heap[q]? = some ob := (Below.heap_setCell w ⟨p, n, none⟩ v q hne).trans h
theorem keeps_lit {x0 x1 x2 x3 x4 x5 x6 x7 x8 x9 x10 x11 x12 x13 x14 x15 y6 y7 y8 y9 y10 y11 : Value} (h1 : ∀ u ∈ [x0, x1, x2, x3, x4, x5, x6, x7, x8, x9, x10, x11, x12, x13, x14, x15], u.oneCell' = true) (hy : ∀ u ∈ [y6, y7, y8, y9, y10, y11], u.oneCell' = true) :
    Keeps [x0, x1, x2, x3, x4, x5, x6, x7, x8, x9, x10, x11, x12, x13, x14, x15] [x0, x1, x2, x3, x4, x5, y6, y7, y8, y9, y10, y11, x12, x13, x14, x15] := by
  refine ⟨rfl, ?_, ?_⟩
  · intro u hu
    simp only [List.mem_cons, List.not_mem_nil, or_false] at hu h1 hy
    rcases hu with rfl | rfl | rfl | rfl | rfl | rfl | rfl | rfl | rfl | rfl | rfl | rfl | rfl | rfl | rfl | rfl
    all_goals first | exact h1 _ (by simp) | exact hy _ (by simp)
  · intro k hk
    match k, hk with
    | 0, _ => rfl
    | 1, _ => rfl
    | 2, _ => rfl
    | 3, _ => rfl
    | 4, _ => rfl
    | 5, _ => rfl
    | 6, h => omega
    | 7, h => omega
    | 8, h => omega
    | 9, h => omega
    | 10, h => omega
    | 11, h => omega
    | 12, _ => rfl
    | 13, _ => rfl
    | 14, _ => rfl
    | 15, _ => rfl
    | k + 16, _ => rfl
set_option maxHeartbeats 4000000 in
theorem grouping_any (hN : NameOk) (h : PS c U i tv T o w) (nb : Nat) (hnb : ∀ k, U k ∨ k = c.bl ∨ k = c.p → k ≠ nb) (x0 x1 x2 x3 x4 x5 x6 x7 x8 x9 x10 x11 x12 x13 x14 x15 : Value)
    (hn : NodeAt nb [x0, x1, x2, x3, x4, x5, x6, x7, x8, x9, x10, x11, x12, x13, x14, x15] w) (h1 : ∀ u ∈ [x0, x1, x2, x3, x4, x5, x6, x7, x8, x9, x10, x11, x12, x13, x14, x15], u.oneCell' = true) :
    Calls Tryz.prog 243 #[.pointer (some ⟨c.p, 0, none⟩), .pointer (some ⟨nb, 0, none⟩)] w (GroupOut c U i tv T o nb [x0, x1, x2, x3, x4, x5, x6, x7, x8, x9, x10, x11, x12, x13, x14, x15] w) := by
  have hl := h.ok.len
  have hi := h.i_lt
  have hp := h.p_lt
  have hpn : c.p ≠ nb := hnb _ (.inr (.inr rfl))
  have hnp := Ne.symm hpn
  unfold NodeAt at hn
  have hnl := size_of_get hn
  go_enter Tryz.func243, Tryz.ntmps243
  go_wp2_with (first
    | (go_at_call 71; (with_reducible refine (is_any h _ _).mono ?_); rintro e w1 ⟨rfl, f1⟩; have p1 := h.still f1; have n1 := f1.get hn id; have n16 := cell_at n1 6; have z1 := frz_at n1; have c11 := p1.c1; have zp1 := p1.fz 1; simp only [List.getElem?_toArray, List.getElem?_cons_zero, List.getElem?_cons_succ] at n16)
    | (go_at_call 71; have p1' := p1.setOwn hnb 6 (.bool false); (with_reducible refine (is_any p1' _ _).mono ?_); rintro e w2 ⟨rfl, f2⟩; have p2 := p1'.still f2; have n2 := f2.get (heap_set n1 (n := 6) (.bool false)) id; have c12 := p2.c1; have zp2 := p2.fz 1)
    | (go_at_call 76; (first
        | (have q1 := (show PS c U (i + 1) tv T o ((w1.setCell ⟨nb, 6, none⟩ (.bool true)).setCell ⟨c.p, 1, none⟩ (.int .i64 ((i : Int) + 1))) from (p1.setOwn hnb 6 (.bool true)).set1 (Nat.le_succ i) (h.nextTok (by assumption) (by decide))); have m1 := heap_else (p := c.p) (n := 1) (heap_set n1 (n := 6) (.bool true)) hnp (.int .i64 ((i : Int) + 1)); have F1 : Fr (c.S2 nb) w _ := ((f1.n2 nb).setn 6 (.bool true)).setp 1 (.int .i64 ((i : Int) + 1)); with_reducible refine (names_any hN q1).mono ?_)
        | (have q1 := (show PS c U (i + 1) tv T o (w2.setCell ⟨c.p, 1, none⟩ (.int .i64 ((i : Int) + 1))) from p2.set1 (Nat.le_succ i) (h.nextTok (of_not (by assumption)) (by decide))); have m1 := heap_else (p := c.p) (n := 1) n2 hnp (.int .i64 ((i : Int) + 1)); have F1 : Fr (c.S2 nb) w _ := (((f1.n2 nb).setn 6 (.bool false)).then2 (f2.n2 nb)).setp 1 (.int .i64 ((i : Int) + 1)); with_reducible refine (names_any hN q1).mono ?_)); rintro e w3 (⟨va, vm, vk, i', rfl, hi', p3, f3⟩ | ⟨⟨why, at_, hw, rfl⟩, f3⟩); (have n3 := f3.get m1 (Ne.symm hpn); have n3b := cell_at n3 11; have z3 := frz_at n3; simp only [List.setIfInBounds_toArray, List.set_cons_zero, List.set_cons_succ, List.getElem?_toArray, List.getElem?_cons_zero, List.getElem?_cons_succ] at n3b)))
  all_goals first
    | exact ⟨rfl, .inr ⟨⟨why, at_, hw, rfl⟩, F1.then2 (f3.s2 nb)⟩⟩
    | (have N3 := heap_set n3 (n := 11) (.slice va vm vk)
       simp only [List.setIfInBounds_toArray, List.set_cons_zero, List.set_cons_succ] at N3
       go_ret
       exact .inl ⟨_, _, _, rfl, by omega, p3.setOwn hnb 11 _, N3, keeps_lit h1 (by simp_all [Value.oneCell']), (F1.then2 (f3.s2 nb)).setn 11 _⟩)
    | (simp only [List.setIfInBounds_toArray, List.set_cons_zero, List.set_cons_succ] at n2
       go_ret
       exact .inl ⟨_, _, _, rfl, Nat.le_refl _, p2, n2, keeps_lit h1 (by simp_all [Value.oneCell']), (((f1.n2 nb).setn 6 (.bool false)).then2 (f2.n2 nb))⟩)
end Go.Proofs.YtjagjjdkgidkjaaGreatDoor
