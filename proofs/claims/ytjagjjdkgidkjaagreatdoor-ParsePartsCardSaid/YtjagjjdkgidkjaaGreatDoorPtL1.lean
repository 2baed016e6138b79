/- Parse and the law's walk: a part (Pr0 Pr1) of the proof that the law ParseParts answers true. No condition. -/
import Derived.Test.YtjagjjdkgidkjaaGreatDoorPtA4
import Derived.Test.YtjagjjdkgidkjaaGreatDoorPtB6
import Derived.Test.YtjagjjdkgidkjaaGreatDoorPtA15
import Derived.Test.YtjagjjdkgidkjaaGreatDoorPtB7
import Derived.Recover
import Derived.Defers
set_option linter.all false
namespace Go.Proofs.YtjagjjdkgidkjaaGreatDoor
open Go Go.RowKit
set_option maxRecDepth 1000000
set_option maxHeartbeats 4000000 in
theorem stop_idle (a b c : Addr) (w : World) :
    CallsD Tryz.prog 25 #[.pointer (some a), .pointer (some b), .pointer (some c)] .returning w fun e u' w' => e = .returned (.tuple #[]) ∧ u' = .returning ∧ w' = w := by
  refine callsD_of_wpS Tryz.func25 rfl fun c₀ cs hu => ?_
  apply wpS_seq
  apply wpS_region
  simp [wpOpsS, go_sem, recoverD, hu, Tryz.ntmps25, Exit.thenS]
  refine wpS_of_wp ?_
  have hA : (#[.pointer (some a), .pointer (some b), .pointer (some c)] ++ ((Array.replicate 19 undef).setIfInBounds 3 .nilIface).setIfInBounds 0 .nilIface : Array Value) = #[.pointer (some a), .pointer (some b), .pointer (some c), .nilIface, undef, undef, .nilIface, undef, undef, undef, undef, undef, undef, undef, undef, undef, undef, undef, undef, undef, undef, undef] := by kernel_rfl
  rw [hA]
  have hne : ∀ w : World, (binOp .neq 20 .nilIface .nilIface).run Tryz.prog w = .ok (.bool false) w := fun _ => by kernel_rfl
  go_wp2
  cases c₀
  simp_all [bodyPostS, results, Tryz.results25]
set_option maxHeartbeats 4000000 in
theorem stop_panicking (a : Nat) (x0 x1 x2 : Value) (why at_ : Int) (w : World) (h0 : w.heap[a]? = some (.cells #[x0] 24 (0, 0))) (h1 : w.heap[a + 1]? = some (.cells #[x1] 25 (0, 0))) (h2 : w.heap[a + 1 + 1]? = some (.cells #[x2] 3 (0, 0))) :
    CallsD Tryz.prog 25 #[.pointer (some ⟨a, 0, none⟩), .pointer (some ⟨a + 1, 0, none⟩), .pointer (some ⟨a + 1 + 1, 0, none⟩)] (.panicking [{ v := .iface 60 (.agg #[.int .i64 why, .int .i64 at_]), recovered := false }]) w fun e u' w' =>
      e = .returned (.tuple #[]) ∧ u' = .panicking [{ v := .iface 60 (.agg #[.int .i64 why, .int .i64 at_]), recovered := true }] ∧ w'.cell? ⟨a, 0, none⟩ = some (.slice none 0 0) ∧ w'.cell? ⟨a + 1, 0, none⟩ = some (.int .i64 why) ∧ w'.cell? ⟨a + 1 + 1, 0, none⟩ = some (.int .i64 at_) ∧ Fr (fun k => k = a ∨ k = a + 1 ∨ k = a + 1 + 1) w w' := by
  refine callsD_of_wpS Tryz.func25 rfl fun c₀ cs hu => ?_
  apply wpS_seq
  apply wpS_region
  simp [wpOpsS, go_sem, recoverD, hu, Tryz.ntmps25, Exit.thenS]
  refine wpS_of_wp ?_
  have hA : (#[.pointer (some ⟨a, 0, none⟩), .pointer (some ⟨a + 1, 0, none⟩), .pointer (some ⟨a + 1 + 1, 0, none⟩)] ++ ((Array.replicate 19 undef).setIfInBounds 3 (.iface 60 (.agg #[.int .i64 why, .int .i64 at_]))).setIfInBounds 0 (.iface 60 (.agg #[.int .i64 why, .int .i64 at_])) : Array Value) = #[.pointer (some ⟨a, 0, none⟩), .pointer (some ⟨a + 1, 0, none⟩), .pointer (some ⟨a + 1 + 1, 0, none⟩), (.iface 60 (.agg #[.int .i64 why, .int .i64 at_])), undef, undef, (.iface 60 (.agg #[.int .i64 why, .int .i64 at_])), undef, undef, undef, undef, undef, undef, undef, undef, undef, undef, undef, undef, undef, undef, undef] := by kernel_rfl
  rw [hA]
  have hne : ∀ (v : Value) (w : World), (binOp .neq 20 (.iface 60 v) .nilIface).run Tryz.prog w = .ok (.bool true) w := fun _ _ => by kernel_rfl
  have hta : ∀ (x y : Int) (w : World), (Instr.typeAssert (.iface 60 (.agg #[.int .i64 x, .int .i64 y])) 20 60 true).run Tryz.prog w = .ok (.tuple #[.agg #[.int .i64 x, .int .i64 y], .bool true]) w := fun _ _ _ => by kernel_rfl
  have c0 : w.cell? ⟨a, 0, none⟩ = some x0 := by simp [World.cell?, h0]
  have c1 : w.cell? ⟨a + 1, 0, none⟩ = some x1 := by simp [World.cell?, h1]
  have c2 : w.cell? ⟨a + 1 + 1, 0, none⟩ = some x2 := by simp [World.cell?, h2]
  have hs := size_of_get h2
  have F1 : Fr none_ w (w.alloc (Obj.cells #[Value.int IntKind.i64 why, Value.int IntKind.i64 at_] 60)) := (Fr.refl none_ w).alloc _
  have n0 : (w.alloc (Obj.cells #[Value.int IntKind.i64 why, Value.int IntKind.i64 at_] 60)).cell? ⟨w.heap.size, 0, none⟩ = some (.int .i64 why) := by rw [World.cell?_alloc_new]; rfl
  have n1 : (w.alloc (Obj.cells #[Value.int IntKind.i64 why, Value.int IntKind.i64 at_] 60)).cell? ⟨w.heap.size, 1, none⟩ = some (.int .i64 at_) := by rw [World.cell?_alloc_new]; rfl
  have D0 := Lib.hid (F1.cell c0 id)
  have D1 := Lib.hid (F1.cell c1 id)
  have D2 := Lib.hid (F1.cell c2 id)
  have Z0 := Lib.hid (show (w.alloc (Obj.cells #[Value.int IntKind.i64 why, Value.int IntKind.i64 at_] 60)).frozen? ⟨a, 0, none⟩ = false from by simp [World.frozen?, F1.get h0 id])
  have Z1 := Lib.hid (show (w.alloc (Obj.cells #[Value.int IntKind.i64 why, Value.int IntKind.i64 at_] 60)).frozen? ⟨a + 1, 0, none⟩ = false from by simp [World.frozen?, F1.get h1 id])
  have Z2 := Lib.hid (show (w.alloc (Obj.cells #[Value.int IntKind.i64 why, Value.int IntKind.i64 at_] 60)).frozen? ⟨a + 1 + 1, 0, none⟩ = false from by simp [World.frozen?, F1.get h2 id])
  have N0 := Lib.hid n0
  have N1 := Lib.hid n1
  clear h0 h1 h2 n0 n1 c0 c1 c2
  go_wp2
  generalize w.alloc (Obj.cells #[Value.int IntKind.i64 why, Value.int IntKind.i64 at_] 60) = w1 at F1 D0 D1 D2 Z0 Z1 Z2 N0 N1 ⊢
  have e1 : w.heap.size ≠ a := by omega
  have e2 : w.heap.size ≠ a + 1 := by omega
  have e3 : w.heap.size ≠ a + 1 + 1 := by omega
  have d0 := D0.out
  have d1 := D1.out
  have d2 := D2.out
  have z0 := Z0.out
  have z1 := Z1.out
  have z2 := Z2.out
  have n0 := N0.out
  have n1 := N1.out
  go_region
  have FF : Fr (fun k => k = a ∨ k = a + 1 ∨ k = a + 1 + 1) w (((w1.setCell ⟨a, 0, none⟩ (.slice none 0 0)).setCell ⟨a + 1, 0, none⟩ (.int .i64 why)).setCell ⟨a + 1 + 1, 0, none⟩ (.int .i64 at_)).drew :=
    (((((F1.mono fun _ _ e => e.elim).setCell ⟨a, 0, none⟩ _ fun _ => .inl rfl).setCell ⟨a + 1, 0, none⟩ _ fun _ => .inr (.inl rfl)).setCell ⟨a + 1 + 1, 0, none⟩ _ fun _ => .inr (.inr rfl))).drew
  have q0 : (((w1.setCell ⟨a, 0, none⟩ (.slice none 0 0)).setCell ⟨a + 1, 0, none⟩ (.int .i64 why)).setCell ⟨a + 1 + 1, 0, none⟩ (.int .i64 at_)).drew.cell? ⟨a, 0, none⟩ = some (.slice none 0 0) := by go_simp
  have q1 : (((w1.setCell ⟨a, 0, none⟩ (.slice none 0 0)).setCell ⟨a + 1, 0, none⟩ (.int .i64 why)).setCell ⟨a + 1 + 1, 0, none⟩ (.int .i64 at_)).drew.cell? ⟨a + 1, 0, none⟩ = some (.int .i64 why) := by go_simp
  have q2 : (((w1.setCell ⟨a, 0, none⟩ (.slice none 0 0)).setCell ⟨a + 1, 0, none⟩ (.int .i64 why)).setCell ⟨a + 1 + 1, 0, none⟩ (.int .i64 at_)).drew.cell? ⟨a + 1 + 1, 0, none⟩ = some (.int .i64 at_) := by go_simp
  generalize (((w1.setCell ⟨a, 0, none⟩ (.slice none 0 0)).setCell ⟨a + 1, 0, none⟩ (.int .i64 why)).setCell ⟨a + 1 + 1, 0, none⟩ (.int .i64 at_)).drew = w4 at FF q0 q1 q2 ⊢
  clear D0 D1 D2 Z0 Z1 Z2 N0 N1 d0 d1 d2 z0 z1 z2 n0 n1 hta hne hA
  show bodyPostS Tryz.prog Tryz.f25 c₀ cs _ Exit.normal _ _ _
  cases c₀
  simp_all [bodyPostS, results, Tryz.results25]
end Go.Proofs.YtjagjjdkgidkjaaGreatDoor
namespace Go.Proofs.YtjagjjdkgidkjaaGreatDoor
open Go Go.RowKit
set_option maxRecDepth 1000000
/-- A tree: its nodes' row, each node's parts, one root. -/
def TreeOk (tv : Value) (T : List Nd) (w : World) : Prop :=
  ∃ (B : Nat) (U : Nat → Prop), w.ownsRow B 49 16 tv T.length (T.map Nd.cs).flatten ∧ (∀ nd ∈ T, Rep U tv w nd) ∧ 1 ≤ T.length ∧ T.length ≤ 1000 ∧ Fo.Forest 0 (T.map Nd.kids) [T.length - 1]
def ParseOut (w : World) (e : Ending) (w' : World) : Prop :=
  (∃ (why at_ : Int), why ≠ 0 ∧ e = .returned (.tuple #[.agg #[.slice none 0 0], .int .i64 why, .int .i64 at_]) ∧ Fr none_ w w') ∨
  (∃ (tv : Value) (T : List Nd), e = .returned (.tuple #[.agg #[tv], .int .i64 0, .int .i64 0]) ∧ TreeOk tv T w' ∧ Fr none_ w w')
theorem cell0 {w : World} {k : Nat} {v : Value} {t : TypeId} (h : w.heap[k]? = some (.cells #[v] t (0, 0))) : w.cell? ⟨k, 0, none⟩ = some v := by simp [World.cell?, h]
theorem fz0 {w : World} {k : Nat} {v : Value} {t : TypeId} (h : w.heap[k]? = some (.cells #[v] t (0, 0))) : w.frozen? ⟨k, 0, none⟩ = false := by simp [World.frozen?, h]
/-- The parser's own state as it begins. -/
def cx0 (p gg cap : Nat) (l : List Tok) (z : Tok) : Cx := ⟨p, gg, cap, p + 1, l ++ [z]⟩
def noU : Nat → Prop := fun _ => False
theorem toks_all {l : List Tok} {z : Tok} (hin : Inner l) (hz : z.kind = 0) (hzt : z.text.size ≤ 262144) :
    (∀ (j : Nat) (h : j < (l ++ [z]).length), (l ++ [z])[j].kind = 0 ↔ j + 1 = (l ++ [z]).length) ∧ (∀ (j : Nat) (h : j < (l ++ [z]).length), (l ++ [z])[j].kind ≤ 5) ∧ (∀ (j : Nat) (h : j < (l ++ [z]).length), (l ++ [z])[j].text.size ≤ 262144) := by
  refine ⟨fun j h => ?_, fun j h => ?_, fun j h => ?_⟩
  all_goals
    have h' : j < l.length + 1 := by simpa using h
    rw [List.getElem_append]
    split
  · rename_i hj
    have := (hin _ (List.getElem_mem hj)).1
    simp only [List.length_append, List.length_cons, List.length_nil]
    constructor
    · intro e; omega
    · intro e; omega
  · simp only [List.getElem_singleton, List.length_append, List.length_cons, List.length_nil]
    constructor
    · intro e; omega
    · intro e; exact hz
  · rename_i hj
    exact (hin _ (List.getElem_mem hj)).2.1
  · simp only [List.getElem_singleton]; omega
  · rename_i hj
    exact (hin _ (List.getElem_mem hj)).2.2
  · simpa only [List.getElem_singleton] using hzt
theorem ps_start {w4 w5 : World} {S : Nat → Prop} {gg cap p : Nat} {l : List Tok} {z : Tok} (hTk : Toks gg (l ++ [z]) w4) (hlen : l.length + 1 ≤ 4096) (hin : Inner l) (hz : z.kind = 0) (hzt : z.text.size ≤ 262144) (hF : Fr S w4 w5) (hS : ¬ S gg) (hp : w5.heap.size = p) (hg2 : gg < p) :
    PS (cx0 p gg cap l z) noU 0 (.slice none 0 0) [] 0 (w5.alloc (.cells #[.slice (some ⟨gg, 0, none⟩) (l.length + 1) cap, .int .i64 0, .slice none 0 0, .int .i64 0] 64)) := {
  ok := {
    p_lt := Nat.lt_succ_self _
    bl_lt := Nat.lt_succ_of_lt hg2
    ne := by show gg ≠ p; omega
    len := by show (l ++ [z]).length ≤ 4096; simpa using hlen
    last := (toks_all hin hz hzt).1
    kinds := (toks_all hin hz hzt).2.1
    texts := (toks_all hin hz hzt).2.2 }
  blk := by
    show (w5.alloc _).heap[p]? = _
    have := heap_alloc_new w5 (.cells #[.slice (some ⟨gg, 0, none⟩) (l.length + 1) cap, .int .i64 0, .slice none 0 0, .int .i64 0] 64)
    rw [hp] at this
    rw [this]
    simp [Cx.cells, Cx.row, cx0]
  tok := (hTk.keep hF hS).keep ((Fr.refl none_ w5).alloc _) id
  own := ⟨rfl, .inl ⟨rfl, rfl⟩⟩
  reps := fun nd h => by cases h
  used := fun g h => by cases h
  below := fun g h => h.elim
  above := fun g h => h.elim
  i_lt := by show 0 < (l ++ [z]).length; simp
  n_le := Nat.le_refl _
  o_le := by omega
  nh := by show p + 1 ≤ _; simp; omega }
theorem tree_row {w : World} {B : Nat} {e : TypeId} {z n : Nat} {tv : Value} {xs : List Value} (h : w.ownsRow B e z tv n xs) (hn : 1 ≤ n) : ∃ g cap, tv = .slice (some ⟨g, 0, none⟩) n cap := by
  rcases h.2 with ⟨_, h0⟩ | ⟨g, cap, cur, rfl, _⟩
  · omega
  · exact ⟨g, cap, rfl⟩
theorem rd_parts {c : Cx} {p : Nat} {S : Nat → Prop} {w w7 : World} {i' k : Nat} {tv' : Value} {N : List Nd} (hp : c.p = p) (r : RdOk c noU 0 [] 0 S w i' tv' N k w7) :
    ∃ gt capt, tv' = .slice (some ⟨gt, 0, none⟩) N.length capt ∧
      Calls Tryz.prog 27 #[.pointer (some ⟨p, 0, none⟩)] w7 (fun e w' => ∃ (kd : Int) (tx at_ : Value), e = .returned (.agg #[.int .i64 kd, tx, at_]) ∧ Fr none_ w7 w') ∧
      (∀ w8, Fr none_ w7 w8 → Calls Tryz.prog 28 #[.pointer (some ⟨p, 0, none⟩)] w8 (fun e w' => Stopped e ∧ Fr none_ w8 w')) ∧
      w7.cell? ⟨p, 2, none⟩ = some tv' := by
  subst hp
  have h7 := r.ps
  have hro := r.root
  have hN : 1 ≤ N.length := by simp at hro; omega
  obtain ⟨g, cap, e⟩ := tree_row h7.own (by simpa using hN)
  have e' : tv' = .slice (some ⟨g, 0, none⟩) N.length cap := by simpa using e
  exact ⟨g, cap, e', (peek_any h7).mono fun _ _ ⟨he, hf⟩ => ⟨_, _, _, he, hf⟩, fun w8 F => fail_any (h7.still F), h7.c2⟩
/-- The three named results lie where they were made; what was there is as it was. -/
def Nm3 (w w' : World) : Prop := (∃ v, w'.heap[w.heap.size]? = some (.cells #[v] 24 (0, 0))) ∧ (∃ v, w'.heap[w.heap.size + 1]? = some (.cells #[v] 25 (0, 0))) ∧ (∃ v, w'.heap[w.heap.size + 1 + 1]? = some (.cells #[v] 3 (0, 0))) ∧ Fr none_ w w'
theorem Nm3.fr {w w1 w2 : World} {S : Nat → Prop} (h : Nm3 w w1) (f : Fr S w1 w2) (hS : ∀ k, S k → w.heap.size + 3 ≤ k) : Nm3 w w2 := by
  obtain ⟨⟨v0, h0⟩, ⟨v1, h1⟩, ⟨v2, h2⟩, F⟩ := h
  refine ⟨⟨v0, f.get h0 fun e => ?_⟩, ⟨v1, f.get h1 fun e => ?_⟩, ⟨v2, f.get h2 fun e => ?_⟩, F.trans f fun k hk e => ?_⟩
  · have := hS _ e; omega
  · have := hS _ e; omega
  · have := hS _ e; omega
  · have := hS _ e; omega
theorem tree_keep {c : Cx} {S S' : Nat → Prop} {w w7 w8 w10 : World} {i' k : Nat} {tv' : Value} {N : List Nd} (r : RdOk c noU 0 [] 0 S w i' tv' N k w7) (F8 : Fr none_ w7 w8) (F10 : Fr S' w8 w10) (hS : ∀ k, S' k → k < c.B ∧ k ≠ c.bl ∧ k ≠ c.p) (hN : N.length ≤ 1000) : TreeOk tv' N w10 := by
  have h7 := r.ps
  have hro := r.root
  have hfo := r.forest
  have h10 := (h7.still F8).keep F10 (fun k hk e => by
    have := hS k e
    rcases hk with h | h | h
    · have := h7.above k h; omega
    · exact this.2.1 h
    · exact this.2.2 h)
  simp at hro
  have ho := h10.own
  have hre := h10.reps
  simp only [List.nil_append] at ho hre
  refine ⟨_, _, ho, hre, by omega, hN, ?_⟩
  rw [show N.length - 1 = k by omega]
  simpa using hfo
def SS (w : World) (k : Nat) : Prop := k = w.heap.size + 1 ∨ k = w.heap.size + 1 + 1
set_option maxHeartbeats 8000000 in
theorem parse9 {W0 : World} (hL : Laid W0) (hS : SpanOk (Gw W0)) (hNum : NumberOk (Gw W0)) (s : ByteArray) (w : World) (hs : s.size ≤ maxLen) (g : Gw W0 w) : Calls Tryz.prog 9 #[.string s] w (ParseOut w) := by
  have hmf : ∀ (fn : Fn) (first cap : Array Value) (w : World), (Instr.makeFunc fn first cap).run Tryz.prog w = .ok (.func fn first cap) w := fun _ _ _ _ => rfl
  obtain ⟨w3, hw3⟩ : ∃ w3, w3 = ((w.alloc (.cells #[.slice none 0 0] 24)).alloc (.cells #[.int .i64 0] 25)).alloc (.cells #[.int .i64 0] 3) := ⟨_, rfl⟩
  have F3 : Fr none_ w w3 := by rw [hw3]; exact (((Fr.refl _ w).alloc _).alloc _).alloc _
  have s3 : w3.heap.size = w.heap.size + 3 := by rw [hw3]; simp
  have b0 : w3.heap[w.heap.size]? = some (.cells #[.slice none 0 0] 24 (0, 0)) := by
    rw [hw3, Below.heap_alloc _ _ _ (by simp; omega), Below.heap_alloc _ _ _ (by simp)]
    exact heap_alloc_new w _
  have b1 : w3.heap[w.heap.size + 1]? = some (.cells #[.int .i64 0] 25 (0, 0)) := by
    rw [hw3, Below.heap_alloc _ _ _ (by simp)]
    have := heap_alloc_new (w.alloc (.cells #[.slice none 0 0] 24)) (.cells #[.int .i64 0] 25)
    simpa using this
  have b2 : w3.heap[w.heap.size + 1 + 1]? = some (.cells #[.int .i64 0] 3 (0, 0)) := by
    rw [hw3]
    have := heap_alloc_new ((w.alloc (.cells #[.slice none 0 0] 24)).alloc (.cells #[.int .i64 0] 25)) (.cells #[.int .i64 0] 3)
    simpa using this
  have T := tokens_any hL s w3 hs (g.fr F3)
  subst hw3
  go_enter_defers Tryz.func9, Tryz.ntmps9
  go_upto_region 2 with (go_at_call 15; ((with_reducible refine T.mono ?_); rintro e w4 (⟨⟨why, at_, hw, rfl⟩, F4⟩ | ⟨gg, cap, l, z, rfl, hg1, hg2, hTk, hlen, hin, hz, hzt, F4⟩); all_goals (have e0 := F4.get b0 id; have e1 := F4.get b1 id; have e2 := F4.get b2 id; have F5 := F3.none2 F4; have d0 := cell0 e0; have d1 := cell0 e1; have d2 := cell0 e2; have z0 := fz0 e0; have z1 := fz0 e1; have z2 := fz0 e2)))
  · have hwb : (why != 0) = true := by simpa using hw
    clear T b0 b1 b2 e0 e1 e2 s3 hmf
    have F6 : Fr none_ w ((w4.setCell ⟨w.heap.size + 1, 0, none⟩ (.int .i64 why)).setCell ⟨w.heap.size + 1 + 1, 0, none⟩ (.int .i64 at_)) :=
      (F5.setCell ⟨w.heap.size + 1, 0, none⟩ _ (fun (h : w.heap.size + 1 < w.heap.size) => by omega)).setCell ⟨w.heap.size + 1 + 1, 0, none⟩ _ (fun (h : w.heap.size + 1 + 1 < w.heap.size) => by omega)
    have q0 := Lib.hid (show ((w4.setCell ⟨w.heap.size + 1, 0, none⟩ (.int .i64 why)).setCell ⟨w.heap.size + 1 + 1, 0, none⟩ (.int .i64 at_)).cell? ⟨w.heap.size, 0, none⟩ = some (.slice none 0 0) from by go_simp)
    have q1 := Lib.hid (show ((w4.setCell ⟨w.heap.size + 1, 0, none⟩ (.int .i64 why)).setCell ⟨w.heap.size + 1 + 1, 0, none⟩ (.int .i64 at_)).cell? ⟨w.heap.size + 1, 0, none⟩ = some (.int .i64 why) from by go_simp)
    have q2 := Lib.hid (show ((w4.setCell ⟨w.heap.size + 1, 0, none⟩ (.int .i64 why)).setCell ⟨w.heap.size + 1 + 1, 0, none⟩ (.int .i64 at_)).cell? ⟨w.heap.size + 1 + 1, 0, none⟩ = some (.int .i64 at_) from by go_simp)
    have y0 := Lib.hid (show ((w4.setCell ⟨w.heap.size + 1, 0, none⟩ (.int .i64 why)).setCell ⟨w.heap.size + 1 + 1, 0, none⟩ (.int .i64 at_)).frozen? ⟨w.heap.size, 0, none⟩ = false from by go_simp)
    have y1 := Lib.hid (show ((w4.setCell ⟨w.heap.size + 1, 0, none⟩ (.int .i64 why)).setCell ⟨w.heap.size + 1 + 1, 0, none⟩ (.int .i64 at_)).frozen? ⟨w.heap.size + 1, 0, none⟩ = false from by go_simp)
    have y2 := Lib.hid (show ((w4.setCell ⟨w.heap.size + 1, 0, none⟩ (.int .i64 why)).setCell ⟨w.heap.size + 1 + 1, 0, none⟩ (.int .i64 at_)).frozen? ⟨w.heap.size + 1 + 1, 0, none⟩ = false from by go_simp)
    clear d0 d1 d2 z0 z1 z2 F5 F4
    generalize ((w4.setCell ⟨w.heap.size + 1, 0, none⟩ (.int .i64 why)).setCell ⟨w.heap.size + 1 + 1, 0, none⟩ (.int .i64 at_)) = w5 at F6 q0 q1 q2 y0 y1 y2 ⊢
    have d0 := q0.out
    have d1 := q1.out
    have d2 := q2.out
    have z0 := y0.out
    have z1 := y1.out
    have z2 := y2.out
    clear q0 q1 q2 y0 y1 y2
    go_wp2
    go_region
    go_wp2
    have F7 : Fr none_ w (((w5.setCell ⟨w.heap.size, 0, none⟩ (.slice none 0 0)).setCell ⟨w.heap.size + 1, 0, none⟩ (.int .i64 why)).setCell ⟨w.heap.size + 1 + 1, 0, none⟩ (.int .i64 at_)).drew :=
      (((F6.setCell ⟨w.heap.size, 0, none⟩ _ (fun (h : w.heap.size < w.heap.size) => by omega)).setCell ⟨w.heap.size + 1, 0, none⟩ _ (fun (h : w.heap.size + 1 < w.heap.size) => by omega)).setCell ⟨w.heap.size + 1 + 1, 0, none⟩ _ (fun (h : w.heap.size + 1 + 1 < w.heap.size) => by omega)).drew
    have HW := Lib.hid hw
    clear hw hwb hL hS hNum hs g F3 F6
    simp [bodyPostD, Leaves, settle, results, Tryz.results9, go_sem, d0, d1, d2]
    exact .inl ⟨why, at_, HW.out, rfl, F7⟩
  · clear T b0 b1 b2
    have HF := (((Fr.refl (SS w) w4).setCell ⟨w.heap.size + 1, 0, none⟩ (.int .i64 0) (fun _ => .inl rfl)).setCell ⟨w.heap.size + 1 + 1, 0, none⟩ (.int .i64 0) fun _ => .inr rfl)
    have hps := ps_start (cap := cap) (p := w4.heap.size) hTk hlen hin hz hzt HF (by rintro (e | e) <;> omega) (by simp) hg2
    have F6 : Fr none_ w ((w4.setCell ⟨w.heap.size + 1, 0, none⟩ (.int .i64 0)).setCell ⟨w.heap.size + 1 + 1, 0, none⟩ (.int .i64 0)) :=
      (F5.setCell ⟨w.heap.size + 1, 0, none⟩ _ (fun (h : w.heap.size + 1 < w.heap.size) => by omega)).setCell ⟨w.heap.size + 1 + 1, 0, none⟩ _ (fun (h : w.heap.size + 1 + 1 < w.heap.size) => by omega)
    have q0 : ((w4.setCell ⟨w.heap.size + 1, 0, none⟩ (.int .i64 0)).setCell ⟨w.heap.size + 1 + 1, 0, none⟩ (.int .i64 0)).heap[w.heap.size]? = some (.cells #[.slice none 0 0] 24 (0, 0)) := by
      rw [Below.heap_setCell _ _ _ _ (show w.heap.size ≠ w.heap.size + 1 + 1 by omega), Below.heap_setCell _ _ _ _ (show w.heap.size ≠ w.heap.size + 1 by omega)]
      exact e0
    have q1 : ((w4.setCell ⟨w.heap.size + 1, 0, none⟩ (.int .i64 0)).setCell ⟨w.heap.size + 1 + 1, 0, none⟩ (.int .i64 0)).heap[w.heap.size + 1]? = some (.cells #[.int .i64 0] 25 (0, 0)) := by
      rw [Below.heap_setCell _ _ _ _ (show w.heap.size + 1 ≠ w.heap.size + 1 + 1 by omega)]
      exact heap_set e1 _
    have q2a : (w4.setCell ⟨w.heap.size + 1, 0, none⟩ (.int .i64 0)).heap[w.heap.size + 1 + 1]? = some (.cells #[.int .i64 0] 3 (0, 0)) := by
      rw [Below.heap_setCell _ _ _ _ (show w.heap.size + 1 + 1 ≠ w.heap.size + 1 by omega)]
      exact e2
    have q2 : ((w4.setCell ⟨w.heap.size + 1, 0, none⟩ (.int .i64 0)).setCell ⟨w.heap.size + 1 + 1, 0, none⟩ (.int .i64 0)).heap[w.heap.size + 1 + 1]? = some (.cells #[.int .i64 0] 3 (0, 0)) := heap_set q2a _
    clear q2a
    have s5 : ((w4.setCell ⟨w.heap.size + 1, 0, none⟩ (.int .i64 0)).setCell ⟨w.heap.size + 1 + 1, 0, none⟩ (.int .i64 0)).heap.size = w4.heap.size := by simp
    clear d0 d1 d2 z0 z1 z2 e0 e1 e2
    have hlt : w.heap.size + 3 ≤ w4.heap.size := by have := F4.size; omega
    have hgg2 : w.heap.size + 3 ≤ gg := by omega
    clear F4 F5 F3 s3
    generalize ((w4.setCell ⟨w.heap.size + 1, 0, none⟩ (.int .i64 0)).setCell ⟨w.heap.size + 1 + 1, 0, none⟩ (.int .i64 0)) = w5 at hps F6 q0 q1 q2 s5 HF ⊢
    have n5 : Nm3 w w5 := ⟨⟨_, q0⟩, ⟨_, q1⟩, ⟨_, q2⟩, F6⟩
    have n6 : Nm3 w (w5.alloc (.cells #[.slice (some ⟨gg, 0, none⟩) (l.length + 1) cap, .int .i64 0, .slice none 0 0, .int .i64 0] 64)) := n5.fr ((Fr.refl none_ w5).alloc _) (fun _ e => e.elim)
    have hgl : Gl (cx0 w4.heap.size gg cap l z) W0.heap.size W0 (w5.alloc (.cells #[.slice (some ⟨gg, 0, none⟩) (l.length + 1) cap, .int .i64 0, .slice none 0 0, .int .i64 0] 64)) :=
      ⟨by have := g.size; show W0.heap.size ≤ w4.heap.size; omega, by have := g.size; show W0.heap.size ≤ w4.heap.size + 1; omega, (g.fr F6).fr ((Fr.refl none_ w5).alloc _)⟩
    have R : Calls Tryz.prog 26 #[.pointer (some ⟨w4.heap.size, 0, none⟩), .int .i64 0] (w5.alloc (.cells #[.slice (some ⟨gg, 0, none⟩) (l.length + 1) cap, .int .i64 0, .slice none 0 0, .int .i64 0] 64)) _ :=
      (reads (c := cx0 w4.heap.size gg cap l z) (B0 := W0.heap.size) (W0 := W0) nameOk hS hNum _).2 0 (Int.le_refl 0) noU 0 (.slice none 0 0) [] 0 _ hps hgl (Nat.le_refl _)
    have c5 := cell0 q0
    have c6 := cell0 q1
    have hgg : gg < w4.heap.size := hg2
    clear hTk hlen hin hz hzt hps hgl HF F6 q0 q2 n5 hg1 hg2 c5
    have FS := Lib.hid (show ∀ k, (cx0 w4.heap.size gg cap l z).S noU k → w.heap.size + 3 ≤ k from fun k e => e.elim (fun e => by have e' : k = w4.heap.size := e; omega) fun e => e.elim)
    go_upto_region 7 with (go_at_call 26; ((with_reducible refine R.mono ?_); rintro e w7 (⟨i', tv', N, k, rfl, r⟩ | ⟨⟨why, at_, hw, rfl⟩, F7⟩)))
    · have n7 := n6.fr r.fr FS.out
      obtain ⟨gt, capt, rfl, P7, P8, C2⟩ := rd_parts (p := w4.heap.size) rfl r
      have HR := Lib.hid r
      clear r R n6 c6 q1
      have H8 := Lib.hid P8
      clear P8
      have f0 := tok_f0
      go_upto_if 27 with (go_at_call 27; ((with_reducible refine P7.mono ?_); rintro e w8 ⟨kd, tx, atv, rfl, F8⟩))
      have n8 := n7.fr F8 (fun _ e => e.elim)
      cases hk : (kd != 0)
      case true =>
        clear C2 P7
        have P8 := H8.out _ F8
        go_wp2_with (go_at_call 28; ((with_reducible refine P8.mono ?_); rintro e w9 ⟨⟨why, at_, hw, rfl⟩, F9⟩))
        have n9 := n8.fr F9 (fun _ e => e.elim)
        obtain ⟨⟨v0, h0⟩, ⟨v1, h1⟩, ⟨v2, h2⟩, FW⟩ := n9
        refine leaves_cons (f := 25) (args := #[.pointer (some ⟨w.heap.size, 0, none⟩), .pointer (some ⟨w.heap.size + 1, 0, none⟩), .pointer (some ⟨w.heap.size + 1 + 1, 0, none⟩)]) (by simp) (by simp [go_sem]) ?_
        refine (stop_panicking w.heap.size v0 v1 v2 why at_ _ h0 h1 h2).mono ?_
        rintro e u' w10 ⟨rfl, rfl, k0, k1, k2, FF⟩
        have F10 : Fr none_ w w10 := FW.trans FF fun k hk e => by rcases e with e | e | e <;> omega
        have HW := Lib.hid hw
        clear hw
        simp [Leaves, settle, results, Tryz.results9, go_sem, k0, k1, k2]
        exact .inl ⟨why, at_, HW.out, rfl, F10⟩

      case false =>
        have c28 := F8.cell C2 id
        obtain ⟨⟨v0, h0⟩, ⟨v1, h1⟩, ⟨v2, h2⟩, FW⟩ := n8
        have x0 := cell0 h0
        have x1 := cell0 h1
        have x2 := cell0 h2
        have z0 := fz0 h0
        have z1 := fz0 h1
        have z2 := fz0 h2
        clear h0 h1 h2 C2 P7 n7 hs g hL hS hNum
        by_cases h1000 : 1000 < N.length
        · go_wp2
          have FA : Fr (fun k => k = w.heap.size ∨ k = w.heap.size + 1 ∨ k = w.heap.size + 1 + 1) w8 (((w8.setCell ⟨w.heap.size, 0, none⟩ (.slice none 0 0)).setCell ⟨w.heap.size + 1, 0, none⟩ (.int .i64 7)).setCell ⟨w.heap.size + 1 + 1, 0, none⟩ (.int .i64 0)) :=
            (((Fr.refl _ w8).setCell ⟨w.heap.size, 0, none⟩ _ fun _ => .inl rfl).setCell ⟨w.heap.size + 1, 0, none⟩ _ fun _ => .inr (.inl rfl)).setCell ⟨w.heap.size + 1 + 1, 0, none⟩ _ fun _ => .inr (.inr rfl)
          have F10 : Fr none_ w (((w8.setCell ⟨w.heap.size, 0, none⟩ (.slice none 0 0)).setCell ⟨w.heap.size + 1, 0, none⟩ (.int .i64 7)).setCell ⟨w.heap.size + 1 + 1, 0, none⟩ (.int .i64 0)) := FW.trans FA fun k hk e => by rcases e with e | e | e <;> omega
          have HA := Lib.hid FA
          clear FA FW z0 z1 z2 c28
          refine leaves_cons (f := 25) (args := #[.pointer (some ⟨w.heap.size, 0, none⟩), .pointer (some ⟨w.heap.size + 1, 0, none⟩), .pointer (some ⟨w.heap.size + 1 + 1, 0, none⟩)]) (by simp) (by simp [go_sem]) ?_
          refine (stop_idle _ _ _ _).mono ?_
          rintro e u' w10 ⟨rfl, rfl, rfl⟩
          simp [Leaves, settle, results, Tryz.results9, go_sem, x0, x1, x2]
          exact .inl ⟨7, 0, by decide, rfl, F10⟩

        · go_wp2
          have FA : Fr (fun k => k = w.heap.size ∨ k = w.heap.size + 1 ∨ k = w.heap.size + 1 + 1) w8 (((w8.setCell ⟨w.heap.size, 0, none⟩ (.slice (some ⟨gt, 0, none⟩) N.length capt)).setCell ⟨w.heap.size + 1, 0, none⟩ (.int .i64 0)).setCell ⟨w.heap.size + 1 + 1, 0, none⟩ (.int .i64 0)) :=
            (((Fr.refl _ w8).setCell ⟨w.heap.size, 0, none⟩ _ fun _ => .inl rfl).setCell ⟨w.heap.size + 1, 0, none⟩ _ fun _ => .inr (.inl rfl)).setCell ⟨w.heap.size + 1 + 1, 0, none⟩ _ fun _ => .inr (.inr rfl)
          have F10 : Fr none_ w (((w8.setCell ⟨w.heap.size, 0, none⟩ (.slice (some ⟨gt, 0, none⟩) N.length capt)).setCell ⟨w.heap.size + 1, 0, none⟩ (.int .i64 0)).setCell ⟨w.heap.size + 1 + 1, 0, none⟩ (.int .i64 0)) := FW.trans FA fun k hk e => by rcases e with e | e | e <;> omega
          have HA := Lib.hid FA
          clear FA FW z0 z1 z2 c28
          refine leaves_cons (f := 25) (args := #[.pointer (some ⟨w.heap.size, 0, none⟩), .pointer (some ⟨w.heap.size + 1, 0, none⟩), .pointer (some ⟨w.heap.size + 1 + 1, 0, none⟩)]) (by simp) (by simp [go_sem]) ?_
          refine (stop_idle _ _ _ _).mono ?_
          rintro e u' w10 ⟨rfl, rfl, rfl⟩
          simp [Leaves, settle, results, Tryz.results9, go_sem, x0, x1, x2]
          exact .inr ⟨_, N, rfl, tree_keep HR.out F8 HA.out (fun k e => ⟨by show k < w4.heap.size + 1; rcases e with e | e | e <;> omega, by show k ≠ gg; rcases e with e | e | e <;> omega, by show k ≠ w4.heap.size; rcases e with e | e | e <;> omega⟩) (by omega), F10⟩

    · have n7 := n6.fr F7 FS.out
      obtain ⟨⟨v0, h0⟩, ⟨v1, h1⟩, ⟨v2, h2⟩, FW⟩ := n7
      refine leaves_cons (f := 25) (args := #[.pointer (some ⟨w.heap.size, 0, none⟩), .pointer (some ⟨w.heap.size + 1, 0, none⟩), .pointer (some ⟨w.heap.size + 1 + 1, 0, none⟩)]) (by simp) (by simp [go_sem]) ?_
      refine (stop_panicking w.heap.size v0 v1 v2 why at_ _ h0 h1 h2).mono ?_
      rintro e u' w9 ⟨rfl, rfl, k0, k1, k2, FF⟩
      have F9 : Fr none_ w w9 := FW.trans FF fun k hk e => by rcases e with e | e | e <;> omega
      have HW := Lib.hid hw
      clear hw
      simp [Leaves, settle, results, Tryz.results9, go_sem, k0, k1, k2]
      exact .inl ⟨why, at_, HW.out, rfl, F9⟩

end Go.Proofs.YtjagjjdkgidkjaaGreatDoor
