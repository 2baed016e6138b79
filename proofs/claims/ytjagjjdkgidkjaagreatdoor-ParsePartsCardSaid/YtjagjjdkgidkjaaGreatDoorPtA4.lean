/- The parser's reading: a part (PB PA PC) of the proof that the law ParseParts answers true. No condition. -/
import Derived.Test.YtjagjjdkgidkjaaGreatDoorChecked
import Derived.ProofKit
import Derived.LoopTactic
import Derived.WalkKit
import Derived.Lib.Hide
import Derived.IntWalk
import Derived.Deep.OwnRows
import Derived.Deep.DeepCutAuto
import Derived.Tactics2
import Derived.Deep.QuietTactic
import Derived.BigQuiet
import Derived.BigRegion
import Derived.Laws.AppendOwn
import Derived.WalkLawsBesides
import Derived.WalkSpells
import Derived.Deep.RegionHeld3
set_option linter.all false
namespace Go.Proofs.YtjagjjdkgidkjaaGreatDoor
open Go Go.RowKit
set_option maxRecDepth 1000000

/-! ### frames -/
/-- All blocks but those of S are as they were. -/
structure Fr (S : Nat → Prop) (w w' : World) : Prop where
  os : w'.os = w.os
  tape : w'.tape = w.tape
  output : w'.output = w.output
  size : w.heap.size ≤ w'.heap.size
  block : ∀ k, k < w.heap.size → ¬ S k → w'.heap[k]? = w.heap[k]?
namespace Fr
variable {S S' : Nat → Prop} {w w' w'' : World}
theorem refl (S : Nat → Prop) (w : World) : Fr S w w := ⟨rfl, rfl, rfl, Nat.le_refl _, fun _ _ _ => rfl⟩
theorem trans (h : Fr S w w') (k : Fr S' w' w'') (hs : ∀ i, i < w.heap.size → S' i → S i) : Fr S w w'' :=
  ⟨k.os.trans h.os, k.tape.trans h.tape, k.output.trans h.output, Nat.le_trans h.size k.size,
   fun i hi hn => (k.block i (Nat.lt_of_lt_of_le hi h.size) (fun e => hn (hs i hi e))).trans (h.block i hi hn)⟩
theorem mono (h : Fr S w w') (hs : ∀ i, i < w.heap.size → S i → S' i) : Fr S' w w' :=
  ⟨h.os, h.tape, h.output, h.size, fun i hi hn => h.block i hi (fun e => hn (hs i hi e))⟩
theorem drew (h : Fr S w w') : Fr S w w'.drew := ⟨h.os, h.tape, h.output, h.size, h.block⟩
theorem alloc (h : Fr S w w') (o : Obj) : Fr S w (w'.alloc o) :=
  ⟨h.os, h.tape, h.output, by have := h.size; simp; omega, fun i hi hn => by
    have := h.size
    rw [Below.heap_alloc _ _ _ (by omega)]; exact h.block i hi hn⟩
theorem setCell (h : Fr S w w') (a : Addr) (v : Value) (ha : a.block < w.heap.size → S a.block) : Fr S w (w'.setCell a v) :=
  ⟨h.os, h.tape, h.output, by have := h.size; simp; omega, fun i hi hn => by
    have hne : i ≠ a.block := fun e => by subst e; exact hn (ha hi)
    rw [Below.heap_setCell _ _ _ _ hne]; exact h.block i hi hn⟩
theorem grown {row : Option Nat} (h : Fr S w w') (hg : w'.grownBy w'' row) (hr : ∀ k, row = some k → k < w.heap.size → S k) : Fr S w w'' :=
  ⟨hg.os.trans h.os, hg.tape.trans h.tape, hg.output.trans h.output, Nat.le_trans h.size hg.size,
   fun i hi hn => (hg.block i (Nat.lt_of_lt_of_le hi h.size) (fun e => hn (hr i e.symm hi))).trans (h.block i hi hn)⟩
theorem cell (h : Fr S w w') {a : Addr} {v : Value} (hc : w.cell? a = some v) (hn : ¬ S a.block) : w'.cell? a = some v :=
  (World.cell?_of_block (h.block a.block (World.block_lt_of_cell? w a hc) hn)).trans hc
end Fr
def none_ : Nat → Prop := fun _ => False
theorem size_of_get {w : World} {k : Nat} {o : Obj} (h : w.heap[k]? = some o) : k < w.heap.size := (Array.getElem?_eq_some_iff.1 h).1
theorem Fr.get {S : Nat → Prop} {w w' : World} (h : Fr S w w') {k : Nat} {o : Obj} (hk : w.heap[k]? = some o) (hn : ¬ S k) : w'.heap[k]? = some o :=
  (h.block k (size_of_get hk) hn).trans hk

/-! ### tokens -/
structure Tok where
  kind : Nat
  text : ByteArray
  at_ : Nat
@[simp] def Tok.cells (t : Tok) : Array Value := #[.int .i64 t.kind, .string t.text, .int .i64 t.at_]
/-- The row of tokens stands in block bl. -/
def Toks (bl : Nat) (l : List Tok) (w : World) : Prop :=
  ∀ (j : Nat) (h : j < l.length), w.cell? ⟨bl, j * 3, none⟩ = some (.int .i64 l[j].kind) ∧ w.cell? ⟨bl, j * 3 + 1, none⟩ = some (.string l[j].text) ∧ w.cell? ⟨bl, j * 3 + 2, none⟩ = some (.int .i64 l[j].at_)
theorem Toks.keep {bl : Nat} {l : List Tok} {S : Nat → Prop} {w w' : World} (h : Toks bl l w) (hf : Fr S w w') (hn : ¬ S bl) : Toks bl l w' :=
  fun j hj => ⟨hf.cell (h j hj).1 hn, hf.cell (h j hj).2.1 hn, hf.cell (h j hj).2.2 hn⟩

/-! ### nodes -/
/-- A node's cells and its parts. -/
structure Nd where
  cs : List Value
  kids : List Nat
/-- A row of numbers behind a slice: nil, or in a block of its own. -/
def numOf (k : Nat) : Value := .int .i64 (k : Int)
def Ints (w : World) (v : Value) (ks : List Nat) : Prop := w.ownsRow 0 3 1 v ks.length (ks.map numOf)
/-- What a node's parts are. -/
def KidsOf (w : World) (kind a b : Int) (av : Value) (ks : List Nat) : Prop :=
  ((kind = 4 ∨ kind = 8) ∧ ∃ x : Nat, a = x ∧ ks = [x]) ∨
  (kind = 5 ∧ ∃ x y : Nat, a = x ∧ b = y ∧ ks = [x, y]) ∨
  (kind = 6 ∧ ((∃ x : Nat, b = -1 ∧ a = x ∧ ks = [x]) ∨ ∃ x y : Nat, a = x ∧ b = y ∧ ks = [y, x])) ∨
  (kind = 7 ∧ Ints w av ks) ∨
  ((kind = 1 ∨ kind = 2 ∨ kind = 3) ∧ ks = [])
structure Rep (U : Nat → Prop) (tv : Value) (w : World) (nd : Nd) : Prop where
  len : nd.cs.length = 16
  one : ∀ u ∈ nd.cs, u.oneCell' = true
  parts : ∃ (kind a b : Int) (av : Value), nd.cs[0]? = some (.int .i64 kind) ∧ nd.cs[2]? = some (.int .i64 a) ∧ nd.cs[3]? = some (.int .i64 b) ∧ nd.cs[12]? = some av ∧
    KidsOf w kind a b av nd.kids ∧ (∀ g, kind = 7 → av.ownBlock = some g → U g ∧ tv.ownBlock ≠ some g)

/-! ### the parser's state -/
structure Cx where
  p : Nat
  bl : Nat
  cap : Nat
  B : Nat
  l : List Tok
structure Cx.Ok (c : Cx) : Prop where
  p_lt : c.p < c.B
  bl_lt : c.bl < c.B
  ne : c.bl ≠ c.p
  len : c.l.length ≤ 4096
  last : ∀ (j : Nat) (h : j < c.l.length), c.l[j].kind = 0 ↔ j + 1 = c.l.length
  kinds : ∀ (j : Nat) (h : j < c.l.length), c.l[j].kind ≤ 5
  texts : ∀ (j : Nat) (h : j < c.l.length), c.l[j].text.size ≤ 262144
def Cx.row (c : Cx) : Value := .slice (some ⟨c.bl, 0, none⟩) c.l.length c.cap
def Cx.cells (c : Cx) (i : Nat) (tv : Value) (o : Nat) : Array Value := #[c.row, .int .i64 i, tv, .int .i64 o]
structure PS (c : Cx) (U : Nat → Prop) (i : Nat) (tv : Value) (T : List Nd) (o : Nat) (w : World) : Prop where
  ok : c.Ok
  blk : w.heap[c.p]? = some (.cells (c.cells i tv o) 64 (0, 0))
  tok : Toks c.bl c.l w
  own : w.ownsRow c.B 49 16 tv T.length (T.map Nd.cs).flatten
  reps : ∀ nd ∈ T, Rep U tv w nd
  used : ∀ g, tv.ownBlock = some g → U g
  below : ∀ g, U g → g < w.heap.size
  above : ∀ g, U g → c.B ≤ g
  i_lt : i < c.l.length
  n_le : T.length ≤ i
  o_le : o ≤ 50
  nh : c.B ≤ w.heap.size
def Nx (U : Nat → Prop) (w w' : World) (g : Nat) : Prop := U g ∨ w.heap.size ≤ g ∧ g < w'.heap.size
/-- What the parser may write to. -/
def Cx.S (c : Cx) (U : Nat → Prop) (k : Nat) : Prop := k = c.p ∨ U k
def Cx.S1 (c : Cx) (k : Nat) : Prop := k = c.p
theorem KidsOf.keep {S : Nat → Prop} {w w' : World} {kind a b : Int} {av : Value} {ks : List Nat} (h : KidsOf w kind a b av ks) (hf : Fr S w w') (hn : ∀ g, kind = 7 → av.ownBlock = some g → ¬ S g) : KidsOf w' kind a b av ks := by
  rcases h with h | h | h | ⟨h7, h⟩ | h
  · exact .inl h
  · exact .inr (.inl h)
  · exact .inr (.inr (.inl h))
  · refine .inr (.inr (.inr (.inl ⟨h7, h.1, ?_⟩)))
    rcases h.2 with hh | ⟨g, cap, cur, rfl, hb, hg, rest⟩
    · exact .inl hh
    · exact .inr ⟨g, cap, cur, rfl, hb, hf.get hg (hn g h7 rfl), rest⟩
  · exact .inr (.inr (.inr (.inr h)))
theorem Rep.keep {U U' S : Nat → Prop} {tv tv' : Value} {w w' : World} {nd : Nd} (h : Rep U tv w nd) (hf : Fr S w w') (hU : ∀ g, U g → tv.ownBlock ≠ some g → U' g ∧ tv'.ownBlock ≠ some g ∧ ¬ S g) : Rep U' tv' w' nd := by
  obtain ⟨h1, h2, kind, a, b, av, c0, c2, c3, c12, hk, hg⟩ := h
  exact ⟨h1, h2, kind, a, b, av, c0, c2, c3, c12, hk.keep hf fun g h7 he => (hU g (hg g h7 he).1 (hg g h7 he).2).2.2,
    fun g h7 he => ⟨(hU g (hg g h7 he).1 (hg g h7 he).2).1, (hU g (hg g h7 he).1 (hg g h7 he).2).2.1⟩⟩
theorem ownsRow_keep {S : Nat → Prop} {w w' : World} {base : Nat} {e : TypeId} {size : Nat} {v : Value} {n : Nat} {xs : List Value} (h : w.ownsRow base e size v n xs) (hf : Fr S w w') (hn : ∀ g, v.ownBlock = some g → ¬ S g) : w'.ownsRow base e size v n xs := by
  refine ⟨h.1, ?_⟩
  rcases h.2 with hh | ⟨g, cap, cur, rfl, hb, hg, rest⟩
  · exact .inl hh
  · exact .inr ⟨g, cap, cur, rfl, hb, hf.get hg (hn g rfl), rest⟩
namespace PS
variable {c : Cx} {U : Nat → Prop} {i : Nat} {tv : Value} {T : List Nd} {o : Nat} {w w' : World}
/-- The state behind a step that has written to the parser's own cells at most (and to blocks that the state does not use). -/
theorem step (h : PS c U i tv T o w) {S : Nat → Prop} (hf : Fr S w w') (hS : ∀ k, U k ∨ k = c.bl → ¬ S k) {i' o' : Nat} (hb : w'.heap[c.p]? = some (.cells (c.cells i' tv o') 64 (0, 0))) (hi : i ≤ i') (hi' : i' < c.l.length) (ho : o' ≤ 50) : PS c U i' tv T o' w' := {
  ok := h.ok
  blk := hb
  tok := h.tok.keep hf (hS _ (.inr rfl))
  own := ownsRow_keep h.own hf fun g hg => hS g (.inl (h.used g hg))
  reps := fun nd hnd => (h.reps nd hnd).keep hf fun g hg hne => ⟨hg, hne, hS g (.inl hg)⟩
  used := h.used
  below := fun g hg => Nat.lt_of_lt_of_le (h.below g hg) hf.size
  above := h.above
  i_lt := hi'
  n_le := Nat.le_trans h.n_le hi
  o_le := ho
  nh := Nat.le_trans h.nh hf.size }
/-- The state behind a step that has not touched it. -/
theorem keep (h : PS c U i tv T o w) {S : Nat → Prop} (hf : Fr S w w') (hS : ∀ k, U k ∨ k = c.bl ∨ k = c.p → ¬ S k) : PS c U i tv T o w' :=
  h.step hf (fun k hk => hS k (hk.elim .inl fun e => .inr (.inl e))) (hf.get h.blk (hS _ (.inr (.inr rfl)))) (Nat.le_refl _) h.i_lt h.o_le
theorem still (h : PS c U i tv T o w) (hf : Fr none_ w w') : PS c U i tv T o w' := h.keep hf fun _ _ h => h
/-- More blocks may be counted among the state's. -/
theorem more (h : PS c U i tv T o w) {U' : Nat → Prop} (h1 : ∀ g, U g → U' g) (h2 : ∀ g, U' g → c.B ≤ g ∧ g < w.heap.size) : PS c U' i tv T o w :=
  { h with
    reps := fun nd hnd => (h.reps nd hnd).keep (Fr.refl none_ w) fun g hg hne => ⟨h1 g hg, hne, id⟩
    used := fun g hg => h1 g (h.used g hg)
    below := fun g hg => (h2 g hg).2
    above := fun g hg => (h2 g hg).1 }
theorem p_lt (h : PS c U i tv T o w) : c.p < w.heap.size := size_of_get h.blk
theorem bl_lt (h : PS c U i tv T o w) : c.bl < w.heap.size := Nat.lt_of_lt_of_le h.ok.bl_lt h.nh
theorem not_p (h : PS c U i tv T o w) : ¬ U c.p := fun e => by have := h.above _ e; have := h.ok.p_lt; omega
theorem not_bl (h : PS c U i tv T o w) : ¬ U c.bl := fun e => by have := h.above _ e; have := h.ok.bl_lt; omega
theorem c0 (h : PS c U i tv T o w) : w.cell? ⟨c.p, 0, none⟩ = some (.slice (some ⟨c.bl, 0, none⟩) c.l.length c.cap) := by simp [World.cell?, h.blk, Cx.cells, Cx.row]
theorem c1 (h : PS c U i tv T o w) : w.cell? ⟨c.p, 1, none⟩ = some (.int .i64 i) := by simp [World.cell?, h.blk, Cx.cells]
theorem c2 (h : PS c U i tv T o w) : w.cell? ⟨c.p, 2, none⟩ = some tv := by simp [World.cell?, h.blk, Cx.cells]
theorem c3 (h : PS c U i tv T o w) : w.cell? ⟨c.p, 3, none⟩ = some (.int .i64 o) := by simp [World.cell?, h.blk, Cx.cells]
theorem fz (h : PS c U i tv T o w) (k : Nat) : w.frozen? ⟨c.p, k, none⟩ = false := by simp [World.frozen?, h.blk]
theorem k0 (h : PS c U i tv T o w) {j : Nat} (hj : j < c.l.length) : w.cell? ⟨c.bl, j * 3, none⟩ = some (.int .i64 c.l[j].kind) := (h.tok j hj).1
theorem k1 (h : PS c U i tv T o w) {j : Nat} (hj : j < c.l.length) : w.cell? ⟨c.bl, j * 3 + 1, none⟩ = some (.string c.l[j].text) := (h.tok j hj).2.1
theorem k2 (h : PS c U i tv T o w) {j : Nat} (hj : j < c.l.length) : w.cell? ⟨c.bl, j * 3 + 2, none⟩ = some (.int .i64 c.l[j].at_) := (h.tok j hj).2.2
end PS
def ptr (p : Nat) : Value := .pointer (some ⟨p, 0, none⟩)
/-- Is a token of a kind, with a text? -/
def isTok (t : Tok) (k : Int) (s : ByteArray) : Bool := decide ((t.kind : Int) = k) && t.text.toList == s.toList
theorem isTok_kind {t : Tok} {k : Int} {s : ByteArray} (h : isTok t k s = true) : (t.kind : Int) = k := by
  unfold isTok at h; simp at h; exact h.1
theorem heap_set {w : World} {p n : Nat} {cs : Array Value} {t : TypeId} {fr : Nat × Nat} (h : w.heap[p]? = some (.cells cs t fr)) (v : Value) : (w.setCell ⟨p, n, none⟩ v).heap[p]? = some (.cells (cs.setIfInBounds n v) t fr) := by
  simp only [World.setCell, Array.getElem?_modify, ↓reduceIte, h, Option.map_some]
  simp
namespace PS
variable {c : Cx} {U : Nat → Prop} {i : Nat} {tv : Value} {T : List Nd} {o : Nat} {w w' : World}
theorem not_at (h : PS c U i tv T o w) : ∀ k, U k ∨ k = c.bl → ¬ c.S1 k := by
  rintro k (hk | rfl) e
  · exact h.not_p (e ▸ hk)
  · exact h.ok.ne e
theorem set1 (h : PS c U i tv T o w) {i' : Nat} (hi : i ≤ i') (hi' : i' < c.l.length) : PS c U i' tv T o (w.setCell ⟨c.p, 1, none⟩ (.int .i64 i')) :=
  h.step (S := c.S1) ((Fr.refl _ w).setCell ⟨c.p, 1, none⟩ _ fun _ => (rfl : c.p = c.p)) h.not_at (heap_set h.blk _) hi hi' h.o_le
theorem set3 (h : PS c U i tv T o w) {o' : Nat} (ho : o' ≤ 50) : PS c U i tv T o' (w.setCell ⟨c.p, 3, none⟩ (.int .i64 o')) :=
  h.step (S := c.S1) ((Fr.refl _ w).setCell ⟨c.p, 3, none⟩ _ fun _ => (rfl : c.p = c.p)) h.not_at (heap_set h.blk _) (Nat.le_refl _) h.i_lt ho
theorem next (h : PS c U i tv T o w) (hk : ((c.l[i]'h.i_lt).kind : Int) ≠ 0) : i + 1 < c.l.length := by
  have := h.i_lt
  have hl := (h.ok.last i h.i_lt).2
  rcases Nat.lt_or_ge (i + 1) c.l.length with h' | h'
  · exact h'
  · exact absurd (by rw [hl (by omega)]; rfl) hk
end PS
theorem Fr.at1 {c : Cx} {w w' : World} (h : Fr none_ w w') : Fr c.S1 w w' := h.mono fun _ _ e => e.elim
theorem Fr.set {c : Cx} {w w' : World} (h : Fr c.S1 w w') (n : Nat) (v : Value) : Fr c.S1 w (w'.setCell ⟨c.p, n, none⟩ v) := h.setCell ⟨c.p, n, none⟩ v fun _ => (rfl : c.p = c.p)
theorem Fr.at1' {c : Cx} {w w' w'' : World} (h : Fr c.S1 w w') (h' : Fr none_ w' w'') : Fr c.S1 w w'' := h.trans h'.at1 fun _ _ e => e
theorem Fr.at2 {c : Cx} {w w' w'' : World} (h : Fr c.S1 w w') (h' : Fr c.S1 w' w'') : Fr c.S1 w w'' := h.trans h' fun _ _ e => e
theorem Fr.none2 {w w' w'' : World} (h : Fr none_ w w') (h' : Fr none_ w' w'') : Fr none_ w w'' := h.trans h' fun _ _ e => e
theorem PS.nextTok {c : Cx} {U : Nat → Prop} {i : Nat} {tv : Value} {T : List Nd} {o : Nat} {w : World} (h : PS c U i tv T o w) {k : Int} {s : ByteArray} (ht : isTok (c.l[i]'h.i_lt) k s = true) (hk : k ≠ 0) : i + 1 < c.l.length :=
  h.next (by rw [isTok_kind ht]; exact hk)
theorem of_not {b : Bool} (h : (!b) = false) : b = true := by simpa using h
/-- The parser stops. -/
def Stopped (e : Ending) : Prop := ∃ (why at_ : Int), why ≠ 0 ∧ e = .panicked [{ v := .iface 60 (.agg #[.int .i64 why, .int .i64 at_]), recovered := false }]
end Go.Proofs.YtjagjjdkgidkjaaGreatDoor
namespace Go.Proofs.YtjagjjdkgidkjaaGreatDoor
open Go Go.RowKit
set_option maxRecDepth 1000000
theorem tok_f0 (a b d : Value) (w : World) : (Sem.run Tryz.prog (Instr.field 41 (.agg #[a, b, d]) 0) w) = .ok a w := by kernel_rfl
theorem tok_f1 (a b d : Value) (w : World) : (Sem.run Tryz.prog (Instr.field 41 (.agg #[a, b, d]) 1) w) = .ok b w := by kernel_rfl
theorem tok_f2 (a b d : Value) (w : World) : (Sem.run Tryz.prog (Instr.field 41 (.agg #[a, b, d]) 2) w) = .ok d w := by kernel_rfl
variable {c : Cx} {U : Nat → Prop} {i : Nat} {tv : Value} {T : List Nd} {o : Nat} {w : World}
set_option maxHeartbeats 4000000 in
theorem peek_any (h : PS c U i tv T o w) :
    Calls Tryz.prog 27 #[.pointer (some ⟨c.p, 0, none⟩)] w fun e w' => e = .returned (.agg #[.int .i64 (c.l[i]'h.i_lt).kind, .string (c.l[i]'h.i_lt).text, .int .i64 (c.l[i]'h.i_lt).at_]) ∧ Fr none_ w w' := by
  have c0 := h.c0
  have c1 := h.c1
  have k0 := h.k0 h.i_lt
  have k1 := h.k1 h.i_lt
  have k2 := h.k2 h.i_lt
  have hp := h.p_lt
  have hb := h.bl_lt
  have hi := h.i_lt
  have hl := h.ok.len
  go_enter Tryz.func27, Tryz.ntmps27
  go_wp2
  go_region
  go_wp2
  refine bodyPost_ret (v := .agg #[.int .i64 (c.l[i]'h.i_lt).kind, .string (c.l[i]'h.i_lt).text, .int .i64 (c.l[i]'h.i_lt).at_]) ?_ rfl ⟨rfl, ?_⟩
  · simp [results, Tryz.f27, go_sem]
  · exact ((Fr.refl _ w).alloc _).drew
set_option maxHeartbeats 4000000 in
theorem fail_any (h : PS c U i tv T o w) :
    Calls Tryz.prog 28 #[.pointer (some ⟨c.p, 0, none⟩)] w fun e w' => Stopped e ∧ Fr none_ w w' := by
  have f2 := tok_f2
  go_enter Tryz.func28, Tryz.ntmps28
  go_wp2_with (go_at_call 27; ((with_reducible refine (peek_any h).mono ?_); rintro e w' ⟨rfl, hf⟩))
  exact ⟨rfl, ⟨140, _, by decide, rfl⟩, hf⟩
set_option maxHeartbeats 4000000 in
theorem is_any (h : PS c U i tv T o w) (k : Int) (s : ByteArray) :
    Calls Tryz.prog 71 #[.pointer (some ⟨c.p, 0, none⟩), .int .i64 k, .string s] w fun e w' => e = .returned (.bool (isTok (c.l[i]'h.i_lt) k s)) ∧ Fr none_ w w' := by
  go_enter Tryz.func71, Tryz.ntmps71
  go_wp2_with (go_at_call 27; ((with_reducible refine (peek_any h).mono ?_); rintro e w' ⟨rfl, hf⟩))
  · rename_i hk
    go_ret
    exact ⟨by simp [isTok, hk], hf.alloc _⟩
  · rename_i hk
    go_ret
    exact ⟨by simp [isTok, hk], hf.alloc _⟩
set_option maxHeartbeats 4000000 in
theorem take_any (h : PS c U i tv T o w) (k : Int) (s : ByteArray) (hk : k ≠ 0) :
    Calls Tryz.prog 75 #[.pointer (some ⟨c.p, 0, none⟩), .int .i64 k, .string s] w fun e w' => (e = .returned (.bool true) ∧ PS c U (i + 1) tv T o w' ∧ Fr c.S1 w w') ∨ (e = .returned (.bool false) ∧ PS c U i tv T o w' ∧ Fr c.S1 w w') := by
  have hi := h.i_lt
  have hl := h.ok.len
  go_enter Tryz.func75, Tryz.ntmps75
  go_wp2_with (go_at_call 71; ((with_reducible refine (is_any h k s).mono ?_); rintro e w' ⟨rfl, hf⟩; have h1 := h.still hf; have c1 := h1.c1; have z1 := h1.fz 1))
  · go_ret
    exact .inr ⟨rfl, h1, hf.at1⟩
  · rename_i ht
    go_ret
    have hn := h.next (by rw [isTok_kind (by simpa using ht)]; exact hk)
    exact .inl ⟨rfl, h1.set1 (Nat.le_succ i) hn, hf.at1.set _ _⟩
set_option maxHeartbeats 4000000 in
theorem want_any (h : PS c U i tv T o w) (k : Int) (s : ByteArray) (hk : k ≠ 0) :
    Calls Tryz.prog 163 #[.pointer (some ⟨c.p, 0, none⟩), .int .i64 k, .string s] w fun e w' => (e = .returned (.tuple #[]) ∧ PS c U (i + 1) tv T o w' ∧ Fr c.S1 w w') ∨ (Stopped e ∧ Fr c.S1 w w') := by
  go_enter Tryz.func163, Tryz.ntmps163
  go_wp2_with (first
    | (go_at_call 75; ((with_reducible refine (take_any h k s hk).mono ?_); rintro e w' (⟨rfl, h1, hf⟩ | ⟨rfl, h1, hf⟩)))
    | (go_at_call 28; ((with_reducible refine (fail_any h1).mono ?_); rintro e w'' ⟨⟨why, at_, hw, rfl⟩, hf'⟩)))
  all_goals first
    | exact ⟨rfl, .inr ⟨⟨why, at_, hw, rfl⟩, hf.at1' hf'⟩⟩
    | (go_end0; exact .inl ⟨rfl, h1, hf⟩)
set_option maxHeartbeats 4000000 in
theorem enter_any (h : PS c U i tv T o w) (hn : i + 1 < c.l.length) :
    Calls Tryz.prog 73 #[.pointer (some ⟨c.p, 0, none⟩)] w fun e w' => (e = .returned (.tuple #[]) ∧ PS c U (i + 1) tv T (o + 1) w' ∧ Fr c.S1 w w') ∨ (Stopped e ∧ Fr c.S1 w w') := by
  have hl := h.ok.len
  have ho := h.o_le
  have c1 := h.c1
  have c3 := h.c3
  have z1 := h.fz 1
  have z3 := h.fz 3
  have f2 := tok_f2
  go_enter Tryz.func73, Tryz.ntmps73
  go_wp2_with (go_at_call 27; ((with_reducible refine (peek_any h).mono ?_); rintro e w' ⟨rfl, hf⟩))
  · exact ⟨rfl, .inr ⟨⟨_, _, by decide, rfl⟩, hf.at1⟩⟩
  · go_end0
    have h1 := (h.set3 (o' := o + 1) (by omega)).set1 (i' := i + 1) (by omega) hn
    exact .inl ⟨rfl, h1, ((Fr.refl _ w).set _ _).set _ _⟩
set_option maxHeartbeats 4000000 in
theorem paren_any (h : PS c U i tv T o w) :
    Calls Tryz.prog 118 #[.pointer (some ⟨c.p, 0, none⟩)] w fun e w' => (e = .returned (.tuple #[]) ∧ PS c U (i + 1) tv T (o + 1) w' ∧ Fr c.S1 w w') ∨ (Stopped e ∧ Fr c.S1 w w') := by
  go_enter Tryz.func118, Tryz.ntmps118
  go_wp2_with (first
    | (go_at_call 71; ((with_reducible refine (is_any h _ _).mono ?_); rintro e w' ⟨rfl, hf⟩; have h1 := h.still hf))
    | (go_at_call 28; ((with_reducible refine (fail_any h1).mono ?_); rintro e w'' ⟨⟨why, at_, hw, rfl⟩, hf'⟩))
    | (go_at_call 73; ((with_reducible refine (enter_any h1 (h1.nextTok (of_not (by assumption)) (by decide))).mono ?_); rintro e w'' (⟨rfl, h2, hf'⟩ | ⟨⟨why, at_, hw, rfl⟩, hf'⟩))))
  all_goals first
    | exact ⟨rfl, .inr ⟨⟨why, at_, hw, rfl⟩, hf.at1.at1' hf'⟩⟩
    | exact ⟨rfl, .inr ⟨⟨why, at_, hw, rfl⟩, hf.at1.at2 hf'⟩⟩
    | (go_end0; exact .inl ⟨rfl, h2, hf.at1.at2 hf'⟩)
set_option maxHeartbeats 4000000 in
theorem close_any (h : PS c U i tv T (o + 1) w) :
    Calls Tryz.prog 120 #[.pointer (some ⟨c.p, 0, none⟩)] w fun e w' => (e = .returned (.tuple #[]) ∧ PS c U (i + 1) tv T o w' ∧ Fr c.S1 w w') ∨ (Stopped e ∧ Fr c.S1 w w') := by
  have ho := h.o_le
  go_enter Tryz.func120, Tryz.ntmps120
  go_wp2_with (go_at_call 163; ((with_reducible refine (want_any h _ _ (by decide)).mono ?_); rintro e w' (⟨rfl, h1, hf⟩ | ⟨⟨why, at_, hw, rfl⟩, hf⟩)); (try (have c3 := h1.c3; have z3 := h1.fz 3)))
  all_goals first
    | exact ⟨rfl, .inr ⟨⟨why, at_, hw, rfl⟩, hf⟩⟩
    | (go_end0; exact .inl ⟨rfl, h1.set3 (by omega), hf.set _ _⟩)
end Go.Proofs.YtjagjjdkgidkjaaGreatDoor
namespace Go.Proofs.YtjagjjdkgidkjaaGreatDoor
open Go Go.RowKit
set_option maxRecDepth 1000000
variable {c : Cx} {U : Nat → Prop} {i : Nat} {tv : Value} {T : List Nd} {o : Nat} {w : World}
/-- What functions of the lexer's and of labels' promise. -/
@[reducible] def NameOk : Prop := ∀ (s : ByteArray) (w : World), s.size ≤ 262144 → Calls Tryz.prog 114 #[.string s] w fun e w' => ∃ b : Bool, e = .returned (.bool b) ∧ Fr none_ w w'
@[reducible] def SpanOk (G : World → Prop) : Prop := ∀ (s : ByteArray) (w : World), s.size ≤ 262144 → G w → Calls Tryz.prog 244 #[.string s] w fun e w' => ∃ n k : Int, e = .returned (.tuple #[.int .i64 n, .int .i64 k]) ∧ Fr none_ w w'
@[reducible] def NumberOk (G : World → Prop) : Prop := ∀ (s : ByteArray) (w : World), s.size ≤ 262144 → G w → Calls Tryz.prog 160 #[.string s] w fun e w' => ∃ (f : Nat) (k : Int), e = .returned (.tuple #[.float .f64 f, .int .i64 k]) ∧ Fr none_ w w'
def LevelPost (w : World) (e : Ending) (w' : World) : Prop := ∃ v : Nat, e = .returned (.int .i64 v) ∧ 1 ≤ v ∧ v ≤ 6 ∧ w = w'
theorem levelPost_mk {w : World} (v : Nat) (h1 : 1 ≤ v) (h2 : v ≤ 6) : LevelPost w (.returned (.int .i64 v)) w := ⟨v, rfl, h1, h2, rfl⟩
set_option maxHeartbeats 4000000 in
theorem levelOf_any (op : Int) (w : World) : Calls Tryz.prog 74 #[.int .i64 op] w (LevelPost w) := by
  go_enter Tryz.func74, Tryz.ntmps74
  go_wp2
  all_goals
    go_ret
    exact levelPost_mk _ (by decide) (by decide)
def opTexts : List ByteArray := [⟨#[]⟩, ⟨#[43]⟩, ⟨#[45]⟩, ⟨#[42]⟩, ⟨#[47]⟩, ⟨#[37]⟩, ⟨#[94]⟩, ⟨#[61, 61]⟩, ⟨#[33, 61]⟩, ⟨#[62]⟩, ⟨#[60]⟩, ⟨#[62, 61]⟩, ⟨#[60, 61]⟩, ⟨#[97, 110, 100]⟩, ⟨#[111, 114]⟩, ⟨#[117, 110, 108, 101, 115, 115]⟩]
def opText (n : Nat) : ByteArray := opTexts.getD n ⟨#[]⟩
theorem opText_get {n : Nat} (hn : n < ([Value.string ⟨#[]⟩, Value.string ⟨#[43]⟩, Value.string ⟨#[45]⟩, Value.string ⟨#[42]⟩, Value.string ⟨#[47]⟩, Value.string ⟨#[37]⟩, Value.string ⟨#[94]⟩, Value.string ⟨#[61, 61]⟩, Value.string ⟨#[33, 61]⟩, Value.string ⟨#[62]⟩, Value.string ⟨#[60]⟩, Value.string ⟨#[62, 61]⟩, Value.string ⟨#[60, 61]⟩, Value.string ⟨#[97, 110, 100]⟩, Value.string ⟨#[111, 114]⟩, Value.string ⟨#[117, 110, 108, 101, 115, 115]⟩] : List Value).length) : ([Value.string ⟨#[]⟩, Value.string ⟨#[43]⟩, Value.string ⟨#[45]⟩, Value.string ⟨#[42]⟩, Value.string ⟨#[47]⟩, Value.string ⟨#[37]⟩, Value.string ⟨#[94]⟩, Value.string ⟨#[61, 61]⟩, Value.string ⟨#[33, 61]⟩, Value.string ⟨#[62]⟩, Value.string ⟨#[60]⟩, Value.string ⟨#[62, 61]⟩, Value.string ⟨#[60, 61]⟩, Value.string ⟨#[97, 110, 100]⟩, Value.string ⟨#[111, 114]⟩, Value.string ⟨#[117, 110, 108, 101, 115, 115]⟩] : List Value)[n] = .string (opText n) := by
  have h : ([Value.string ⟨#[]⟩, Value.string ⟨#[43]⟩, Value.string ⟨#[45]⟩, Value.string ⟨#[42]⟩, Value.string ⟨#[47]⟩, Value.string ⟨#[37]⟩, Value.string ⟨#[94]⟩, Value.string ⟨#[61, 61]⟩, Value.string ⟨#[33, 61]⟩, Value.string ⟨#[62]⟩, Value.string ⟨#[60]⟩, Value.string ⟨#[62, 61]⟩, Value.string ⟨#[60, 61]⟩, Value.string ⟨#[97, 110, 100]⟩, Value.string ⟨#[111, 114]⟩, Value.string ⟨#[117, 110, 108, 101, 115, 115]⟩] : List Value) = opTexts.map Value.string := rfl
  have hn' : n < opTexts.length := hn
  simp only [h, List.getElem_map, opText, List.getD_eq_getElem?_getD, List.getElem?_eq_getElem hn', Option.getD_some]
set_option maxHeartbeats 4000000 in
theorem op_any (n : Nat) (hn : n < 16) (w : World) : Calls Tryz.prog 22 #[.int .i64 n] w fun e w' => e = .returned (.string (opText n)) ∧ Fr none_ w w' := by
  go_enter Tryz.func22, Tryz.ntmps22
  go_wp2
  go_ret
  exact ⟨congrArg _ (opText_get hn), (Fr.refl _ w).alloc _⟩
set_option maxHeartbeats 4000000 in
theorem name_any (hN : NameOk) (h : PS c U i tv T o w) :
    Calls Tryz.prog 119 #[.pointer (some ⟨c.p, 0, none⟩)] w fun e w' => (∃ s, e = .returned (.string s) ∧ PS c U (i + 1) tv T o w' ∧ Fr c.S1 w w') ∨ (Stopped e ∧ Fr c.S1 w w') := by
  have ht := h.ok.texts i h.i_lt
  have hl := h.ok.len
  have hi := h.i_lt
  go_enter Tryz.func119, Tryz.ntmps119
  go_wp2_with (first
    | (go_at_call 27; ((with_reducible refine (peek_any h).mono ?_); rintro e w' ⟨rfl, hf⟩; have h0 := h.still hf; have c1 := h0.c1; have z1 := h0.fz 1; have hp := h0.p_lt))
    | (go_at_call 114; ((with_reducible refine (hN _ _ ht).mono ?_); rintro e w2 ⟨b, rfl, hf2⟩; have h2 := (h0.still ((Fr.refl none_ _).alloc _)).still hf2; have c1' := h2.c1; have z1' := h2.fz 1; have t1 := hf2.cell (World.cell?_alloc_new _ _ _ 1) id))
    | (go_at_call 28; (first | (with_reducible refine (fail_any (h0.still ((Fr.refl none_ _).alloc _))).mono ?_) | (with_reducible refine (fail_any h2).mono ?_)); rintro e w3 ⟨⟨why, at_, hw, rfl⟩, hf'⟩))
  · exact ⟨rfl, .inr ⟨⟨why, at_, hw, rfl⟩, (((hf.alloc _).none2 hf2).none2 hf').at1⟩⟩
  · go_ret
    have hn := h2.next (by rename_i hk _; rw [hk]; decide)
    exact .inl ⟨_, rfl, h2.set1 (Nat.le_succ i) hn, ((hf.alloc _).none2 hf2).at1.set _ _⟩
  · exact ⟨rfl, .inr ⟨⟨why, at_, hw, rfl⟩, ((hf.alloc _).none2 hf').at1⟩⟩
end Go.Proofs.YtjagjjdkgidkjaaGreatDoor
