/- Parse and the law's walk: a part (Ki Pl) of the proof that the law ParseParts answers true. No condition. -/
import Derived.Test.YtjagjjdkgidkjaaGreatDoorPtA4
import Derived.Test.YtjagjjdkgidkjaaGreatDoorPtL1
import Derived.Deep.MidRow
import Derived.Deep.CutBlock
set_option linter.all false
namespace Go.Proofs.YtjagjjdkgidkjaaGreatDoor
open Go Go.RowKit
set_option maxRecDepth 1000000
theorem row_cell {w : World} {base : Nat} {e : TypeId} {size g n cap : Nat} {xs : List Value} (h : w.ownsRow base e size (.slice (some ⟨g, 0, none⟩) n cap) n xs) (q : Nat) (v : Value) (hq : xs[q]? = some v) : w.cell? ⟨g, q, none⟩ = some v := by
  obtain ⟨hl, hh | ⟨g', cap', cur, he, hb, hg, _, _, _, ht⟩⟩ := h
  · exact absurd hh.1 (by simp)
  · simp only [Value.slice.injEq, Option.some.injEq, Addr.mk.injEq, and_true] at he
    obtain ⟨rfl, -, -⟩ := he
    have e1 : w.cell? ⟨g, q, none⟩ = cur[q]? := by simp [World.cell?, hg]
    rw [e1, ← Array.getElem?_toList]
    rw [← ht, List.getElem?_take] at hq
    split at hq
    · exact hq
    · cases hq
/-- A row of numbers, to be read. -/
def KV (Q : Nat → Prop) (w : World) (v : Value) (ks : List Nat) : Prop :=
  (ks = [] ∧ v = .slice none 0 0) ∨ ∃ g cap, v = .slice (some ⟨g, 0, none⟩) ks.length cap ∧ Q g ∧ ∀ j (h : j < ks.length), w.cell? ⟨g, j, none⟩ = some (.int .i64 (ks[j] : Nat))
theorem kv_ints {Q : Nat → Prop} {w w' : World} {v : Value} {ks : List Nat} (h : Ints w v ks) (hQ : ∀ g, v.ownBlock = some g → Q g) (hf : Fr none_ w w') : KV Q w' v ks := by
  rcases h.2 with hh | ⟨g, cap, cur, rfl, hrest⟩
  · exact .inl ⟨List.length_eq_zero_iff.1 hh.2, hh.1⟩
  · exact .inr ⟨g, cap, rfl, hQ g rfl, fun j hj => hf.cell (row_cell h j _ (by rw [List.getElem?_map, List.getElem?_eq_getElem hj]; rfl)) id⟩
def KidsOut (Q : Nat → Prop) (ks : List Nat) (w : World) (e : Ending) (w' : World) : Prop := ∃ v, e = .returned v ∧ KV Q w' v ks ∧ Fr none_ w w'
theorem kidsOut_mk {Q : Nat → Prop} {ks : List Nat} {w w' : World} {v : Value} (h : KV Q w' v ks) (f : Fr none_ w w') : KidsOut Q ks w (.returned v) w' := ⟨v, rfl, h, f⟩
set_option maxHeartbeats 8000000 in
theorem kids17 {U : Nat → Prop} {tv : Value} (Q : Nat → Prop) (nd : Nd) (w : World) (h : Rep U tv w nd) (hQ1 : ∀ g, w.heap.size ≤ g → Q g) (hQ2 : ∀ av g, nd.cs[0]? = some (.int .i64 7) → nd.cs[12]? = some av → av.ownBlock = some g → Q g) : Calls Tryz.prog 17 #[.agg nd.cs.toArray] w (KidsOut Q nd.kids w) := by
  obtain ⟨cs, ks⟩ := nd
  obtain ⟨hl, h1, kind, a, b, av, p0, p2, p3, p12, hk, hg⟩ := h
  dsimp only at hl h1 p0 p2 p3 p12 hk ⊢
  have HQ1 := Lib.hid hQ1
  have HQ2 := Lib.hid hQ2
  clear h1 hg hQ1 hQ2
  match cs, hl with
  | [x0, x1, x2, x3, x4, x5, x6, x7, x8, x9, x10, x11, x12, x13, x14, x15], _ =>
  simp only [List.getElem?_cons_zero, List.getElem?_cons_succ, Option.some.injEq] at p0 p2 p3 p12
  subst p0 p2 p3 p12
  rcases hk with ⟨hk, x, rfl, rfl⟩ | ⟨rfl, x, y, rfl, rfl, rfl⟩ | ⟨rfl, hh⟩ | ⟨rfl, hI⟩ | ⟨hk, rfl⟩
  · rcases hk with rfl | rfl
    all_goals
      go_enter Tryz.func17, Tryz.ntmps17
      go_wp2
      all_goals first
        | (go_ret; refine kidsOut_mk (.inr ⟨_, _, rfl, HQ1.out _ (by simp), fun j hj => ?_⟩) (((Fr.refl _ w).alloc _).alloc _); match j, hj with | 0, _ => simp [go_sem])
  · go_enter Tryz.func17, Tryz.ntmps17
    go_wp2
    all_goals first
      | (go_ret; refine kidsOut_mk (.inr ⟨_, _, rfl, HQ1.out _ (by simp), fun j hj => ?_⟩) (((Fr.refl _ w).alloc _).alloc _); match j, hj with | 0, _ => simp [go_sem] | 1, _ => simp [go_sem])
  · rcases hh with ⟨x, rfl, rfl, rfl⟩ | ⟨x, y, rfl, rfl, rfl⟩
    · go_enter Tryz.func17, Tryz.ntmps17
      go_wp2
      all_goals first
        | (go_ret; refine kidsOut_mk (.inr ⟨_, _, rfl, HQ1.out _ (by simp), fun j hj => ?_⟩) (((Fr.refl _ w).alloc _).alloc _); match j, hj with | 0, _ => simp [go_sem])
    · go_enter Tryz.func17, Tryz.ntmps17
      go_wp2
      all_goals first
        | (go_ret; refine kidsOut_mk (.inr ⟨_, _, rfl, HQ1.out _ (by simp), fun j hj => ?_⟩) (((Fr.refl _ w).alloc _).alloc _); match j, hj with | 0, _ => simp [go_sem] | 1, _ => simp [go_sem])
  · have hv := kv_ints (Q := Q) hI (fun g hg => HQ2.out _ g rfl rfl hg) ((Fr.refl none_ w).alloc (.cells #[.int .i64 7, x1, .int .i64 a, .int .i64 b, x4, x5, x6, x7, x8, x9, x10, x11, x12, x13, x14, x15] 49))
    have HV := Lib.hid hv
    clear hv hI
    go_enter Tryz.func17, Tryz.ntmps17
    go_wp2
    all_goals first
      | (go_ret; exact kidsOut_mk HV.out ((Fr.refl _ w).alloc _))
  · rcases hk with rfl | rfl | rfl
    all_goals
      go_enter Tryz.func17, Tryz.ntmps17
      go_wp2
      all_goals first
        | (go_ret; exact kidsOut_mk (.inl ⟨rfl, rfl⟩) ((Fr.refl _ w).alloc _))
end Go.Proofs.YtjagjjdkgidkjaaGreatDoor
namespace Go.Proofs.YtjagjjdkgidkjaaGreatDoor
open Go Go.RowKit
set_option maxRecDepth 1000000
/-- How often each node has been met so far. -/
def Met5 (mb n : Nat) (f : Nat → Nat) (w : World) : Prop := ∃ cs : Array Value, w.heap[mb]? = some (.cells cs 3 (0, 0)) ∧ cs.size = n ∧ ∀ j, j < n → cs[j]? = some (.int .i64 (f j : Nat))
namespace Met5
variable {mb n : Nat} {f : Nat → Nat} {w w' : World}
theorem at_ (h : Met5 mb n f w) (j : Nat) (hj : j < n) : w.cell? ⟨mb, j, none⟩ = some (.int .i64 (f j : Nat)) := by
  obtain ⟨cs, hb, hz, hc⟩ := h
  simp [World.cell?, hb]
  exact hc j hj
theorem fz (h : Met5 mb n f w) (j : Nat) : w.frozen? ⟨mb, j, none⟩ = false := by
  obtain ⟨cs, hb, _⟩ := h
  simp [World.frozen?, hb]
theorem lt (h : Met5 mb n f w) : mb < w.heap.size := by
  obtain ⟨cs, hb, _⟩ := h
  exact size_of_get hb
theorem fr {S : Nat → Prop} (h : Met5 mb n f w) (hf : Fr S w w') (hn : ¬ S mb) : Met5 mb n f w' := by
  obtain ⟨cs, hb, r⟩ := h
  exact ⟨cs, hf.get hb hn, r⟩
theorem up (h : Met5 mb n f w) (j : Nat) (hj : j < n) : Met5 mb n (fun k => f k + if k = j then 1 else 0) (w.setCell ⟨mb, j, none⟩ (.int .i64 ((f j : Int) + 1))) := by
  obtain ⟨cs, hb, hz, hc⟩ := h
  refine ⟨_, heap_set hb _, by simpa using hz, fun k hk => ?_⟩
  rw [Array.getElem?_setIfInBounds]
  by_cases e : j = k
  · subst e
    simp [hz, hk]
  · rw [if_neg e]
    show cs[k]? = some (.int .i64 ((f k + if k = j then 1 else 0 : Nat) : Int))
    rw [if_neg (fun (h : k = j) => e h.symm), Nat.add_zero]
    exact hc k hk
theorem congr (h : Met5 mb n f w) {g : Nat → Nat} (e : ∀ j, j < n → f j = g j) : Met5 mb n g w := by
  obtain ⟨cs, hb, hz, hc⟩ := h
  exact ⟨cs, hb, hz, fun j hj => by rw [hc j hj, e j hj]⟩
end Met5
theorem flat16 : ∀ (T : List Nd), (∀ nd ∈ T, nd.cs.length = 16) → ∀ (i : Nat) (h : i < T.length) (j : Nat) (v : Value), T[i].cs[j]? = some v → (T.map Nd.cs).flatten[i * 16 + j]? = some v
  | [], _, i, h, _, _, _ => by simp at h
  | nd :: T, hT, 0, h, j, v, hv => by
    have hl := hT nd (List.mem_cons_self ..)
    have hj : j < nd.cs.length := (List.getElem?_eq_some_iff.1 hv).1
    simp only [List.map_cons, List.flatten_cons, Nat.zero_mul, Nat.zero_add]
    rw [List.getElem?_append_left hj]
    exact hv
  | nd :: T, hT, i + 1, h, j, v, hv => by
    have hl := hT nd (List.mem_cons_self ..)
    simp only [List.map_cons, List.flatten_cons]
    rw [List.getElem?_append_right (by omega), show (i + 1) * 16 + j - nd.cs.length = i * 16 + j by omega]
    exact flat16 T (fun x hx => hT x (List.mem_cons_of_mem _ hx)) i (by simpa using h) j v (by simpa using hv)
/-- Blocks that were there stay. -/
theorem own_old {w w' : World} {N : Nat} {base : Nat} {e : TypeId} {size : Nat} {v : Value} {n : Nat} {xs : List Value} (h : w.ownsRow base e size v n xs) (hN : w.heap.size ≤ N) (f : Fr (fun k => N ≤ k) w w') : w'.ownsRow base e size v n xs := by
  refine ⟨h.1, ?_⟩
  rcases h.2 with hh | ⟨g, cap, cur, rfl, hb, hg, rest⟩
  · exact .inl hh
  · exact .inr ⟨g, cap, cur, rfl, hb, f.get hg (by have := size_of_get hg; omega), rest⟩
theorem own_lt {w : World} {base : Nat} {e : TypeId} {size : Nat} {v : Value} {n : Nat} {xs : List Value} (h : w.ownsRow base e size v n xs) (g : Nat) (hg : v.ownBlock = some g) : g < w.heap.size := by
  rcases h.2 with ⟨rfl, _⟩ | ⟨g', cap, cur, rfl, hb, hh, rest⟩
  · cases hg
  · obtain rfl : g' = g := Option.some.inj hg
    exact size_of_get hh
theorem rep_old {U : Nat → Prop} {tv : Value} {w w' : World} {nd : Nd} {N : Nat} (h : Rep U tv w nd) (hN : w.heap.size ≤ N) (f : Fr (fun k => N ≤ k) w w') : Rep U tv w' nd := by
  obtain ⟨h1, h2, kind, a, b, av, c0, c2, c3, c12, hk, hg⟩ := h
  refine ⟨h1, h2, kind, a, b, av, c0, c2, c3, c12, ?_, hg⟩
  rcases hk with h | h | h | ⟨h7, h⟩ | h
  · exact .inl h
  · exact .inr (.inl h)
  · exact .inr (.inr (.inl h))
  · exact .inr (.inr (.inr (.inl ⟨h7, own_old h hN f⟩)))
  · exact .inr (.inr (.inr (.inr h)))
theorem rep_lt {U : Nat → Prop} {tv : Value} {w : World} {nd : Nd} (h : Rep U tv w nd) (av : Value) (g : Nat) (h0 : nd.cs[0]? = some (.int .i64 7)) (h12 : nd.cs[12]? = some av) (hg : av.ownBlock = some g) : g < w.heap.size := by
  obtain ⟨h1, h2, kind, a, b, av', c0, c2, c3, c12, hk, _⟩ := h
  rw [h0] at c0
  rw [h12] at c12
  cases c12
  have hk7 : kind = 7 := by
    simp only [Option.some.injEq, Value.int.injEq, true_and] at c0
    exact c0.symm
  subst hk7
  rcases hk with ⟨h, _⟩ | ⟨h, _⟩ | ⟨h, _⟩ | ⟨_, h⟩ | ⟨h, _⟩
  · omega
  · omega
  · omega
  · exact own_lt h g hg
  · omega
def cntAt (T : List Nd) (i : Nat) (k : Nat) : Nat := Fo.cnt k ((T.map Nd.kids).take i)
theorem cntAt_zero (T : List Nd) (k : Nat) : cntAt T 0 k = 0 := rfl
theorem cntAt_succ (T : List Nd) (i : Nat) (h : i < T.length) (k : Nat) : cntAt T (i + 1) k = cntAt T i k + T[i].kids.count k := by
  unfold cntAt
  rw [List.take_add_one, Fo.cnt_append]
  have e : (T.map Nd.kids)[i]? = some T[i].kids := by simp [h]
  rw [e]
  simp [Fo.cnt]
theorem count_take (ks : List Nat) (j : Nat) (h : j < ks.length) (k : Nat) : (ks.take (j + 1)).count k = (ks.take j).count k + if k = ks[j] then 1 else 0 := by
  rw [List.take_add_one, List.getElem?_eq_getElem h, List.count_append]
  congr 1
  show [ks[j]].count k = _
  by_cases e : k = ks[j]
  · rw [if_pos e, ← e, List.count_singleton_self]
  · rw [if_neg e]
    exact List.count_eq_zero.2 (by simpa using e)
theorem count_all (ks : List Nat) (k : Nat) : (ks.take ks.length).count k = ks.count k := by rw [List.take_length]
/-- What the law asks of the counts. -/
theorem forest_counts {T : List Nd} (h : Fo.Forest 0 (T.map Nd.kids) [T.length - 1]) (k : Nat) (hk : k < T.length) : cntAt T T.length k = if k = T.length - 1 then 0 else 1 := by
  have h1 := h.once k (by omega) (by simpa using hk)
  have e : cntAt T T.length k = Fo.cnt k (T.map Nd.kids) := by
    unfold cntAt
    rw [List.take_of_length_le (by simp)]
  rw [e]
  by_cases e2 : k = T.length - 1
  · rw [if_pos e2]
    subst e2
    simp at h1
    exact h1
  · rw [if_neg e2]
    have : [T.length - 1].count k = 0 := List.count_eq_zero.2 (by simpa using e2)
    omega
theorem forest_ahead {T : List Nd} (h : Fo.Forest 0 (T.map Nd.kids) [T.length - 1]) (i : Nat) (hi : i < T.length) (k : Nat) (hk : k ∈ T[i].kids) : k < i := by
  have := h.ahead i (by simpa using hi) k (by simpa using hk)
  omega
theorem made_zero (n j : Nat) (h : j < n) : (madeCells #[.int .i64 0] (n * 1))[j]? = some (.int .i64 0) := by
  unfold madeCells
  rw [Array.getElem?_map]
  simp [h, Nat.mod_one]
end Go.Proofs.YtjagjjdkgidkjaaGreatDoor
