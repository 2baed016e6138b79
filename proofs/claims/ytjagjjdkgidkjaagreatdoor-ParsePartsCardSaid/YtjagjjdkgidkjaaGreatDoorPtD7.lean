/- Strconv's decimal: a part (Sd Sj Nt) of the proof that the law ParseParts answers true. No condition. -/
import Derived.Test.YtjagjjdkgidkjaaGreatDoorPtD5
import Derived.Test.YtjagjjdkgidkjaaGreatDoorPtD6
import Derived.Test.YtjagjjdkgidkjaaGreatDoorPtF5
import Derived.Scope
import Derived.WalkMore
set_option linter.all false
namespace Go.Proofs.YtjagjjdkgidkjaaGreatDoor
open Go Go.RowKit
set_option maxRecDepth 1000000
set_option maxHeartbeats 4000000 in
/-- A shift to the left, by no more than 60. -/
theorem shiftL217 (b : Nat) (f : Nat → Nat) (nd : Nat) (dp : Int) (ng tr : Bool) (k : Int) (w : World) (hk1 : 1 ≤ k) (hk : k ≤ 60) (hn : 1 ≤ nd) (hG : Good f nd) (hp1 : -4000000000 ≤ dp) (hp2 : dp ≤ 4000000000) (hT : LcTab w) (hD : DB b f nd dp ng tr w) :
    Calls Tryz.prog 217 #[.pointer (some ⟨b, 0, none⟩), .int .i64 k] w (LsOut b f dp ng 61 w) := by
  obtain ⟨k, rfl⟩ : ∃ n : Nat, k = n := ⟨k.toNat, by omega⟩
  have c0 := hD.nd_
  go_enter Tryz.func217, Tryz.ntmps217
  go_wp2
  go_loopw [1] (fun v1 wr => v1 = .int .i64 k ∧ w = wr) (fun _ _ => 0)
  case atStart => exact ⟨rfl, rfl⟩
  case round =>
    obtain ⟨rfl, rfl⟩ := hrel
    go_wp2_with (first
      | (go_at_call 262; ((with_reducible refine (left262 b f nd dp ng tr k _ (by omega) (by omega) hn hG hp1 hp2 hT hD).mono ?_); rintro e w3 ⟨g, n, d, t, rfl, h1, h2, h3, h4, h5, h6⟩)))
    all_goals first
      | (refine bodyPost_end (results_none rfl _ _ _) rfl ?_; exact ⟨g, n, d, t, rfl, h1, h2, h3, h4, h5, h6⟩)
def RsRel (b : Nat) (f : Nat → Nat) (dp : Int) (ng : Bool) (K : Int) (w : World) (v : Value) (wr : World) : Prop :=
  ∃ (k j : Nat) (g : Nat → Nat) (n : Nat) (d : Int) (t : Bool), v = .int .i64 (-(k : Int)) ∧ 1 ≤ k ∧ K = k + 60 * j ∧ DB b g n d ng t wr ∧ Good g n ∧ 1 ≤ n ∧ (d < dp ∨ d = dp ∧ g 0 ≤ f 0) ∧ d ≤ dp ∧ dp - 900 * j ≤ d ∧ Fr (· = b) w wr
set_option maxHeartbeats 4000000 in
theorem shiftR217 (b : Nat) (f : Nat → Nat) (nd : Nat) (dp : Int) (ng tr : Bool) (K : Int) (w : World) (hk1 : 1 ≤ K) (hk : K ≤ 3000000) (hn : 1 ≤ nd) (hG : Good f nd) (hp1 : -1000000 ≤ dp) (hp2 : dp ≤ 1000000) (hD : DB b f nd dp ng tr w) :
    Calls Tryz.prog 217 #[.pointer (some ⟨b, 0, none⟩), .int .i64 (-K)] w (RsOut b f dp ng (900 * (K / 60 + 1)) w) := by
  have c0 := hD.nd_
  have hb1 : ((nd : Int) == 0) = false := by simp; omega
  have hb2 : decide (K < 0) = false := by simp; omega
  have hb3 : decide (0 < K) = true := by simp; omega
  go_enter Tryz.func217, Tryz.ntmps217
  go_wp2
  go_loopw [1] (RsRel b f dp ng K w) (fun v _ => (-intOf v).toNat)
  case atStart => exact ⟨K.toNat, 0, f, nd, dp, tr, by rw [Int.toNat_of_nonneg (by omega)], by omega, by omega, hD, hG, hn, by omega, by omega, by omega, Fr.refl _ w⟩
  case round =>
    obtain ⟨k, j, g, n, d, t, rfl, h1, h2, D, G, hn1, hlt, hle, hlo, F⟩ := hrel
    have HL := Lib.hid hlt
    have hj5 : j ≤ 50000 := by omega
    have hkK : k ≤ 3000000 := by omega
    have H2 := Lib.hid h2
    clear hlt h2
    by_cases h60 : 60 < k
    · have e0 : -(k : Int) + 60 = -((k - 60 : Nat) : Int) := by omega
      have R60 : Calls Tryz.prog 263 #[.pointer (some ⟨b, 0, none⟩), .int .u64 60] wr (RsOut b g d ng 900 wr) := right263 b g n d ng t 60 wr (by omega) (by omega) hn1 G (by omega) (by omega) D
      go_wp2_with (first
        | (go_at_call 263; ((with_reducible refine R60.mono ?_); rintro e w3 ⟨g2, n2, d2, t2, rfl, q1, q2, q3, q4, q5, q6⟩)))
      go_roundw
      case rel =>
        exact ⟨k - 60, j + 1, g2, n2, d2, t2, by rw [← e0], by omega, by have := H2.out; omega, q1, q2, q3, by have := HL.out; omega, by omega, by omega, F.trans q6 fun _ _ e => e⟩
      case measure => simp [intOf]; omega
    · go_wp2_with (first
        | (go_at_call 263; ((with_reducible refine (right263 b g n d ng t k _ (by omega) (by omega) hn1 G (by omega) (by omega) D).mono ?_); rintro e w3 ⟨g2, n2, d2, t2, rfl, q1, q2, q3, q4, q5, q6⟩)))
      refine bodyPost_end (results_none rfl _ _ _) rfl ?_
      exact ⟨g2, n2, d2, t2, rfl, q1, q2, q3, by have := HL.out; omega, by have := H2.out; omega, F.trans q6 fun _ _ e => e⟩
end Go.Proofs.YtjagjjdkgidkjaaGreatDoor
/- A scope with two labels further down (1 ahead of 0), jumped to from above alone: at each jump the walk goes on at the label. -/
namespace Go
def Exit.fwd0 (P : Program) (r0 : Code) (Q : Exit → Act → World → Prop) : Exit → Act → World → Prop
  | .goto 0, a, w => r0.wp P (Exit.noGoto Q) a w
  | .goto (_ + 1), _, _ => False
  | e, a, w => Q e a w
def Exit.fwd1 (P : Program) (r1 r0 : Code) (Q : Exit → Act → World → Prop) : Exit → Act → World → Prop
  | .goto 0, a, w => r0.wp P (Exit.noGoto Q) a w
  | .goto 1, a, w => r1.wp P (Exit.fwd0 P r0 Q) a w
  | .goto (_ + 2), _, _ => False
  | e, a, w => Q e a w
section
variable {P : Program} {b : Frame} {a : Act} {k : List Item} {cs : List Frame} {w : World} {Q : Exit → Act → World → Prop} {r0 r1 : Code}
@[go_sem] theorem Exit.fwd0_normal : Exit.fwd0 P r0 Q .normal a w = Q .normal a w := rfl
@[go_sem] theorem Exit.fwd0_exit (id : Nat) : Exit.fwd0 P r0 Q (.exit id) a w = Q (.exit id) a w := rfl
@[go_sem] theorem Exit.fwd0_ret : Exit.fwd0 P r0 Q .ret a w = Q .ret a w := rfl
@[go_sem] theorem Exit.fwd0_panic (ch : List PanicEntry) : Exit.fwd0 P r0 Q (.panic ch) a w = Q (.panic ch) a w := rfl
@[go_sem] theorem Exit.fwd1_normal : Exit.fwd1 P r1 r0 Q .normal a w = Q .normal a w := rfl
@[go_sem] theorem Exit.fwd1_exit (id : Nat) : Exit.fwd1 P r1 r0 Q (.exit id) a w = Q (.exit id) a w := rfl
@[go_sem] theorem Exit.fwd1_ret : Exit.fwd1 P r1 r0 Q .ret a w = Q .ret a w := rfl
@[go_sem] theorem Exit.fwd1_panic (ch : List PanicEntry) : Exit.fwd1 P r1 r0 Q (.panic ch) a w = Q (.panic ch) a w := rfl
theorem Exit.fwd0_goto : Exit.fwd0 P r0 Q (.goto 0) a w = r0.wp P (Exit.noGoto Q) a w := rfl
theorem Exit.fwd1_goto0 : Exit.fwd1 P r1 r0 Q (.goto 0) a w = r0.wp P (Exit.noGoto Q) a w := rfl
theorem Exit.fwd1_goto1 : Exit.fwd1 P r1 r0 Q (.goto 1) a w = r1.wp P (Exit.fwd0 P r0 Q) a w := rfl
theorem inScope_arrives {X : Machine} {c : Code} {e : Exit} {a₁ : Act} {w₁ : World} (hne : ∀ l, e ≠ .goto l) (h : Arrives P X b (.inScope c :: k) cs e a₁ w₁) : Arrives P X b k cs e a₁ w₁ := by
  cases e with
  | normal => exact Steps.trans h (.one step_inScope)
  | exit id => exact fun k' hk => h k' (by simp [exitTo, hk])
  | goto l => exact absurd rfl (hne l)
  | ret => exact h
  | panic ch => exact h
  | outgrown => exact h
theorem scope_noGoto {c r : Code} (h : r.wp P (Exit.noGoto Q) a w) : ∃ e a' w', Q e a' w' ∧ Arrives P (lone (b.at a (.code r :: .inScope c :: k)) cs w) b k cs e a' w' := by
  obtain ⟨e, a₁, w₁, hq, harr⟩ := h b (.inScope c :: k) cs
  cases e with
  | goto l => exact hq.elim
  | normal => exact ⟨_, a₁, w₁, hq, inScope_arrives (fun l e => Exit.noConfusion e) harr⟩
  | exit id => exact ⟨_, a₁, w₁, hq, inScope_arrives (fun l e => Exit.noConfusion e) harr⟩
  | ret => exact ⟨_, a₁, w₁, hq, inScope_arrives (fun l e => Exit.noConfusion e) harr⟩
  | panic ch => exact ⟨_, a₁, w₁, hq, inScope_arrives (fun l e => Exit.noConfusion e) harr⟩
  | outgrown => exact ⟨_, a₁, w₁, hq, inScope_arrives (fun l e => Exit.noConfusion e) harr⟩
theorem scope_fwd0 {c r : Code} (hf : findLabel c 0 = some r0) (h : r.wp P (Exit.fwd0 P r0 Q) a w) : ∃ e a' w', Q e a' w' ∧ Arrives P (lone (b.at a (.code r :: .inScope c :: k)) cs w) b k cs e a' w' := by
  have hg : gotoIn 0 (.inScope c :: k) = some (.code r0 :: .inScope c :: k) := by simp [gotoIn, hf]
  obtain ⟨e, a₁, w₁, hq, harr⟩ := h b (.inScope c :: k) cs
  cases e with
  | goto l =>
    match l, hq with
    | 0, hq =>
      obtain ⟨e₂, a₂, w₂, hq₂, harr₂⟩ := scope_noGoto (b := b) (k := k) (cs := cs) (c := c) hq
      exact ⟨e₂, a₂, w₂, hq₂, .of_steps (harr _ hg) harr₂⟩
    | _ + 1, hq => exact hq.elim
  | normal => exact ⟨_, a₁, w₁, hq, inScope_arrives (fun l e => Exit.noConfusion e) harr⟩
  | exit id => exact ⟨_, a₁, w₁, hq, inScope_arrives (fun l e => Exit.noConfusion e) harr⟩
  | ret => exact ⟨_, a₁, w₁, hq, inScope_arrives (fun l e => Exit.noConfusion e) harr⟩
  | panic ch => exact ⟨_, a₁, w₁, hq, inScope_arrives (fun l e => Exit.noConfusion e) harr⟩
  | outgrown => exact ⟨_, a₁, w₁, hq, inScope_arrives (fun l e => Exit.noConfusion e) harr⟩
theorem wp_scope_fwd {c : Code} (hf1 : findLabel c 1 = some r1) (hf0 : findLabel c 0 = some r0) (h : c.wp P (Exit.fwd1 P r1 r0 Q) a w) : (Code.scope c).wp P Q a w := by
  intro b k cs
  have hg0 : gotoIn 0 (.inScope c :: k) = some (.code r0 :: .inScope c :: k) := by simp [gotoIn, hf0]
  have hg1 : gotoIn 1 (.inScope c :: k) = some (.code r1 :: .inScope c :: k) := by simp [gotoIn, hf1]
  have key : ∃ e a' w', Q e a' w' ∧ Arrives P (lone (b.at a (.code c :: .inScope c :: k)) cs w) b k cs e a' w' := by
    obtain ⟨e, a₁, w₁, hq, harr⟩ := h b (.inScope c :: k) cs
    cases e with
    | goto l =>
      match l, hq with
      | 0, hq =>
        obtain ⟨e₂, a₂, w₂, hq₂, harr₂⟩ := scope_noGoto (b := b) (k := k) (cs := cs) (c := c) hq
        exact ⟨e₂, a₂, w₂, hq₂, .of_steps (harr _ hg0) harr₂⟩
      | 1, hq =>
        obtain ⟨e₂, a₂, w₂, hq₂, harr₂⟩ := scope_fwd0 (b := b) (k := k) (cs := cs) (c := c) hf0 hq
        exact ⟨e₂, a₂, w₂, hq₂, .of_steps (harr _ hg1) harr₂⟩
      | _ + 2, hq => exact hq.elim
    | normal => exact ⟨_, a₁, w₁, hq, inScope_arrives (fun l e => Exit.noConfusion e) harr⟩
    | exit id => exact ⟨_, a₁, w₁, hq, inScope_arrives (fun l e => Exit.noConfusion e) harr⟩
    | ret => exact ⟨_, a₁, w₁, hq, inScope_arrives (fun l e => Exit.noConfusion e) harr⟩
    | panic ch => exact ⟨_, a₁, w₁, hq, inScope_arrives (fun l e => Exit.noConfusion e) harr⟩
    | outgrown => exact ⟨_, a₁, w₁, hq, inScope_arrives (fun l e => Exit.noConfusion e) harr⟩
  obtain ⟨e, a', w', hq, harr⟩ := key
  exact ⟨e, a', w', hq, .of_steps (.one step_scope) harr⟩
end
end Go
namespace Go.Proofs.YtjagjjdkgidkjaaGreatDoor
open Go Go.RowKit
set_option maxRecDepth 1000000
/-- The library's table of steps. -/
structure PtTab (W : World) : Prop where
  row : ∃ B o c : Nat, W.cell? ⟨15, 0, none⟩ = some (.slice (some ⟨B, o, none⟩) 9 c) ∧ ∀ i, i < 9 → ∃ x : Int, 1 ≤ x ∧ x ≤ 27 ∧ W.cell? ⟨B, o + i, none⟩ = some (.int .i64 x)
theorem PtTab.fr {W w : World} (h : PtTab W) (f : Fr none_ W w) : PtTab w :=
  let ⟨B, o, c, hc, hr⟩ := h.row
  ⟨B, o, c, f.cell hc id, fun i hi => let ⟨x, a1, a2, a3⟩ := hr i hi; ⟨x, a1, a2, f.cell a3 id⟩⟩
structure NumTab (W : World) : Prop where
  fl : FlTab W
  pw : PwTab W
  er : ErTab W
  lc : LcTab W
  pt : PtTab W
  opt : ∃ b : Bool, W.cell? ⟨3, 0, none⟩ = some (.bool b)
  big : 17 ≤ W.heap.size
theorem NumTab.fr {W w : World} (h : NumTab W) (f : Fr none_ W w) : NumTab w :=
  ⟨h.fl.fr f, h.pw.fr f, h.er.fr f, h.lc.fr f, h.pt.fr f, (let ⟨b, hb⟩ := h.opt; ⟨b, f.cell hb id⟩), Nat.le_trans h.big f.size⟩
end Go.Proofs.YtjagjjdkgidkjaaGreatDoor
