/- Part Ev22 of a verified evaluator of closed calls: of no program; no condition. -/
import Derived.Test.YtjagjjdkgidkjaaGreatDoorEv22c
set_option linter.all false
namespace Go.Proofs.YtjagjjdkgidkjaaGreatDoor.Ev
open Go Go.RowKit

variable {P : Program} {known : Nat → Bool} {base : Nat} {w0 : World}
variable {call : Rec} {ops : Array Oper} {ms : List Nat} {A : Nat → AA} {S : Nat → AS} {V : Nat → Option AV}

/-- How many are not listed. -/
def left (listed : Array Bool) : Nat → Nat
  | 0 => 0
  | k + 1 => (if listed.getD k true = false then 1 else 0) + left listed k
theorem left_zero {listed : Array Bool} : ∀ {n : Nat}, left listed n = 0 → ∀ k, k < n → listed.getD k true = true
  | 0, _, k, hk => by omega
  | n + 1, h, k, hk => by
    simp only [left] at h
    by_cases e : k = n
    · subst e
      cases hb : listed.getD k true with
      | true => rfl
      | false => rw [hb] at h; simp at h
    · exact left_zero (n := n) (by omega) k (by omega)
theorem left_set {listed : Array Bool} {j : Nat} (hj : listed.getD j true = false) : ∀ n, left (listed.setIfInBounds j true) n + (if j < n then 1 else 0) = left listed n
  | 0 => by simp [left]
  | n + 1 => by
    have ih := left_set hj n
    have hlt : j < listed.size := by
      rcases Nat.lt_or_ge j listed.size with h | h
      · exact h
      · simp [Array.getElem?_eq_none h] at hj
    simp only [left]
    by_cases e : j = n
    · subst e
      have h1 : (listed.setIfInBounds j true).getD j true = true := by simp
      rw [h1, hj]
      simp at ih ⊢
      omega
    · have h1 : (listed.setIfInBounds j true).getD n true = listed.getD n true := getD_set_ne true e
      rw [h1]
      by_cases h2 : j < n
      · have h3 : j < n + 1 := by omega
        simp only [h2, if_true] at ih; simp only [h3, if_true]; omega
      · have h3 : ¬ j < n + 1 := by omega
        simp only [h2, if_false] at ih; simp only [h3, if_false]; omega
theorem left_all (n : Nat) : ∀ k, k ≤ n → left (Array.replicate n false) k = k
  | 0, _ => rfl
  | k + 1, h => by
    have : (Array.replicate n false).getD k true = false := by simp [show k < n by omega]
    simp only [left, this, if_true, left_all n k (by omega)]
    omega

theorem rho_of {π : Pi} {σ : AS} {w : World} (hH : HR known base w0 π σ w) {look : Nat → Option AV} {a : Act} (hl : ∀ t v, look t = some v → VR π v (a.tmps.getD t undef)) : RhoR π (opd known look) a.eval := by
  intro x v hx
  cases x with
  | tmp t => exact hl t v hx
  | const c => exact ofValue_rel hx
  | global g =>
    have hx' : gB (known g) (some (AV.ptr g 0)) = some v := hx
    rw [gB_iff] at hx'
    obtain ⟨hk, hx'⟩ := hx'
    simp only [Option.some.injEq] at hx'
    subst hx'
    obtain ⟨rs, hr⟩ := hH.glob g hk
    simp only [VR]
    exact ⟨g, 0, rs, hr, rfl⟩
  | func f =>
    have hx' : some (AV.func f [] []) = some v := hx
    simp only [Option.some.injEq] at hx'
    subst hx'
    simp only [VR]
    exact ⟨[], [], rfl, VRL.nil, VRL.nil⟩

structure Inv (known : Nat → Bool) (base : Nat) (w0 : World) (P : Program) (ops : Array Oper) (A : Nat → AA) (S : Nat → AS) (V : Nat → Option AV) (π0 π : Pi) (listed : Array Bool) (a : Act) (w : World) : Prop where
  size : listed.size = ops.size
  down : Down ops (fun k => listed.getD k false)
  le : π0.le π
  heap : HR known base w0 π (SA P ops S (fun k => listed.getD k false) ops.size) w
  tmps : a.tmps.size = (A 0).n
  defers : DL π (A 0).defers a.defers
  look : ∀ t, ∃ v, VA ops (A 0) V (fun k => listed.getD k false) t ops.size = some v ∧ VR π v (a.tmps.getD t undef)

theorem mem_binds {o : Oper} {e : Nat} : e ∈ bindsOf o ↔ ∃ x ∈ o.after, Region.binds .any x = true ∧ x.on = e := by
  unfold bindsOf
  simp only [List.mem_map, List.mem_filter, Array.mem_toList_iff]
  constructor
  · rintro ⟨x, ⟨h1, h2⟩, h3⟩; exact ⟨x, h1, h2, h3⟩
  · rintro ⟨x, h1, h2, h3⟩; exact ⟨x, ⟨h1, h2⟩, h3⟩

theorem Inv.end (D : Draw P known call ops ms A S V) {π0 π : Pi} {listed : Array Bool} {a : Act} {w : World} (I : Inv known base w0 P ops A S V π0 π listed a w) (hr : Region.ready .any ops listed = []) :
    ExitR known base w0 π0 .normal (A ops.size) (S ops.size) .normal a w := by
  have hall : ∀ k, k < ops.size → listed.getD k false = true := by
    intro k
    induction k using Nat.strongRecOn with
    | _ k ih =>
      intro hk
      cases hb : listed.getD k false with
      | true => rfl
      | false =>
        have hmem : k ∈ Region.ready .any ops listed := by
          rw [mem_ready]
          have hlt : k < listed.size := by rw [I.size]; exact hk
          refine ⟨by simpa [hlt] using hb, ops[k], Array.getElem?_eq_getElem hk, fun e he hbnd => ?_⟩
          have hlt2 := D.edges k _ (Array.getElem?_eq_getElem hk) e.on (mem_binds.2 ⟨e, he, hbnd, rfl⟩)
          exact ih e.on hlt2 (by omega)
        rw [hr] at hmem; cases hmem
  have hh := I.heap
  rw [D.SA_all hall _ (Nat.le_refl _)] at hh
  obtain ⟨h1, h2⟩ := D.same ops.size (Nat.le_refl _)
  refine ⟨π, I.le, hh, ⟨by rw [I.tmps, h1], fun t => ?_, by rw [h2]; exact I.defers⟩, rfl⟩
  obtain ⟨v, hv, hr⟩ := I.look t
  rw [D.VA_all hall t _ (Nat.le_refl _)] at hv
  exact ⟨v, hv, hr⟩

theorem draw_wp (hc : CallOK P known base w0 call) (D : Draw P known call ops ms A S V) {π0 : Pi} : ∀ (fuel : Nat) (listed : Array Bool) (a : Act) (w : World) (π : Pi), left listed ops.size = fuel →
    Inv known base w0 P ops A S V π0 π listed a w → wpAny P .any ops (ExitR known base w0 π0 .normal (A ops.size) (S ops.size)) fuel listed a w
  | 0, listed, a, w, π, hf, I => by
    have hr : Region.ready .any ops listed = [] := by
      cases hr : Region.ready .any ops listed with
      | nil => rfl
      | cons j l =>
        have hj : j ∈ Region.ready .any ops listed := by rw [hr]; exact List.mem_cons_self
        obtain ⟨h1, o, ho, _⟩ := mem_ready.1 hj
        have := left_zero hf j (Array.getElem?_eq_some_iff.1 ho).1
        rw [this] at h1; cases h1
    exact ⟨hr, I.end D hr⟩
  | fuel + 1, listed, a, w, π, hf, I => by
    refine ⟨fun hr => I.end D hr, fun j hj => ?_⟩
    obtain ⟨h1, o, ho, hedges⟩ := mem_ready.1 hj
    have hjlt : j < ops.size := (Array.getElem?_eq_some_iff.1 ho).1
    have hjl : j < listed.size := by rw [I.size]; exact hjlt
    have R : Ready ops (fun k => listed.getD k false) j o := by
      refine ⟨ho, by simpa [hjl] using h1, fun e he => ?_, I.down, fun k hk => ?_⟩
      · obtain ⟨x, hx, hb, rfl⟩ := mem_binds.1 he
        exact hedges x hx hb
      · rcases Nat.lt_or_ge k listed.size with h | h
        · rw [← I.size]; exact h
        · simp [Array.getElem?_eq_none h] at hk
    -- what the operands hold
    have hlook : ∀ t, t ∈ looksAt ops o → ∃ v, (A j).look t = some v ∧ VR π v (a.tmps.getD t undef) := by
      intro t ht
      obtain ⟨v, hv, hr⟩ := I.look t
      rw [R.VA_high D ht _ (Nat.le_of_lt hjlt) (Nat.le_refl _)] at hv
      exact ⟨v, hv, hr⟩
    have hin : ∀ t v, lookIn (looksAt ops o) (A j).look t = some v → VR π v (a.tmps.getD t undef) := by
      intro t v h
      unfold lookIn at h
      split at h
      · rename_i hm
        obtain ⟨u, hu, hr⟩ := hlook t (memN_iff.1 hm)
        rw [hu] at h; cases h
        exact hr
      · cases h
    have hρ : RhoR π (opd known (lookIn (looksAt ops o) (A j).look)) a.eval := rho_of I.heap hin
    have hw : wantedA (lookIn (looksAt ops o) (A j).look) ops o = Region.wanted o (yielded ops a.tmps) := by
      refine wanted_eq' (π := π) ops o (fun g want d hg hd => ?_)
      have hm : d ∈ looksAt ops o := by
        unfold looksAt
        rw [List.mem_append]
        right
        rw [hg]
        simp only []
        rw [hd]
        exact List.mem_singleton.2 rfl
      obtain ⟨v, hv, hr⟩ := hlook d hm
      refine ⟨v, ?_, hr⟩
      unfold lookIn
      rw [memN_iff.2 hm]
      exact hv
    -- the set with j in it
    have hL' : ∀ k, (fun k => (listed.setIfInBounds j true).getD k false) k = if k = j then true else listed.getD k false := by
      intro k
      by_cases e : k = j
      · subst e; simp [hjl]
      · rw [if_neg e]; exact getD_set_ne false (Ne.symm e)
    have hdown : Down ops (fun k => (listed.setIfInBounds j true).getD k false) := by
      intro k ok hk hin' e he
      rw [hL' k] at hin'
      by_cases e1 : k = j
      · subst e1
        rw [ho] at hk; cases hk
        have := R.edges e he
        exact getD_set_true this
      · rw [if_neg e1] at hin'
        exact getD_set_true (I.down k ok hk hin' e he)
    have hleft : left (listed.setIfInBounds j true) ops.size = fuel := by
      have := left_set h1 ops.size
      rw [if_pos hjlt] at this
      omega
    have hnext : ∀ (π' : Pi) (w' : World) (v : AV) (u : Value), V j = some v ∨ (V j = none ∧ v = .tuple []) → π.le π' → VR π' v u → HR known base w0 π' (SA P ops S (fun k => (listed.setIfInBounds j true).getD k false) ops.size) w' →
        wpAny P .any ops (ExitR known base w0 π0 .normal (A ops.size) (S ops.size)) fuel (listed.setIfInBounds j true) (a.put o.dst u) w' := by
      intro π' w' v u hv hle hu hH'
      refine draw_wp hc D fuel _ _ _ π' hleft ⟨by simpa using I.size, hdown, Pi.le_trans I.le hle, hH', ?_, ?_, fun t => ?_⟩
      · rw [← I.tmps]; cases o.dst <;> simp [Act.put]
      · have : (a.put o.dst u).defers = a.defers := by cases o.dst <;> rfl
        rw [this]; exact I.defers.mono hle
      · have hd : dstAt ops j = o.dst := by simp [dstAt, ho]
        have hV : (V j).getD (.tuple []) = v := by
          rcases hv with h | ⟨h, rfl⟩ <;> rw [h] <;> rfl
        rw [R.VA_set D hL' t _ (Nat.le_refl _), hd, hV]
        by_cases e : o.dst = some t
        · rw [if_pos ⟨hjlt, e⟩]
          refine ⟨v, rfl, ?_⟩
          have hlt : t < a.tmps.size := by
            rw [I.tmps, ← (D.same j (Nat.le_of_lt hjlt)).1]
            rcases D.step j o ho with ⟨_, x, _, _, hp⟩ | ⟨_, _, _, hp⟩
            · rw [e] at hp; exact put_lt hp
            · rw [e] at hp; exact put_lt hp
          rw [e]
          simpa [Act.put, hlt] using hu
        · rw [if_neg (fun h => e h.2)]
          obtain ⟨v', h1, h2⟩ := I.look t
          refine ⟨v', h1, ?_⟩
          have : (a.put o.dst u).tmps.getD t undef = a.tmps.getD t undef := by
            cases hd2 : o.dst with
            | none => rfl
            | some d =>
              have hne : d ≠ t := fun h => e (by rw [hd2, h])
              simp [Act.put, Array.getElem?_setIfInBounds_ne hne]
          rw [this]; exact VR.mono hle _ _ h2
    unfold wpOp
    simp only [ho]
    have hSset := R.SA_set D hL' ops.size (Nat.le_refl _)
    rcases D.step j o ho with ⟨hwt, v, hv, hdo, hp⟩ | ⟨hwt, hv, hs, hp⟩
    · rw [hw] at hwt
      rw [if_pos hwt]
      left
      have hdo' : doOp P known call (lookIn (looksAt ops o) (A j).look) (SA P ops S (fun k => listed.getD k false) ops.size) o =
          some (.val v (SA P ops S (fun k => (listed.setIfInBounds j true).getD k false) ops.size)) := by
        rw [hSset]
        cases hl : isLoud P o with
        | true =>
          rw [if_pos ⟨hjlt, rfl⟩, R.SA_after D hl _ (Nat.le_of_lt hjlt) (Nat.le_refl _)]
          exact hdo
        | false =>
          rw [if_neg (fun h => by cases h.2)]
          rcases (notLoud_val hl hdo).2 with ⟨f, hf, hfv⟩ | ⟨f, hf, hfv⟩
          · exact quiet_val hf hfv
          · exact reads_val hf (R.reads D hf hv hfv _ (Nat.le_of_lt hjlt) (Nat.le_refl _))
      refine doOp_sound hc I.heap hρ hdo' ?_
      intro π' w' u hle hH' hu
      exact hnext π' w' v u (.inl hv) hle hu hH'
    · rw [hw] at hwt
      rw [if_neg (by rw [hwt]; simp)]
      refine hnext π w (.tuple []) undef (.inr ⟨hv, rfl⟩) (Pi.le_refl π) (by simp only [VR]; exact ⟨[], rfl, VRL.nil⟩) ?_
      rw [hSset]
      cases hl : isLoud P o with
      | true =>
        rw [if_pos ⟨hjlt, rfl⟩, hs, ← R.SA_after D hl _ (Nat.le_of_lt hjlt) (Nat.le_refl _)]
        exact I.heap
      | false =>
        rw [if_neg (fun h => by cases h.2)]
        exact I.heap

theorem drawRegion_sound (hm : P.follows .mixedOrders = true) {call : Rec} (hc : CallOK P known base w0 call) {ops : Array Oper} {id : Nat} {π0 π : Pi} {σ : AS} {w : World} {α : AA} {a : Act} {x : AX} {α' : AA} {σ' : AS}
    (h0 : π0.le π) (hH : HR known base w0 π σ w) (hA : ActR π α a) (h : drawRegion P known call ops α σ = some (x, α', σ')) : (Code.region id ops true).wp P (ExitR known base w0 π0 x α' σ') a w := by
  unfold drawRegion at h
  split at h
  · rename_i hreg
    cases hrun : runDraw P known call ops ops.toList 0 α σ [] with
    | none => rw [hrun] at h; cases h
    | some r =>
      obtain ⟨α1, σ1, ds⟩ := r
      rw [hrun] at h
      dsimp only at h
      split at h
      · rename_i hwin
        simp only [Option.some.injEq, Prod.mk.injEq] at h
        obtain ⟨rfl, rfl, rfl⟩ := h
        obtain ⟨A, S, V, a1, a2, a3, a4, a5, a6, a7⟩ := runDraw_spec ops.toList 0 α σ [] _ _ ds hrun
        simp only [Nat.zero_add, Array.length_toList] at a3 a4 a5 a7
        unfold regionOk at hreg
        simp only [Bool.and_eq_true] at hreg
        have D : Draw P known call ops (masks ops) A S V := by
          refine ⟨fun k o hk => a5 k o (by rw [Array.getElem?_toList]; exact hk), fun i j y o hij hi hj => ?_, masks_closed ops, fun j o hj e he => ?_, fun j o f v hj hf hv g y hg hl => ?_⟩
          · exact regionOkL_spec hreg.2 j o (by rw [Array.getElem?_toList]; exact hj) i y (by omega) (by rw [Array.getElem?_toList]; exact hi)
          · have := edgesOk_spec hreg.1 j o (by rw [Array.getElem?_toList]; exact hj) e he
            omega
          · have hjlt : j < ops.size := (Array.getElem?_eq_some_iff.1 hj).1
            have hglt : g < ops.size := (Array.getElem?_eq_some_iff.1 hg).1
            have hw := windowsOk_spec hwin _ (a7 j hjlt) o f hj hf _ (a7 g hglt) y hg hl
            unfold windowOk at hw
            dsimp only at hw
            constructor
            · intro hlt
              have : Nat.blt j g = true := by simp [Nat.blt]; omega
              rw [this] at hw
              simp only [Bool.or_eq_true] at hw
              exact hw.imp (fun h => h) (fun h => stays_spec (d := ⟨j, A j, S j, S (j + 1), V j⟩) hf hv h)
            · intro hlt
              have : Nat.blt j g = false := by
                cases hb : Nat.blt j g with
                | false => rfl
                | true => simp [Nat.blt] at hb; omega
              rw [this] at hw
              simp only [Bool.or_eq_true] at hw
              exact hw.imp (fun h => h) (fun h => stays_spec (d := ⟨j, A j, S j, S (j + 1), V j⟩) hf hv h)
        have hd0 : ∀ k, (fun k => (Array.replicate ops.size false).getD k false) k = false := by
          intro k
          by_cases hk : k < ops.size
          · simp [hk]
          · simp [hk]
        have hVA : ∀ t n, VA ops (A 0) V (fun k => (Array.replicate ops.size false).getD k false) t n = (A 0).look t := by
          intro t n
          induction n with
          | zero => rfl
          | succ n ih => simp only [VA]; rw [if_neg (fun h => by have h2 := hd0 n; dsimp only at h2; rw [h2] at h; cases h.1), ih]
        have hSA : ∀ n, SA P ops S (fun k => (Array.replicate ops.size false).getD k false) n = S 0 := by
          intro n
          induction n with
          | zero => rfl
          | succ n ih => simp only [SA]; rw [if_neg (fun h => by have h2 := hd0 n; dsimp only at h2; rw [h2] at h; cases h.1), ih]
        apply wp_region_any hm
        rw [← a3, ← a4]
        refine draw_wp hc D ops.size _ _ _ π (left_all _ _ (Nat.le_refl _)) ⟨by simp, fun k o hk hin e he => ?_, h0, ?_, by rw [a1]; exact hA.size, by rw [a1]; exact hA.defers, fun t => ?_⟩
        · rw [hd0 k] at hin; cases hin
        · rw [hSA, a2]; exact hH.drew
        · rw [hVA, a1]; exact hA.look t
      · cases h
  · cases h
end Go.Proofs.YtjagjjdkgidkjaaGreatDoor.Ev
