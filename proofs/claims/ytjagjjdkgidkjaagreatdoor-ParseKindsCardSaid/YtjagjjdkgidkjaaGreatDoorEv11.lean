/- Part Ev11 of a verified evaluator of closed calls: of no program; no condition. -/
import Derived.Test.YtjagjjdkgidkjaaGreatDoorEv10
import Derived.Great.BuildSlice
import Derived.Laws.MakeOwn
import Derived.Laws.RangeString
import Derived.Lib.UnsafeStr
import Derived.Laws.Append
import Derived.Laws.StructEq
set_option linter.all false
namespace Go.Proofs.YtjagjjdkgidkjaaGreatDoor.Ev
open Go Go.RowKit

variable {P : Program} {known : Nat → Bool} {base : Nat} {w0 : World} {π : Pi} {σ : AS} {w : World} {ρ : Rho}

/-! ### reading -/
theorem load_gives (hH : HR known base w0 π σ w) {t : TypeId} {b o : Nat} {r : AV} {v : Value} (h : loadA P σ t b o = some r) (hx : VR π (.ptr b o) v) : Gives P π w (Instr.loadAt t v) r := by
  simp only [VR] at hx
  obtain ⟨rb, δ, rs, hp, rfl⟩ := hx
  unfold loadA at h
  split at h
  · rename_i c size e frz own wh hb ha
    split at h
    · rename_i n hn
      split at h
      · rename_i hle
        have hle' : o + n ≤ size := by simpa using hle
        split at h
        · rename_i xs hxs
          simp only [Option.some.injEq] at h
          subst h
          obtain ⟨rb', δ', rs', vs, h1, h2, h3, h4, _⟩ := hH.cells hb hxs hle'
          rw [hp] at h1
          simp only [Option.some.injEq, Prod.mk.injEq] at h1
          obtain ⟨rfl, rfl, rfl⟩ := h1
          obtain ⟨d, hu, hd⟩ := isAggT_row ha
          exact ⟨.agg vs.toArray, run_loadAt_mid w rb (δ + o) t vs d h4 hu hd (by rw [sizeOfT_info hn, h3]), by simp only [VR]; exact ⟨vs, rfl, h2⟩⟩
        · cases h
      · cases h
    · cases h
  · rename_i c size e frz own wh hb ha
    split at h
    · rename_i hlt
      have hlt' : o < size := by simp [Nat.blt] at hlt; omega
      obtain ⟨rb', δ', rs', h1, _, h5⟩ := hH.cell hb
      rw [hp] at h1
      simp only [Option.some.injEq, Prod.mk.injEq] at h1
      obtain ⟨rfl, rfl, rfl⟩ := h1
      obtain ⟨x, v, a1, a2, a3⟩ := h5 o hlt'
      rw [a1] at h
      simp only [Option.some.injEq] at h
      subst h
      exact ⟨v, by simp [Instr.loadAt, Instr.sureAddr, loadVar, isAggT_run ha, a2], a3⟩
    · cases h
  · cases h

theorem kinds_of_key {kt : TypeId} {k : AV} {vk : Value} (h : keyOk P kt k = true) (hk : VR π k vk) :
    (P.underlying kt = some .string ∧ ∃ s, vk = .string s ∧ k = .str (bytesOf s)) ∨ (∃ j n, P.underlying kt = some (.int j) ∧ vk = .int j n ∧ k = .int j n) := by
  unfold keyOk at h
  split at h
  · rename_i hu
    simp only [VR] at hk
    obtain ⟨s, rfl, rfl⟩ := hk
    exact .inl ⟨hu, s, rfl, rfl⟩
  · rename_i j j' n hu
    obtain rfl := kindEq_true h
    obtain rfl := hk.int
    exact .inr ⟨j, n, hu, rfl, rfl⟩
  · cases h
theorem keyIs_rel {d : TypeDesc} {k e : AV} {vk ve : Value} {b : Bool} (hd : (d = .string ∧ ∃ s, vk = .string s ∧ k = .str (bytesOf s)) ∨ (∃ j n, d = .int j ∧ vk = .int j n ∧ k = .int j n))
    (h : keyIs k e = some b) (he : VR π e ve) : Instr.sameNow d vk ve = some b := by
  rcases hd with ⟨rfl, s, rfl, rfl⟩ | ⟨j, m, rfl, rfl, rfl⟩
  · unfold keyIs at h
    dsimp only at h
    split at h
    · simp only [Option.some.injEq] at h
      subst h
      simp only [VR] at he
      obtain ⟨u, rfl, rfl⟩ := he
      rw [eqL_eq, bytesOf_inj]
      simp only [Instr.sameNow, Option.some.injEq]
      exact beq_toListBytes s u
    · cases h
  · unfold keyIs at h
    dsimp only at h
    split at h
    · obtain ⟨h1, h2⟩ := gB_some h
      obtain rfl := kindEq_true h1
      simp only [Option.some.injEq] at h2
      obtain rfl := he.int
      rw [← h2, eqF_eq]
      simp [Instr.sameNow]
    · cases h
def FR (π : Pi) (r : Option (Nat × AV)) (q : Option (Nat × Value)) : Prop :=
  match r with
  | none => q = none
  | some (i, v) => ∃ u, q = some (i, u) ∧ VR π v u
theorem findNow_rel {d : TypeDesc} {k : AV} {vk : Value} (hd : (d = .string ∧ ∃ s, vk = .string s ∧ k = .str (bytesOf s)) ∨ (∃ j n, d = .int j ∧ vk = .int j n ∧ k = .int j n)) :
    ∀ {l : List (AV × AV × Nat)} {es : List MapEntry} {i : Nat} {r : Option (Nat × AV)}, findA k l i = some r → EL π l es → ∃ q, Instr.findNow d vk es i = some q ∧ FR π r q
  | [], es, i, r, h, he => by
    simp only [findA, Option.some.injEq] at h
    simp only [EL] at he
    subst h; subst he
    exact ⟨none, rfl, rfl⟩
  | (e, v, n) :: l, es, i, r, h, he => by
    simp only [EL] at he
    obtain ⟨x, t, rfl, hk, hv, hn, ht⟩ := he
    simp only [findA] at h
    obtain ⟨b, hb, h2⟩ := oB_some h
    have hs := keyIs_rel hd hb hk
    rw [bM_eq] at h2
    split at h2
    · rename_i hbt
      subst hbt
      simp only [Option.some.injEq] at h2
      subst h2
      exact ⟨some (i, x.val), by simp [Instr.findNow, hs], x.val, rfl, hv⟩
    · rename_i hbt
      have hbf : b = false := by simpa using hbt
      subst hbf
      obtain ⟨q, h3, h4⟩ := findNow_rel hd h2 ht
      exact ⟨q, by simp only [Instr.findNow, hs]; exact h3, h4⟩
theorem find_run {kt : TypeId} {k : AV} {vk : Value} (hko : keyOk P kt k = true) (hk : VR π k vk) {l : List (AV × AV × Nat)} {es : List MapEntry} {r : Option (Nat × AV)} (h : findA k l 0 = some r) (he : EL π l es) :
    (∀ em w, (Instr.checkKey em 10000 kt vk).run P w = .ok () w) ∧ ∃ q, (∀ w, (Instr.findKey kt vk es).run P w = .ok q w) ∧ FR π r q := by
  rcases kinds_of_key hko hk with ⟨hu, s, rfl, rfl⟩ | ⟨j, m, hu, rfl, rfl⟩
  · obtain ⟨q, h1, h2⟩ := findNow_rel (d := .string) (.inl ⟨rfl, s, rfl, rfl⟩) h he
    refine ⟨fun em w => ?_, q, fun w => ?_, h2⟩
    · rw [show (10000 : Nat) = 9999 + 1 from rfl]
      generalize 9999 = N
      simp [Instr.checkKey, run_underlying hu]
    · simp [Instr.findKey, run_underlying hu, h1]
  · obtain ⟨q, h1, h2⟩ := findNow_rel (d := .int j) (.inr ⟨j, m, rfl, rfl, rfl⟩) h he
    refine ⟨fun em w => ?_, q, fun w => ?_, h2⟩
    · rw [show (10000 : Nat) = 9999 + 1 from rfl]
      generalize 9999 = N
      simp [Instr.checkKey, run_underlying hu]
    · simp [Instr.findKey, run_underlying hu, h1]
theorem run_getObj_map {rb clock : Nat} {es : Array MapEntry} (h : w.heap[rb]? = some (.map es clock)) : (getObj rb).run P w = .ok (.map es clock) w := by
  simp [getObj, Sem.run, h]
theorem entries_gives (hH : HR known base w0 π σ w) {m : AV} {l : List (AV × AV × Nat)} {vm : Value} (h : entriesA σ m = some l) (hm : VR π m vm) :
    (vm = .map none ∧ l = []) ∨ ∃ rb clock es, vm = .map (some rb) ∧ w.heap[rb]? = some (.map es clock) ∧ EL π l es.toList := by
  unfold entriesA at h
  split at h
  · simp only [VR] at hm
    simp only [Option.some.injEq] at h
    exact .inl ⟨hm, h.symm⟩
  · rename_i r
    split at h
    · rename_i es clock hb
      simp only [Option.some.injEq] at h
      subst h
      simp only [VR] at hm
      obtain ⟨rb, δ, rs, hp, rfl⟩ := hm
      obtain ⟨rb', δ', rs', es', h1, h2, h3⟩ := hH.blk r _ hb
      rw [hp] at h1
      simp only [Option.some.injEq, Prod.mk.injEq] at h1
      obtain ⟨rfl, rfl, rfl⟩ := h1
      exact .inr ⟨_, _, _, rfl, h2, h3⟩
    · cases h
  · cases h
theorem lookup_gives (hH : HR known base w0 π σ w) {t : TypeId} {m k r : AV} {ok : Bool} {vm vk : Value} (h : lookupA P σ t m k ok = some r) (hm : VR π m vm) (hk : VR π k vk) : Gives P π w (Instr.lookup t vm vk ok) r := by
  unfold lookupA at h
  split at h
  · rename_i kt et hu
    obtain ⟨hko, h1⟩ := gB_some h
    obtain ⟨l, hl, h2⟩ := oB_some h1
    obtain ⟨p, hf, h3⟩ := oB_some h2
    have main : ∀ (es : Array MapEntry), EL π l es.toList → ((vm = .map none ∧ es = #[]) ∨ ∃ rb clock, vm = .map (some rb) ∧ w.heap[rb]? = some (.map es clock)) → Gives P π w (Instr.lookup t vm vk ok) r := by
      intro es he hv
      obtain ⟨c1, q, c2, c3⟩ := find_run hko hk hf he
      have hck : ∀ em, (Instr.checkKey em 10000 kt vk).run P w = .ok () w := fun em => c1 em w
      have hfk := c2 w
      cases p with
      | none =>
        have c3' : q = none := c3
        subst c3'
        rw [oM_none] at h3
        obtain ⟨z, hz, h4⟩ := oB_some h3
        obtain ⟨zv, z1, z2⟩ := zeroOfT_run (π := π) hz w
        simp only [Option.some.injEq] at h4
        refine ⟨if ok then .tuple #[zv, .bool false] else zv, ?_, ?_⟩
        · rcases hv with ⟨rfl, rfl⟩ | ⟨rb, clock, rfl, hb⟩
          · simp only [Instr.lookup, Sem.run_bind, run_underlying hu, Result.andThen_ok, Sem.run_pure, hck, hfk, z1]
          · simp only [Instr.lookup, Sem.run_bind, run_underlying hu, Result.andThen_ok, Sem.run_pure, run_getObj_map hb, hck, hfk, z1]
        · subst h4
          cases ok with
          | true => simp only [bM_eq, if_true, VR]; exact ⟨_, rfl, VRL.cons z2 (VRL.cons (by simp [VR]) VRL.nil)⟩
          | false => exact z2
      | some p =>
        obtain ⟨i, v⟩ := p
        obtain ⟨u, hq, hvu⟩ := c3
        subst hq
        rw [oM_some] at h3
        simp only [Option.some.injEq] at h3
        refine ⟨if ok then .tuple #[u, .bool true] else u, ?_, ?_⟩
        · rcases hv with ⟨rfl, rfl⟩ | ⟨rb, clock, rfl, hb⟩
          · simp only [Instr.lookup, Sem.run_bind, run_underlying hu, Result.andThen_ok, Sem.run_pure, hck, hfk]
          · simp only [Instr.lookup, Sem.run_bind, run_underlying hu, Result.andThen_ok, Sem.run_pure, run_getObj_map hb, hck, hfk]
        · subst h3
          cases ok with
          | true => simp only [bM_eq, if_true, VR]; exact ⟨_, rfl, VRL.cons hvu (VRL.cons (by simp [VR]) VRL.nil)⟩
          | false => exact hvu
    rcases entries_gives hH hl hm with ⟨h5, h6⟩ | ⟨rb, clock, es, h5, h6, h7⟩
    · subst h6
      exact main #[] (by simp [EL]) (.inl ⟨h5, rfl⟩)
    · exact main es h7 (.inr ⟨rb, clock, h5, h6⟩)
  · cases h

theorem reads_sound (hH : HR known base w0 π σ w) {e : Operand → Value} {o : Oper} {f : Program → Rho → AS → Option AV} {x : AV} (hh : headOf o.op P = .reads f) (hf : f P ρ σ = some x) (hρ : RhoR π ρ e) : Quiet P π w e o x := by
  obtain ⟨dst, op, type, pos, after, guard⟩ := o
  dsimp only at hh
  cases op <;> try (cases hh; done)
  case load t a =>
    cases hh
    unfold rLoad at hf
    split at hf
    · rename_i b o hab
      exact (load_gives hH hf (hρ _ _ hab)).quiet rfl
    · cases hf
  case convert s d y =>
    change hdConv s d y P = _ at hh
    unfold hdConv at hh
    split at hh <;> cases hh
  case slice t y lo hi mx =>
    change hdSlice t y lo hi mx P = _ at hh
    unfold hdSlice at hh
    split at hh
    · cases hh
    · cases hh
    · cases hh
      unfold rSliceArr at hf
      cases mx with
      | some m => cases hf
      | none =>
        rw [oM_none] at hf
        obtain ⟨xa, ha, h1⟩ := oB_some hf
        obtain ⟨xl, hl, h2⟩ := oB_some h1
        obtain ⟨xh, hh, h3⟩ := oB_some h2
        split at h3
        · rename_i b o n e' hu
          obtain ⟨size, hs, h4⟩ := oB_some h3
          exact (sliceArr_gives (t := t) (arr := 0) hH h4 (hρ _ _ ha) (optA_rel hρ hl) (optA_rel hρ hh) hs (.inl hu)).quiet rfl
        · rename_i b o arr hu
          split at h3
          · rename_i n e' hu2
            obtain ⟨size, hs, h4⟩ := oB_some h3
            exact (sliceArr_gives (t := t) hH h4 (hρ _ _ ha) (optA_rel hρ hl) (optA_rel hρ hh) hs (.inr ⟨hu, hu2⟩)).quiet rfl
          · cases h3
        · cases h3
  case lookup t m k ok =>
    cases hh
    unfold rLookup at hf
    split at hf
    · rename_i xm xk hm hk
      exact (lookup_gives hH hf (hρ _ _ hm) (hρ _ _ hk)).quiet rfl
    · cases hf
  case call c =>
    change hdCall c P = _ at hh
    unfold hdCall at hh
    split at hh <;> (try (cases hh; done))
    rename_i hc
    cases hlm : lenOfMap P c with
    | false => rw [hlm] at hh; cases hh
    | true =>
    rw [hlm] at hh
    cases hh
    obtain ⟨callee, args, ts⟩ := c
    dsimp only at hc hf
    subst hc
    unfold rLenMap at hf
    split at hf
    · rename_i t tr m ht ha
      split at hf
      · rename_i kt et es clock hu hb
        rw [fNat_eq] at hf
        simp only [Option.some.injEq] at hf
        subst hf
        have hl := argsA_rel hρ ha
        simp only [VRL, VR] at hl
        obtain ⟨v, r, hv, ⟨rm, δ, rs, hp, rfl⟩, rfl⟩ := hl
        obtain ⟨rb', δ', rs', es', h1, h2, h3⟩ := hH.blk m _ hb
        rw [hp] at h1
        simp only [Option.some.injEq, Prod.mk.injEq] at h1
        obtain ⟨rfl, rfl, rfl⟩ := h1
        have hargs : args.map e = #[.map (some rm)] := by apply Array.ext'; simp [hv]
        have h2' : ts = (t :: tr).toArray := by apply Array.ext'; simpa using ht
        subst h2'
        have hget : (getObj rm).run P w = .ok (.map es' clock) w := by simp [getObj, Sem.run, h2]
        refine ⟨.int .i64 es'.size, ?_, ?_⟩
        · simp only [execOp, resolve, invoke, builtin, Sem.run_bind, Sem.run_pure, Result.andThen_ok, hargs]
          simp [Builtin.len_, run_underlying hu, hget, goInt]
        · have := EL.length h3
          simp only [VR]
          rw [← this]; simp
      · cases hf
    · rename_i t tr ht ha
      split at hf
      · rename_i kt et hu
        simp only [Option.some.injEq] at hf
        subst hf
        have hl := argsA_rel hρ ha
        simp only [VRL, VR] at hl
        obtain ⟨v, r, hv, rfl, rfl⟩ := hl
        have hargs : args.map e = #[.map none] := by apply Array.ext'; simp [hv]
        have h2' : ts = (t :: tr).toArray := by apply Array.ext'; simpa using ht
        subst h2'
        refine ⟨.int .i64 0, ?_, ?_⟩
        · simp only [execOp, resolve, invoke, builtin, Sem.run_bind, Sem.run_pure, Result.andThen_ok, hargs]
          simp [Builtin.len_, run_underlying hu, goInt]
        · simp only [VR]
      · cases hf
    · cases hf
  case defer c =>
    change hdDefer c P = _ at hh
    unfold hdDefer at hh
    split at hh <;> cases hh
end Go.Proofs.YtjagjjdkgidkjaaGreatDoor.Ev
