/- Part Ev18 of a verified evaluator of closed calls: of no program; no condition. -/
import Derived.Test.YtjagjjdkgidkjaaGreatDoorEv17
import Derived.KernelRfl
set_option linter.all false
namespace Go.Proofs.YtjagjjdkgidkjaaGreatDoor.Ev
open Go Go.RowKit

variable {P : Program} {known : Nat → Bool} {base : Nat} {w0 : World} {π : Pi} {σ : AS} {w : World} {ρ : Rho}

theorem noEscape_g : Extern.allGenericRows.lookup "internal/abi.NoEscape" = none := by kernel_rfl
theorem noEscape_t : Extern.allTypedRows.lookup "internal/abi.NoEscape" = none := by kernel_rfl
theorem noEscape_r : Extern.allRows.lookup "internal/abi.NoEscape" = some Extern.AbiNoEscape.same := by kernel_rfl
theorem noEscape_find {fn : Func} (h : fn.name = "internal/abi.NoEscape") : Extern.find fn = some Extern.AbiNoEscape.same := by
  simp [Extern.find, h, noEscape_g, noEscape_t, noEscape_r]

/-- A name without a generic or a typed row, and its row. -/
def Row1 (n : String) (e : Array Value → Sem Value) : Prop := Extern.allGenericRows.lookup n = none ∧ Extern.allTypedRows.lookup n = none ∧ Extern.allRows.lookup n = some e
theorem Row1.find {n : String} {e : Array Value → Sem Value} (h : Row1 n e) {fn : Func} (hn : fn.name = n) : Extern.find fn = some e := by
  obtain ⟨h1, h2, h3⟩ := h
  subst hn
  simp [Extern.find, h1, h2, h3]
theorem row_LoadUint32 : Row1 "sync/atomic.LoadUint32" (Extern.Atomic.loadT (.int .u32)) := ⟨by kernel_rfl, by kernel_rfl, by kernel_rfl⟩
theorem row_StoreUint32 : Row1 "sync/atomic.StoreUint32" (Extern.Atomic.storeT) := ⟨by kernel_rfl, by kernel_rfl, by kernel_rfl⟩
theorem row_CompareAndSwapInt32 : Row1 "sync/atomic.CompareAndSwapInt32" (Extern.Atomic.casT (.int .i32)) := ⟨by kernel_rfl, by kernel_rfl, by kernel_rfl⟩
theorem row_AddInt32 : Row1 "sync/atomic.AddInt32" (Extern.Atomic.update (Op.intArith .add) .i32 true) := ⟨by kernel_rfl, by kernel_rfl, by kernel_rfl⟩
theorem row_LoadInt64 : Row1 "sync/atomic.LoadInt64" (Extern.Atomic.loadT (.int .i64)) := ⟨by kernel_rfl, by kernel_rfl, by kernel_rfl⟩
theorem row_StoreInt64 : Row1 "sync/atomic.StoreInt64" (Extern.Atomic.storeT) := ⟨by kernel_rfl, by kernel_rfl, by kernel_rfl⟩
theorem row_AddInt64 : Row1 "sync/atomic.AddInt64" (Extern.Atomic.update (Op.intArith .add) .i64 true) := ⟨by kernel_rfl, by kernel_rfl, by kernel_rfl⟩
theorem row_LoadInt32 : Row1 "sync/atomic.LoadInt32" (Extern.Atomic.loadT (.int .i32)) := ⟨by kernel_rfl, by kernel_rfl, by kernel_rfl⟩
theorem row_StoreInt32 : Row1 "sync/atomic.StoreInt32" (Extern.Atomic.storeT) := ⟨by kernel_rfl, by kernel_rfl, by kernel_rfl⟩
theorem row_Acquire : Row1 "internal/race.Acquire" (Extern.Race.marked .acquire) := ⟨by kernel_rfl, by kernel_rfl, by kernel_rfl⟩
theorem row_Release : Row1 "internal/race.Release" (Extern.Race.marked .release) := ⟨by kernel_rfl, by kernel_rfl, by kernel_rfl⟩
theorem row_ReleaseMerge : Row1 "internal/race.ReleaseMerge" (Extern.Race.marked .releaseMerge) := ⟨by kernel_rfl, by kernel_rfl, by kernel_rfl⟩
theorem row_Disable : Row1 "internal/race.Disable" (fun _ => do mark .disable; pure Extern.Race.none_) := ⟨by kernel_rfl, by kernel_rfl, by kernel_rfl⟩
theorem row_Enable : Row1 "internal/race.Enable" (fun _ => do mark .enable; pure Extern.Race.none_) := ⟨by kernel_rfl, by kernel_rfl, by kernel_rfl⟩
/-- What a word of atomics is in the model. -/
def AtomSem : Atom → (Array Value → Sem Value) → Prop
  | .load k, e => e = Extern.Atomic.loadT (.int k)
  | .store, e => e = Extern.Atomic.storeT
  | .cas k, e => e = Extern.Atomic.casT (.int k)
  | .add k, e => e = Extern.Atomic.update (Op.intArith .add) k true
  | .nop0, e => ∃ m, e = fun _ => do mark m; pure Extern.Race.none_
  | .nop1, e => ∃ m, e = Extern.Race.marked m
theorem atomOf_row {n : String} {a : Atom} (h : atomOf n atomNames = some a) : ∃ e, Row1 n e ∧ AtomSem a e := by
  simp only [atomNames, atomOf] at h
  split at h
  · rename_i hn
    have hn' : n = "sync/atomic.LoadUint32" := by simpa using hn
    simp only [Option.some.injEq] at h
    subst h; subst hn'
    exact ⟨_, row_LoadUint32, rfl⟩
  split at h
  · rename_i hn
    have hn' : n = "sync/atomic.StoreUint32" := by simpa using hn
    simp only [Option.some.injEq] at h
    subst h; subst hn'
    exact ⟨_, row_StoreUint32, rfl⟩
  split at h
  · rename_i hn
    have hn' : n = "sync/atomic.CompareAndSwapInt32" := by simpa using hn
    simp only [Option.some.injEq] at h
    subst h; subst hn'
    exact ⟨_, row_CompareAndSwapInt32, rfl⟩
  split at h
  · rename_i hn
    have hn' : n = "sync/atomic.AddInt32" := by simpa using hn
    simp only [Option.some.injEq] at h
    subst h; subst hn'
    exact ⟨_, row_AddInt32, rfl⟩
  split at h
  · rename_i hn
    have hn' : n = "sync/atomic.LoadInt64" := by simpa using hn
    simp only [Option.some.injEq] at h
    subst h; subst hn'
    exact ⟨_, row_LoadInt64, rfl⟩
  split at h
  · rename_i hn
    have hn' : n = "sync/atomic.StoreInt64" := by simpa using hn
    simp only [Option.some.injEq] at h
    subst h; subst hn'
    exact ⟨_, row_StoreInt64, rfl⟩
  split at h
  · rename_i hn
    have hn' : n = "sync/atomic.AddInt64" := by simpa using hn
    simp only [Option.some.injEq] at h
    subst h; subst hn'
    exact ⟨_, row_AddInt64, rfl⟩
  split at h
  · rename_i hn
    have hn' : n = "sync/atomic.LoadInt32" := by simpa using hn
    simp only [Option.some.injEq] at h
    subst h; subst hn'
    exact ⟨_, row_LoadInt32, rfl⟩
  split at h
  · rename_i hn
    have hn' : n = "sync/atomic.StoreInt32" := by simpa using hn
    simp only [Option.some.injEq] at h
    subst h; subst hn'
    exact ⟨_, row_StoreInt32, rfl⟩
  split at h
  · rename_i hn
    have hn' : n = "internal/race.Acquire" := by simpa using hn
    simp only [Option.some.injEq] at h
    subst h; subst hn'
    exact ⟨_, row_Acquire, ⟨_, rfl⟩⟩
  split at h
  · rename_i hn
    have hn' : n = "internal/race.Release" := by simpa using hn
    simp only [Option.some.injEq] at h
    subst h; subst hn'
    exact ⟨_, row_Release, ⟨_, rfl⟩⟩
  split at h
  · rename_i hn
    have hn' : n = "internal/race.ReleaseMerge" := by simpa using hn
    simp only [Option.some.injEq] at h
    subst h; subst hn'
    exact ⟨_, row_ReleaseMerge, ⟨_, rfl⟩⟩
  split at h
  · rename_i hn
    have hn' : n = "internal/race.Disable" := by simpa using hn
    simp only [Option.some.injEq] at h
    subst h; subst hn'
    exact ⟨_, row_Disable, ⟨_, rfl⟩⟩
  split at h
  · rename_i hn
    have hn' : n = "internal/race.Enable" := by simpa using hn
    simp only [Option.some.injEq] at h
    subst h; subst hn'
    exact ⟨_, row_Enable, ⟨_, rfl⟩⟩
  cases h
theorem cellI_cell (hH : HR known base w0 π σ w) {k : IntKind} {b o : Nat} {n : Int} (h : cellI σ k b o = some n) : ∃ rb δ rs, π b = some (rb, δ, rs) ∧ w.cell? ⟨rb, δ + o, none⟩ = some (.int k n) := by
  unfold cellI at h
  split at h
  · rename_i c size e frz own wh hb
    split at h
    · rename_i k' m hlt hc
      split at h
      · rename_i hk
        simp only [Option.some.injEq] at h
        subst h
        have hk' : k = k' := by simpa [kindEq] using hk
        subst hk'
        have hlt' : o < size := by simp [Nat.blt] at hlt; omega
        obtain ⟨rb, δ, rs, h1, h4, h5⟩ := hH.cell hb
        obtain ⟨x, v, a1, a2, a3⟩ := h5 o hlt'
        rw [hc] at a1
        simp only [Option.some.injEq] at a1
        subst a1
        simp only [VR] at a3
        subst a3
        exact ⟨rb, δ, rs, h1, a2⟩
      · cases h
    · cases h
  · cases h
theorem there_one {rb off : Nat} {v : Value} (h : w.there rb off 1) (hv : v.oneCell' = true) :
    (store ⟨rb, off, none⟩ v .atomic).run P w = .ok () (w.setCell ⟨rb, off, none⟩ v) ∧ w.frozen? ⟨rb, off, none⟩ = false := by
  have h0 := h 0 (by omega)
  simp only [Nat.add_zero] at h0
  obtain ⟨c, hc⟩ := Option.isSome_iff_exists.1 h0.1
  refine ⟨?_, h0.2⟩
  cases v <;> first
    | (simp [Value.oneCell'] at hv; done)
    | simp [store, Sem.run, hc, h0.2]
theorem asAddr_run {rb off : Nat} : (asAddr (.pointer (some ⟨rb, off, none⟩))).run P w = .ok ⟨rb, off, none⟩ w := rfl
theorem loadI_run {rb off : Nat} {k : IntKind} {n : Int} (h : w.cell? ⟨rb, off, none⟩ = some (.int k n)) : (Extern.Atomic.read (.int k) ⟨rb, off, none⟩).run P w = .ok (.int k n) w := by
  simp [Extern.Atomic.read, load, Sem.run, h]
theorem untouched {rb off : Nat} {v : Value} (hc : w.cell? ⟨rb, off, none⟩ = some v) (hf : w.frozen? ⟨rb, off, none⟩ = false) : (Extern.Atomic.touchesFrozen ⟨rb, off, none⟩).run P w = .ok false w := by
  have hs : (w.shape? rb).isSome = true := by
    simp only [World.cell?] at hc
    simp only [World.shape?]
    split at hc <;> simp_all
  simp [Extern.Atomic.touchesFrozen, viewAt, shape, frozen, Sem.run, hs, hf]
theorem write_one (hH : HR known base w0 π σ w) {b o : Nat} {x : AV} {v : Value} {σ' : AS} (h : writeL σ b o [x] = some σ') (hx : VR π x v) :
    ∃ rb δ rs, π b = some (rb, δ, rs) ∧ (store ⟨rb, δ + o, none⟩ v .atomic).run P w = .ok () (w.setCell ⟨rb, δ + o, none⟩ v) ∧ w.frozen? ⟨rb, δ + o, none⟩ = false ∧ HR known base w0 π σ' (w.setCell ⟨rb, δ + o, none⟩ v) := by
  obtain ⟨rb, δ, rs, h1, h2, h3, h4⟩ := hH.write h (VRL.cons hx VRL.nil)
  obtain ⟨s1, s2⟩ := there_one (P := P) h2 (h3 v (by simp))
  exact ⟨rb, δ, rs, h1, s1, s2, by simpa [World.setCells] using h4⟩
theorem asIntOf_run (k : IntKind) (n : Int) : (asIntOf (.int k n)).run P w = .ok (k, n) w := rfl
theorem atomA_sound (hH : HR known base w0 π σ w) {a : Atom} {e : Array Value → Sem Value} {xs : List AV} {vs : Array Value} {r : AR} {s : Sem Next} (he : AtomSem a e) (hx : VRL π xs vs.toList)
    (hse : ∀ v w', (e vs).run P w = .ok v w' → s.run P w = .ok (.value v) w') (h : atomA a σ xs = some r) : LoudR P known base w0 π σ w s r := by
  unfold atomA at h
  split at h
  · rename_i k
    simp only [AtomSem] at he
    subst he
    split at h
    · rename_i b o
      split at h
      · rename_i n hc
        simp only [Option.some.injEq] at h
        subst h
        simp only [VRL, VR] at hx
        obtain ⟨_, _, hvs, ⟨rb, δ, rs, hp, rfl⟩, rfl⟩ := hx
        obtain rfl : vs = #[.pointer (some ⟨rb, δ + o, none⟩)] := by apply Array.ext'; simp [hvs]
        obtain ⟨rb', δ', rs', h1, h2⟩ := cellI_cell hH hc
        rw [hp] at h1
        simp only [Option.some.injEq, Prod.mk.injEq] at h1
        obtain ⟨rfl, rfl, rfl⟩ := h1
        refine ⟨π, w, .value (.int k n), hse _ _ ?_, .inl ⟨_, rfl, by simp only [VR]⟩, Pi.le_refl π, hH⟩
        rw [show Extern.Atomic.loadT (.int k) #[.pointer (some ⟨rb, δ + o, none⟩)] = (asAddr (.pointer (some ⟨rb, δ + o, none⟩)) >>= _) from rfl]
        simp [Array.getLit, asAddr_run, loadI_run h2]
      · cases h
    · cases h
  · simp only [AtomSem] at he
    subst he
    split at h
    · rename_i b o k n
      split at h
      · rename_i σ' hw
        simp only [Option.some.injEq] at h
        subst h
        simp only [VRL, VR] at hx
        obtain ⟨_, _, hvs, ⟨rb, δ, rs, hp, rfl⟩, _, _, rfl, rfl, rfl⟩ := hx
        obtain rfl : vs = #[.pointer (some ⟨rb, δ + o, none⟩), .int k n] := by apply Array.ext'; simp [hvs]
        obtain ⟨rb', δ', rs', h1, h2, h3, h4⟩ := write_one (P := P) hH hw (v := .int k n) (by simp only [VR])
        rw [hp] at h1
        simp only [Option.some.injEq, Prod.mk.injEq] at h1
        obtain ⟨rfl, rfl, rfl⟩ := h1
        refine ⟨π, _, .value (.tuple #[]), hse _ _ ?_, .inl ⟨_, rfl, by simp only [VR]; exact ⟨_, rfl, VRL.nil⟩⟩, Pi.le_refl π, h4⟩
        rw [show Extern.Atomic.storeT #[.pointer (some ⟨rb, δ + o, none⟩), .int k n] = (asAddr (.pointer (some ⟨rb, δ + o, none⟩)) >>= _) from rfl]
        simp [Array.getLit, asAddr_run, h2, Extern.Atomic.none_]
      · cases h
    · cases h
  · rename_i k
    simp only [AtomSem] at he
    subst he
    split at h
    · rename_i b o k1 x k2 y
      split at h
      · rename_i z hc
        split at h
        · rename_i σ' hw
          simp only [VRL, VR] at hx
          obtain ⟨_, _, hvs, ⟨rb, δ, rs, hp, rfl⟩, _, _, rfl, rfl, _, _, rfl, rfl, rfl⟩ := hx
          obtain rfl : vs = #[.pointer (some ⟨rb, δ + o, none⟩), .int k1 x, .int k2 y] := by apply Array.ext'; simp [hvs]
          obtain ⟨rb', δ', rs', h1, h2, h3, h4⟩ := write_one (P := P) hH hw (v := .int k2 y) (by simp only [VR])
          rw [hp] at h1
          simp only [Option.some.injEq, Prod.mk.injEq] at h1
          obtain ⟨rfl, rfl, rfl⟩ := h1
          obtain ⟨rb', δ', rs', c1, c2⟩ := cellI_cell hH hc
          rw [hp] at c1
          simp only [Option.some.injEq, Prod.mk.injEq] at c1
          obtain ⟨rfl, rfl, rfl⟩ := c1
          have hu := untouched (P := P) c2 h3
          split at h
          · rename_i heq
            simp only [Option.some.injEq] at h
            subst h
            have hzx : z = x := by rw [eqF_eq] at heq; simpa using heq
            subst hzx
            refine ⟨π, _, .value (.bool true), hse _ _ ?_, .inl ⟨_, rfl, by simp only [VR]⟩, Pi.le_refl π, h4⟩
            rw [show Extern.Atomic.casT (.int k) #[.pointer (some ⟨rb, δ + o, none⟩), .int k1 _, .int k2 y] = (asAddr (.pointer (some ⟨rb, δ + o, none⟩)) >>= _) from rfl]
            simp [Array.getLit, asAddr_run, hu, loadI_run c2, h2]
          · rename_i heq
            simp only [Option.some.injEq] at h
            subst h
            have hzx : z ≠ x := by rw [eqF_eq] at heq; simpa using heq
            refine ⟨π, w, .value (.bool false), hse _ _ ?_, .inl ⟨_, rfl, by simp only [VR]⟩, Pi.le_refl π, hH⟩
            rw [show Extern.Atomic.casT (.int k) #[.pointer (some ⟨rb, δ + o, none⟩), .int k1 _, .int k2 y] = (asAddr (.pointer (some ⟨rb, δ + o, none⟩)) >>= _) from rfl]
            simp [Array.getLit, asAddr_run, hu, loadI_run c2, hzx]
        · cases h
      · cases h
    · cases h
  · rename_i k
    simp only [AtomSem] at he
    subst he
    split at h
    · rename_i b o k1 y
      split at h
      · rename_i x hc
        rw [fInt_eq] at h
        split at h
        · rename_i σ' hw
          simp only [Option.some.injEq] at h
          subst h
          simp only [VRL, VR] at hx
          obtain ⟨_, _, hvs, ⟨rb, δ, rs, hp, rfl⟩, _, _, rfl, rfl, rfl⟩ := hx
          obtain rfl : vs = #[.pointer (some ⟨rb, δ + o, none⟩), .int k1 y] := by apply Array.ext'; simp [hvs]
          obtain ⟨rb', δ', rs', h1, h2, h3, h4⟩ := write_one (P := P) hH hw (v := .int k (wrapF k (x + y))) (by simp only [VR])
          rw [hp] at h1
          simp only [Option.some.injEq, Prod.mk.injEq] at h1
          obtain ⟨rfl, rfl, rfl⟩ := h1
          obtain ⟨rb', δ', rs', c1, c2⟩ := cellI_cell hH hc
          rw [hp] at c1
          simp only [Option.some.injEq, Prod.mk.injEq] at c1
          obtain ⟨rfl, rfl, rfl⟩ := c1
          refine ⟨π, _, .value (.int k (wrapF k (x + y))), hse _ _ ?_, .inl ⟨_, rfl, by simp only [VR]⟩, Pi.le_refl π, h4⟩
          rw [wrapF_eq] at h2 ⊢
          rw [show Extern.Atomic.update (Op.intArith .add) k true #[.pointer (some ⟨rb, δ + o, none⟩), .int k1 y] = (asAddr (.pointer (some ⟨rb, δ + o, none⟩)) >>= _) from rfl]
          simp [Array.getLit, asAddr_run, loadI_run c2, asInt, asIntOf_run, Op.intArith, h2]
        · cases h
      · cases h
    · cases h
  · obtain ⟨m, rfl⟩ := he
    simp only [Option.some.injEq] at h
    subst h
    exact ⟨π, w, .value (.tuple #[]), hse _ _ (by simp [mark, Sem.run, Extern.Race.none_]), .inl ⟨_, rfl, by simp only [VR]; exact ⟨_, rfl, VRL.nil⟩⟩, Pi.le_refl π, hH⟩
  · obtain ⟨m, rfl⟩ := he
    split at h
    · rename_i b o
      simp only [Option.some.injEq] at h
      subst h
      simp only [VRL, VR] at hx
      obtain ⟨_, _, hvs, ⟨rb, δ, rs, hp, rfl⟩, rfl⟩ := hx
      obtain rfl : vs = #[.pointer (some ⟨rb, δ + o, none⟩)] := by apply Array.ext'; simp [hvs]
      exact ⟨π, w, .value (.tuple #[]), hse _ _ (by simp [Extern.Race.marked, Extern.Race.at_, mark, Sem.run, Extern.Race.none_]), .inl ⟨_, rfl, by simp only [VR]; exact ⟨_, rfl, VRL.nil⟩⟩, Pi.le_refl π, hH⟩
    · cases h

theorem callF_sound (hH : HR known base w0 π σ w) {f : FuncId} {xs : List AV} {vs : Array Value} {r : AR} {s : Sem Next} (hx : VRL π xs vs.toList)
    (hse : ∀ R, (callFunc f vs).run P w = R → s.run P w = R) (h : callF P σ f xs = some r) : LoudR P known base w0 π σ w s r := by
  unfold callF at h
  cases hf : P.funcs[f]? with
  | none => rw [hf] at h; cases h
  | some fn =>
    rw [hf] at h
    dsimp only at h
    cases hn : fn.name == "runtime.NumGoroutine" with
    | true => rw [hn] at h; cases h
    | false =>
      rw [hn] at h
      cases hb : fn.body with
      | some c =>
        rw [hb] at h
        simp only [Option.some.injEq] at h
        subst h
        refine ⟨vs, hse _ ?_, hx, rfl, fn, c, hf, hb⟩
        have hn' : ¬ fn.name = "runtime.NumGoroutine" := by simpa using hn
        simp [callFunc, hf, hn', hb]
      | none =>
        rw [hb] at h
        dsimp only at h
        split at h
        · rename_i b o hne hnx
          simp only [Option.some.injEq] at h
          subst h
          have hne' : fn.name = "internal/abi.NoEscape" := by simpa using hne
          have hnx' : Extern.findNext fn = none := by simpa using hnx
          simp only [VRL] at hx
          obtain ⟨v, t, hvs, hv, rfl⟩ := hx
          have : vs = #[v] := by apply Array.ext'; simp [hvs]
          subst this
          refine ⟨π, w, .value v, hse _ ?_, .inl ⟨_, rfl, hv⟩, Pi.le_refl π, hH⟩
          have hn' : ¬ fn.name = "runtime.NumGoroutine" := by simpa using hn
          have hsm : Extern.AbiNoEscape.same #[v] = pure v := rfl
          simp [callFunc, hf, hn', hb, hnx', noEscape_find hne', hsm]
        · split at h
          · rename_i a hat hnx
            have hnx' : Extern.findNext fn = none := by simpa using hnx
            obtain ⟨e, hrow, hae⟩ := atomOf_row hat
            refine atomA_sound hH hae hx (fun v w' hv => hse _ ?_) h
            have hn' : ¬ fn.name = "runtime.NumGoroutine" := by simpa using hn
            simp [callFunc, hf, hn', hb, hnx', hrow.find rfl, hv]
          split at h
          · rename_i v he
            simp only [Option.some.injEq] at h
            subst h
            unfold externPure at he
            split at he
            · rename_i us e hus hnx hfn
              have hvs := flats_eq 8 _ us _ hus hx
              have hvs' : vs = ⟨us⟩ := by apply Array.ext'; simp [hvs]
              subst hvs'
              obtain ⟨u, h1, h2⟩ := viaPure_run (π := π) he w
              refine ⟨π, w, .value u, hse _ ?_, .inl ⟨_, rfl, h2⟩, Pi.le_refl π, hH⟩
              have hn' : ¬ fn.name = "runtime.NumGoroutine" := by simpa using hn
              simp [callFunc, hf, hn', hb, hnx, hfn, h1]
            · cases he
          · cases h
theorem call_sound (hH : HR known base w0 π σ w) {e : Operand → Value} (hρ : RhoR π ρ e) {f : Operand} {c : Call} {o : Oper} {r : AR} (ho : o.op = .call c) (hc : c.callee = .value f)
    (h : lCall f c.args P ρ σ = some r) : LoudR P known base w0 π σ w (execOp e o) r := by
  unfold lCall at h
  split at h
  · rename_i g caps hf
    split at h
    · rename_i l hl
      have hv := hρ _ _ hf
      simp only [VR] at hv
      obtain ⟨ps, cs, hv, hps, hcs⟩ := hv
      have hx := (hps.append (argsA_rel hρ hl)).append hcs
      refine callF_sound (vs := ⟨ps⟩ ++ c.args.map e ++ ⟨cs⟩) hH (by simpa using hx) (fun R hR => ?_) h
      simp only [execOp, ho, resolve, hc, hv, Deferred.ofValue]
      simpa [invoke, Array.append_assoc] using hR
    · cases h
  · cases h
end Go.Proofs.YtjagjjdkgidkjaaGreatDoor.Ev
