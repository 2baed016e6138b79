/- Part Ev12 of a verified evaluator of closed calls: of no program; no condition. -/
import Derived.Test.YtjagjjdkgidkjaaGreatDoorEv11
set_option linter.all false
namespace Go.Proofs.YtjagjjdkgidkjaaGreatDoor.Ev
open Go Go.RowKit

variable {P : Program} {known : Nat → Bool} {base : Nat} {w0 : World} {π : Pi} {σ : AS} {w : World} {ρ : Rho}

def ValR (π : Pi) (v : AV) (nx : Next) : Prop := (∃ u, nx = .value u ∧ VR π v u) ∨ (nx = .skip ∧ v = .tuple [])
/-- A deferred call. -/
def DR (π : Pi) (d : ADef) (d' : Deferred) : Prop := ∃ (cap xs : Array Value), d' = ⟨.fn (.func d.f) cap, xs⟩ ∧ VRL π d.args (xs ++ cap).toList
/-- What a loud operation's law says. -/
def LoudR (P : Program) (known : Nat → Bool) (base : Nat) (w0 : World) (π : Pi) (σ : AS) (w : World) (s : Sem Next) : AR → Prop
  | .val v σ' => ∃ π' w' nx, s.run P w = .ok nx w' ∧ ValR π' v nx ∧ π.le π' ∧ HR known base w0 π' σ' w'
  | .defer d σ' => ∃ d', s.run P w = .ok (.defer d') w ∧ DR π d d' ∧ σ' = σ
  | .enter f args σ' => ∃ args', s.run P w = .ok (.enter f args') w ∧ VRL π args args'.toList ∧ σ' = σ ∧ ∃ fn c, P.funcs[f]? = some fn ∧ fn.body = some c
  | .panic v σ' => ∃ v', s.run P w = .halt (.panic v') w ∧ VR π v v' ∧ σ' = σ
/-- A value of a law on values. -/
theorem LoudR.ofGives {s : Sem Value} {v : AV} (hH : HR known base w0 π σ w) (h : Gives P π w s v) : LoudR P known base w0 π σ w (do pure (.value (← s))) (.val v σ) := by
  obtain ⟨u, h1, h2⟩ := h
  exact ⟨π, w, .value u, by simp [h1], .inl ⟨u, rfl, h2⟩, Pi.le_refl π, hH⟩

theorem range_zeros (zc : Array Value) : ∀ n, ((List.range (n * zc.size)).map fun i => zc[i % zc.size]!) = (List.replicate n zc.toList).flatten
  | 0 => by simp
  | n + 1 => by
    have hstep : (n + 1) * zc.size = zc.size + n * zc.size := by rw [Nat.add_mul]; omega
    rw [hstep, List.range_add, List.map_append, List.replicate_succ, List.flatten_cons]
    congr 1
    · apply List.ext_getElem?
      intro i
      by_cases hi : i < zc.size
      · simp [hi, Nat.mod_eq_of_lt hi]
      · simp [hi]
    · rw [List.map_map, ← range_zeros zc n]
      apply List.map_congr_left
      intro i _
      simp [Function.comp]
theorem zeros_toList (zc : Array Value) (n : Nat) : ((Array.range (n * zc.size)).map fun i => zc[i % zc.size]!).toList = (List.replicate n zc.toList).flatten := by
  rw [Array.toList_map, Array.toList_range]; exact range_zeros zc n
theorem VRL.replicate {xs : List AV} {vs : List Value} (h : VRL π xs vs) : ∀ n, VRL π (List.replicate n xs).flatten (List.replicate n vs).flatten
  | 0 => by simp [VRL]
  | n + 1 => by simp only [List.replicate_succ, List.flatten_cons]; exact h.append (VRL.replicate h n)

/-- A new row, as an operation's end. -/
theorem row_sound (hH : HR known base w0 π σ w) {s : Sem Next} {e : TypeId} {xs : List AV} {vs spare : List Value} (hx : VRL π xs vs) {wh : BK} (hw : wh = .whole → spare = []) {v : AV} {u : Value}
    (hr : s.run P w = .ok (.value u) (w.alloc (.cells (vs ++ spare).toArray e)))
    (hv : VR (π.add σ.next (w.heap.size, 0, vs.length + spare.length)) v u) : LoudR P known base w0 π σ w s (.val v (σ.push (.cells (lay xs 0 .nil) xs.length e 0 true wh))) :=
  ⟨_, _, _, hr, .inl ⟨u, rfl, hv⟩, hH.le_add _, hH.row e hx spare wh hw⟩

theorem alloc_sound (hH : HR known base w0 π σ w) {e : Operand → Value} {t : TypeId} {o : Oper} {r : AR} (ho : o.op = .alloc t) (h : lAlloc t P ρ σ = some r) : LoudR P known base w0 π σ w (execOp e o) r := by
  unfold lAlloc at h
  split at h
  · rename_i z hz
    rw [AS.row_eq] at h
    simp only [Option.some.injEq] at h
    subst h
    obtain ⟨zv, z1, z2⟩ := zeroOfT_run (π := π) hz w
    refine row_sound (spare := []) (vs := zv.cells.toList) (u := .pointer (some ⟨w.heap.size, 0, none⟩)) hH (cells_rel z2) (fun _ => rfl) ?_ ?_
    · simp only [execOp, ho]
      simp [Instr.alloc, z1, newVar, newRow]
    · simp only [VR]; exact ⟨_, _, _, Pi.add_same _ _ _, rfl⟩
  · cases h
theorem box_sound (hH : HR known base w0 π σ w) {e : Operand → Value} (hρ : RhoR π ρ e) {t : TypeId} {x : Operand} {o : Oper} {r : AR} (ho : o.op = .box t x) (h : lBox t x P ρ σ = some r) : LoudR P known base w0 π σ w (execOp e o) r := by
  unfold lBox at h
  split at h
  · rename_i v hv
    rw [AS.row_eq] at h
    simp only [Option.some.injEq] at h
    subst h
    refine row_sound (spare := []) (vs := (e x).cells.toList) (u := .pointer (some ⟨w.heap.size, 0, none⟩)) hH (cells_rel (hρ _ _ hv)) (fun _ => rfl) ?_ ?_
    · simp only [execOp, ho]
      simp [Instr.box, newVar, newRow]
    · simp only [VR]; exact ⟨_, _, _, Pi.add_same _ _ _, rfl⟩
  · cases h
theorem buildSlice_sound (hH : HR known base w0 π σ w) {e : Operand → Value} (hρ : RhoR π ρ e) {t : TypeId} {n : Nat} {ps : Array (Nat × Operand)} {o : Oper} {r : AR} (ho : o.op = .buildSlice t n ps)
    (h : lBuildSlice t n ps P ρ σ = some r) : LoudR P known base w0 π σ w (execOp e o) r := by
  unfold lBuildSlice at h
  split at h
  · rename_i el l hu hl
    split at h
    · rename_i size z hs hz
      split at h
      · rename_i g1 g2
        have g1' : n * size ≤ 16777216 := by simpa using g1
        have g2' : z.cells.length = size := by simpa using g2
        split at h
        · rename_i cs hcs
          rw [AS.row_eq, fNat_eq] at h
          simp only [Option.some.injEq] at h
          subst h
          have hpl := partsA_rel hρ hl
          have hlen : ∀ (ps : List (Nat × AV)) (cs out : List AV) (pl : Nat → Option (Nat × Nat)), fillA pl cs ps = some out → out.length = cs.length := by
            intro ps
            induction ps with
            | nil => intro cs out pl h; simp only [fillA, Option.some.injEq] at h; rw [← h]
            | cons p ps ih =>
              intro cs out pl h
              obtain ⟨i, v⟩ := p
              simp only [fillA] at h
              split at h
              · cases h
              · split at h
                · rename_i b1 b2
                  have := ih _ _ _ h
                  rw [this, splice]
                  simp at b1 b2 ⊢
                  omega
                · cases h
          have hl2 := hlen _ _ _ _ hcs
          have hl3 : (List.replicate n z.cells).flatten.length = n * size := by simp [g2']
          cases hi : P.info? el with
          | none => simp [sizeOfT, hi] at hs
          | some ie =>
            have hsz : ie.size = size := by simpa [sizeOfT, hi] using hs
            unfold zeroOfT at hz
            simp only [hi] at hz
            cases hzz : ie.zero with
            | none => simp [hzz] at hz
            | some zv =>
              simp only [hzz] at hz
              have hzr := ofValue_rel (π := π) hz
              have hzs := cells_size hzr
              have hzl := (cells_rel hzr).replicate n
              rw [← zeros_toList, hzs, g2'] at hzl
              obtain ⟨o', q1, q2⟩ := fillA_rel (place := fun i => some (i * ie.size, ie.size)) (fun i p hip => by rw [hsz]; exact hip) hcs hzl hpl
              have lq := q2.length
              refine row_sound (spare := []) (vs := o'.toList) (u := .slice (some ⟨w.heap.size, 0, none⟩) n n) hH q2 (fun _ => rfl) ?_ ?_
              · have hr : (Instr.buildSlice t n (ps.map fun (i, x) => (i, e x))).run P w = .ok (.slice (some ⟨w.heap.size, 0, none⟩) n n) (w.alloc (.cells o' el)) := by
                  by_cases hz0 : n * ie.size = 0
                  · have : ((Array.range (n * size)).map fun i => zv.cells[i % size]!) = #[] := by rw [← hsz, hz0]; simp
                    rw [this] at q1
                    have q1' : Instr.fill (fun i => some (i * ie.size, ie.size)) #[] (ps.map fun (i, x) => (i, e x)).toList = some o' := by rw [Array.toList_map]; exact q1
                    have hempty : ((Array.range (n * ie.size)).map ((#[] : Array Value)[· % (#[] : Array Value).size]!)) = #[] := by rw [hz0]; simp
                    simp only [Instr.buildSlice, Sem.run_bind, run_underlying hu, Result.andThen_ok, sizeOf, typeInfo, run_program, hi]
                    have hsm : ¬ n * ie.size > 2 ^ 24 := by omega
                    have hr0 : Array.range 0 = #[] := by simp [Array.range]
                    have q1'' : Instr.fill (fun i => some (i * ie.size, ie.size)) #[] (List.map (fun x => (x.fst, e x.snd)) ps.toList) = some o' := q1
                    simp [hsm, hz0, hr0, q1'', newRow]
                  · refine run_buildSlice w t el n _ o' ie zv hu hi hzz (by rw [hsz]; omega) hz0 ?_
                    rw [Array.toList_map]
                    rw [← hsz] at q1
                    rw [hzs, g2', ← hsz]
                    exact q1
                simp only [execOp, ho]
                simp [hr]
              · simp only [VR]
                refine ⟨_, _, _, 0, n, Pi.add_same _ _ _, rfl, .inl rfl, Nat.le_refl _, fun _ => rfl, ?_⟩
                simp only [List.length_nil, Nat.add_zero, lq, hl2, hl3]
                omega
        · cases h
      · cases h
    · cases h
  · cases h
theorem store_sound (hH : HR known base w0 π σ w) {e : Operand → Value} (hρ : RhoR π ρ e) {t : TypeId} {a x : Operand} {o : Oper} {r : AR} (ho : o.op = .store t a x)
    (h : lStore t a x P ρ σ = some r) : LoudR P known base w0 π σ w (execOp e o) r := by
  unfold lStore at h
  split at h
  · rename_i b off v n ha hx hs
    split at h
    · rename_i g
      have g' : v.cells.length = n := by simpa using g
      split at h
      · rename_i σ' hw
        simp only [Option.some.injEq] at h
        subst h
        have hva := hρ _ _ ha
        have hvx := hρ _ _ hx
        simp only [VR] at hva
        obtain ⟨rb, δ, rs, hp, hea⟩ := hva
        obtain ⟨rb', δ', rs', h1, h2, h3, h4⟩ := hH.write hw (cells_rel hvx)
        rw [hp] at h1
        simp only [Option.some.injEq, Prod.mk.injEq] at h1
        obtain ⟨rfl, rfl, rfl⟩ := h1
        refine ⟨π, _, .skip, ?_, .inr ⟨rfl, rfl⟩, Pi.le_refl π, h4⟩
        have hcs := cells_size hvx
        have hst := run_storeCells_cells (P := P) rb (δ + off) (e x).cells.toList 0 w (fun j hj => by simpa using (h2 j hj).1) (fun j hj => by simpa using (h2 j hj).2) h3
        simp only [execOp, ho, hea]
        simp only [Instr.storeAt, Instr.sureAddr, storeVar, Sem.run_bind, Sem.run_pure, Result.andThen_ok, sizeOfT_run hs]
        rw [if_neg (by omega)]
        simp [hst]
      · cases h
    · cases h
  · cases h

theorem makeSlice_sound (hH : HR known base w0 π σ w) {e : Operand → Value} (hρ : RhoR π ρ e) {t : TypeId} {l c : Operand} {o : Oper} {r : AR} (ho : o.op = .makeSlice t l c)
    (h : lMakeSlice t l c P ρ σ = some r) : LoudR P known base w0 π σ w (execOp e o) r := by
  unfold lMakeSlice at h
  split at h
  · rename_i el a b hu ha hb
    split at h
    · rename_i n m size bytes z hn hm hs hby hz
      split at h
      · rename_i g1 g2 g3
        have g1' : n ≤ m := by simpa using g1
        have g2' : bytes * m ≤ 281474976710656 := by simpa using g2
        have g3' : z.cells.length = size := by simpa using g3
        split at h
        · rename_i g4
          have g4' : m ≤ 1000000 := by simpa using g4
          rw [AS.row_eq] at h
          simp only [Option.some.injEq] at h
          subst h
          obtain ⟨kl, rfl⟩ := natI_some hn
          obtain ⟨kc, rfl⟩ := natI_some hm
          have el1 := (hρ _ _ ha).int
          have ec1 := (hρ _ _ hb).int
          cases hi : P.info? el with
          | none => simp [sizeOfT, hi] at hs
          | some ie =>
            have hsz : ie.size = size := by simpa [sizeOfT, hi] using hs
            have hbz : ie.bytes = bytes := by simpa [bytesOfT, hi] using hby
            unfold zeroOfT at hz
            simp only [hi] at hz
            cases hzz : ie.zero with
            | none => simp [hzz] at hz
            | some zv =>
              simp only [hzz] at hz
              have hzr := ofValue_rel (π := π) hz
              have hzs := cells_size hzr
              have hzl := (cells_rel hzr).replicate m
              have hb0 : ((ie.bytes * m : Nat) : Int) ≤ 281474976710656 := by rw [hbz]; omega
              rw [Int.natCast_mul] at hb0
              have hr := run_make (P := P) w t el ie zv hu hi hzz kl kc (n : Int) (m : Int) (by omega) (by omega) hb0 (by omega)
              have hmc : (madeCells zv.cells ((m : Int).toNat * ie.size)).toList = (List.replicate m zv.cells.toList).flatten := by
                rw [Int.toNat_natCast, hsz, ← g3', ← hzs]
                exact zeros_toList zv.cells m
              refine row_sound (spare := []) (vs := (madeCells zv.cells ((m : Int).toNat * ie.size)).toList) (u := .slice (some ⟨w.heap.size, 0, none⟩) n m) hH (by rw [hmc]; exact hzl) (fun _ => rfl) ?_ ?_
              · simp only [execOp, ho, el1, ec1]
                simp [hr]
              · simp only [VR]
                refine ⟨_, _, _, 0, m, Pi.add_same _ _ _, rfl, .inl rfl, Nat.le_refl _, fun _ => rfl, ?_⟩
                have : (madeCells zv.cells ((m : Int).toNat * ie.size)).toList.length = m * size := by simp [size_madeCells, hsz]
                simp only [List.length_nil, Nat.add_zero, this]
                omega
        · cases h
      · cases h
    · cases h
  · cases h
theorem makeMap_sound (hH : HR known base w0 π σ w) {e : Operand → Value} (hρ : RhoR π ρ e) {t : TypeId} {x : Option Operand} {o : Oper} {r : AR} (ho : o.op = .makeMap t x)
    (h : lMakeMap t x P ρ σ = some r) : LoudR P known base w0 π σ w (execOp e o) r := by
  have key : ∀ hr : (Instr.makeMap t (x.map e)).run P w = .ok (.map (some w.heap.size)) (w.alloc (.map #[] 0)), LoudR P known base w0 π σ w (execOp e o) (.val (.map σ.next) (σ.push (.map [] 0))) := by
    intro hr
    refine ⟨π.add σ.next (w.heap.size, 0, 0), w.alloc (.map #[] 0), .value (.map (some w.heap.size)), ?_, .inl ⟨_, rfl, ?_⟩, hH.le_add _, hH.new _ _ 0 ⟨w.heap.size, 0, 0, #[], Pi.add_same _ _ _, ?_, by simp [EL]⟩⟩
    · simp only [execOp, ho]; simp [hr]
    · simp only [VR]; exact ⟨_, _, _, Pi.add_same _ _ _, rfl⟩
    · show (w.heap.push _)[w.heap.size]? = _
      simp
  unfold lMakeMap at h
  split at h
  · rw [AS.new_eq] at h
    simp only [Option.some.injEq] at h
    subst h
    exact key rfl
  · rename_i kt et y hu
    split at h
    · rename_i k n hy
      rw [AS.new_eq] at h
      simp only [Option.some.injEq] at h
      subst h
      have hv := (hρ _ _ hy).int
      refine key ?_
      simp only [Option.map_some, hv, Instr.makeMap, Sem.run_bind, run_underlying hu, Result.andThen_ok]
      rfl
    · cases h
  · cases h
theorem defer_sound {e : Operand → Value} (hρ : RhoR π ρ e) {f : Operand} {args : Array Operand} {c : Call} {o : Oper} {r : AR} (ho : o.op = .defer c) (hc : c.callee = .value f) (ha : c.args = args)
    (h : lDefer f args P ρ σ = some r) : LoudR P known base w0 π σ w (execOp e o) r := by
  unfold lDefer at h
  split at h
  · rename_i g fst caps l hf hl
    simp only [Option.some.injEq] at h
    subst h
    have hv := hρ _ _ hf
    simp only [VR] at hv
    obtain ⟨ps, cs, hv, hps, hcs⟩ := hv
    refine ⟨⟨.fn (.func g) ⟨cs⟩, ⟨ps⟩ ++ args.map e⟩, ?_, ⟨⟨cs⟩, ⟨ps⟩ ++ args.map e, rfl, ?_⟩, rfl⟩
    · simp only [execOp, ho, resolve, hc, ha, hv, Deferred.ofValue, Sem.run_bind, Sem.run_pure, Result.andThen_ok]
    · have := (hps.append (argsA_rel hρ hl)).append hcs
      simpa using this
  · cases h
theorem panic_sound {e : Operand → Value} (hρ : RhoR π ρ e) {x : Operand} {o : Oper} {r : AR} (ho : o.op = .panic x) (h : lPanic x P ρ σ = some r) : LoudR P known base w0 π σ w (execOp e o) r := by
  unfold lPanic at h
  split at h
  · rename_i t v hx
    simp only [Option.some.injEq] at h
    subst h
    have hv := hρ _ _ hx
    have hv' := hv
    simp only [VR] at hv'
    obtain ⟨y, hy, _⟩ := hv'
    refine ⟨e x, ?_, hv, rfl⟩
    simp only [execOp, ho, hy, Instr.panic]
    simp [goPanic]
  · cases h
theorem range_sound (hH : HR known base w0 π σ w) {e : Operand → Value} (hρ : RhoR π ρ e) {t : TypeId} {x : Operand} {o : Oper} {r : AR} (ho : o.op = .range t x)
    (h : lRange t x P ρ σ = some r) : LoudR P known base w0 π σ w (execOp e o) r := by
  unfold lRange at h
  split at h
  · rename_i l hu hx
    rw [AS.new_eq] at h
    simp only [Option.some.injEq] at h
    subst h
    have hv := hρ _ _ hx
    simp only [VR] at hv
    obtain ⟨s, hs, hl⟩ := hv
    refine ⟨π.add σ.next (w.heap.size, 0, 0), w.alloc (.stringIter s 0), .value (.pointer (some ⟨w.heap.size, 0, none⟩)), ?_, .inl ⟨_, rfl, ?_⟩, hH.le_add _, hH.new _ _ 0 ⟨w.heap.size, 0, s, Pi.add_same _ _ _, ?_, hl⟩⟩
    · have := run_range_string (P := P) w t s hu
      simp only [execOp, ho, hs]
      simp [this, World.iter]
    · simp only [VR]; exact ⟨_, _, _, Pi.add_same _ _ _, rfl⟩
    · show (w.heap.push _)[w.heap.size]? = _
      simp
  · rename_i kt et m hu hx
    split at h
    · rename_i es clock hb
      rw [AS.new_eq] at h
      simp only [Option.some.injEq] at h
      subst h
      have hv := hρ _ _ hx
      simp only [VR] at hv
      obtain ⟨rm, δ, rs, hp, hm⟩ := hv
      obtain ⟨rb', δ', rs', es', h1, h2, h3⟩ := hH.blk m _ hb
      rw [hp] at h1
      simp only [Option.some.injEq, Prod.mk.injEq] at h1
      obtain ⟨rfl, rfl, rfl⟩ := h1
      refine ⟨π.add σ.next (w.heap.size, 0, 0), w.alloc (.mapIter (some rm) clock #[] clock), .value (.pointer (some ⟨w.heap.size, 0, none⟩)), ?_, .inl ⟨_, rfl, ?_⟩, hH.le_add _,
        hH.new _ _ 0 ⟨w.heap.size, 0, rm, δ, rs, Pi.add_same _ _ _, hH.le_add _ _ _ hp, ?_⟩⟩
      · simp only [execOp, ho, hm]
        simp only [Instr.range, Sem.run_bind, run_underlying hu, Result.andThen_ok, run_getObj_map h2]
        rfl
      · simp only [VR]; exact ⟨_, _, _, Pi.add_same _ _ _, rfl⟩
      · show (w.heap.push _)[w.heap.size]? = _
        simp
    · cases h
  · rename_i kt et hu hx
    rw [AS.new_eq] at h
    simp only [Option.some.injEq] at h
    subst h
    have hv := hρ _ _ hx
    simp only [VR] at hv
    refine ⟨π.add σ.next (w.heap.size, 0, 0), w.alloc (.mapIter none 0 #[] 0), .value (.pointer (some ⟨w.heap.size, 0, none⟩)), ?_, .inl ⟨_, rfl, ?_⟩, hH.le_add _,
      hH.new _ _ 0 ⟨w.heap.size, 0, Pi.add_same _ _ _, ?_⟩⟩
    · simp only [execOp, ho, hv]
      simp only [Instr.range, Sem.run_bind, run_underlying hu, Result.andThen_ok]
      rfl
    · simp only [VR]; exact ⟨_, _, _, Pi.add_same _ _ _, rfl⟩
    · show (w.heap.push _)[w.heap.size]? = _
      simp
  · cases h
theorem setObj_run {rb : Nat} {o o' : Obj} (h : w.heap[rb]? = some o) (hc : ∀ c e f, o ≠ .cells c e f) : (setObj rb o').run P w = .ok () { w with heap := w.heap.setIfInBounds rb o' } := by
  cases o <;> first
    | exact absurd rfl (hc _ _ _)
    | simp [setObj, Sem.run, h]
theorem HR.obj (h : HR known base w0 π σ w) {b : Nat} {B B' : ABlk} {p : Nat × Nat × Nat} {o' : Obj} (hb : σ.get b = some B) (lb : B.live = true) (mb : B.mine = true) (hp : π b = some p)
    (hB : ∀ w' : World, w'.heap[p.1]? = some o' → BR π b B' w') : HR known base w0 π (σ.put b B') { w with heap := w.heap.setIfInBounds p.1 o' } := by
  have hlt := h.bnd b p hp
  have hm := h.mine b B p hb mb hp
  refine h.turn hb mb hp (fun _ => mb) (hB _ ?_) (fun k hk => ?_) (by simp) (h.below.trans ⟨rfl, rfl, rfl, by simp, fun k hk => ?_⟩)
  · show (w.heap.setIfInBounds p.1 o')[p.1]? = _
    simp [hlt]
  · show (w.heap.setIfInBounds p.1 o')[k]? = _
    rw [Array.getElem?_setIfInBounds_ne (Ne.symm hk)]
  · show (w.heap.setIfInBounds p.1 o')[k]? = _
    rw [Array.getElem?_setIfInBounds_ne (by omega)]
theorem memN_mem12 (x : Nat) : ∀ l : List Nat, memN x l = true ↔ x ∈ l
  | [] => by simp [memN]
  | y :: r => by
    have ih := memN_mem12 x r
    by_cases h : x = y
    · subst h; simp [memN]
    · have : Nat.beq x y = false := by cases hb : Nat.beq x y with | false => rfl | true => exact absurd (Nat.eq_of_beq_eq_true hb) h
      simp [memN, this, ih, h]
theorem leftL_rel {seen : List Nat} : ∀ {l : List (AV × AV × Nat)} {es : List MapEntry}, EL π l es → EL π (leftL seen l) (es.filter fun e => !seen.toArray.contains e.born)
  | [], _, h => by simp only [EL] at h; subst h; simp [leftL, EL]
  | (k, v, n) :: l, _, h => by
    simp only [EL] at h
    obtain ⟨e, t, rfl, h1, h2, h3, h4⟩ := h
    have ih := leftL_rel (seen := seen) h4
    subst h3
    unfold leftL
    cases hm : memN e.born seen with
    | true =>
      have : e.born ∈ seen := (memN_mem12 _ _).1 hm
      simpa [this, hm] using ih
    | false =>
      have : e.born ∉ seen := fun h => by rw [(memN_mem12 _ _).2 h] at hm; cases hm
      simp only [List.contains_toArray, List.contains_eq_mem, hm] at ih ⊢
      rw [List.filter_cons_of_pos (by simp [this])]
      exact ⟨e, _, rfl, h1, h2, rfl, ih⟩
theorem allNew_rel {last : Nat} : ∀ {l : List (AV × AV × Nat)} {es : List MapEntry}, EL π l es → allNew last l = es.all (fun e => decide (e.born ≥ last))
  | [], _, h => by simp only [EL] at h; subst h; rfl
  | (k, v, n) :: l, _, h => by
    simp only [EL] at h
    obtain ⟨e, t, rfl, h1, h2, h3, h4⟩ := h
    subst h3
    unfold allNew
    rw [List.all_cons, ← allNew_rel h4]
    by_cases hb : last ≤ e.born
    · have : Nat.ble last e.born = true := by simpa using hb
      simp [this, hb]
    · have : Nat.ble last e.born = false := by cases hc : Nat.ble last e.born with | false => rfl | true => exact absurd (by simpa using hc) hb
      simp [this, hb]
theorem isNilL_eq {α : Type} (l : List α) : isNilL l = l.isEmpty := by cases l <;> rfl
theorem EL.isEmpty {l : List (AV × AV × Nat)} {es : List MapEntry} (h : EL π l es) : es.isEmpty = l.isEmpty := by
  have := EL.length h
  cases l <;> cases es <;> simp_all
theorem next_map_over {rb rm since last clock : Nat} {seen : Array Nat} {es : Array MapEntry} {ty : TypeId} (h : w.heap[rb]? = some (.mapIter (some rm) since seen last)) (hm : w.heap[rm]? = some (.map es clock))
    (hc : (!seen.isEmpty && !es.isEmpty && es.all fun e => decide (e.born ≥ last)) = false) (hl : (es.filter fun e => !seen.contains e.born) = #[]) :
    (Instr.next (.pointer (some ⟨rb, 0, none⟩)) false ty).run P w = .ok (.tuple #[.bool false]) w := by
  have h1 : (getObj rb).run P w = .ok (.mapIter (some rm) since seen last) w := by simp [getObj, Sem.run, h]
  have h2 : (getObj rm).run P w = .ok (.map es clock) w := by simp [getObj, Sem.run, hm]
  simp only [Instr.next, Sem.run_bind, h1, Result.andThen_ok, h2, hc, hl]
  simp [choose, Sem.run, Question.forced]
theorem next_map_one {rb rm since last clock : Nat} {seen : Array Nat} {es : Array MapEntry} {ty : TypeId} {e : MapEntry} (h : w.heap[rb]? = some (.mapIter (some rm) since seen last)) (hm : w.heap[rm]? = some (.map es clock))
    (hc : (!seen.isEmpty && !es.isEmpty && es.all fun e => decide (e.born ≥ last)) = false) (hl : (es.filter fun e => !seen.contains e.born) = #[e]) (he : e.born < since) :
    (Instr.next (.pointer (some ⟨rb, 0, none⟩)) false ty).run P w = .ok (.tuple #[.bool true, e.key, e.val]) { w with heap := w.heap.setIfInBounds rb (.mapIter (some rm) since (seen.push e.born) clock) } := by
  have h1 : (getObj rb).run P w = .ok (.mapIter (some rm) since seen last) w := by simp [getObj, Sem.run, h]
  have h2 : (getObj rm).run P w = .ok (.map es clock) w := by simp [getObj, Sem.run, hm]
  have hset := setObj_run (P := P) (o' := .mapIter (some rm) since (seen.push e.born) clock) h (by intro c e f h; cases h)
  have hge : ¬ since ≤ e.born := by omega
  have f1 : (#[e].filter fun x => decide (x.born < since)) = #[e] := by simp [he]
  have f2 : (#[e].filter fun x => decide (x.born ≥ since)) = #[] := by simp [he]
  simp only [Instr.next, Sem.run_bind, h1, Result.andThen_ok, h2, hc, hl, f1, f2]
  simp [choose, Sem.run, Question.forced, hset]
theorem next_sound (hH : HR known base w0 π σ w) {e : Operand → Value} (hρ : RhoR π ρ e) {it : Operand} {str : Bool} {o : Oper} {r : AR} (ho : o.op = .next it str)
    (h : lNext it str P ρ σ = some r) : LoudR P known base w0 π σ w (execOp e o) r := by
  unfold lNext at h
  split at h
  · rename_i b hit
    split at h
    · rename_i s pos hb
      have hv := hρ _ _ hit
      simp only [VR] at hv
      obtain ⟨rb, δ, rs, hp, hv⟩ := hv
      obtain ⟨rb', rs', s', h1, h2, h3⟩ := hH.blk b _ hb
      rw [hp] at h1
      simp only [Option.some.injEq, Prod.mk.injEq] at h1
      obtain ⟨rfl, rfl, rfl⟩ := h1
      have hsz : s.length = s'.size := by rw [← h3, bytesOf_length]
      have hget : (getObj rb).run P w = .ok (.stringIter s' pos) w := by simp [getObj, Sem.run, h2]
      split at h
      · rename_i g
        have g' : ¬ pos < s'.size := by
          intro hlt
          have : Nat.blt pos s.length = true := by simp [Nat.blt]; omega
          rw [this] at g; cases g
        simp only [Option.some.injEq] at h
        subst h
        refine ⟨π, w, .value (.tuple #[.bool false]), ?_, .inl ⟨_, rfl, ?_⟩, Pi.le_refl π, hH⟩
        · simp only [execOp, ho, hv, Instr.next]
          simp [hget, g']
        · simp only [VR]; exact ⟨_, rfl, VRL.cons (by simp [VR]) VRL.nil⟩
      · rename_i g
        have g' : pos < s'.size := by simp [Nat.blt] at g; omega
        have fin : ∀ (c wd : Nat), Utf8.decode s' pos = (c, wd) →
            LoudR P known base w0 π σ w (execOp e o) (.val (.tuple [.bool true, .int .i64 (.ofNat pos), .int .i32 (.ofNat c)]) (σ.put b (.siter s (pos + wd)))) := by
          intro c wd hd
          have hset := setObj_run (P := P) (o' := .stringIter s' (pos + wd)) h2 (by intro c e f h; cases h)
          refine ⟨π, _, .value (.tuple #[.bool true, goInt pos, .int .i32 c]), ?_, .inl ⟨_, rfl, ?_⟩, Pi.le_refl π,
            hH.obj (o' := .stringIter s' (pos + wd)) hb rfl rfl hp (fun w' hw' => ⟨rb, rs, s', hp, hw', h3⟩)⟩
          · simp only [execOp, ho, hv, Instr.next]
            simp [hget, g', hd, hset]
          · simp only [VR]; exact ⟨_, rfl, VRL.cons (by simp [VR]) (VRL.cons (by simp [VR, goInt]) (VRL.cons (by simp [VR]) VRL.nil))⟩
        split at h
        · rename_i c hc
          have hlt : pos < s'.size := g'
          obtain ⟨u, hu, hcu⟩ : ∃ u, s'.data.toList[pos]? = some u ∧ u.toNat = c := by
            rw [← h3] at hc
            simp only [bytesOf, List.getElem?_map, Option.map_eq_some_iff] at hc
            exact hc
          have hgu : s'[pos]'hlt = u := by
            rw [Array.getElem?_toList] at hu
            have := (Array.getElem?_eq_some_iff.1 hu).2
            exact this
          split at h
          · rename_i hasc
            have hasc' : c < 128 := by simp [Nat.blt] at hasc; omega
            simp only [fNat_eq, AS.upd_eq, Option.some.injEq] at h
            subst h
            have hd := decode_ascii s' pos hlt (by rw [hgu, hcu]; exact hasc')
            rw [hgu, hcu] at hd
            exact fin c 1 hd
          · split at h
            rename_i c' wd hd
            simp only [fNat_eq, AS.upd_eq, Option.some.injEq] at h
            subst h
            rw [← h3, bytes_back] at hd
            exact fin c' wd hd
        · cases h
    · cases h
  · rename_i b hit
    have hv := hρ _ _ hit
    simp only [VR] at hv
    obtain ⟨rb, δ, rs, hp, hv⟩ := hv
    split at h
    · rename_i hb
      simp only [Option.some.injEq] at h
      subst h
      obtain ⟨rb', rs', h1, h2⟩ := hH.blk b _ hb
      rw [hp] at h1
      simp only [Option.some.injEq, Prod.mk.injEq] at h1
      obtain ⟨rfl, rfl, rfl⟩ := h1
      have hget : (getObj rb).run P w = .ok (.mapIter none 0 #[] 0) w := by simp [getObj, Sem.run, h2]
      refine ⟨π, w, .value (.tuple #[.bool false]), ?_, .inl ⟨_, rfl, ?_⟩, Pi.le_refl π, hH⟩
      · simp only [execOp, ho, hv, Instr.next]
        simp [hget]
      · simp only [VR]; exact ⟨_, rfl, VRL.cons (by simp [VR]) VRL.nil⟩
    · rename_i m since seen last hb
      split at h
      · rename_i es clock hbm
        obtain ⟨rb', rs', rm, δm, rsm, h1, h2, h3⟩ := hH.blk b _ hb
        rw [hp] at h1
        simp only [Option.some.injEq, Prod.mk.injEq] at h1
        obtain ⟨rfl, rfl, rfl⟩ := h1
        obtain ⟨rm', δm', rsm', es', k1, k2, k3⟩ := hH.blk m _ hbm
        rw [h2] at k1
        simp only [Option.some.injEq, Prod.mk.injEq] at k1
        obtain ⟨rfl, rfl, rfl⟩ := k1
        unfold nextMap at h
        split at h
        · rename_i hst
          have hc : (!seen.toArray.isEmpty && !es'.isEmpty && es'.all fun e => decide (e.born ≥ last)) = false := by
            rw [allNew_rel k3, isNilL_eq, isNilL_eq, ← k3.isEmpty] at hst
            rw [← Array.isEmpty_toList, ← Array.isEmpty_toList, ← Array.all_toList]
            revert hst
            cases seen.isEmpty <;> cases es'.toList.isEmpty <;> simp
          have hl := leftL_rel (seen := seen) k3
          have hfe : (es'.filter fun e => !seen.toArray.contains e.born).toList = es'.toList.filter fun e => !seen.toArray.contains e.born := by simp
          rw [← hfe] at hl
          split at h
          · rename_i hln
            simp only [Option.some.injEq] at h
            subst h
            rw [hln] at hl
            simp only [EL] at hl
            have hl' : (es'.filter fun e => !seen.toArray.contains e.born) = #[] := by apply Array.ext'; simpa using hl
            refine ⟨π, w, .value (.tuple #[.bool false]), ?_, .inl ⟨_, rfl, ?_⟩, Pi.le_refl π, hH⟩
            · simp only [execOp, ho, hv, Nat.add_zero, Sem.run_bind]
              rw [next_map_over h3 k2 hc hl']
              rfl
            · simp only [VR]; exact ⟨_, rfl, VRL.cons (by simp [VR]) VRL.nil⟩
          · rename_i k v n hln
            rw [hln] at hl
            simp only [EL] at hl
            obtain ⟨e, t, hl, a1, a2, a3, rfl⟩ := hl
            have hl' : (es'.filter fun e => !seen.toArray.contains e.born) = #[e] := by apply Array.ext'; simpa using hl
            split at h
            · rename_i hlt
              simp only [fNat_eq, AS.upd_eq, Option.some.injEq] at h
              subst h
              have hlt' : e.born < since := by rw [a3]; simp [Nat.blt] at hlt; omega
              refine ⟨π, _, .value (.tuple #[.bool true, e.key, e.val]), ?_, .inl ⟨_, rfl, ?_⟩, Pi.le_refl π,
                hH.obj (o' := .mapIter (some rm) since (seen.toArray.push e.born) clock) hb rfl rfl hp (fun w' hw' => ⟨rb, rs, rm, δm, rsm, hp, h2, by rw [hw', a3]; simp⟩)⟩
              · simp only [execOp, ho, hv, Nat.add_zero, Sem.run_bind]
                rw [next_map_one h3 k2 hc hl' hlt']
                rfl
              · simp only [VR]; exact ⟨_, rfl, VRL.cons (by simp [VR]) (VRL.cons a1 (VRL.cons a2 VRL.nil))⟩
            · cases h
          · cases h
        · cases h
      · cases h
    · cases h
  · cases h
end Go.Proofs.YtjagjjdkgidkjaaGreatDoor.Ev
