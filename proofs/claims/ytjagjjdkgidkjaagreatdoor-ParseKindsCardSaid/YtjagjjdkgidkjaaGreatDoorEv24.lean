/- Part Ev24 of a verified evaluator of closed calls: of no program; no condition. -/
import Derived.Test.YtjagjjdkgidkjaaGreatDoorEv23
set_option linter.all false
namespace Go.Proofs.YtjagjjdkgidkjaaGreatDoor.Ev
open Go Go.RowKit

variable {P : Program} {known : Nat → Bool} {base : Nat} {w0 : World} {π : Pi} {σ : AS} {w : World} {ρ : Rho}

/-- One result: what a function with just this result gives. -/
noncomputable def resOne (tmps : Array Value) (x : ResultVar) : Sem Value := results { (default : Func) with results := #[x] } tmps
theorem resOne_tmp (tmps : Array Value) (t : Nat) : (resOne tmps (.tmp t)).run P w = .ok (tmps.getD t undef) w := by
  simp [resOne, results]
theorem resOne_cell (tmps : Array Value) (a : Nat) (t : TypeId) {ad : Addr} (h : tmps.getD a undef = .pointer (some ad)) {u : Value} (hl : (loadVar t ad).run P w = .ok u w) : (resOne tmps (.cell a t)).run P w = .ok u w := by
  simp only [Array.getD_eq_getD_getElem?] at h
  simp [resOne, results, h, asAddr, hl]
theorem results_run {fn : Func} {tmps : Array Value} {vs : List Value} (h : (fn.results.toList.mapM (resOne tmps)).run P w = .ok vs w) :
    (results fn tmps).run P w = .ok (if hs : (⟨vs⟩ : Array Value).size = 1 then (⟨vs⟩ : Array Value)[0] else .tuple ⟨vs⟩) w := by
  have key : ∀ f : ResultVar → Sem Value, (∀ x, f x = resOne tmps x) → fn.results.toList.mapM f = fn.results.toList.mapM (resOne tmps) := fun f hf => by rw [funext hf]
  unfold results
  rw [Sem.run_bind, Array.mapM_eq_mapM_toList]
  simp only [map_eq_pure_bind, Sem.run_bind]
  rw [key _ (fun x => by cases x <;> simp [resOne, results])]
  rw [h]
  rfl
theorem resultsA_sound (hH : HR known base w0 π σ w) {α : AA} {a : Act} (hA : ActR π α a) : ∀ {l : List ResultVar} {xs : List AV}, resultsA P σ α l = some xs →
    ∃ vs, (l.mapM (resOne a.tmps)).run P w = .ok vs w ∧ VRL π xs vs
  | [], xs, h => by
    simp only [resultsA, Option.some.injEq] at h
    subst h
    exact ⟨[], rfl, VRL.nil⟩
  | .tmp t :: l, xs, h => by
    simp only [resultsA] at h
    rw [oB_iff] at h; obtain ⟨v, hv, h⟩ := h
    rw [oB_iff] at h; obtain ⟨vs, hvs, h⟩ := h
    simp only [Option.some.injEq] at h
    subst h
    obtain ⟨us, h1, h2⟩ := resultsA_sound hH hA hvs
    obtain ⟨v', h3, h4⟩ := hA.look t
    rw [hv] at h3; cases h3
    refine ⟨_ :: us, ?_, VRL.cons h4 h2⟩
    rw [List.mapM_cons]
    have h7 := resOne_tmp (P := P) (w := w) a.tmps t
    simp only [Sem.run_bind, h7, Result.andThen_ok, h1, Sem.run_pure]
  | .cell x t :: l, xs, h => by
    simp only [resultsA] at h
    split at h
    · rename_i b o hx
      split at h
      · rename_i v vs hv hvs
        simp only [Option.some.injEq] at h
        subst h
        obtain ⟨us, h1, h2⟩ := resultsA_sound hH hA hvs
        obtain ⟨v', h3, h4⟩ := hA.look x
        rw [hx] at h3; cases h3
        obtain ⟨u, h5, h6⟩ := load_gives hH hv h4
        simp only [VR] at h4
        obtain ⟨rb, δ, rs, hp, hq⟩ := h4
        rw [hq] at h5
        have h5' : (loadVar t ⟨rb, δ + o, none⟩).run P w = .ok u w := h5
        refine ⟨u :: us, ?_, VRL.cons h6 h2⟩
        rw [List.mapM_cons]
        have h7 := resOne_cell (P := P) (w := w) a.tmps x t hq h5'
        simp only [Sem.run_bind, h7, Result.andThen_ok, h1, Sem.run_pure]
      · cases h
    · cases h
theorem resultA_sound (hH : HR known base w0 π σ w) {α : AA} {a : Act} (hA : ActR π α a) {fn : Func} {v : AV} (h : resultA P σ α fn = some v) : ∃ u, (results fn a.tmps).run P w = .ok u w ∧ VR π v u := by
  unfold resultA at h
  have key : ∀ {xs : List AV}, resultsA P σ α fn.results.toList = some xs → ∃ vs : Array Value, VRL π xs vs.toList ∧ ∀ K : Value → Value, (results fn a.tmps).run P w = .ok (if h : vs.size = 1 then vs[0] else .tuple vs) w := by
    intro xs hx
    obtain ⟨vs, h1, h2⟩ := resultsA_sound hH hA hx
    refine ⟨⟨vs⟩, h2, fun _ => ?_⟩
    exact results_run h1
  split at h
  · rename_i x hx
    simp only [Option.some.injEq] at h
    subst h
    obtain ⟨vs, h1, h2⟩ := key hx
    simp only [VRL] at h1
    obtain ⟨u, t, hvs, hu, rfl⟩ := h1
    obtain rfl := list1 hvs
    exact ⟨u, h2 id, hu⟩
  · rename_i l hne hx
    simp only [Option.some.injEq] at h
    subst h
    obtain ⟨vs, h1, h2⟩ := key hx
    have hsz : ¬ vs.size = 1 := by
      intro hs
      have hl := h1.length
      rw [Array.length_toList, hs] at hl
      match l, hl with
      | [y], _ => exact hne y rfl
    refine ⟨.tuple vs, ?_, by simp only [VR]; exact ⟨vs.toList, rfl, h1⟩⟩
    rw [h2 id, dif_neg hsz]
  · cases h

theorem start_rel {fn : Func} {xs : List AV} {args : Array Value} (h : VRL π xs args.toList) :
    ActR π (AA.start fn xs) { tmps := args ++ Array.replicate (fn.ntmps - args.size) undef, defers := [] } := by
  have hl : xs.length = args.size := by rw [← h.length]; simp
  have he : AA.start fn xs = ⟨lay xs 0 .nil, max fn.ntmps xs.length, []⟩ := by
    show fNat (max fn.ntmps xs.length) _ = _
    rw [fNat_eq]
    show T.seq _ _ = _
    rw [T.seq_eq]
  rw [he]
  refine ⟨by simp; omega, fun t => ?_, by simp [DL]⟩
  by_cases ht : t < xs.length
  · obtain ⟨x, hx⟩ : ∃ x, xs[t]? = some x := ⟨xs[t], List.getElem?_eq_getElem ht⟩
    obtain ⟨u, hu, hr⟩ := h.get t x hx
    refine ⟨x, ?_, ?_⟩
    · show oM (T.get (lay xs 0 .nil) t) _ _ = _
      rw [get_lay, if_pos ⟨by omega, by omega⟩, Nat.sub_zero, hx]; rfl
    · have ht' : t < args.size := by omega
      have : (args ++ Array.replicate (fn.ntmps - args.size) undef).getD t undef = u := by
        have hu' : args[t]? = some u := by rw [← Array.getElem?_toList]; exact hu
        rw [Array.getD_eq_getD_getElem?, Array.getElem?_append_left ht', hu']; rfl
      rw [this]; exact hr
  · refine ⟨.tuple [], ?_, ?_⟩
    · show oM (T.get (lay xs 0 .nil) t) _ _ = _
      rw [get_lay, if_neg (by omega), T.get_nil]; rfl
    · have : (args ++ Array.replicate (fn.ntmps - args.size) undef).getD t undef = undef := by
        rw [Array.getD_eq_getD_getElem?, Array.getElem?_append_right (by omega)]
        by_cases h2 : t - args.size < fn.ntmps - args.size
        · simp [h2]
        · simp [h2]
      rw [this]
      simp only [VR]; exact ⟨[], rfl, VRL.nil⟩
end Go.Proofs.YtjagjjdkgidkjaaGreatDoor.Ev
