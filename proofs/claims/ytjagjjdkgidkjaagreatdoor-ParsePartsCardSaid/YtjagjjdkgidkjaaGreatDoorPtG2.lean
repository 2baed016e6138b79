/- The library's tables, the closed facts: a part (Gh) of the proof that the law ParseParts answers true. No condition. -/
import Derived.Test.YtjagjjdkgidkjaaGreatDoorPtG1
import Derived.Test.YtjagjjdkgidkjaaGreatDoorPtT1
import Derived.Shelf.Vars
import Derived.Lib.LaidTab
set_option linter.all false
set_option linter.all false
namespace Go.Proofs.YtjagjjdkgidkjaaGreatDoor
open Go Go.RowKit Go.Proofs.YtjagjjdkgidkjaaGreatDoor.Ev
set_option maxRecDepth 1000000
theorem isI_eq {o : Option AV} {k : IntKind} {n : Int} (h : isI o k n = true) : o = some (.int k n) := by
  unfold isI at h
  split at h
  · simp only [Bool.and_eq_true, decide_eq_true_eq] at h
    obtain ⟨rfl, rfl⟩ := h
    rfl
  · cases h
theorem isU_eq {o : Option AV} (h : isU o = true) : ∃ n : Int, U64 n ∧ o = some (.int .u64 n) := by
  unfold isU at h
  split at h
  · rename_i k n
    simp only [Bool.and_eq_true, decide_eq_true_eq] at h
    obtain ⟨rfl, h1, h2⟩ := h
    exact ⟨n, ⟨h1, h2⟩, rfl⟩
  · cases h
theorem isB_eq {o : Option AV} (h : isB o = true) : ∃ b, o = some (.bool b) := by
  unfold isB at h
  split at h
  · exact ⟨_, rfl⟩
  · cases h
theorem isF_eq {o : Option AV} (h : isF o = true) : ∃ t x, o = some (.iface t x) := by
  unfold isF at h
  split at h
  · exact ⟨_, _, rfl⟩
  · cases h
theorem isN_eq {o : Option AV} (h : isN o = true) : ∃ f, NumNZ f ∧ o = some (.float .f64 f) := by
  unfold isN at h
  split at h
  · rename_i k f
    rw [Bool.and_eq_true, decide_eq_true_eq] at h
    obtain ⟨rfl, h1⟩ := h
    exact ⟨f, h1, rfl⟩
  · cases h
theorem isP_eq {o : Option AV} (h : isP o = true) : ∃ n : Int, 1 ≤ n ∧ n ≤ 27 ∧ o = some (.int .i64 n) := by
  unfold isP at h
  split at h
  · rename_i k n
    simp only [Bool.and_eq_true, decide_eq_true_eq] at h
    obtain ⟨rfl, h1, h2⟩ := h
    exact ⟨n, h1, h2, rfl⟩
  · cases h
theorem lastB_some : ∀ {l : List Nat}, lastB l = true → Dm.LastSome l
  | [], _ => trivial
  | [d], h => by
    have : 1 ≤ d := by simpa [lastB, Nat.blt] using h
    exact this
  | _ :: e :: l, h => lastB_some (l := e :: l) h
theorem isRow_eq {k : Nat} {o1 o2 : Option AV} (h : isRow k o1 o2 = true) : ∃ (d : Nat) (l : List Nat), o1 = some (.int .i64 d) ∧ o2 = some (.str l) ∧ l.length ≤ 100 ∧ (∀ c ∈ l, 48 ≤ c ∧ c ≤ 57) ∧ Dm.Row k d (l.map (· - 48)) := by
  unfold isRow at h
  split at h
  · rename_i kd d s
    simp only [Bool.and_eq_true, decide_eq_true_eq, Nat.ble_eq, List.all_eq_true, Nat.beq_eq_true_eq] at h
    obtain ⟨rfl, h0, h1, h2, h3, h4, h5, h6, h7⟩ := h
    refine ⟨d.toNat, s, by rw [Int.toNat_of_nonneg h0], rfl, h1, h2, ?_, lastB_some h3, Nat.eq_of_beq_eq_true h4, ?_, h6, Nat.lt_of_succ_le (by simpa [Nat.blt] using h7)⟩
    · intro x hx
      obtain ⟨c, hc, rfl⟩ := List.mem_map.1 hx
      have := h2 c hc
      omega
    · rw [List.length_map]; exact Nat.eq_of_beq_eq_true h5
  · cases h
theorem laidMet_of {P : Program} {laid : List (String × DataW Unit)} {W : World} (hf : (laid.filter fun x => x.2.handleName?.isSome) = []) (h : laidMetH P laid W) : laidMet P laid W := by
  unfold laidMetH at h
  rw [hf] at h
  exact h
theorem laid_place {P : Program} {w : World} : ∀ {l : List (String × DataW Unit)} {ps : List MemPlace}, DataW.LaidVars P w l ps → ∀ n d, (n, d) ∈ l →
    ∃ g t cs fuel p, P.globalNamed n = some g ∧ (P.globals[g]?).map (·.type) = some t ∧ w.var? P n = some cs ∧ DataW.trod (fun _ => ()) P w 0 (fun _ => true) false fuel t cs.toList = some (d, p) ∧ (0 < cs.size → MemPlace.cell g 0 ∈ ps)
  | [], _, _, _, _, hm => by cases hm
  | (n', d') :: r, ps, h, n, d, hm => by
    obtain ⟨g, t, cs, fuel, p, q, h1, h2, h3, h4, h5, rfl⟩ := h
    rcases List.mem_cons.1 hm with e | e
    · cases e
      refine ⟨g, t, cs, fuel, p, h1, h2, h3, h4, fun h0 => ?_⟩
      exact List.mem_append_left _ (List.mem_append_left _ (List.mem_map.2 ⟨0, List.mem_range.2 h0, rfl⟩))
    · obtain ⟨g', t', cs', fuel', p', a1, a2, a3, a4, a5⟩ := laid_place h5 n d e
      exact ⟨g', t', cs', fuel', p', a1, a2, a3, a4, fun h0 => List.mem_append_right _ (a5 h0)⟩
/-- A listed variable's block is not frozen. -/
theorem laid_fz {P : Program} {W : World} {l : List (String × DataW Unit)} (h : laidMet P l W) {n : String} {d : DataW Unit} (hm : (n, d) ∈ l) {g : Nat} (hg : P.globalNamed n = some g) {v : Value} (hv : W.cell? ⟨g, 0, none⟩ = some v) :
    ∃ c t, W.heap[g]? = some (.cells c t (0, 0)) := by
  obtain ⟨ps, hl, _, hc⟩ := h
  obtain ⟨g', t', cs, fuel, p, a1, a2, a3, a4, a5⟩ := laid_place hl n d hm
  obtain rfl := Option.some.inj (hg.symm.trans a1)
  have h0 : 0 < cs.size := by
    have := World.var?_cell hg a3 0
    rw [hv] at this
    exact (Array.getElem?_eq_some_iff.1 this.symm).1
  exact (hc _ _ (a5 h0)).1
theorem bytes_get {s : ByteArray} {l : List Nat} (h : bytesOf s = l) (i : Nat) (hi : i < s.size) : (s[i]'hi).toNat ∈ l := by
  rw [← h]
  exact List.mem_map.2 ⟨s[i]'hi, by
    have : i < s.data.toList.length := hi
    have := List.getElem_mem this
    exact this, rfl⟩
theorem bytes_dl {s : ByteArray} {l : List Nat} (h : bytesOf s = l) : dl s = l.map (· - 48) := by
  rw [← h]
  unfold dl bytesOf
  rw [List.map_map]
  rfl
theorem bytes_size {s : ByteArray} {l : List Nat} (h : bytesOf s = l) : s.size = l.length := by
  rw [← h]
  unfold bytesOf
  rw [List.length_map]
  rfl
theorem plainG : (Rows.parsePartsRow.laid.filter fun x => x.2.handleName?.isSome) = [] := by kernel_rfl
theorem g12 : Tryz.prog.globalNamed "internal/strconv.float32info" = some 12 := by kernel_rfl
theorem g13 : Tryz.prog.globalNamed "internal/strconv.float64info" = some 13 := by kernel_rfl
theorem g4 : Tryz.prog.globalNamed "internal/strconv.uint64pow10" = some 4 := by kernel_rfl
theorem t4 : (Tryz.prog.globals[4]?).map (·.type) = some 270 := by kernel_rfl
theorem m12 : ("internal/strconv.float32info", (Rows.laid_internal_strconv_float32info : DataW Unit)) ∈ Rows.parsePartsRow.laid := by simp [Rows.parsePartsRow]
theorem m13 : ("internal/strconv.float64info", (Rows.laid_internal_strconv_float64info : DataW Unit)) ∈ Rows.parsePartsRow.laid := by simp [Rows.parsePartsRow]
theorem m4 : ("internal/strconv.uint64pow10", (Rows.laid_internal_strconv_uint64pow10 : DataW Unit)) ∈ Rows.parsePartsRow.laid := by simp [Rows.parsePartsRow]
theorem pow_data : (Rows.laid_internal_strconv_uint64pow10 : DataW Unit) = Lib.tabData .u64 Lib.pow10Tab := by rfl
theorem u270 : ∃ n e, Tryz.prog.underlying 270 = some (.array n e) ∧ Tryz.prog.underlying e = some (.int .u64) ∧ Tryz.prog.cellsOf e = 1 ∧ Tryz.prog.cellsOf 270 = n := by
  refine ⟨Tryz.prog.arrayLen 270, Tryz.prog.elem 270, by kernel_rfl, by kernel_rfl, by kernel_rfl, by kernel_rfl⟩
theorem itoaTab_of {W : World} (hM : laidMet Tryz.prog Rows.parsePartsRow.laid W) : ItoaTab W := by
  obtain ⟨ps, hl, _, _⟩ := hM
  obtain ⟨g, t, cs, fuel, p, a1, a2, a3, a4, _⟩ := laid_place hl _ _ m4
  obtain rfl := Option.some.inj (g4.symm.trans a1)
  obtain rfl := Option.some.inj (t4.symm.trans a2)
  obtain ⟨n, e, h1, h2, h3, h4⟩ := u270
  rw [pow_data] at a4
  refine ⟨?_⟩
  unfold Lib.TabIs
  rw [a3, ← Lib.cells_of_tab h1 h2 h3 h4 a4]
theorem globals17 : Tryz.prog.globals.size = 17 := by kernel_rfl
theorem maxlen_of {W : World} (h : W.ShapedOpen Tryz.prog) : ∃ m, W.cell? ⟨7, 0, none⟩ = some (.int .i64 m) :=
  cell_of_shapedOpen_int (g := 7) (t := 3) (zero := #[.int .i64 0]) h (by rw [globals17]; omega) (by kernel_rfl) rfl (by kernel_rfl) (by kernel_rfl) (by kernel_rfl)
theorem env_of {W : World} (hL : laidMetH Tryz.prog Rows.parsePartsRow.laid W) (hS : W.ShapedOpen Tryz.prog) : NumEnv W := by
  have hM := laidMet_of plainG hL
  obtain ⟨π, hH⟩ := laid_HR plainG hL
  have h := tabs_ok
  unfold tabsOk at h
  generalize hl : layAll Tryz.prog Rows.parsePartsRow.laid .nil Tryz.prog.globals.size [] = r at h hH
  obtain ⟨σ, gs⟩ := r
  clear hl
  dsimp only at h
  unfold chk at h
  simp only [Bool.and_eq_true] at h
  obtain ⟨k1, k2, k3, k5, k6, k8, k9, k12, k13, k131, k132, k15, k16⟩ := h
  have cI : ∀ {g i : Nat} {k : IntKind} {n : Int}, isI (gAt (σ, gs) g i) k n = true → W.cell? ⟨g, i, none⟩ = some (.int k n) := fun hx => by
    obtain ⟨v, hv, hr⟩ := gAt_cell hH (isI_eq hx)
    simp only [VR] at hr
    rw [hv, hr]
  have c16 : ∃ v, W.cell? ⟨16, 0, none⟩ = some v := by
    split at k16
    · rename_i b cap esz ex hg
      obtain ⟨v, hv, _⟩ := gAt_cell hH hg
      exact ⟨v, hv⟩
    · cases k16
  have hbig : 17 ≤ W.heap.size := by
    obtain ⟨v, hv⟩ := c16
    have := World.block_lt_of_cell? W _ hv
    exact this
  refine ⟨⟨⟨fun c hc => cI (List.all_eq_true.1 k1 c (List.mem_range.2 hc)), fun i hi => ?_⟩, maxlen_of hS, hbig⟩, ⟨⟨fun i hi => ?_, cI k13, cI k131, cI k132, ?_, ?_⟩, ⟨?_⟩, ⟨?_, ?_⟩, ⟨?_⟩, ⟨?_⟩, ?_, hbig⟩, itoaTab_of hM⟩
  · have := List.all_eq_true.1 k2 i (List.mem_range.2 hi)
    simp only [Bool.and_eq_true] at this
    exact ⟨cI this.1, cI this.2⟩
  · obtain ⟨n, hn, he⟩ := isU_eq (List.all_eq_true.1 k8 i (List.mem_range.2 hi))
    obtain ⟨v, hv, hr⟩ := gAt_cell hH he
    simp only [VR] at hr
    exact ⟨n, hn, by rw [hv, hr]⟩
  · obtain ⟨c, t, hh⟩ := laid_fz hM m13 g13 (cI k13)
    exact ⟨c, t, (0, 0), hh, by simp⟩
  · obtain ⟨c, t, hh⟩ := laid_fz hM m12 g12 (cI k12)
    exact ⟨c, t, (0, 0), hh⟩
  · split at k16
    · rename_i b cap esz ex hg
      obtain ⟨v, hv, hr⟩ := gAt_cell hH hg
      simp only [VR] at hr
      obtain ⟨rb, δ, rs, off, cap', hp, rfl, ho, _⟩ := hr
      have ho' : off = δ := by rcases ho with h | ⟨h, _⟩ <;> omega
      subst ho'
      refine ⟨rb, off, 23, cap', Nat.le_refl _, hv, fun i hi => ?_⟩
      obtain ⟨f, hf, he⟩ := isN_eq (List.all_eq_true.1 k16 i (List.mem_range.2 hi))
      obtain ⟨u, hu, hr⟩ := bAt_cell hH he hp
      simp only [VR] at hr
      exact ⟨f, hf, by rw [hu, hr]⟩
    · cases k16
  · obtain ⟨t, x, he⟩ := isF_eq k5
    obtain ⟨v, hv, hr⟩ := gAt_cell hH he
    simp only [VR] at hr
    obtain ⟨y, rfl, _⟩ := hr
    exact ⟨t, y, hv⟩
  · obtain ⟨t, x, he⟩ := isF_eq k6
    obtain ⟨v, hv, hr⟩ := gAt_cell hH he
    simp only [VR] at hr
    obtain ⟨y, rfl, _⟩ := hr
    exact ⟨t, y, hv⟩
  · split at k9
    · rename_i b cap esz ex hg
      obtain ⟨v, hv, hr⟩ := gAt_cell hH hg
      simp only [VR] at hr
      obtain ⟨rb, δ, rs, off, cap', hp, rfl, ho, _⟩ := hr
      have ho' : off = δ := by rcases ho with h | ⟨h, _⟩ <;> omega
      subst ho'
      refine ⟨rb, off, 61, cap', Nat.le_refl _, hv, fun k h1 h60 => ?_⟩
      have hk := List.all_eq_true.1 k9 (k - 1) (List.mem_range.2 (by omega))
      rw [show k - 1 + 1 = k by omega] at hk
      obtain ⟨d, l, e1, e2, hl, hc, hR⟩ := isRow_eq hk
      obtain ⟨u, hu, hr1⟩ := bAt_cell hH e1 hp
      obtain ⟨u2, hu2, hr2⟩ := bAt_cell hH e2 hp
      simp only [VR] at hr1 hr2
      obtain ⟨s, rfl, hs⟩ := hr2
      refine ⟨d, s, by rw [hu, hr1], by rw [Nat.add_assoc]; exact hu2, ?_, ?_, ?_⟩
      · rw [bytes_dl hs]; exact hR
      · rw [bytes_size hs]; exact hl
      · intro i hi; exact hc _ (bytes_get hs i hi)
    · cases k9
  · split at k15
    · rename_i b cap esz ex hg
      obtain ⟨v, hv, hr⟩ := gAt_cell hH hg
      simp only [VR] at hr
      obtain ⟨rb, δ, rs, off, cap', hp, rfl, ho, _⟩ := hr
      have ho' : off = δ := by rcases ho with h | ⟨h, _⟩ <;> omega
      subst ho'
      refine ⟨rb, off, cap', hv, fun i hi => ?_⟩
      obtain ⟨n, h1, h2, he⟩ := isP_eq (List.all_eq_true.1 k15 i (List.mem_range.2 hi))
      obtain ⟨u, hu, hr⟩ := bAt_cell hH he hp
      simp only [VR] at hr
      exact ⟨n, h1, h2, by rw [hu, hr]⟩
    · cases k15
  · obtain ⟨b, he⟩ := isB_eq k3
    obtain ⟨v, hv, hr⟩ := gAt_cell hH he
    simp only [VR] at hr
    exact ⟨b, by rw [hv, hr]⟩
end Go.Proofs.YtjagjjdkgidkjaaGreatDoor
