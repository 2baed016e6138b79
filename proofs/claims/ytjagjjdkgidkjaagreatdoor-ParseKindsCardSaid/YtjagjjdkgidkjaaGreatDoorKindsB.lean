/- The law ParseKinds, for any name and any number: the answer is true and nothing that was there is turned. No condition. -/
import Derived.Test.YtjagjjdkgidkjaaGreatDoorKindsA
import Derived.ProofKit
import Derived.OpenShut
import Derived.LaidMore
import Derived.Lay
import Derived.ChangeMaps5
import Derived.SevenTiedAt
import Derived.Stop.Joined
set_option linter.all false
namespace Go.Proofs.YtjagjjdkgidkjaaGreatDoor
open Go Go.ChangeShapes Go.WideShapes Go.ChangeAt Go.RowKit Go.ChangeMaps
open Go.Proofs.YtjagjjdkgidkjaaGreatDoor.Ev
set_option maxRecDepth 1000000

theorem start_HR (W : World) : HR (fun _ => false) W.heap.size W (fun _ => Option.none) ⟨.nil, 100⟩ W :=
  ⟨fun b B hb => (by rw [show AS.get ⟨.nil, 100⟩ b = Option.none from T.get_nil b] at hb; cases hb), fun b c B C p q hb => (by rw [show AS.get ⟨.nil, 100⟩ b = Option.none from T.get_nil b] at hb; cases hb),
    fun b _ => ⟨T.get_nil b, rfl⟩, fun b p hb => (by cases hb), fun b B p hb => (by rw [show AS.get ⟨.nil, 100⟩ b = Option.none from T.get_nil b] at hb; cases hb), Nat.le_refl _, Below.refl _ _, fun g hg => (by cases hg)⟩

theorem sumK_ok {W : World} (hL : laidMetH Tryz.prog Rows.parseKindsRow.laid W) : SumOK Tryz.prog W.heap.size W sumK := by
  intro f v hv w hb
  unfold sumK at hv
  split at hv
  · rename_i hf
    have hf' : f = 10 := by simpa using hf
    subst hf'
    simp only [Option.some.injEq] at hv
    subst hv
    refine (closedTrue_at mixedK plainK hL awakeK w hb).mono (fun E w' h => ?_)
    obtain ⟨rfl, hb'⟩ := h
    exact ⟨_, rfl, fun π => by simp only [VR], hb'⟩
  · cases hv

theorem oneK_calls {W : World} (hL : laidMetH Tryz.prog Rows.parseKindsRow.laid W) {xs : List AV} {args : Array Value} (h : oneK xs = true) (hx : ∀ π, VRL π xs args.toList) :
    Calls Tryz.prog 7 args W fun e w' => e = .returned (.bool true) ∧ Below W.heap.size W w' := by
  unfold oneK at h
  split at h
  · rename_i σ' he
    refine Calls.mono (evCallS_sound (known := fun _ => false) (base := W.heap.size) (w0 := W) mixedK (sumK_ok hL) 20 7 xs ⟨.nil, 100⟩ _ σ' he _ W args (start_HR W) (hx _)) (fun E w' hE => ?_)
    obtain ⟨π', _, hH', hv⟩ := hE
    cases E with
    | returned u =>
      have hu : u = .bool true := by simpa only [VR] using hv
      rw [hu]
      exact ⟨rfl, hH'.below⟩
    | _ => exact hv.elim
  · cases h

/-- The walk, for any name and any number. -/
theorem kinds_calls {W : World} (hL : laidMetH Tryz.prog Rows.parseKindsRow.laid W) (s : ByteArray) (n : Int) :
    Calls Tryz.prog 7 #[.string s, .int .i64 n] W fun e w' => e = .returned (.bool true) ∧ Below W.heap.size W w' := by
  have h := kAny n
  unfold allK at h
  simp only [Bool.and_eq_true] at h
  obtain ⟨h1, h2⟩ := h
  by_cases hs : bytesOf s ∈ wordsK
  · refine oneK_calls hL (List.all_eq_true.1 h2 _ hs) (fun π => ?_)
    exact VRL.cons (by simp only [VR]; exact ⟨s, rfl, rfl⟩) (VRL.cons (by simp only [VR]) VRL.nil)
  · refine oneK_calls hL h1 (fun π => ?_)
    exact VRL.cons (by simp only [VR]; exact ⟨s, rfl, hs⟩) (VRL.cons (by simp only [VR]) VRL.nil)

/-- What the law says, where of what was there nothing has turned. -/
theorem post_kept {H : Type} {enc : TypeId × Value → H} {P : Program} {f : Func} {s : ChangeSpec} {apart fresh handsOn again : Bool} {W W' : World} {args : Array Value} {v : Value} {ds gs : List (DataW H)} {before pa pv : List MemPlace}
    (hW : DataW.Whole enc P f.params.toList s.vars apart W args.toList ds gs before)
    (hres : ∀ (b : Nat) (sp : Nat → Bool) (hd : Bool), DataW.TrodAll enc P W' b sp hd f.resultTypes.toList (v.resultList f.resultTypes.size) (s.fn H (ds ++ gs)).results [])
    (hargs : ∀ sp : Nat → Bool, (∀ p ∈ before, sp p.block = true) → DataW.TrodAll enc P W' 0 sp true f.params.toList args.toList (s.fn H (ds ++ gs)).args pa)
    (hvars : ∀ sp : Nat → Bool, (∀ p ∈ before, sp p.block = true) → DataW.TrodVars enc P W' sp s.vars (s.fn H (ds ++ gs)).vars pv)
    (hps : before = pa ++ pv) (hb : Below W.heap.size W W')
    (hok : ∀ (j : Nat) (t : TypeId) (r : Value), f.resultTypes[j]? = some t → (v.resultList f.resultTypes.size)[j]? = some r → Value.okWide P W' .any 0 t r) :
    s.post enc P f apart fresh handsOn again W args v W' := by
  have hlt : ∀ p ∈ before, p.block < W.heap.size := fun p hp => hW.lt p hp
  have hold : ∀ p ∈ before, (fun b => decide (b < W.heap.size)) p.block = true := fun p hp => by simpa using hlt p hp
  refine ⟨ds, gs, before, [], pa, pv, hW, hres _ _ _, hargs _ hold, hvars _ hold, World.keptBut_mono (fun p hp => ⟨hp, ?_⟩) (hb.frame (· ∈ before)), fun _ => ?_⟩
  · rw [hps, List.mem_append] at hp
    exact Or.inr hp
  · obtain ⟨_, _, _, _, _, hz, hn⟩ := hW
    refine ⟨hok, _, _, ([] ++ pa) ++ pv, ⟨[] ++ pa, pv, trodAll_append (hargs _ (fun _ _ => rfl)) (hres _ _ _), hvars _ (fun _ _ => rfl), rfl, ?_, ?_⟩, ?_⟩
    · intro b off hp
      have hm : MemPlace.cell b off ∈ before := by rw [hps]; simpa using hp
      rw [hb.frozen (p := ⟨b, off, Option.none⟩) (hlt _ hm)]
      exact hz b off hm
    · intro ha
      have := hn ha
      rw [hps] at this
      simpa using this
    · intro p hp _
      rw [hps]
      simpa using hp

theorem kinds_lifted (os : Os) (started : os.Started) (H : Type) (enc : TypeId × Value → H) :
    ReturnsInHanded {} Tryz.checked os 7 .any (fun w args => (Rows.parseKindsSpec.pre enc Tryz.prog Tryz.f7 Rows.parseKindsRow.domain false w args ∧ laidMetH Tryz.prog Rows.parseKindsRow.laid w) ∧ sizedMet enc Tryz.prog Tryz.f7 (OpenSpec.ofChange Rows.parseKindsSpec) false w args)
      (Rows.parseKindsSpec.post enc Tryz.prog Tryz.f7 false true false false) := by
  refine returnsInHanded_of_change_and (C := Tryz.checked) (X := fun w _ => laidMetH Tryz.prog Rows.parseKindsRow.laid w) (fun _ _ _ hh h => h.of_heap hh) ownK started (by kernel_rfl) Tryz.func7
    (ChangeSpec.witness_shaped (enc := enc) (C := Tryz.checked) (os := os) (X := fun w _ => laidMetH Tryz.prog Rows.parseKindsRow.laid w) false (World.laidAll Tryz.prog os Rows.parseKindsRow.laid) #[.string .empty, .int .i64 0] 8 (World.laidAll_os _ _ _)
      (World.shaped_of_ZipB (by kernel_rfl) (by kernel_rfl)) (by kernel_rfl) (by kernel_rfl) (by kernel_rfl)
      (by rw [MakeChecks.laidMetH_plain _ _ _ (by kernel_rfl)]; exact laidMet_laidAll _ (by kernel_rfl) (by kernel_rfl))) ?_
  intro W base args ds gs before hval0 hW hc _ hL _
  have hval : ∀ (j : Nat) t v, Tryz.f7.params[j]? = some t → args[j]? = some v → Value.okWide Tryz.prog W .any base t v := hval0
  have hW' := hW
  obtain ⟨p, q, hA0, hV, rfl, _, _⟩ := hW
  have hA : DataW.TrodAll enc Tryz.prog W 0 (fun _ => true) true Tryz.f7.params.toList args.toList ds p := hA0
  rw [Tryz.params7] at hA hval
  obtain ⟨v0, v1, d0, d1, p0, p1, rfl, rfl, rfl, h0, h1⟩ := trodAll_two hA
  obtain ⟨rfl, rfl⟩ := trodVars_none hV
  obtain ⟨s, rfl, rfl, rfl, hs⟩ := open_string Tryz.underlying9 (hval 0 9 v0 rfl rfl) h0
  obtain ⟨x, rfl, rfl, rfl, wx⟩ := open_int Tryz.underlying3 (hval 1 3 v1 rfl rfl) h1
  simp only [List.append_nil] at hW'
  refine (kinds_calls hL s x).mono fun e W' ⟨he, hg⟩ => ?_
  subst he
  exact ⟨_, rfl, post_kept (pa := []) (pv := []) hW' (fun _ _ _ => trodAll_mk1 (shut_bool Tryz.underlying4 _)) (fun sp _ => trodAll_mk2 (shut_string Tryz.underlying9 hs) (shut_int Tryz.underlying3 wx)) (fun _ _ => rfl) rfl
    hg (ok_one (by kernel_rfl) rfl (okWide_bool_mk Tryz.underlying4 _))⟩

end Go.Proofs.YtjagjjdkgidkjaaGreatDoor
