/- Strconv's decimal: a part (Dm Sl Sb) of the proof that the law ParseParts answers true. No condition. -/
import Derived.Test.YtjagjjdkgidkjaaGreatDoorPtF4
import Derived.Test.YtjagjjdkgidkjaaGreatDoorPtD1
import Derived.Deep.CutBlock
set_option linter.all false
/- Pure: digits, a shift to the left, the table of the first digits. -/
namespace Go.Proofs.YtjagjjdkgidkjaaGreatDoor.Dm
/-- The number that digits say, the highest first. -/
def val : List Nat → Nat
  | [] => 0
  | d :: l => d * 10 ^ l.length + val l
def Dig (l : List Nat) : Prop := ∀ d ∈ l, d ≤ 9
theorem Dig.tail {d : Nat} {l : List Nat} (h : Dig (d :: l)) : Dig l := fun x hx => h x (List.mem_cons_of_mem _ hx)
theorem Dig.head {d : Nat} {l : List Nat} (h : Dig (d :: l)) : d ≤ 9 := h d (List.mem_cons_self ..)
theorem val_lt : ∀ {l : List Nat}, Dig l → val l < 10 ^ l.length
  | [], _ => by simp [val]
  | d :: l, h => by
    have h1 := val_lt h.tail
    have h2 := h.head
    simp only [val, List.length_cons, Nat.pow_succ]
    have : d * 10 ^ l.length ≤ 9 * 10 ^ l.length := Nat.mul_le_mul_right _ h2
    omega
/-- What is carried when the digits of l have been doubled k times. -/
def carry (k : Nat) (l : List Nat) : Nat := val l * 2 ^ k / 10 ^ l.length
theorem carry_nil (k : Nat) : carry k [] = 0 := by simp [carry, val]
theorem carry_cons (k d : Nat) (l : List Nat) : carry k (d :: l) = (carry k l + d * 2 ^ k) / 10 := by
  unfold carry
  simp only [val, List.length_cons, Nat.pow_succ]
  rw [← Nat.div_div_eq_div_mul, Nat.add_mul, Nat.mul_right_comm, Nat.add_comm, Nat.add_mul_div_right _ _ (Nat.pow_pos (by omega))]
theorem carry_lt (k : Nat) {l : List Nat} (h : Dig l) : carry k l < 2 ^ k := by
  unfold carry
  rw [Nat.div_lt_iff_lt_mul (Nat.pow_pos (by omega)), Nat.mul_comm]
  exact Nat.mul_lt_mul_of_pos_left (val_lt h) (Nat.pow_pos (by omega))
/-- Is the one list ahead of the other? -/
def less : List Nat → List Nat → Bool
  | _, [] => false
  | [], _ :: _ => true
  | b :: bs, s :: ss => if b = s then less bs ss else decide (b < s)
def LastSome : List Nat → Prop
  | [] => True
  | [d] => 0 < d
  | _ :: l => LastSome l
theorem LastSome.tail : ∀ {d : Nat} {l : List Nat}, LastSome (d :: l) → LastSome l
  | _, [], _ => trivial
  | _, _ :: _, h => h
theorem val_pos : ∀ {l : List Nat}, l ≠ [] → LastSome l → 0 < val l
  | [], h, _ => absurd rfl h
  | [d], _, h => by simpa [val, LastSome] using h
  | d :: e :: l, _, h => by
    have := val_pos (l := e :: l) (by simp) h.tail
    simp only [val] at this ⊢
    omega
theorem less_true : ∀ {b s : List Nat}, Dig b → Dig s → LastSome s → less b s = true → val b * 10 ^ s.length < val s * 10 ^ b.length
  | b, [], _, _, _, h => by simp [less] at h
  | [], s :: ss, _, _, hl, _ => by
    have := val_pos (by simp) hl
    simp only [List.length_nil, Nat.pow_zero, Nat.mul_one]
    simpa [val] using this
  | b :: bs, s :: ss, hb, hs, hl, h => by
    have vb := val_lt hb.tail
    have vs := val_lt hs.tail
    unfold less at h
    by_cases e : b = s
    · rw [if_pos e] at h
      subst e
      have ih := less_true hb.tail hs.tail hl.tail h
      simp only [val, List.length_cons, Nat.pow_succ, Nat.add_mul]
      have e1 : b * 10 ^ bs.length * (10 ^ ss.length * 10) = b * 10 ^ ss.length * (10 ^ bs.length * 10) := by ac_rfl
      have e2 : val bs * (10 ^ ss.length * 10) = val bs * 10 ^ ss.length * 10 := by ac_rfl
      have e3 : val ss * (10 ^ bs.length * 10) = val ss * 10 ^ bs.length * 10 := by ac_rfl
      omega
    · rw [if_neg e] at h
      have h : b < s := by simpa using h
      simp only [val, List.length_cons, Nat.pow_succ]
      have l1 : b * 10 ^ bs.length + val bs < s * 10 ^ bs.length := by
        have : (b + 1) * 10 ^ bs.length ≤ s * 10 ^ bs.length := Nat.mul_le_mul_right _ h
        rw [Nat.add_mul] at this; omega
      calc (b * 10 ^ bs.length + val bs) * (10 ^ ss.length * 10) < s * 10 ^ bs.length * (10 ^ ss.length * 10) := Nat.mul_lt_mul_of_pos_right l1 (Nat.mul_pos (Nat.pow_pos (by omega)) (by omega))
        _ = s * 10 ^ ss.length * (10 ^ bs.length * 10) := by ac_rfl
        _ ≤ (s * 10 ^ ss.length + val ss) * (10 ^ bs.length * 10) := Nat.mul_le_mul_right _ (Nat.le_add_right _ _)
theorem less_false : ∀ {b s : List Nat}, Dig b → Dig s → less b s = false → val s * 10 ^ b.length ≤ val b * 10 ^ s.length
  | b, [], _, _, _ => by simp [val]
  | [], s :: ss, _, _, h => by simp [less] at h
  | b :: bs, s :: ss, hb, hs, h => by
    have vb := val_lt hb.tail
    have vs := val_lt hs.tail
    unfold less at h
    by_cases e : b = s
    · rw [if_pos e] at h
      subst e
      have ih := less_false hb.tail hs.tail h
      simp only [val, List.length_cons, Nat.pow_succ, Nat.add_mul]
      have e1 : b * 10 ^ bs.length * (10 ^ ss.length * 10) = b * 10 ^ ss.length * (10 ^ bs.length * 10) := by ac_rfl
      have e2 : val bs * (10 ^ ss.length * 10) = val bs * 10 ^ ss.length * 10 := by ac_rfl
      have e3 : val ss * (10 ^ bs.length * 10) = val ss * 10 ^ bs.length * 10 := by ac_rfl
      omega
    · rw [if_neg e] at h
      have h : s < b := by have : ¬ b < s := by simpa using h
                           omega
      simp only [val, List.length_cons, Nat.pow_succ]
      have l1 : s * 10 ^ ss.length + val ss ≤ b * 10 ^ ss.length := by
        have : (s + 1) * 10 ^ ss.length ≤ b * 10 ^ ss.length := Nat.mul_le_mul_right _ h
        rw [Nat.add_mul] at this; omega
      calc (s * 10 ^ ss.length + val ss) * (10 ^ bs.length * 10) ≤ b * 10 ^ ss.length * (10 ^ bs.length * 10) := Nat.mul_le_mul_right _ l1
        _ = b * 10 ^ bs.length * (10 ^ ss.length * 10) := by ac_rfl
        _ ≤ (b * 10 ^ bs.length + val bs) * (10 ^ ss.length * 10) := Nat.mul_le_mul_right _ (Nat.le_add_right _ _)
/-- The decimal digits of a number. -/
def digitsOf : Nat → Nat → List Nat
  | 0, _ => []
  | f + 1, n => if n = 0 then [] else digitsOf f (n / 10) ++ [n % 10]
/-- The table's row: the first digits of 5^k, how many digits k doublings bring. -/
structure Row (k delta : Nat) (cut : List Nat) : Prop where
  dig : Dig cut
  last : LastSome cut
  five : val cut = 5 ^ k
  len : cut.length + delta = k + 1
  lo : 10 ^ delta ≤ 2 ^ k * 10
  hi : 2 ^ k < 10 ^ delta
theorem two_five (k : Nat) : 5 ^ k * 2 ^ k = 10 ^ k := by rw [← Nat.mul_pow]
/-- How many digits stand ahead: exactly so many. -/
theorem grow {k delta : Nat} {cut l : List Nat} (h : Row k delta cut) (hl : Dig l) (h0 : 10 ^ (l.length - 1) ≤ val l) (hne : 0 < l.length) (hk : 0 < k) :
    if less l cut = true then 1 ≤ delta ∧ carry k l < 10 ^ (delta - 1) ∧ (2 ≤ delta → 10 ^ (delta - 2) ≤ carry k l) else 1 ≤ delta ∧ carry k l < 10 ^ delta ∧ 10 ^ (delta - 1) ≤ carry k l := by
  have hd : 1 ≤ delta := by
    rcases Nat.eq_zero_or_pos delta with e | e
    · have := h.hi; subst e; have := Nat.one_lt_two_pow (n := k) (by omega); simp at *
    · exact e
  have p10 : ∀ n : Nat, 0 < 10 ^ n := fun n => Nat.pow_pos (by omega)
  have hlen : cut.length = k + 1 - delta := by have := h.len; omega
  have hdk : delta ≤ k + 1 := by have := h.len; omega
  by_cases hb : less l cut = true
  · rw [if_pos hb]
    refine ⟨hd, ?_, fun h2 => ?_⟩
    · have hv := less_true hl h.dig h.last hb
      rw [h.five] at hv
      unfold carry
      rw [Nat.div_lt_iff_lt_mul (p10 _)]
      have e : 10 ^ (delta - 1) * 10 ^ cut.length = 10 ^ k := by rw [← Nat.pow_add]; congr 1; omega
      refine Nat.lt_of_mul_lt_mul_right (a := 10 ^ cut.length) ?_
      calc val l * 2 ^ k * 10 ^ cut.length = val l * 10 ^ cut.length * 2 ^ k := by ac_rfl
        _ < 5 ^ k * 10 ^ l.length * 2 ^ k := Nat.mul_lt_mul_of_pos_right hv (Nat.pow_pos (by omega))
        _ = 5 ^ k * 2 ^ k * 10 ^ l.length := by ac_rfl
        _ = 10 ^ (delta - 1) * 10 ^ cut.length * 10 ^ l.length := by rw [two_five, e]
        _ = 10 ^ (delta - 1) * 10 ^ l.length * 10 ^ cut.length := by ac_rfl
    · unfold carry
      rw [Nat.le_div_iff_mul_le (p10 _)]
      have e1 : 10 ^ l.length = 10 ^ (l.length - 1) * 10 := by rw [← Nat.pow_succ]; congr 1; omega
      have e2 : 10 ^ delta = 10 ^ (delta - 2) * 10 * 10 := by rw [← Nat.pow_succ, ← Nat.pow_succ]; congr 1; omega
      have hlo := h.lo
      rw [e1]
      have hlo' : 10 ^ (delta - 2) * 10 ≤ 2 ^ k := by rw [e2] at hlo; omega
      calc 10 ^ (delta - 2) * (10 ^ (l.length - 1) * 10) = 10 ^ (delta - 2) * 10 * 10 ^ (l.length - 1) := by ac_rfl
        _ ≤ 2 ^ k * val l := Nat.mul_le_mul hlo' h0
        _ = val l * 2 ^ k := by ac_rfl
  · rw [if_neg hb]
    refine ⟨hd, Nat.lt_trans (carry_lt k hl) h.hi, ?_⟩
    have hv := less_false hl h.dig (by simpa using hb)
    rw [h.five] at hv
    unfold carry
    rw [Nat.le_div_iff_mul_le (p10 _)]
    have e : 10 ^ (delta - 1) * 10 ^ cut.length = 10 ^ k := by rw [← Nat.pow_add]; congr 1; omega
    refine Nat.le_of_mul_le_mul_right (c := 10 ^ cut.length) ?_ (p10 _)
    calc 10 ^ (delta - 1) * 10 ^ l.length * 10 ^ cut.length = 10 ^ (delta - 1) * 10 ^ cut.length * 10 ^ l.length := by ac_rfl
      _ = 5 ^ k * 10 ^ l.length * 2 ^ k := by rw [e, ← two_five]; ac_rfl
      _ ≤ val l * 10 ^ cut.length * 2 ^ k := Nat.mul_le_mul_right _ hv
      _ = val l * 2 ^ k * 10 ^ cut.length := by ac_rfl
/-- How many decimal digits a number has, at most d: how often it can be divided. -/
theorem div_lt {n d : Nat} (h : n < 10 ^ (d + 1)) : n / 10 < 10 ^ d := by
  rw [Nat.pow_succ] at h; omega
theorem le_div {n d : Nat} (h : 10 ^ (d + 1) ≤ n) : 10 ^ d ≤ n / 10 := by
  rw [Nat.pow_succ] at h; omega
end Go.Proofs.YtjagjjdkgidkjaaGreatDoor.Dm
/- Pure: what the shifts of a decimal count. -/
namespace Go.Proofs.YtjagjjdkgidkjaaGreatDoor.Sl
theorem pow_pos (k : Nat) : 0 < 2 ^ k := Nat.pow_pos (by omega)
theorem top (n k : Nat) (h : n < 10 * 2 ^ k) : n / 2 ^ k ≤ 9 := by
  have := (Nat.div_lt_iff_lt_mul (pow_pos k)).2 h
  omega
theorem top1 (n k : Nat) (h : 2 ^ k ≤ n) : 1 ≤ n / 2 ^ k := (Nat.one_le_div_iff (pow_pos k)).2 h
theorem next (n k c : Nat) (hc : c ≤ 9) : n % 2 ^ k * 10 + c < 10 * 2 ^ k := by
  have := Nat.mod_lt n (pow_pos k)
  omega
theorem grown (n k c : Nat) (hn : n < 2 ^ k) (hc : c ≤ 9) : n * 10 + c < 10 * 2 ^ k := by omega
theorem cap (k : Nat) (hk : k ≤ 60) : 2 ^ k ≤ 1152921504606846976 := by
  have := Nat.pow_le_pow_right (n := 2) (by omega) hk
  simpa using this
theorem two_dvd {k : Nat} : ∀ {g : Nat}, g ∣ 2 ^ k → g = 2 ^ k ∨ 2 * g ∣ 2 ^ k := by
  induction k with
  | zero => intro g h; left; have := Nat.le_of_dvd (by omega) h; have h0 : g ≠ 0 := by rintro rfl; simp at h
            simp at this ⊢; omega
  | succ k ih =>
    intro g h
    rcases Nat.mod_two_eq_zero_or_one g with e | e
    · obtain ⟨x, rfl⟩ : ∃ x, g = 2 * x := ⟨g / 2, by omega⟩
      have h2 : x ∣ 2 ^ k := by
        rw [Nat.pow_succ, Nat.mul_comm (2 ^ k)] at h
        exact Nat.dvd_of_mul_dvd_mul_left (by omega) h
      rcases ih h2 with r | r
      · left; rw [r, Nat.pow_succ, Nat.mul_comm]
      · right; rw [Nat.pow_succ, Nat.mul_comm (2 ^ k)]; exact Nat.mul_dvd_mul_left 2 r
    · have hc : Nat.Coprime g 2 := by
        unfold Nat.Coprime
        rw [Nat.gcd_comm, Nat.gcd_rec, e]; rfl
      have h2 : g ∣ 2 ^ k := by
        rw [Nat.pow_succ] at h
        exact hc.dvd_of_dvd_mul_right h
      right
      rw [Nat.pow_succ, Nat.mul_comm (2 ^ k)]
      exact Nat.mul_dvd_mul_left 2 h2
/-- How far a number is from being worn away. -/
def mu (k n : Nat) : Nat := if n = 0 then 0 else 2 ^ k + 1 - Nat.gcd n (2 ^ k)
theorem mu_dec (k n : Nat) (hn : n ≠ 0) : mu k (n % 2 ^ k * 10) < mu k n := by
  have hg : Nat.gcd n (2 ^ k) ≤ 2 ^ k := Nat.le_of_dvd (pow_pos k) (Nat.gcd_dvd_right ..)
  unfold mu
  rw [if_neg hn]
  by_cases h0 : n % 2 ^ k * 10 = 0
  · rw [if_pos h0]; omega
  · rw [if_neg h0]
    have d1 : Nat.gcd n (2 ^ k) ∣ n % 2 ^ k := (Nat.dvd_mod_iff (Nat.gcd_dvd_right ..)).2 (Nat.gcd_dvd_left ..)
    have d2 : 2 * Nat.gcd n (2 ^ k) ∣ n % 2 ^ k * 10 := by
      obtain ⟨x, hx⟩ := d1
      exact ⟨x * 5, by rw [hx, Nat.mul_right_comm, Nat.mul_assoc 2, ← Nat.mul_assoc]; generalize Nat.gcd n (2 ^ k) = g; rw [show (10 : Nat) = 5 * 2 from rfl]; ac_rfl⟩
    rcases two_dvd (Nat.gcd_dvd_right n (2 ^ k)) with e | e
    · exfalso
      rw [e] at d1
      have := Nat.mod_lt n (pow_pos k)
      have h1 := Nat.eq_zero_of_dvd_of_lt d1 this
      omega
    · have h3 : 2 * Nat.gcd n (2 ^ k) ∣ Nat.gcd (n % 2 ^ k * 10) (2 ^ k) := Nat.dvd_gcd d2 e
      have h4 := Nat.le_of_dvd (Nat.gcd_pos_of_pos_right _ (pow_pos k)) h3
      have h5 : 0 < Nat.gcd n (2 ^ k) := Nat.gcd_pos_of_pos_right _ (pow_pos k)
      omega
/-- What the second loop of a shift to the right keeps: n0 is what it began with, w how much is written. -/
structure Wr (k n0 n w : Nat) (f : Nat → Nat) : Prop where
  lt : n < 10 * 2 ^ k
  start : w = 0 → n = n0
  first : 0 < w → f 0 = 48 + n0 / 2 ^ k
  dig : ∀ i, i < w → 48 ≤ f i ∧ f i ≤ 57
theorem Wr.put {k n0 n w c : Nat} {f : Nat → Nat} (h : Wr k n0 n w f) (hc : c ≤ 9) : Wr k n0 (n % 2 ^ k * 10 + c) (w + 1) (fun j => if j = w then n / 2 ^ k + 48 else f j) := by
  have h9 := top n k h.lt
  refine ⟨next n k c hc, fun e => by omega, fun _ => ?_, fun i hi => ?_⟩
  · by_cases e : 0 = w
    · rw [if_pos e, h.start e.symm]; omega
    · rw [if_neg e]; exact h.first (by omega)
  · by_cases e : i = w
    · rw [if_pos e]
      generalize n / 2 ^ k = q at h9
      omega
    · rw [if_neg e]; exact h.dig i (by omega)
theorem Wr.skip {k n0 n w : Nat} {f : Nat → Nat} (h : Wr k n0 n w f) (hw : 0 < w) : Wr k n0 (n % 2 ^ k * 10) w f :=
  ⟨by have := next n k 0 (by omega); simpa using this, fun e => by omega, h.first, h.dig⟩
/-- Digits of f at i, i+1, .., as a list. -/
def lst (f : Nat → Nat) (i : Nat) : Nat → List Nat
  | 0 => []
  | m + 1 => (f i - 48) :: lst f (i + 1) m
theorem lst_len (f : Nat → Nat) : ∀ (m i : Nat), (lst f i m).length = m
  | 0, _ => rfl
  | m + 1, i => by simp [lst, lst_len f m (i + 1)]
theorem lst_dig {f : Nat → Nat} : ∀ {m i : Nat}, (∀ j, i ≤ j → j < i + m → 48 ≤ f j ∧ f j ≤ 57) → Dm.Dig (lst f i m)
  | 0, _, _ => fun d hd => by cases hd
  | m + 1, i, h => by
    intro d hd
    rcases List.mem_cons.1 hd with rfl | hd
    · have := h i (by omega) (by omega); omega
    · exact lst_dig (m := m) (i := i + 1) (fun j h1 h2 => h j (by omega) (by omega)) d hd
theorem lst_low {f : Nat → Nat} {m i : Nat} (h : 49 ≤ f i) : 10 ^ m ≤ Dm.val (lst f i (m + 1)) := by
  simp only [lst, Dm.val, lst_len]
  have : 1 * 10 ^ m ≤ (f i - 48) * 10 ^ m := Nat.mul_le_mul_right _ (by omega)
  omega
/-- What a shift to the left by k carries out of the digits from r on. -/
def cy (k : Nat) (f : Nat → Nat) (nd r : Nat) : Nat := Dm.carry k (lst f r (nd - r))
theorem cy_end (k : Nat) (f : Nat → Nat) (nd : Nat) : cy k f nd nd = 0 := by simp [cy, lst, Dm.carry_nil]
theorem cy_step (k : Nat) (f : Nat → Nat) (nd r : Nat) (h : r < nd) : cy k f nd r = (cy k f nd (r + 1) + (f r - 48) * 2 ^ k) / 10 := by
  unfold cy
  obtain ⟨m, hm⟩ : ∃ m, nd - r = m + 1 := ⟨nd - r - 1, by omega⟩
  have : nd - (r + 1) = m := by omega
  rw [hm, this]
  exact Dm.carry_cons k _ _
theorem cy_lt (k : Nat) (f : Nat → Nat) (nd r : Nat) (h : ∀ j, j < nd → 48 ≤ f j ∧ f j ≤ 57) : cy k f nd r < 2 ^ k := Dm.carry_lt k (lst_dig (fun j _ h2 => h j (by omega)))
/-- What the loop of a shift to the left has written: digits r .. nd - 1 of f have gone into r + d .. -/
structure Wl (k : Nat) (f : Nat → Nat) (nd d r : Nat) (g : Nat → Nat) : Prop where
  old : ∀ i, i < r → g i = f i
  dig : ∀ i, r + d ≤ i → i < nd + d → i < 800 → 48 ≤ g i ∧ g i ≤ 57
  zero : d = 0 → r = 0 → f 0 < g 0
theorem Wl.start (k : Nat) (f : Nat → Nat) (nd d : Nat) (h : 0 < nd) : Wl k f nd d nd f := ⟨fun _ _ => rfl, fun i h1 h2 => by omega, fun _ e => by omega⟩
/-- The number that stands behind digit r: what was carried and the digit's share. -/
def sm (k : Nat) (f : Nat → Nat) (nd r : Nat) : Nat := cy k f nd (r + 1) + (f r - 48) * 2 ^ k
theorem Wl.step {k nd d r : Nat} {f g : Nat → Nat} (hk : 1 ≤ k) (h : Wl k f nd d (r + 1) g) (hr : r < nd) (hd : ∀ j, j < nd → 48 ≤ f j ∧ f j ≤ 57) (h0 : f 0 ≠ 48) (hz : d = 0 → cy k f nd 0 = 0) : Wl k f nd d r (fun j => if j = r + d then sm k f nd r % 10 + 48 else g j) := by
  refine ⟨fun i hi => ?_, fun i h1 h2 h3 => ?_, fun e1 e2 => ?_⟩
  · rw [if_neg (by omega)]; exact h.old i (by omega)
  · by_cases e : i = r + d
    · rw [if_pos e]; omega
    · rw [if_neg e]; exact h.dig i (by omega) h2 h3
  · subst e1; subst e2
    rw [if_pos rfl]
    have h1 := hz rfl
    rw [cy_step k f nd 0 hr] at h1
    have h2 : sm k f nd 0 < 10 := by unfold sm; omega
    rw [Nat.mod_eq_of_lt h2]
    unfold sm
    have h3 := hd 0 hr
    have h4 : 2 ≤ 2 ^ k := by have := Nat.pow_le_pow_right (n := 2) (by omega) hk; simpa using this
    have h5 : (f 0 - 48) * 2 ≤ (f 0 - 48) * 2 ^ k := Nat.mul_le_mul_left _ h4
    omega
theorem Wl.skip {k nd d r : Nat} {f g : Nat → Nat} (h : Wl k f nd d (r + 1) g) (hr : 800 ≤ r + d) : Wl k f nd d r g := by
  refine ⟨fun i hi => h.old i (by omega), fun i h1 h2 h3 => by omega, fun e1 e2 => by omega⟩
theorem sm_lt {k nd r : Nat} {f : Nat → Nat} (hk : k ≤ 60) (hr : r < nd) (hd : ∀ j, j < nd → 48 ≤ f j ∧ f j ≤ 57) : sm k f nd r < 18446744073709551616 := by
  have h1 := cy_lt k f nd (r + 1) hd
  have h2 := hd r hr
  have h3 : (f r - 48) * 2 ^ k ≤ 9 * 2 ^ k := Nat.mul_le_mul_right _ (by omega)
  have h4 := cap k hk
  unfold sm
  omega
/-- What the last loop keeps: n lies below 10^w and has w digits. -/
structure We (n w : Nat) (d nd : Nat) (f0 : Nat) (g : Nat → Nat) : Prop where
  lt : n < 10 ^ w
  le : 1 ≤ w → 10 ^ (w - 1) ≤ n
  dig : ∀ i, w ≤ i → i < nd + d → i < 800 → 48 ≤ g i ∧ g i ≤ 57
  zero : d = 0 → f0 < g 0
  lead : 1 ≤ d → w = 0 → g 0 ≠ 48
  wd : w ≤ d
theorem Wl.done {k nd d : Nat} {f g : Nat → Nat} (h : Wl k f nd d 0 g) (h1 : cy k f nd 0 < 10 ^ d) (h2 : 1 ≤ d → 10 ^ (d - 1) ≤ cy k f nd 0) : We (cy k f nd 0) d d nd (f 0) g :=
  ⟨h1, h2, fun i a b c => h.dig i (by omega) b c, fun e => h.zero e rfl, fun a b => by omega, Nat.le_refl _⟩
theorem We.pos {n w d nd f0 : Nat} {g : Nat → Nat} (h : We n w d nd f0 g) (hn : 0 < n) : 1 ≤ w := by
  rcases Nat.eq_zero_or_pos w with e | e
  · have := h.lt; subst e; simp at this; omega
  · exact e
theorem We.end0 {w d nd f0 : Nat} {g : Nat → Nat} (h : We 0 w d nd f0 g) : w = 0 := by
  rcases Nat.eq_zero_or_pos w with e | e
  · exact e
  · have := h.le e; have := Nat.pow_pos (n := w - 1) (show 0 < 10 by omega); omega
theorem We.step {n w d nd f0 : Nat} {g : Nat → Nat} (h : We n (w + 1) d nd f0 g) (hn : 0 < n) : We (n / 10) w d nd f0 (fun j => if j = w then n % 10 + 48 else g j) := by
  refine ⟨Dm.div_lt h.lt, fun h1 => ?_, fun i h1 h2 h3 => ?_, fun e => ?_, fun e1 e2 => ?_, by have := h.wd; omega⟩
  · obtain ⟨v, rfl⟩ : ∃ v, w = v + 1 := ⟨w - 1, by omega⟩
    exact Dm.le_div (h.le (by omega))
  · by_cases e : i = w
    · rw [if_pos e]; omega
    · rw [if_neg e]; exact h.dig i (by omega) h2 h3
  · have := h.wd; omega
  · subst e2
    rw [if_pos rfl]
    have := h.lt
    simp at this
    omega
theorem We.skip {n w d nd f0 : Nat} {g : Nat → Nat} (h : We n (w + 1) d nd f0 g) (hw : 800 ≤ w) : We (n / 10) w d nd f0 g := by
  refine ⟨Dm.div_lt h.lt, fun h1 => ?_, fun i h1 h2 h3 => by omega, fun e => ?_, fun e1 e2 => by omega, by have := h.wd; omega⟩
  · obtain ⟨v, rfl⟩ : ∃ v, w = v + 1 := ⟨w - 1, by omega⟩
    exact Dm.le_div (h.le (by omega))
  · have := h.wd; omega
end Go.Proofs.YtjagjjdkgidkjaaGreatDoor.Sl
namespace Go.Proofs.YtjagjjdkgidkjaaGreatDoor
open Go Go.RowKit
set_option maxRecDepth 1000000
/-- The digits that a text spells. -/
def dl (s : ByteArray) : List Nat := s.data.toList.map (fun x => x.toNat - 48)
theorem dl_drop (s : ByteArray) (i : Nat) (h : i < s.size) : (dl s).drop i = ((s[i]'h).toNat - 48) :: (dl s).drop (i + 1) := by
  unfold dl
  have h2 : i < (s.data.toList.map (fun x => x.toNat - 48)).length := by simpa using h
  rw [List.drop_eq_getElem_cons h2]
  congr 1
  simp
  rfl
theorem dl_end (s : ByteArray) (i : Nat) (h : s.size ≤ i) : (dl s).drop i = [] := by
  apply List.drop_eq_nil_of_le
  unfold dl
  simpa using h
def lessAt (f : Nat → Nat) (nd : Nat) (s : ByteArray) (i : Nat) : Bool := Dm.less (Sl.lst f i (nd - i)) ((dl s).drop i)
theorem lessAt_end (f : Nat → Nat) (nd : Nat) (s : ByteArray) (i : Nat) (h : s.size ≤ i) : lessAt f nd s i = false := by
  unfold lessAt
  rw [dl_end s i h]
  cases Sl.lst f i (nd - i) <;> rfl
theorem lessAt_out (f : Nat → Nat) (nd : Nat) (s : ByteArray) (i : Nat) (h : i < s.size) (h2 : nd ≤ i) : lessAt f nd s i = true := by
  unfold lessAt
  rw [dl_drop s i h, show nd - i = 0 by omega]
  rfl
theorem lessAt_step (f : Nat → Nat) (nd : Nat) (s : ByteArray) (i : Nat) (h : i < s.size) (h2 : i < nd) : lessAt f nd s i = if f i - 48 = (s[i]'h).toNat - 48 then lessAt f nd s (i + 1) else decide (f i - 48 < (s[i]'h).toNat - 48) := by
  unfold lessAt
  rw [dl_drop s i h, show nd - i = (nd - (i + 1)) + 1 by omega]
  simp only [Sl.lst, Dm.less]
def PxRel (f : Nat → Nat) (nd : Nat) (s : ByteArray) (w : World) (v : Value) (wx : World) : Prop :=
  ∃ i : Nat, v = .int .i64 i ∧ i ≤ s.size ∧ i ≤ nd ∧ lessAt f nd s i = lessAt f nd s 0 ∧ Fr none_ w wx
set_option maxHeartbeats 4000000 in
theorem prefix293 (b cap : Nat) (f : Nat → Nat) (nd : Nat) (dp : Int) (ng tr : Bool) (s : ByteArray) (w : World) (h8 : nd ≤ 800) (hc : nd ≤ cap) (hc8 : cap ≤ 800) (hs : s.size ≤ 100) (hf : ∀ i, i < nd → 48 ≤ f i ∧ f i ≤ 57) (hg : ∀ i (h : i < s.size), 48 ≤ (s[i]'h).toNat ∧ (s[i]'h).toNat ≤ 57) (hD : DB b f nd dp ng tr w) :
    Calls Tryz.prog 293 #[.slice (some ⟨b, 0, none⟩) nd cap, .string s] w (FrOut (fun v => v = .bool (lessAt f nd s 0)) w) := by
  go_enter Tryz.func293, Tryz.ntmps293
  go_wp2
  go_loopw [5] (PxRel f nd s w) (fun v _ => s.size - (intOf v).toNat)
  case atStart => exact ⟨0, rfl, by omega, by omega, rfl, Fr.refl _ w⟩
  case round =>
    obtain ⟨i, rfl, hi, hin, hl, F⟩ := hrel
    have HL := Lib.hid hl
    clear hl
    by_cases hlt : i < s.size
    case neg =>
      go_wp2
      go_ret
      exact frOut_mk (congrArg Value.bool ((lessAt_end f nd s i (by omega)).symm.trans HL.out)) F
    by_cases hnd : i < nd
    case neg =>
      go_wp2
      go_ret
      exact frOut_mk (congrArg Value.bool ((lessAt_out f nd s i hlt (by omega)).symm.trans HL.out)) F
    have D1 := hD.fr F id
    have c4 := D1.at_ i (by omega)
    have hfi := hf i hnd
    have hgi := hg i hlt
    have hst := Lib.hid (lessAt_step f nd s i hlt hnd)
    go_upto_region 6 with fail
    go_cut [23] (fun v wx => v = .bool (!decide (f i = (s[i]'hlt).toNat)) ∧ Fr none_ w wx)
    case first =>
      by_cases e : f i = (s[i]'hlt).toNat
      · have e1 : ((f i : Int) == ((s[i]'hlt).toNat : Int)) = true := by simp [e]
        go_quiet (fail)
        go_wp2
        go_meet
        exact ⟨by simp [e], F.drewN _⟩
      · have e1 : ((f i : Int) == ((s[i]'hlt).toNat : Int)) = false := by simp; omega
        go_quiet (fail)
        go_wp2
        go_meet
        exact ⟨by simp [e]; omega, F.drewN _⟩
    case rest =>
      obtain ⟨rfl, F1⟩ := hcut
      have D2 := hD.fr F1 id
      have c5 := D2.at_ i (by omega)
      clear c4 D1 F
      by_cases e : f i = (s[i]'hlt).toNat
      · have e1 : (!decide (f i = (s[i]'hlt).toNat)) = false := by simp [e]
        rw [e1]
        go_wp2
        go_roundw
        case rel =>
          refine ⟨i + 1, by go_num, by omega, by omega, ?_, F1⟩
          rw [← HL.out, hst.out, if_pos (by rw [e])]
        case measure => simp [intOf]; omega
      · have e1 : (!decide (f i = (s[i]'hlt).toNat)) = true := by simp [e]
        rw [e1]
        go_upto_region 7 with fail
        go_cut [4] (fun v wx => v = .bool (decide (f i < (s[i]'hlt).toNat)) ∧ Fr none_ w wx)
        case first =>
          go_quiet (fail)
          go_wp2
          go_meet
          exact ⟨rfl, F1.drewN _⟩
        case rest =>
          obtain ⟨rfl, F2⟩ := hcut
          go_wp2
          go_ret
          refine frOut_mk (congrArg Value.bool ?_) F2
          rw [← HL.out, hst.out, if_neg (by omega)]
          simp only [decide_eq_decide]
          omega
end Go.Proofs.YtjagjjdkgidkjaaGreatDoor
