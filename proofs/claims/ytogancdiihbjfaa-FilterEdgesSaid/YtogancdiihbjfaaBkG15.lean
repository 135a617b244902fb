/- Rounding to words keeps the order; what is whole below keeps it; how often a filter is asked rises with the bits. -/
import Derived.Test.YtogancdiihbjfaaBkG14
import Derived.Test.YtogancdiihbjfaaBkG12
namespace Go.Eng.Bk
open Go Go.Proofs Go.Eng
set_option linter.unusedVariables false
set_option linter.unusedSimpArgs false
theorem log_up {n : Nat} : n < 2 ^ (n.log2 + 1) := by
  by_cases h0 : n = 0
  · subst h0; exact Nat.two_pow_pos _
  · exact Nat.lt_log2_self
/-- The place of the last digit that is kept. -/
def lastP (m : Nat) (i : Int) : Int := max (i + (m.log2 : Int) - 52) (-1074)
def keptP (m : Nat) (i : Int) : Nat := rn (m * 2 ^ (i - lastP m i).toNat) (lastP m i - i).toNat
open Ieee in
theorem nearest_eq {m : Nat} (i : Int) (h : m ≠ 0) : FF.nearest false m i = min ((lastP m i + 1074).toNat * 4503599627370496 + keptP m i) 9218868437227405312 := by
  unfold Format.nearest lastP keptP
  rw [if_neg h]
  unfold lastP
  simp only [lp64, fb64, bn, ir]
  have hw : ∀ r, FF.word false r = r := fun r => rfl
  rw [hw, show ((52 : Nat) : Int) = 52 from rfl, cut_rn, Nat.shiftLeft_eq, Int.sub_neg]
open Ieee in
theorem nearest_zero (i : Int) : FF.nearest false 0 i = 0 := rfl
theorem nearest_le_inf (m : Nat) (i : Int) : FF.nearest false m i ≤ 9218868437227405312 := by
  by_cases h : m = 0
  · subst h; rw [nearest_zero]; omega
  · rw [nearest_eq i h]; exact Nat.min_le_right _ _
theorem pow_le_of {a b : Nat} (h : a ≤ b) : 2 ^ a ≤ 2 ^ b := Nat.pow_le_pow_right (by omega) h
theorem nearest_mono {m n t : Nat} {i j : Int} (hi : 0 ≤ i + (t : Int)) (hj : 0 ≤ j + (t : Int)) (h : m * 2 ^ (i + (t : Int)).toNat ≤ n * 2 ^ (j + (t : Int)).toNat) : FF.nearest false m i ≤ FF.nearest false n j := by
  by_cases h0 : m = 0
  · subst h0; rw [nearest_zero]; exact Nat.zero_le _
  have h1 : n ≠ 0 := by
    rintro rfl
    rw [Nat.zero_mul] at h
    have := Nat.mul_pos (Nat.pos_of_ne_zero h0) (Nat.two_pow_pos (i + (t : Int)).toNat)
    omega
  rw [nearest_eq i h0, nearest_eq j h1]
  have hm1 : 2 ^ m.log2 ≤ m := Nat.log2_self_le h0
  have hm2 := log_up (n := m)
  have hn1 : 2 ^ n.log2 ≤ n := Nat.log2_self_le h1
  have hn2 := log_up (n := n)
  have he : i + (m.log2 : Int) ≤ j + (n.log2 : Int) := by
    have : 2 ^ (m.log2 + (i + (t : Int)).toNat) < 2 ^ (n.log2 + 1 + (j + (t : Int)).toNat) := by
      rw [Nat.pow_add, Nat.pow_add]
      refine Nat.lt_of_le_of_lt (Nat.le_trans (Nat.mul_le_mul_right _ hm1) h) ?_
      exact Nat.mul_lt_mul_of_pos_right hn2 (Nat.two_pow_pos _)
    have := (Nat.pow_lt_pow_iff_right (a := 2) (by omega)).1 this
    omega
  have hl : lastP m i ≤ lastP n j := by unfold lastP; omega
  have hb : -1074 ≤ lastP m i := by unfold lastP; omega
  have key : (lastP m i + 1074).toNat * 4503599627370496 + keptP m i ≤ (lastP n j + 1074).toNat * 4503599627370496 + keptP n j := by
    by_cases hc : lastP m i = lastP n j
    · rw [hc]
      refine Nat.add_le_add_left ?_ _
      unfold keptP
      rw [hc]
      generalize lastP n j = l
      refine rn_le ?_
      have hz := Nat.two_pow_pos (j + (t : Int)).toNat
      refine Nat.le_of_mul_le_mul_right ?_ hz
      have e1 : m * 2 ^ (i - l).toNat * 2 ^ (l - j).toNat * 2 ^ (j + (t : Int)).toNat = m * 2 ^ (i + (t : Int)).toNat * 2 ^ ((j - l).toNat + (l - i).toNat) := by
        rw [Nat.mul_assoc, Nat.mul_assoc, Nat.mul_assoc, ← Nat.pow_add, ← Nat.pow_add, ← Nat.pow_add]
        congr 2
        omega
      have e2 : n * 2 ^ (j - l).toNat * 2 ^ (l - i).toNat * 2 ^ (j + (t : Int)).toNat = n * 2 ^ (j + (t : Int)).toNat * 2 ^ ((j - l).toNat + (l - i).toNat) := by
        rw [Nat.mul_assoc, Nat.mul_assoc, Nat.mul_assoc, ← Nat.pow_add, ← Nat.pow_add, ← Nat.pow_add]
        congr 2
        omega
      rw [e1, e2]
      exact Nat.mul_le_mul_right _ h
    · have k2 : 2 ^ 52 ≤ keptP n j := by
        unfold keptP
        rw [← rn_whole (2 ^ 52)]
        refine rn_le ?_
        rw [Nat.pow_zero, Nat.mul_one, ← Nat.pow_add]
        have e : 52 + (lastP n j - j).toNat = n.log2 + (j - lastP n j).toNat := by unfold lastP at *; omega
        rw [e, Nat.pow_add]
        exact Nat.mul_le_mul_right _ hn1
      have k1 : keptP m i ≤ 2 ^ 53 := by
        unfold keptP
        rw [← rn_whole (2 ^ 53)]
        refine rn_le ?_
        rw [Nat.pow_zero, Nat.mul_one, ← Nat.pow_add]
        have e : m.log2 + 1 + (i - lastP m i).toNat ≤ 53 + (lastP m i - i).toNat := by unfold lastP; omega
        refine Nat.le_trans (Nat.mul_le_mul_right _ (Nat.le_of_lt hm2)) ?_
        rw [← Nat.pow_add]
        exact pow_le_of e
      have h53 : (2 : Nat) ^ 53 = 2 * 4503599627370496 := by decide
      have h52 : (2 : Nat) ^ 52 = 4503599627370496 := by decide
      rw [h53] at k1
      rw [h52] at k2
      omega
  exact Nat.le_min.2 ⟨Nat.le_trans (Nat.min_le_left _ _) key, Nat.min_le_right _ _⟩
/-! ### whole numbers below -/
theorem div_min (n d : Nat) : n / 2 ^ min d (n.log2 + 2) = n / 2 ^ d := by
  by_cases h : d ≤ n.log2 + 2
  · rw [Nat.min_eq_left h]
  · rw [Nat.min_eq_right (by omega)]
    have h1 := log_up (n := n)
    rw [Nat.div_eq_of_lt (Nat.lt_of_lt_of_le h1 (pow_le_of (by omega))), Nat.div_eq_of_lt (Nat.lt_of_lt_of_le h1 (pow_le_of (by omega)))]
theorem div_unitK {m K : Nat} {i : Int} (hi : -(K : Int) ≤ i) : m * 2 ^ i.toNat / 2 ^ (-i).toNat = m * 2 ^ (i + (K : Int)).toNat / 2 ^ K := by
  obtain ⟨c, hc1, hc2⟩ : ∃ c, (i + (K : Int)).toNat = i.toNat + c ∧ K = (-i).toNat + c := ⟨(i + (K : Int)).toNat - i.toNat, by omega, by omega⟩
  have e2 : (2 : Nat) ^ K = 2 ^ ((-i).toNat + c) := congrArg (fun z => (2 : Nat) ^ z) hc2
  rw [hc1, e2, Nat.pow_add, Nat.pow_add, ← Nat.mul_assoc, Nat.mul_div_mul_right _ _ (Nat.two_pow_pos _)]
theorem div_unit {m : Nat} {i : Int} (hi : -1074 ≤ i) : m * 2 ^ i.toNat / 2 ^ (-i).toNat = m * 2 ^ (i + 1074).toNat / 2 ^ 1074 := div_unitK (K := 1074) hi
abbrev whole (r : Nat) : Nat := wU r / 2 ^ 1074
open Ieee in
theorem floorF_eq {r : Nat} (h : r < 9218868437227405312) : floorF r = FF.nearest false (whole r) 0 := by
  obtain ⟨m, i, e, hi, hu⟩ := read_fin h
  show FF.write ((FF.read r).integral .down) = _
  rw [e]
  show FF.nearest false (Toward.cut .down false (m <<< i.toNat) (-i).toNat) 0 = _
  rw [down_cut, div_min, Nat.shiftLeft_eq, div_unit hi, ← hu]
theorem floorF_inf : floorF 9218868437227405312 = 9218868437227405312 := by decide +kernel
theorem floorF_le_inf {r : Nat} (h : r ≤ 9218868437227405312) : floorF r ≤ 9218868437227405312 := by
  by_cases h1 : r = 9218868437227405312
  · rw [h1, floorF_inf]; exact Nat.le_refl _
  · rw [floorF_eq (by omega)]; exact nearest_le_inf _ _
theorem floorF_mono {a b : Nat} (h : a ≤ b) (hb : b ≤ 9218868437227405312) : floorF a ≤ floorF b := by
  by_cases h1 : b = 9218868437227405312
  · rw [h1, floorF_inf]; exact floorF_le_inf (by omega)
  · rw [floorF_eq (by omega), floorF_eq (by omega)]
    refine nearest_mono (t := 0) (by omega) (by omega) ?_
    exact Nat.mul_le_mul_right _ (Nat.div_le_div_right (wU_le h))
open Ieee in
theorem toInt_fin {r : Nat} (h : r < 9218868437227405312) : (FF.read r).toInt .zero = some (whole r : Int) := by
  obtain ⟨m, i, e, hi, hu⟩ := read_fin h
  rw [e]
  show some (signed false (Toward.cut .zero false (m <<< i.toNat) (-i).toNat) 0) = _
  rw [cut_zero, div_min, Nat.shiftLeft_eq, div_unit hi, ← hu]
  rfl
theorem fToI_val {r : Nat} {k : Int} (h : r ≤ 9218868437227405312) (hk : fToI FloatKind.f64 r IntKind.i64 = some k) : r < 9218868437227405312 ∧ k = (whole r : Int) := by
  unfold fToI at hk
  by_cases h1 : r = 9218868437227405312
  · subst h1
    rw [show (FloatKind.f64.decode 9218868437227405312).toInt .zero = none from by decide +kernel] at hk
    cases hk
  · refine ⟨by omega, ?_⟩
    rw [show (FloatKind.f64.decode r).toInt .zero = some (whole r : Int) from toInt_fin (by omega)] at hk
    simp only at hk
    split at hk
    · exact (Option.some.inj hk).symm
    · cases hk
/-! ### how many bits -/
def numOk2 (n : Nat) : Bool := match FF.read (FloatKind.f64.nearest (n : Int)) with
  | .number false M I => decide (-52 ≤ I) && decide (M * 2 ^ (I + 52).toNat = n * 2 ^ 52)
  | _ => false
theorem nums2 : (List.range 100).all (fun n => numOk2 (n + 1)) = true := by decide +kernel
open Ieee in
theorem len_num2 {n : Nat} (h0 : 0 < n) (h : n ≤ 100) : ∃ M I, FF.read (FloatKind.f64.nearest (n : Int)) = .number false M I ∧ -52 ≤ I ∧ M * 2 ^ (I + 52).toNat = n * 2 ^ 52 := by
  have := List.all_eq_true.1 nums2 (n - 1) (List.mem_range.2 (by omega))
  rw [show n - 1 + 1 = n from by omega] at this
  unfold numOk2 at this
  split at this
  · rename_i M I hr
    simp only [Bool.and_eq_true, decide_eq_true_eq] at this
    exact ⟨M, I, hr, this⟩
  · cases this
open Ieee in
theorem bitsK_mono {x n n' : Nat} (h : probes x ≠ 0) (hn : n ≤ n') (hn' : n' ≤ 100) : bitsK x n ≤ bitsK x n' := by
  by_cases h0 : n' = 0
  · have : n = n' := by omega
    rw [this]; exact Nat.le_refl _
  obtain ⟨h1, h2⟩ := probes_ne h
  obtain ⟨v1, v2, kk, f1, f2, f3, f4, f5⟩ := bits_ok h1 h2 (show n ≤ 100 by omega)
  obtain ⟨v1', v2', kk', g1, g2, g3, g4, g5⟩ := bits_ok h1 h2 hn'
  have e1 : v1' = v1 := Option.some.inj (g1.symm.trans f1)
  subst e1
  have a1 : bitsK x n = kk := by unfold bitsK; rw [f1, Option.bind_some, f2, Option.bind_some, f5]; rfl
  have a2 : bitsK x n' = kk' := by unfold bitsK; rw [f1, Option.bind_some, g2, Option.bind_some, g5]; rfl
  rw [a1, a2]
  obtain ⟨w, m, i, t, e2, hr, ht, hle⟩ := min64 h1 h2
  have e3 : w = v1' := Option.some.inj (e2.symm.trans f1)
  subst e3
  obtain ⟨M, I, hR, hM⟩ := len_num (show n ≤ 100 by omega)
  obtain ⟨M', I', hR', hI', hM'⟩ := len_num2 (Nat.pos_of_ne_zero h0) hn'
  have hmul : FF.mul w (FloatKind.f64.nearest (n : Int)) = some (FF.nearest (false ^^ false) (m * M) (i + I)) := by
    unfold Format.mul
    rw [hr, hR]
    rfl
  have hmul' : FF.mul w (FloatKind.f64.nearest (n' : Int)) = some (FF.nearest (false ^^ false) (m * M') (i + I')) := by
    unfold Format.mul
    rw [hr, hR']
    rfl
  have q1 : v2 = FF.nearest false (m * M) (i + I) := Option.some.inj (f2.symm.trans hmul)
  have q2 : v2' = FF.nearest false (m * M') (i + I') := Option.some.inj (g2.symm.trans hmul')
  have hv : v2 ≤ v2' := by
    rw [q1, q2]
    rcases hM with hM | ⟨hI, hM⟩
    · rw [hM, Nat.mul_zero, nearest_zero]; exact Nat.zero_le _
    · refine nearest_mono (t := t + 52) (by omega) (by omega) ?_
      have e1 : (i + I + ((t + 52 : Nat) : Int)).toNat = (i + (t : Int)).toNat + (I + 52).toNat := by omega
      have e2 : (i + I' + ((t + 52 : Nat) : Int)).toNat = (i + (t : Int)).toNat + (I' + 52).toNat := by omega
      rw [e1, e2, Nat.pow_add, Nat.pow_add]
      have z1 : m * M * (2 ^ (i + (t : Int)).toNat * 2 ^ (I + 52).toNat) = m * 2 ^ (i + (t : Int)).toNat * (M * 2 ^ (I + 52).toNat) := by ac_rfl
      have z2 : m * M' * (2 ^ (i + (t : Int)).toNat * 2 ^ (I' + 52).toNat) = m * 2 ^ (i + (t : Int)).toNat * (M' * 2 ^ (I' + 52).toNat) := by ac_rfl
      rw [z1, z2, hM, hM']
      exact Nat.mul_le_mul_left _ (Nat.mul_le_mul_right _ hn)
  have b1 : v2 ≤ 9218868437227405312 := by rw [q1]; exact nearest_le_inf _ _
  have b2 : v2' ≤ 9218868437227405312 := by rw [q2]; exact nearest_le_inf _ _
  have c1 := fToI_val (floorF_le_inf b1) f5
  have c2 := fToI_val (floorF_le_inf b2) g5
  rw [Int.ofNat.inj c1.2, Int.ofNat.inj c2.2]
  exact Nat.div_le_div_right (wU_le (floorF_mono hv b2))
end Go.Eng.Bk
