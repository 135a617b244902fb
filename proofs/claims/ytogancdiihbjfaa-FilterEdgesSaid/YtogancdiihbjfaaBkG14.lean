/- Words of floating numbers that are not below nought: their order is the words'; rounding, and what is whole below, keep the order. -/
import Derived.Test.YtogancdiihbjfaaBkG7
namespace Go.Eng.Bk
open Go Go.Proofs Go.Eng
set_option linter.unusedVariables false
set_option linter.unusedSimpArgs false
/-- A word's worth in the least unit. -/
def wU (r : Nat) : Nat := if r < 4503599627370496 then r else (4503599627370496 + r % 4503599627370496) * 2 ^ (r / 4503599627370496 - 1)
theorem wU_lt {a b : Nat} (h : a < b) : wU a < wU b := by
  unfold wU
  by_cases hb : b < 4503599627370496
  · rw [if_pos (by omega), if_pos hb]; exact h
  rw [if_neg hb]
  by_cases ha : a < 4503599627370496
  · rw [if_pos ha]
    exact Nat.lt_of_lt_of_le (show a < 4503599627370496 + b % 4503599627370496 by omega) (Nat.le_mul_of_pos_right _ (Nat.two_pow_pos _))
  rw [if_neg ha]
  by_cases hq : a / 4503599627370496 = b / 4503599627370496
  · rw [hq]
    exact Nat.mul_lt_mul_of_pos_right (by omega) (Nat.two_pow_pos _)
  · have hq2 : a / 4503599627370496 < b / 4503599627370496 := by omega
    obtain ⟨d, hd⟩ : ∃ d, b / 4503599627370496 - 1 = (a / 4503599627370496 - 1) + 1 + d := ⟨b / 4503599627370496 - a / 4503599627370496 - 1, by omega⟩
    rw [hd, Nat.pow_add, Nat.pow_succ]
    generalize hz : 2 ^ (a / 4503599627370496 - 1) = z
    have hz0 : 0 < z := by rw [← hz]; exact Nat.two_pow_pos _
    have hd0 : 0 < 2 ^ d := Nat.two_pow_pos _
    have h1 : (4503599627370496 + a % 4503599627370496) * z < (2 * 4503599627370496) * z := Nat.mul_lt_mul_of_pos_right (by omega) hz0
    have h2 : 4503599627370496 * (z * 2) ≤ (4503599627370496 + b % 4503599627370496) * (z * 2 * 2 ^ d) := Nat.mul_le_mul (by omega) (Nat.le_mul_of_pos_right _ hd0)
    omega
theorem wU_le {a b : Nat} (h : a ≤ b) : wU a ≤ wU b := by
  rcases Nat.lt_or_eq_of_le h with h | h
  · exact Nat.le_of_lt (wU_lt h)
  · rw [h]; exact Nat.le_refl _
theorem wU_cmp (a b : Nat) : compare (wU a : Int) (wU b : Int) = compare a b := by
  rcases Nat.lt_trichotomy a b with h | h | h
  · rw [Nat.compare_eq_lt.2 h, Int.compare_eq_lt]; have := wU_lt h; omega
  · subst h; rw [Nat.compare_eq_eq.2 rfl, Int.compare_eq_eq]
  · rw [Nat.compare_eq_gt.2 h, Int.compare_eq_gt]; have := wU_lt h; omega
open Ieee in
theorem read_fin {r : Nat} (h : r < 9218868437227405312) : ∃ m i, FF.read r = .number false m i ∧ -1074 ≤ i ∧ wU r = m * 2 ^ (i + 1074).toNat := by
  have hsg : r / FF.signWeight = 0 := by rw [sw]; omega
  have hmd : r % FF.signWeight = r := by rw [sw]; omega
  unfold Format.read
  simp only
  rw [hsg, hmd, bn, ir, lp64]
  unfold wU
  by_cases h1 : r < 4503599627370496
  · rw [if_pos h1, if_pos h1]
    exact ⟨_, _, rfl, by omega, by rw [show ((-1074 : Int) + 1074).toNat = 0 from rfl, Nat.pow_zero, Nat.mul_one]⟩
  · rw [if_neg h1, if_pos h, if_neg h1]
    refine ⟨_, _, rfl, by omega, ?_⟩
    rw [show ((-1074 : Int) + ((r / 4503599627370496 - 1 : Nat) : Int) + 1074).toNat = r / 4503599627370496 - 1 from by omega]
theorem read_inf : FF.read 9218868437227405312 = .infinity false := by decide +kernel
open Ieee in
theorem num_ord {m n : Nat} {i j : Int} (hi : -1074 ≤ i) (hj : -1074 ≤ j) : Datum.order (.number false m i) (.number false n j) = some (compare ((m * 2 ^ (i + 1074).toNat : Nat) : Int) ((n * 2 ^ (j + 1074).toNat : Nat) : Int)) := by
  show some (compare (signed false m (i - min i j).toNat) (signed false n (j - min i j).toNat)) = _
  unfold signed
  rw [if_neg (by decide), if_neg (by decide), Nat.shiftLeft_eq, Nat.shiftLeft_eq]
  have e1 : (i + 1074).toNat = (i - min i j).toNat + (min i j + 1074).toNat := by omega
  have e2 : (j + 1074).toNat = (j - min i j).toNat + (min i j + 1074).toNat := by omega
  rw [e1, e2, Nat.pow_add, Nat.pow_add, ← Nat.mul_assoc, ← Nat.mul_assoc]
  generalize m * 2 ^ (i - min i j).toNat = a
  generalize n * 2 ^ (j - min i j).toNat = b
  have hz := Nat.two_pow_pos (min i j + 1074).toNat
  generalize 2 ^ (min i j + 1074).toNat = z at hz
  congr 1
  rcases Nat.lt_trichotomy a b with h | h | h
  · have := Nat.mul_lt_mul_of_pos_right h hz
    rw [Int.compare_eq_lt.2 (by omega : (a : Int) < b), Int.compare_eq_lt.2 (by omega)]
  · subst h
    rw [Int.compare_eq_eq.2 rfl, Int.compare_eq_eq.2 rfl]
  · have := Nat.mul_lt_mul_of_pos_right h hz
    rw [Int.compare_eq_gt.2 (by omega : (a : Int) > b), Int.compare_eq_gt.2 (by omega)]
open Ieee in
theorem order_pos {a b : Nat} (ha : a ≤ 9218868437227405312) (hb : b ≤ 9218868437227405312) : FF.order a b = some (compare a b) := by
  unfold Format.order
  by_cases h1 : a = 9218868437227405312
  · by_cases h2 : b = 9218868437227405312
    · rw [h1, h2]; decide +kernel
    · obtain ⟨n, j, e, _, _⟩ := read_fin (r := b) (by omega)
      rw [h1, read_inf, e, Nat.compare_eq_gt.2 (show b < 9218868437227405312 by omega)]
      rfl
  · obtain ⟨m, i, e, hi, hu⟩ := read_fin (r := a) (by omega)
    by_cases h2 : b = 9218868437227405312
    · rw [h2, read_inf, e, Nat.compare_eq_lt.2 (show a < 9218868437227405312 by omega)]
      rfl
    · obtain ⟨n, j, f, hj, hv⟩ := read_fin (r := b) (by omega)
      rw [e, f, num_ord hi hj, ← hu, ← hv, wU_cmp]
theorem minF_pos {a b : Nat} (ha : a ≤ 9218868437227405312) (hb : b ≤ 9218868437227405312) : fm2 false FloatKind.f64 a b = some (min a b) := by
  have ho := order_pos ha hb
  unfold fm2
  rw [show FloatKind.f64.format.order a b = some (compare a b) from ho, if_pos (show (some (compare a b)).isSome = true from rfl), cond_false]
  unfold minF
  rw [show FloatKind.f64.format.order a b = some (compare a b) from ho]
  congr 1
  rcases Nat.lt_trichotomy a b with h | h | h
  · rw [Nat.compare_eq_lt.2 h, if_pos rfl]; omega
  · subst h
    rw [Nat.compare_eq_eq.2 rfl, if_neg (by decide), if_neg (by decide), ite_self]; omega
  · rw [Nat.compare_eq_gt.2 h, if_neg (by decide), if_pos rfl]; omega
theorem maxF_pos {a b : Nat} (ha : a ≤ 9218868437227405312) (hb : b ≤ 9218868437227405312) : fm2 true FloatKind.f64 a b = some (max a b) := by
  have ho := order_pos ha hb
  unfold fm2
  rw [show FloatKind.f64.format.order a b = some (compare a b) from ho, if_pos (show (some (compare a b)).isSome = true from rfl), cond_true]
  unfold maxF
  rw [show FloatKind.f64.format.order a b = some (compare a b) from ho]
  congr 1
  rcases Nat.lt_trichotomy a b with h | h | h
  · rw [Nat.compare_eq_lt.2 h, if_neg (by decide), if_pos rfl]; omega
  · subst h
    rw [Nat.compare_eq_eq.2 rfl, if_neg (by decide), if_neg (by decide), ite_self]; omega
  · rw [Nat.compare_eq_gt.2 h, if_pos rfl]; omega
/-! ### rounding keeps the order -/
/-- n / 2 ^ d, to the nearest, between two the even one. -/
def rn (n d : Nat) : Nat := n / 2 ^ d + (decide (2 ^ d < 2 * (n % 2 ^ d)) || (2 ^ d == 2 * (n % 2 ^ d) && n / 2 ^ d % 2 == 1)).toNat
open Ieee in
theorem cut_rn (s : Bool) (n d : Nat) : Toward.cut .even s n d = rn n d := by
  have e : Toward.cut .even s n d = rn n (min d (n.log2 + 2)) := by
    show n / (1 <<< min d (n.log2 + 2)) + Bool.toNat _ = _
    rw [Nat.shiftLeft_eq, Nat.one_mul]
    rfl
  rw [e]
  by_cases h : d ≤ n.log2 + 2
  · rw [Nat.min_eq_left h]
  · rw [Nat.min_eq_right (by omega)]
    have hn : n < 2 ^ (n.log2 + 1) := by
      by_cases h0 : n = 0
      · subst h0; exact Nat.two_pow_pos _
      · exact Nat.lt_log2_self
    have big : ∀ k, n.log2 + 2 ≤ k → rn n k = 0 := by
      intro k hk
      have h2 : 2 ^ (n.log2 + 1) * 2 ≤ 2 ^ k := by rw [← Nat.pow_succ]; exact Nat.pow_le_pow_right (by omega) (by omega)
      unfold rn
      rw [Nat.div_eq_of_lt (by omega), Nat.mod_eq_of_lt (by omega), decide_eq_false (by omega), show (2 ^ k == 2 * n) = false from beq_eq_false_iff_ne.2 (by omega)]
      rfl
    rw [big _ (Nat.le_refl _), big _ (by omega)]
theorem rn_scale (n d k : Nat) : rn (n * 2 ^ k) (d + k) = rn n d := by
  have hz := Nat.two_pow_pos k
  unfold rn
  rw [Nat.pow_add, Nat.mul_div_mul_right _ _ hz, Nat.mul_mod_mul_right]
  generalize 2 ^ k = z at hz
  generalize 2 ^ d = y
  generalize n % y = r
  have e1 : decide (y * z < 2 * (r * z)) = decide (y < 2 * r) := by
    rw [← Nat.mul_assoc]
    exact decide_eq_decide.2 (Nat.mul_lt_mul_right hz)
  have e2 : (y * z == 2 * (r * z)) = (y == 2 * r) := by
    rw [← Nat.mul_assoc]
    apply Bool.eq_iff_iff.2
    rw [beq_iff_eq, beq_iff_eq]
    exact ⟨fun h => Nat.eq_of_mul_eq_mul_right hz h, fun h => by rw [h]⟩
  rw [e1, e2]
theorem rn_mono {a b d : Nat} (h : a ≤ b) : rn a d ≤ rn b d := by
  unfold rn
  have hz := Nat.two_pow_pos d
  have h1 : a / 2 ^ d ≤ b / 2 ^ d := Nat.div_le_div_right h
  by_cases he : a / 2 ^ d = b / 2 ^ d
  · have ha := Nat.div_add_mod a (2 ^ d)
    have hb := Nat.div_add_mod b (2 ^ d)
    rw [he] at ha
    rw [he]
    have h2 : a % 2 ^ d ≤ b % 2 ^ d := by omega
    generalize 2 ^ d = z at *
    refine Nat.add_le_add_left ?_ _
    by_cases c1 : z < 2 * (b % z)
    · rw [decide_eq_true c1, Bool.true_or]; exact Bool.toNat_le _
    · rw [decide_eq_false c1, decide_eq_false (by omega), Bool.false_or, Bool.false_or]
      by_cases c2 : z = 2 * (a % z)
      · have : a % z = b % z := by omega
        rw [this]; exact Nat.le_refl _
      · rw [show (z == 2 * (a % z)) = false from beq_eq_false_iff_ne.2 c2]
        exact Nat.zero_le _
  · refine Nat.le_trans (Nat.add_le_add_left (Bool.toNat_le _) _) (Nat.le_trans (show a / 2 ^ d + 1 ≤ b / 2 ^ d by omega) (Nat.le_add_right _ _))
theorem rn_le {a d b e : Nat} (h : a * 2 ^ e ≤ b * 2 ^ d) : rn a d ≤ rn b e := by
  rw [← rn_scale a d e, ← rn_scale b e d, Nat.add_comm e d]
  exact rn_mono h
theorem rn_whole (n : Nat) : rn n 0 = n := by
  unfold rn
  rw [Nat.pow_zero, Nat.div_one, Nat.mod_one]
  rfl
end Go.Eng.Bk
