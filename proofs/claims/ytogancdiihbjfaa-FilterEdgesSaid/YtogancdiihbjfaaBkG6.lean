/- How many bits a filter has: a number that is not great. -/
import Derived.Test.YtogancdiihbjfaaBkG5
namespace Go.Eng.Bk
open Go Go.Proofs Go.Eng
set_option linter.unusedVariables false
set_option linter.unusedSimpArgs false
theorem lp64 : FF.leastPlace = -1074 := by decide +kernel
theorem fb64 : FF.fractionBits = 52 := by decide +kernel
open Ieee in
theorem even_le (s : Bool) (n drop : Nat) : Toward.cut .even s n drop ≤ n / 2 ^ min drop (n.log2 + 2) + 1 := by
  show n / (1 <<< min drop (n.log2 + 2)) + Bool.toNat _ ≤ _
  rw [Nat.shiftLeft_eq, Nat.one_mul]
  exact Nat.add_le_add_left (Bool.toNat_le _) _
open Ieee in
theorem even_zero (s : Bool) (n : Nat) : Toward.cut .even s n 0 = n := by
  show n / (1 <<< min 0 (n.log2 + 2)) + Bool.toNat _ = _
  rw [Nat.zero_min, Nat.shiftLeft_eq, Nat.pow_zero, Nat.mul_one, Nat.div_one, Nat.mod_one]
  rfl
theorem div_small {m L drop B : Nat} (hm : m < 2 ^ (L + 1)) (hd : L ≤ drop + B) (hmin : L = m.log2) : m / 2 ^ min drop (m.log2 + 2) < 2 ^ (B + 1) := by
  subst hmin
  by_cases h : drop ≤ m.log2 + 2
  · rw [Nat.min_eq_left h, Nat.div_lt_iff_lt_mul (Nat.two_pow_pos _), ← Nat.pow_add]
    exact Nat.lt_of_lt_of_le hm (Nat.pow_le_pow_right (by omega) (by omega))
  · rw [Nat.min_eq_right (by omega), Nat.div_eq_of_lt]
    · exact Nat.two_pow_pos _
    · exact Nat.lt_of_lt_of_le hm (Nat.pow_le_pow_right (by omega) (by omega))
open Ieee in
/-- What is below 2 ^ 13 has a word not above 2 ^ 13's. -/
theorem nearest_le {mag : Nat} {place : Int} (h : mag ≠ 0 → place + (mag.log2 : Int) ≤ 12) : ∃ r : Nat, FF.nearest false mag place = r ∧ r ≤ 1036 * 4503599627370496 := by
  unfold Format.nearest
  by_cases h0 : mag = 0
  · rw [if_pos h0]
    exact ⟨0, rfl, by omega⟩
  rw [if_neg h0]
  have h := h h0
  simp only [lp64, fb64, bn, ir]
  rw [show ((52 : Nat) : Int) = 52 from rfl]
  have hm : mag < 2 ^ (mag.log2 + 1) := Nat.lt_log2_self
  have hkept : Toward.cut .even false (mag <<< (place - max (place + (mag.log2 : Int) - 52) (-1074)).toNat) (max (place + (mag.log2 : Int) - 52) (-1074) - place).toNat ≤ 2 ^ 53 := by
    by_cases hp : max (place + (mag.log2 : Int) - 52) (-1074) ≤ place
    · rw [show (max (place + (mag.log2 : Int) - 52) (-1074) - place).toNat = 0 from by omega, even_zero, Nat.shiftLeft_eq]
      have h1 : mag * 2 ^ (place - max (place + (mag.log2 : Int) - 52) (-1074)).toNat < 2 ^ (mag.log2 + 1) * 2 ^ (place - max (place + (mag.log2 : Int) - 52) (-1074)).toNat := Nat.mul_lt_mul_of_pos_right hm (Nat.two_pow_pos _)
      rw [← Nat.pow_add] at h1
      exact Nat.le_trans (Nat.le_of_lt h1) (Nat.pow_le_pow_right (by omega) (by omega))
    · rw [show (place - max (place + (mag.log2 : Int) - 52) (-1074)).toNat = 0 from by omega, Nat.shiftLeft_zero]
      have h2 := even_le false mag (max (place + (mag.log2 : Int) - 52) (-1074) - place).toNat
      have h3 := div_small (B := 52) hm (drop := (max (place + (mag.log2 : Int) - 52) (-1074) - place).toNat) (by omega) rfl
      omega
  have hw : ∀ r, FF.word false r = r := fun r => rfl
  rw [hw]
  refine ⟨_, rfl, Nat.le_trans (Nat.min_le_left _ _) ?_⟩
  have : (max (place + (mag.log2 : Int) - 52) (-1074) - -1074).toNat ≤ 1034 := by omega
  have h53 : (2 : Nat) ^ 53 = 2 * 4503599627370496 := by decide
  omega
open Ieee in
theorem down_cut (n drop : Nat) : Toward.cut .down false n drop = n / 2 ^ min drop (n.log2 + 2) := by
  show n / (1 <<< min drop (n.log2 + 2)) + 0 = _
  rw [Nat.add_zero, Nat.shiftLeft_eq, Nat.one_mul]
theorem whole_back : (List.range 8193).all (fun k => (FF.read (FF.write (.number false k 0))).toInt .zero == some (k : Int)) = true := by decide +kernel
open Ieee in
theorem floor_small {r : Nat} (h : r ≤ 1036 * 4503599627370496) : (FF.read r).isNaN = false ∧ ∃ k : Nat, k ≤ 8192 ∧ fToI FloatKind.f64 (floorF r) IntKind.i64 = some (k : Int) := by
  have hsg : r / FF.signWeight = 0 := by rw [sw]; omega
  have hmd : r % FF.signWeight = r := by rw [sw]; omega
  have key : ∃ m i, FF.read r = .number false m i ∧ Toward.cut .down false (m <<< i.toNat) (-i).toNat ≤ 8192 := by
    unfold Format.read
    simp only
    rw [hsg, hmd, bn, ir, lp64]
    by_cases h1 : r < 4503599627370496
    · rw [if_pos h1]
      refine ⟨_, _, rfl, ?_⟩
      rw [down_cut, show (-1074 : Int).toNat = 0 from rfl, Nat.shiftLeft_zero, show (-(-1074) : Int).toNat = 1074 from rfl]
      have hl : r < 2 ^ (r.log2 + 1) := Nat.lt_log2_self
      have hl2 : r.log2 ≤ 52 := by
        by_cases h0 : r = 0
        · subst h0; decide
        · have := (Nat.log2_lt h0 (k := 52)).2 (by rw [show (2 : Nat) ^ 52 = 4503599627370496 from by decide]; exact h1)
          omega
      have := div_small (B := 0) hl (drop := 1074) (by omega) rfl
      omega
    · rw [if_neg h1, if_pos (by omega)]
      refine ⟨_, _, rfl, ?_⟩
      have hq : 1 ≤ r / 4503599627370496 ∧ r / 4503599627370496 ≤ 1036 := by omega
      have e1 : ((-1074 : Int) + ((r / 4503599627370496 - 1 : Nat) : Int)).toNat = 0 := by omega
      have e2 : (-((-1074 : Int) + ((r / 4503599627370496 - 1 : Nat) : Int))).toNat = 1075 - r / 4503599627370496 := by omega
      rw [e1, e2, Nat.shiftLeft_zero, down_cut]
      have hml : (4503599627370496 + r % 4503599627370496) < 2 ^ ((4503599627370496 + r % 4503599627370496).log2 + 1) := Nat.lt_log2_self
      have hll : (4503599627370496 + r % 4503599627370496).log2 ≤ 52 := by
        have := (Nat.log2_lt (n := 4503599627370496 + r % 4503599627370496) (by omega) (k := 53)).2 (by rw [show (2 : Nat) ^ 53 = 9007199254740992 from by decide]; omega)
        omega
      by_cases hq6 : r / 4503599627370496 = 1036
      · have : r = 1036 * 4503599627370496 := by omega
        subst this
        decide +kernel
      · have := div_small (B := 12) hml (drop := 1075 - r / 4503599627370496) (by omega) rfl
        have h13 : (2 : Nat) ^ (12 + 1) = 8192 := by decide
        omega
  obtain ⟨m, i, hr, hc⟩ := key
  refine ⟨by rw [hr]; rfl, _, hc, ?_⟩
  have hf : floorF r = FF.write (.number false (Toward.cut .down false (m <<< i.toNat) (-i).toNat) 0) := by
    show FF.write ((FF.read r).integral .down) = _
    rw [hr]
    rfl
  rw [hf]
  generalize Toward.cut .down false (m <<< i.toNat) (-i).toNat = k at hc ⊢
  refine fToI_of ?_ (by omega) (by omega)
  have := List.all_eq_true.1 whole_back k (List.mem_range.2 (by omega))
  exact eq_of_beq this
end Go.Eng.Bk
