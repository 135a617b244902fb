/- How many bits a filter of so many keys has. -/
import Derived.Test.YtogancdiihbjfaaBkG6
namespace Go.Eng.Bk
open Go Go.Proofs Go.Eng
set_option linter.unusedVariables false
set_option linter.unusedSimpArgs false
abbrev six64 : Nat := 4634204016564240384
open Ieee in
theorem ord_num' (c k m : Nat) (s : Bool) (i : Int) : ∃ t : Nat, 0 ≤ i + (t : Int) ∧ Datum.order (.number s m i) (.number false (c * 2 ^ k) (-(k : Int))) = some (compare (if s then -((m * 2 ^ (i + (t : Int)).toNat : Nat) : Int) else ((m * 2 ^ (i + (t : Int)).toNat : Nat) : Int)) ((c * 2 ^ t : Nat) : Int)) := by
  refine ⟨(-(min i (-(k : Int)))).toNat, by omega, ?_⟩
  have e1 : ((-(k : Int)) - min i (-(k : Int))).toNat + k = (-(min i (-(k : Int)))).toNat := by omega
  have e2 : (i - min i (-(k : Int))).toNat = (i + ((-(min i (-(k : Int)))).toNat : Int)).toNat := by omega
  show some (compare (signed s m (i - min i (-(k : Int))).toNat) (signed false (c * 2 ^ k) ((-(k : Int)) - min i (-(k : Int))).toNat)) = _
  unfold signed
  rw [e2, Nat.shiftLeft_eq, Nat.shiftLeft_eq, Nat.mul_assoc, ← Nat.pow_add, Nat.add_comm k, e1]
  rfl
theorem log_lt {m a b c e : Nat} (h0 : m ≠ 0) (h : m * 2 ^ a ≤ c * 2 ^ b) (hc : c < 2 ^ e) : m.log2 + a < e + b := by
  have h1 : 2 ^ m.log2 ≤ m := Nat.log2_self_le h0
  have h2 : 2 ^ (m.log2 + a) < 2 ^ (e + b) := by
    rw [Nat.pow_add, Nat.pow_add]
    refine Nat.lt_of_le_of_lt (Nat.mul_le_mul_right _ h1) (Nat.lt_of_le_of_lt h ?_)
    exact Nat.mul_lt_mul_of_pos_right hc (Nat.two_pow_pos _)
  exact (Nat.pow_lt_pow_iff_right (by omega)).1 h2
theorem read_six : FF.read six64 = .number false (64 * 2 ^ 46) (-((46 : Nat) : Int)) := by decide +kernel
def numOk (n : Nat) : Bool := match FF.read (FloatKind.f64.nearest (n : Int)) with
  | .number false M I => (decide (-52 ≤ I) && decide (M * 2 ^ (I + 52).toNat = n * 2 ^ 52)) || M == 0
  | _ => false
theorem nums : (List.range 101).all numOk = true := by decide +kernel
open Ieee in
theorem len_num {n : Nat} (h : n ≤ 100) : ∃ M I, FF.read (FloatKind.f64.nearest (n : Int)) = .number false M I ∧ (M = 0 ∨ (-52 ≤ I ∧ M * 2 ^ (I + 52).toNat = n * 2 ^ 52)) := by
  have := List.all_eq_true.1 nums n (List.mem_range.2 (by omega))
  unfold numOk at this
  split at this
  · rename_i M I hr
    refine ⟨M, I, hr, ?_⟩
    simp only [Bool.or_eq_true, Bool.and_eq_true, decide_eq_true_eq, beq_iff_eq] at this
    exact this.symm.imp id id
  · cases this
open Ieee in
/-- The smaller one of the bits and 64. -/
theorem min64 {x : Nat} (h1 : FF.order x x = some .eq) (h2 : FF.order x one64 ≠ some .lt) : ∃ v m i t, fm2 false FloatKind.f64 x six64 = some v ∧ FF.read v = .number false m i ∧ 0 ≤ i + ((t : Nat) : Int) ∧ m * 2 ^ (i + (t : Int)).toNat ≤ 64 * 2 ^ t := by
  have nx := num_of_eq h1
  have n6 : (FF.read six64).isNaN = false := by decide +kernel
  have so := order_num nx n6
  have f3 : fm2 false FloatKind.f64 x six64 = some (minF FloatKind.f64 x six64) := by
    unfold fm2; rw [if_pos so]; rfl
  have hmin : minF FloatKind.f64 x six64 = six64 ∨ (minF FloatKind.f64 x six64 = x ∧ FF.order x six64 ≠ some .gt) := by
    unfold minF
    split
    · rename_i hlt
      exact .inr ⟨rfl, fun hh => by rw [show FloatKind.f64.format.order x six64 = FF.order x six64 from rfl, hh] at hlt; cases hlt⟩
    · split
      · exact .inl rfl
      · rename_i hgt
        split
        · exact .inr ⟨rfl, hgt⟩
        · exact .inl rfl
  rw [f3]
  rcases hmin with hmin | ⟨hmin, hgt⟩
  · rw [hmin]
    refine ⟨_, _, _, 46, rfl, read_six, by omega, ?_⟩
    rw [show (-((46 : Nat) : Int) + ((46 : Nat) : Int)).toNat = 0 from by omega, Nat.pow_zero, Nat.mul_one]
    exact Nat.le_refl _
  · rw [hmin]
    unfold Format.order at hgt h2
    rw [read_six] at hgt
    rw [read_one] at h2
    cases hd : FF.read x with
    | nan s t => rw [hd] at nx; cases nx
    | infinity s => cases s with
      | true => rw [hd] at h2; exact absurd rfl h2
      | false => rw [hd] at hgt; exact absurd rfl hgt
    | number s m i =>
      rw [hd] at hgt h2
      obtain ⟨t, ht, e⟩ := ord_num' 64 46 m s i
      obtain ⟨u, hu, f⟩ := ord_num' 1 52 m s i
      rw [e] at hgt
      rw [f] at h2
      have hgt' : ¬ _ := fun hh => hgt (congrArg some (Int.compare_eq_gt.2 hh))
      have h2' : ¬ _ := fun hh => h2 (congrArg some (Int.compare_eq_lt.2 hh))
      cases s with
      | true =>
        rw [if_pos rfl] at h2'
        have := Nat.two_pow_pos u
        omega
      | false =>
        rw [if_neg (by decide)] at hgt'
        exact ⟨x, m, i, t, rfl, hd, ht, by omega⟩
open Ieee in
theorem bits_ok {x : Nat} (h1 : FF.order x x = some .eq) (h2 : FF.order x one64 ≠ some .lt) {n : Nat} (hn : n ≤ 100) : ∃ v1 v2 k : Nat, fm2 false FloatKind.f64 x six64 = some v1 ∧ FF.mul v1 (FloatKind.f64.nearest (n : Int)) = some v2 ∧ (FF.read v2).isNaN = false ∧ k ≤ 8192 ∧ fToI FloatKind.f64 (floorF v2) IntKind.i64 = some (k : Int) := by
  obtain ⟨v1, m, i, t, e1, hr, ht, hle⟩ := min64 h1 h2
  obtain ⟨M, I, hR, hM⟩ := len_num hn
  have hmul : FF.mul v1 (FloatKind.f64.nearest (n : Int)) = some (FF.nearest (false ^^ false) (m * M) (i + I)) := by
    unfold Format.mul
    rw [hr, hR]
    rfl
  obtain ⟨r, hr2, hr3⟩ := nearest_le (mag := m * M) (place := i + I) (fun h0 => by
    rcases hM with hM | ⟨hI, hM⟩
    · rw [hM] at h0; exact absurd (Nat.mul_zero _) h0
    · have hprod : m * M * 2 ^ ((i + (t : Int)).toNat + (I + 52).toNat) ≤ 6400 * 2 ^ (t + 52) := by
        have hz := Nat.mul_le_mul hle (Nat.le_of_eq hM)
        have ez : m * 2 ^ (i + (t : Int)).toNat * (M * 2 ^ (I + 52).toNat) = m * M * 2 ^ ((i + (t : Int)).toNat + (I + 52).toNat) := by rw [Nat.pow_add]; ac_rfl
        have ez2 : 64 * 2 ^ t * (n * 2 ^ 52) = 64 * n * 2 ^ (t + 52) := by rw [Nat.pow_add]; ac_rfl
        rw [ez, ez2] at hz
        exact Nat.le_trans hz (Nat.mul_le_mul_right _ (by omega))
      have := log_lt (e := 13) h0 hprod (by decide)
      omega)
  obtain ⟨f1, k, hk, f2⟩ := floor_small hr3
  exact ⟨v1, r, k, e1, by rw [hmul, ← hr2]; rfl, f1, hk, f2⟩
end Go.Eng.Bk
