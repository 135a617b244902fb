/- FilterEdges: more bits ask no less; its function answers true. -/
import Derived.Test.YtogancdiihbjfaaBkG15
import Derived.Test.YtogancdiihbjfaaBkG13
namespace Go.Eng.Bk
open Go Go.Proofs Go.Eng
set_option linter.unusedVariables false
set_option linter.unusedSimpArgs false
def sg (s : Bool) (n : Nat) : Int := if s then -(n : Int) else (n : Int)
theorem cmp_scale (a b : Int) {z : Nat} (hz : 0 < z) : compare (a * (z : Int)) (b * (z : Int)) = compare a b := by
  have hz' : (0 : Int) < (z : Int) := by omega
  rcases Int.lt_trichotomy a b with h | h | h
  · rw [Int.compare_eq_lt.2 h, Int.compare_eq_lt.2 (Int.mul_lt_mul_of_pos_right h hz')]
  · subst h
    rw [Int.compare_eq_eq.2 rfl, Int.compare_eq_eq.2 rfl]
  · rw [Int.compare_eq_gt.2 h, Int.compare_eq_gt.2 (Int.mul_lt_mul_of_pos_right h hz')]
open Ieee in
theorem num_ord_s {s t : Bool} {m n : Nat} {i j : Int} (hi : -1074 ≤ i) (hj : -1074 ≤ j) : Datum.order (.number s m i) (.number t n j) = some (compare (sg s (m * 2 ^ (i + 1074).toNat)) (sg t (n * 2 ^ (j + 1074).toNat))) := by
  show some (compare (signed s m (i - min i j).toNat) (signed t n (j - min i j).toNat)) = _
  have e1 : (i + 1074).toNat = (i - min i j).toNat + (min i j + 1074).toNat := by omega
  have e2 : (j + 1074).toNat = (j - min i j).toNat + (min i j + 1074).toNat := by omega
  have hs : ∀ (b : Bool) (m a c : Nat), sg b (m * 2 ^ (a + c)) = signed b m a * ((2 ^ c : Nat) : Int) := by
    intro b m a c
    unfold sg signed
    rw [Nat.pow_add, ← Nat.mul_assoc, Nat.shiftLeft_eq]
    cases b with
    | true => rw [if_pos rfl, if_pos rfl, Int.natCast_mul, Int.neg_mul]
    | false => rw [if_neg (by decide), if_neg (by decide), Int.natCast_mul]
  rw [e1, e2, hs, hs, cmp_scale _ _ (Nat.two_pow_pos _)]
open Ieee in
/-- What is not below one. -/
theorem ge_one {x : Nat} {s : Bool} {m : Nat} {i : Int} (hr : FF.read x = .number s m i) (h : FF.order x one64 ≠ some .lt) : s = false ∧ -1074 ≤ i ∧ 0 < m := by
  have hi : -1074 ≤ i := by
    unfold Format.read at hr
    simp only at hr
    rw [lp64] at hr
    split at hr
    · cases hr; omega
    · split at hr
      · cases hr; omega
      · split at hr <;> cases hr
  unfold Format.order at h
  rw [hr, read_one, num_ord_s hi (by omega)] at h
  have h' : ¬ _ := fun hh => h (congrArg some (Int.compare_eq_lt.2 hh))
  have hp : 0 < 1 * 2 ^ 52 * 2 ^ (-((52 : Nat) : Int) + 1074).toNat := Nat.mul_pos (by decide) (Nat.two_pow_pos _)
  generalize 1 * 2 ^ 52 * 2 ^ (-((52 : Nat) : Int) + 1074).toNat = z at h' hp
  cases s with
  | true =>
    refine absurd ?_ h'
    unfold sg
    rw [if_pos rfl, if_neg (by decide)]
    omega
  | false =>
    refine ⟨rfl, hi, ?_⟩
    rcases Nat.eq_zero_or_pos m with h0 | h0
    · subst h0
      refine absurd ?_ h'
      unfold sg
      rw [if_neg (by decide), if_neg (by decide), Nat.zero_mul]
      omega
    · exact h0
def prbW (v : Nat) : Nat := max one64 (min twelve64 (floorF v))
open Ieee in
theorem prb_eq {x m : Nat} {i : Int} (hr : FF.read x = .number false m i) {p : Int} (hp : prb x = some p) : p = (whole (prbW (FF.nearest false (6305039478318694 * m) (-53 + i))) : Int) := by
  have hc : FF.read 4604480259023595110 = .number false 6305039478318694 (-53) := by decide +kernel
  have hmul : FF.mul 4604480259023595110 x = some (FF.nearest (false ^^ false) (6305039478318694 * m) (-53 + i)) := by
    unfold Format.mul
    rw [hc, hr]
    rfl
  have hle := nearest_le_inf (6305039478318694 * m) (-53 + i)
  unfold prb at hp
  rw [hmul, Option.bind_some, show (false ^^ false) = false from rfl] at hp
  generalize FF.nearest false (6305039478318694 * m) (-53 + i) = v at hle hp
  have hn : (FloatKind.f64.decode v).isNaN = false := by
    by_cases h1 : v = 9218868437227405312
    · rw [h1]; decide +kernel
    · obtain ⟨m, i, e, _, _⟩ := read_fin (r := v) (by omega)
      rw [show FloatKind.f64.decode v = FF.read v from rfl, e]
      rfl
  have hf := floorF_le_inf hle
  rw [if_neg (by rw [hn]; decide), Option.bind_some, minF_pos (by decide) hf, Option.bind_some, maxF_pos (by decide) (by have := Nat.min_le_right twelve64 (floorF v); omega), Option.bind_some] at hp
  exact (fToI_val (by have := Nat.min_le_right twelve64 (floorF v); show max one64 (min twelve64 (floorF v)) ≤ _; exact Nat.max_le.2 ⟨by decide, by omega⟩) hp).2
theorem prbW_mono {a b : Nat} (h : a ≤ b) (hb : b ≤ 9218868437227405312) : whole (prbW a) ≤ whole (prbW b) := by
  have := floorF_mono h hb
  refine Nat.div_le_div_right (wU_le ?_)
  unfold prbW
  generalize one64 = x
  generalize twelve64 = y
  omega
open Ieee in
theorem probes_mono {a b : Nat} (h : FF.order a b = some .lt ∨ FF.order a b = some .eq) : probes a ≤ probes b := by
  obtain ⟨pb, hpb, hpb2⟩ := probes_nat b
  by_cases h0 : probes a = 0
  · omega
  obtain ⟨h1, h2⟩ := probes_ne h0
  obtain ⟨p, hp, hp2, hp3, hp4⟩ := probes_yes h1 h2
  have h2' := h2
  unfold Format.order at h h2'
  rw [read_one] at h2'
  -- b is without end: 12
  have hinf : FF.read b = .infinity false → probes a ≤ probes b := by
    intro hb
    have e1 : FF.order b b = some .eq := by unfold Format.order; rw [hb]; rfl
    have e2 : FF.order b one64 ≠ some .lt := by unfold Format.order; rw [hb, read_one]; intro hh; cases hh
    obtain ⟨q, hq, hq2, _⟩ := probes_yes e1 e2
    rw [prb_inf hb] at hq2
    have := Option.some.inj hq2
    omega
  cases hd : FF.read a with
  | nan s t => rw [hd] at h; rcases h with h | h <;> cases h
  | infinity s =>
    cases s with
    | true => rw [hd] at h2'; exact absurd rfl h2'
    | false =>
      cases he : FF.read b with
      | nan s t => rw [hd, he] at h; rcases h with h | h <;> cases h
      | infinity s =>
        cases s with
        | true => rw [hd, he] at h; rcases h with h | h <;> cases h
        | false => exact hinf he
      | number s m i => rw [hd, he] at h; rcases h with h | h <;> cases h
  | number s m i =>
    obtain ⟨rfl, hi, hm⟩ := ge_one hd h2
    cases he : FF.read b with
    | nan s t => rw [hd, he] at h; rcases h with h | h <;> cases h
    | infinity s =>
      cases s with
      | true => rw [hd, he] at h; rcases h with h | h <;> cases h
      | false => exact hinf he
    | number t n j =>
      have hj : -1074 ≤ j := by
        have hr := he
        unfold Format.read at hr
        simp only at hr
        rw [lp64] at hr
        split at hr
        · cases hr; omega
        · split at hr
          · cases hr; omega
          · split at hr <;> cases hr
      rw [hd, he, num_ord_s hi hj] at h
      have hle : sg false (m * 2 ^ (i + 1074).toNat) ≤ sg t (n * 2 ^ (j + 1074).toNat) := by
        rcases h with h | h
        · have := Int.compare_eq_lt.1 (Option.some.inj h); omega
        · have := Int.compare_eq_eq.1 (Option.some.inj h); omega
      have hmp : 0 < m * 2 ^ (i + 1074).toNat := Nat.mul_pos hm (Nat.two_pow_pos _)
      unfold sg at hle
      cases t with
      | true =>
        rw [if_neg (by decide), if_pos rfl] at hle
        omega
      | false =>
        rw [if_neg (by decide), if_neg (by decide)] at hle
        have hle' : m * 2 ^ (i + 1074).toNat ≤ n * 2 ^ (j + 1074).toNat := by omega
        have b1 : FF.order b b = some .eq := by
          unfold Format.order
          rw [he, num_ord_s hj hj, Int.compare_eq_eq.2 rfl]
        have b2 : FF.order b one64 ≠ some .lt := by
          unfold Format.order
          rw [he, read_one, num_ord_s hj (by omega)]
          rw [hd, num_ord_s hi (by omega)] at h2'
          intro hh
          have c1 := Int.compare_eq_lt.1 (Option.some.inj hh)
          refine h2' (congrArg some (Int.compare_eq_lt.2 ?_))
          unfold sg at c1 ⊢
          rw [if_neg (by decide)] at c1 ⊢
          omega
        obtain ⟨q, hq, hq2, _⟩ := probes_yes b1 b2
        have x1 := prb_eq hd hp2
        have x2 := prb_eq he hq2
        have := prbW_mono (a := FF.nearest false (6305039478318694 * m) (-53 + i)) (b := FF.nearest false (6305039478318694 * n) (-53 + j)) (nearest_mono (t := 1127) (by omega) (by omega) (by
          have e1 : (-53 + i + ((1127 : Nat) : Int)).toNat = (i + 1074).toNat := by omega
          have e2 : (-53 + j + ((1127 : Nat) : Int)).toNat = (j + 1074).toNat := by omega
          rw [e1, e2, Nat.mul_assoc, Nat.mul_assoc]
          exact Nat.mul_le_mul_left _ hle')) (nearest_le_inf _ _)
        rw [hp, hq, x1, x2]
        exact Int.ofNat_le.2 this
end Go.Eng.Bk
