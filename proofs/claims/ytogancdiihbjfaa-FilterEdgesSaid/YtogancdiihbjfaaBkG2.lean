/- Floating numbers: what is not no number stays so; truncation between two bounds; how often a filter is asked. -/
import Derived.Test.YtogancdiihbjfaaBkG1
namespace Go.Eng.Bk
open Go Go.Proofs Go.Eng
set_option linter.unusedVariables false
set_option linter.unusedSimpArgs false
open Ieee in
theorem cut_zero (s : Bool) (n drop : Nat) : Toward.cut .zero s n drop = n / 2 ^ min drop (n.log2 + 2) := by
  show n / (1 <<< min drop (n.log2 + 2)) + 0 = _
  rw [Nat.add_zero, Nat.shiftLeft_eq, Nat.one_mul]
open Ieee in
theorem trunc_le {s : Bool} {m : Nat} {i : Int} {c t : Nat} (ht : 0 ≤ i + (t : Int)) (h : m * 2 ^ (i + (t : Int)).toNat ≤ c * 2 ^ t) : Toward.cut .zero s (m <<< i.toNat) (-i).toNat ≤ c := by
  rw [cut_zero, Nat.shiftLeft_eq]
  rcases Int.eq_nat_or_neg i with ⟨j, rfl | rfl⟩
  · have e1 : ((j : Int) + (t : Int)).toNat = j + t := by omega
    rw [e1, Nat.pow_add, ← Nat.mul_assoc] at h
    have h2 : m * 2 ^ j ≤ c := Nat.le_of_mul_le_mul_right h (Nat.two_pow_pos t)
    rw [Int.toNat_natCast]
    exact Nat.le_trans (Nat.div_le_self _ _) h2
  · have e1 : (-(j : Int) + (t : Int)).toNat = t - j := by omega
    have e2 : (-(j : Int)).toNat = 0 := by omega
    have e3 : (-(-(j : Int))).toNat = j := by omega
    rw [e1] at h
    rw [e2, e3, Nat.pow_zero, Nat.mul_one]
    have h2 : m ≤ c * 2 ^ j := by
      have : c * 2 ^ t = c * 2 ^ j * 2 ^ (t - j) := by rw [Nat.mul_assoc, ← Nat.pow_add]; congr 2; omega
      rw [this] at h
      exact Nat.le_of_mul_le_mul_right h (Nat.two_pow_pos _)
    by_cases hj : j ≤ m.log2 + 2
    · rw [Nat.min_eq_left hj]
      exact Nat.div_le_of_le_mul (by rw [Nat.mul_comm]; exact h2)
    · rw [Nat.min_eq_right (by omega), Nat.div_eq_of_lt]
      · exact Nat.zero_le _
      · by_cases h0 : m = 0
        · subst h0; exact Nat.two_pow_pos _
        · exact Nat.lt_of_lt_of_le (Nat.lt_log2_self) (Nat.pow_le_pow_right (by omega) (by omega))
open Ieee in
theorem le_trunc {s : Bool} {m : Nat} {i : Int} {c t : Nat} (hc : 1 ≤ c) (ht : 0 ≤ i + (t : Int)) (h : c * 2 ^ t ≤ m * 2 ^ (i + (t : Int)).toNat) : c ≤ Toward.cut .zero s (m <<< i.toNat) (-i).toNat := by
  rw [cut_zero, Nat.shiftLeft_eq]
  rcases Int.eq_nat_or_neg i with ⟨j, rfl | rfl⟩
  · have e1 : ((j : Int) + (t : Int)).toNat = j + t := by omega
    have e2 : (-(j : Int)).toNat = 0 := by omega
    rw [e1, Nat.pow_add, ← Nat.mul_assoc] at h
    have h2 : c ≤ m * 2 ^ j := Nat.le_of_mul_le_mul_right h (Nat.two_pow_pos t)
    rw [Int.toNat_natCast, e2, Nat.zero_min, Nat.pow_zero, Nat.div_one]
    exact h2
  · have e1 : (-(j : Int) + (t : Int)).toNat = t - j := by omega
    have e2 : (-(j : Int)).toNat = 0 := by omega
    have e3 : (-(-(j : Int))).toNat = j := by omega
    rw [e1] at h
    rw [e2, e3, Nat.pow_zero, Nat.mul_one]
    have h2 : c * 2 ^ j ≤ m := by
      have : c * 2 ^ t = c * 2 ^ j * 2 ^ (t - j) := by rw [Nat.mul_assoc, ← Nat.pow_add]; congr 2; omega
      rw [this] at h
      exact Nat.le_of_mul_le_mul_right h (Nat.two_pow_pos _)
    have hj : j ≤ m.log2 + 2 := by
      have h3 : 2 ^ j ≤ m := Nat.le_trans (Nat.le_mul_of_pos_left _ hc) h2
      have h4 : m < 2 ^ (m.log2 + 1) := Nat.lt_log2_self
      have := (Nat.pow_lt_pow_iff_right (a := 2) (by omega)).1 (Nat.lt_of_le_of_lt h3 h4)
      omega
    rw [Nat.min_eq_left hj]
    exact (Nat.le_div_iff_mul_le (Nat.two_pow_pos _)).2 h2
open Ieee in
/-- A whole number against another one, in so many units. -/
theorem ord_num (c k m : Nat) (s : Bool) (i : Int) : ∃ t : Nat, 0 ≤ i + (t : Int) ∧ Datum.order (.number false (c * 2 ^ k) (-(k : Int))) (.number s m i) = some (compare ((c * 2 ^ t : Nat) : Int) (if s then -((m * 2 ^ (i + (t : Int)).toNat : Nat) : Int) else ((m * 2 ^ (i + (t : Int)).toNat : Nat) : Int))) := by
  refine ⟨(-(min (-(k : Int)) i)).toNat, by omega, ?_⟩
  have e1 : ((-(k : Int)) - min (-(k : Int)) i).toNat + k = (-(min (-(k : Int)) i)).toNat := by omega
  have e2 : (i - min (-(k : Int)) i).toNat = (i + ((-(min (-(k : Int)) i)).toNat : Int)).toNat := by omega
  show some (compare (signed false (c * 2 ^ k) ((-(k : Int)) - min (-(k : Int)) i).toNat) (signed s m (i - min (-(k : Int)) i).toNat)) = _
  unfold signed
  rw [e2, Nat.shiftLeft_eq, Nat.shiftLeft_eq, Nat.mul_assoc, ← Nat.pow_add, Nat.add_comm k, e1]
  rfl
abbrev FF : Ieee.Format := FloatKind.f64.format
abbrev one64 : Nat := 4607182418800017408
abbrev twelve64 : Nat := 4622945017495814144
theorem read_one : FF.read one64 = .number false (1 * 2 ^ 52) (-((52 : Nat) : Int)) := by decide +kernel
theorem read_twelve : FF.read twelve64 = .number false (12 * 2 ^ 49) (-((49 : Nat) : Int)) := by decide +kernel
open Ieee in
theorem between {d : Datum} (h1 : (FF.read one64).order d = some .lt) (h12 : (FF.read twelve64).order d ≠ some .lt) (hn : d.isNaN = false) : ∃ p : Nat, d.toInt .zero = some (p : Int) ∧ 1 ≤ p ∧ p ≤ 12 := by
  cases d with
  | nan s t => cases hn
  | infinity s =>
    rw [read_one] at h1
    rw [read_twelve] at h12
    cases s with
    | true => cases h1
    | false => exact absurd rfl h12
  | number s m i =>
    rw [read_one] at h1
    rw [read_twelve] at h12
    obtain ⟨t, ht, e⟩ := ord_num 1 52 m s i
    obtain ⟨u, hu, f⟩ := ord_num 12 49 m s i
    rw [e] at h1
    rw [f] at h12
    have h1' := Int.compare_eq_lt.1 (Option.some.inj h1)
    have h12' : ¬ _ := fun hh => h12 (congrArg some (Int.compare_eq_lt.2 hh))
    cases s with
    | true =>
      rw [if_pos rfl] at h1'
      omega
    | false =>
      rw [if_neg (by decide)] at h1' h12'
      refine ⟨_, rfl, le_trunc (s := false) (t := t) (by omega) ht (by omega), trunc_le (s := false) (t := u) hu (by omega)⟩
theorem sw : FF.signWeight = 9223372036854775808 := by decide +kernel
theorem ir : FF.infRung = 9218868437227405312 := by decide +kernel
theorem bn : FF.binade = 4503599627370496 := by decide +kernel
open Ieee in
theorem read_word (s : Bool) {r : Nat} (h : r ≤ FF.infRung) : (FF.read (FF.word s r)).isNaN = false := by
  have h1 : FF.word s r % FF.signWeight = r := by
    unfold Format.word
    rw [sw]
    rw [ir] at h
    split <;> omega
  unfold Format.read
  simp only
  rw [h1]
  split
  · rfl
  · split
    · rfl
    · split
      · rfl
      · omega
open Ieee in
theorem read_write {d : Datum} (h : d.isNaN = false) : (FF.read (FF.write d)).isNaN = false := by
  cases d with
  | nan s t => cases h
  | infinity s => exact read_word s (Nat.le_refl _)
  | number s m i =>
    show (FF.read (FF.nearest s m i)).isNaN = false
    unfold Format.nearest
    split
    · exact read_word s (Nat.zero_le _)
    · simp only
      exact read_word s (Nat.min_le_right _ _)
open Ieee in
theorem floor_num {x : Nat} (h : (FF.read x).isNaN = false) : (FF.read (floorF x)).isNaN = false := by
  refine read_write (d := (FF.read x).integral .down) ?_
  cases hd : FF.read x with
  | nan s t => rw [hd] at h; cases h
  | infinity s => rfl
  | number s m i => rfl
open Ieee in
theorem order_num {a b : Nat} (ha : (FF.read a).isNaN = false) (hb : (FF.read b).isNaN = false) : (FF.order a b).isSome = true := by
  unfold Format.order
  cases h1 : FF.read a with
  | nan s t => rw [h1] at ha; cases ha
  | infinity s => cases h2 : FF.read b with
    | nan s t => rw [h2] at hb; cases hb
    | infinity t => rfl
    | number t n j => rfl
  | number s m i => cases h2 : FF.read b with
    | nan s t => rw [h2] at hb; cases hb
    | infinity t => rfl
    | number t n j => rfl
open Ieee in
theorem num_of_eq {x : Nat} (h : FF.order x x = some .eq) : (FF.read x).isNaN = false := by
  unfold Format.order at h
  cases hd : FF.read x with
  | nan s t => rw [hd] at h; cases h
  | infinity s => rfl
  | number s m i => rfl
/-- How often: the rest behind the looks at what the bits are. -/
def prb (x : Nat) : Option Int := (FF.mul (4604480259023595110 : Nat) x).bind fun v2 => (if (FloatKind.f64.decode v2).isNaN then none else some (floorF v2)).bind fun v3 => (fm2 false FloatKind.f64 twelve64 v3).bind fun v4 => (fm2 true FloatKind.f64 one64 v4).bind fun v5 => fToI FloatKind.f64 v5 IntKind.i64
theorem read_c7 : ∃ m i, FF.read 4604480259023595110 = .number false m i ∧ m ≠ 0 := ⟨6305039478318694, -53, by decide +kernel, by decide⟩
open Ieee in
theorem mul_num {x : Nat} (h : (FF.read x).isNaN = false) : ∃ v, FF.mul 4604480259023595110 x = some v ∧ (FF.read v).isNaN = false := by
  obtain ⟨m, i, hc, hm⟩ := read_c7
  unfold Format.mul
  rw [hc]
  cases hd : FF.read x with
  | nan s t => rw [hd] at h; cases h
  | infinity s =>
    refine ⟨FF.write (Datum.infinity (s ^^ false)), ?_, read_write rfl⟩
    show Option.map FF.write (if m = 0 then none else some (Datum.infinity (s ^^ false))) = some (FF.write (Datum.infinity (s ^^ false)))
    rw [if_neg hm]
    rfl
  | number s n j => exact ⟨_, rfl, read_write rfl⟩
theorem fToI_of {v : Nat} {p : Int} (h : (FF.read v).toInt .zero = some p) (h1 : -9223372036854775808 ≤ p) (h2 : p ≤ 9223372036854775807) : fToI FloatKind.f64 v IntKind.i64 = some p := by
  unfold fToI
  have h' : (FloatKind.f64.decode v).toInt .zero = some p := h
  rw [h']
  simp only
  rw [if_pos]
  rw [show IntKind.i64.min = -9223372036854775808 from by decide, show IntKind.i64.max = 9223372036854775807 from by decide]
  exact ⟨h1, h2⟩
theorem prb_ok {x : Nat} (h : (FF.read x).isNaN = false) : ∃ p : Nat, prb x = some (p : Int) ∧ 1 ≤ p ∧ p ≤ 12 := by
  obtain ⟨v2, e2, n2⟩ := mul_num h
  have n3 := floor_num n2
  have n12 : (FF.read twelve64).isNaN = false := by decide +kernel
  have n1 : (FF.read one64).isNaN = false := by decide +kernel
  unfold prb
  rw [e2, Option.bind_some, if_neg (by rw [show (FloatKind.f64.decode v2).isNaN = (FF.read v2).isNaN from rfl, n2]; decide), Option.bind_some]
  generalize floorF v2 = v3 at n3 ⊢
  have s3 := order_num n12 n3
  have f3 : fm2 false FloatKind.f64 twelve64 v3 = some (minF FloatKind.f64 twelve64 v3) := by
    unfold fm2; rw [if_pos s3]; rfl
  rw [f3, Option.bind_some]
  have hmin : minF FloatKind.f64 twelve64 v3 = twelve64 ∨ (minF FloatKind.f64 twelve64 v3 = v3 ∧ FF.order twelve64 v3 ≠ some .lt) := by
    unfold minF
    split
    · exact .inl rfl
    · rename_i hne
      split
      · exact .inr ⟨rfl, hne⟩
      · split
        · exact .inl rfl
        · exact .inr ⟨rfl, hne⟩
  have t1 : fToI FloatKind.f64 one64 IntKind.i64 = some ((1 : Nat) : Int) := by decide +kernel
  have t12 : fToI FloatKind.f64 twelve64 IntKind.i64 = some ((12 : Nat) : Int) := by decide +kernel
  rcases hmin with hmin | ⟨hmin, hlt⟩
  · rw [hmin]
    have f4 : fm2 true FloatKind.f64 one64 twelve64 = some twelve64 := by decide +kernel
    rw [f4, Option.bind_some]
    exact ⟨12, t12, by omega, by omega⟩
  · rw [hmin]
    have s4 := order_num n1 n3
    have f4 : fm2 true FloatKind.f64 one64 v3 = some (maxF FloatKind.f64 one64 v3) := by
      unfold fm2; rw [if_pos s4]; rfl
    rw [f4, Option.bind_some]
    have hd1 : (FloatKind.f64.decode one64).neg = false := by decide +kernel
    have hmax : maxF FloatKind.f64 one64 v3 = one64 ∨ (maxF FloatKind.f64 one64 v3 = v3 ∧ FF.order one64 v3 = some .lt) := by
      unfold maxF
      split
      · exact .inl rfl
      · split
        · rename_i h1
          exact .inr ⟨rfl, h1⟩
        · rw [hd1, if_neg (by decide)]
          exact .inl rfl
    rcases hmax with hmax | ⟨hmax, hgt⟩
    · rw [hmax]
      exact ⟨1, t1, by omega, by omega⟩
    · rw [hmax]
      obtain ⟨p, hp, p1, p2⟩ := between (d := FF.read v3) hgt hlt n3
      exact ⟨p, fToI_of hp (by omega) (by omega), p1, p2⟩
end Go.Eng.Bk
