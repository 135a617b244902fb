/- How often a filter is asked, the program's and the document's. -/
import Derived.Test.YtogancdiihbjfaaBkG2
namespace Go.Eng.Bk
open Go Go.Proofs Go.Eng
set_option linter.unusedVariables false
set_option linter.unusedSimpArgs false
def probes (x : Nat) : Int := if FF.order x x = some .eq ∧ FF.order x one64 ≠ some .lt then (prb x).getD 0 else 0
theorem probes_yes {x : Nat} (h1 : FF.order x x = some .eq) (h2 : FF.order x one64 ≠ some .lt) : ∃ p : Nat, probes x = (p : Int) ∧ prb x = some (p : Int) ∧ 1 ≤ p ∧ p ≤ 12 := by
  obtain ⟨p, hp, h3, h4⟩ := prb_ok (num_of_eq h1)
  exact ⟨p, by unfold probes; rw [if_pos ⟨h1, h2⟩, hp]; rfl, hp, h3, h4⟩
theorem probes_nat (x : Nat) : ∃ p : Nat, probes x = (p : Int) ∧ p ≤ 12 := by
  by_cases h : FF.order x x = some .eq ∧ FF.order x one64 ≠ some .lt
  · obtain ⟨p, h1, _, _, h2⟩ := probes_yes h.1 h.2
    exact ⟨p, h1, h2⟩
  · exact ⟨0, by unfold probes; rw [if_neg h]; rfl, by omega⟩
/-- The tail of the functions, with the calls done. -/
theorem prb_tree {k : Nat} (hk : 3 ≤ k) {x : Nat} (h : (FF.read x).isNaN = false) : ((FloatKind.f64.format.mul (4604480259023595110 : Nat) x).bind fun (v1 : Nat) => ((callN B k 59 [(.v (.flt .f64) (v1))]) : Option Nat).bind fun (v2 : Nat) => (fm2 false FloatKind.f64 (4622945017495814144 : Nat) v2).bind fun (v3 : Nat) => (fm2 true FloatKind.f64 (4607182418800017408 : Nat) v3).bind fun (v4 : Nat) => (fToI FloatKind.f64 v4 IntKind.i64).bind fun (v5 : Int) => some (v5)) = prb x := by
  obtain ⟨v2, e2, n2⟩ := mul_num h
  unfold prb
  have e2' : FloatKind.f64.format.mul (4604480259023595110 : Nat) x = some v2 := e2
  rw [e2', Option.bind_some, Option.bind_some]
  refine (bnd (s59 (by omega) n2) rfl).trans ?_
  rw [if_neg (by rw [show (FloatKind.f64.decode v2).isNaN = (FF.read v2).isNaN from rfl, n2]; decide), Option.bind_some]
  congr 1
  funext v3
  congr 1
  funext v4
  generalize fToI FloatKind.f64 v4 IntKind.i64 = o
  cases o <;> rfl
open Ieee in
theorem read_bound {x : Nat} {s : Bool} {m : Nat} {i : Int} (h : FF.read x = .number s m i) : m < 9007199254740992 ∧ i ≤ 971 := by
  unfold Format.read at h
  simp only at h
  rw [bn, ir] at h
  have lp : FF.leastPlace = -1074 := by decide +kernel
  rw [lp] at h
  split at h
  · cases h; omega
  · split at h
    · cases h; omega
    · split at h <;> cases h
open Ieee in
theorem inf_of {x : Nat} (h : FF.order x 9218868437227405311 = some .gt) : FF.read x = .infinity false := by
  unfold Format.order at h
  have hm : FF.read 9218868437227405311 = .number false 9007199254740991 971 := by decide +kernel
  rw [hm] at h
  cases hd : FF.read x with
  | nan s t => rw [hd] at h; cases h
  | infinity s => cases s with
    | true => rw [hd] at h; cases h
    | false => rfl
  | number s m i =>
    obtain ⟨hm, hi⟩ := read_bound hd
    rw [hd] at h
    have h2 : compare (signed s m (i - min i 971).toNat) (signed false 9007199254740991 (971 - min i 971).toNat) = .gt := Option.some.inj h
    have h3 := Int.compare_eq_gt.1 h2
    rw [Int.min_eq_left hi, show (i - i).toNat = 0 from by omega] at h3
    have h4 : (9007199254740991 : Nat) ≤ 9007199254740991 <<< (971 - i).toNat := by rw [Nat.shiftLeft_eq]; exact Nat.le_mul_of_pos_right _ (Nat.two_pow_pos _)
    cases s with
    | true =>
      have : signed true m 0 = -((m <<< 0 : Nat) : Int) := rfl
      have e2 : signed false 9007199254740991 (971 - i).toNat = ((9007199254740991 <<< (971 - i).toNat : Nat) : Int) := rfl
      rw [this, e2, Nat.shiftLeft_zero] at h3
      omega
    | false =>
      have : signed false m 0 = ((m <<< 0 : Nat) : Int) := rfl
      have e2 : signed false 9007199254740991 (971 - i).toNat = ((9007199254740991 <<< (971 - i).toNat : Nat) : Int) := rfl
      rw [this, e2, Nat.shiftLeft_zero] at h3
      omega
open Ieee in
theorem prb_inf {x : Nat} (h : FF.read x = .infinity false) : prb x = some 12 := by
  have hm : FF.mul 4604480259023595110 x = FF.mul 4604480259023595110 9218868437227405312 := by
    unfold Format.mul
    rw [h, show FF.read 9218868437227405312 = .infinity false from by decide +kernel]
  unfold prb
  rw [hm]
  decide +kernel
theorem s23 {k : Nat} (hk : 5 ≤ k) (x : Nat) : callN B k 23 [.v (.flt .f64) x] = (some (probes x) : Option Int) := by
  obtain ⟨k, rfl⟩ := Nat.exists_eq_add_of_le' (show 1 ≤ k by omega)
  refine (callS k 23 _).trans ((t23 (callN B k) (lvl B k).2 k x).trans ?_)
  refine bnd (s28 (by omega) x) ?_
  by_cases h1 : FF.order x x = some .eq
  · have e1 : (FloatKind.f64.format.order x x != some .eq) = false := by rw [show FloatKind.f64.format.order x x = some .eq from h1]; rfl
    rw [e1, beq_self_eq_true, cond_true]
    by_cases h2 : FF.order x one64 = some .lt
    · have e2 : (FloatKind.f64.format.order x (4607182418800017408 : Nat) == some .lt) = true := by rw [show FloatKind.f64.format.order x (4607182418800017408 : Nat) = some .lt from h2]; rfl
      rw [e2, cond_true]
      unfold probes
      rw [if_neg (fun h => h.2 h2)]
    · have e2 : (FloatKind.f64.format.order x (4607182418800017408 : Nat) == some .lt) = false := beq_eq_false_iff_ne.2 h2
      rw [e2, cond_false]
      obtain ⟨p, hp, hp2, _⟩ := probes_yes h1 h2
      refine (prb_tree (by omega) (num_of_eq h1)).trans ?_
      rw [hp2, hp]
  · have e1 : (FloatKind.f64.format.order x x != some .eq) = true := bne_iff_ne.2 h1
    rw [e1, show (true == false) = false from rfl, cond_false]
    unfold probes
    rw [if_neg (fun h => h1 h.1)]
theorem s22 {k : Nat} (hk : 5 ≤ k) (x : Nat) : callN B k 22 [.v (.flt .f64) x] = (some (probes x) : Option Int) := by
  obtain ⟨k, rfl⟩ := Nat.exists_eq_add_of_le' (show 1 ≤ k by omega)
  refine (callS k 22 _).trans ((t22 (callN B k) (lvl B k).2 k x).trans ?_)
  refine bnd (s28 (by omega) x) ?_
  by_cases h1 : FF.order x x = some .eq
  · have e1 : (FloatKind.f64.format.order x x != some .eq) = false := by rw [show FloatKind.f64.format.order x x = some .eq from h1]; rfl
    rw [e1, beq_self_eq_true, cond_true]
    by_cases h2 : FF.order x one64 = some .lt
    · have e2 : (FloatKind.f64.format.order x (4607182418800017408 : Nat) == some .lt) = true := by rw [show FloatKind.f64.format.order x (4607182418800017408 : Nat) = some .lt from h2]; rfl
      rw [e2, cond_true]
      unfold probes
      rw [if_neg (fun h => h.2 h2)]
    · have e2 : (FloatKind.f64.format.order x (4607182418800017408 : Nat) == some .lt) = false := beq_eq_false_iff_ne.2 h2
      rw [e2, cond_false]
      obtain ⟨p, hp, hp2, _⟩ := probes_yes h1 h2
      refine bnd (s58 (by omega) x) ?_
      by_cases h3 : FF.order x 9218868437227405311 = some .gt
      · have e3 : (FloatKind.f64.format.order x 9218868437227405311 == some .gt) = true := by rw [show FloatKind.f64.format.order x 9218868437227405311 = some .gt from h3]; rfl
        rw [e3, cond_true]
        have := prb_inf (inf_of h3)
        rw [this] at hp2
        rw [hp]
        exact hp2
      · have e3 : (FloatKind.f64.format.order x 9218868437227405311 == some .gt) = false := beq_eq_false_iff_ne.2 h3
        rw [e3, cond_false]
        refine (prb_tree (by omega) (num_of_eq h1)).trans ?_
        rw [hp2, hp]
  · have e1 : (FloatKind.f64.format.order x x != some .eq) = true := bne_iff_ne.2 h1
    rw [e1, show (true == false) = false from rfl, cond_false]
    unfold probes
    rw [if_neg (fun h => h1 h.1)]
theorem probes10 : probes 4621819117588971520 = 7 := by decide +kernel
theorem probesInf : probes 9218868437227405312 = 12 := by decide +kernel
theorem s21 {k : Nat} (hk : 8 ≤ k) : callN B k 21 [] = (some true : Option Bool) := by
  obtain ⟨k, rfl⟩ := Nat.exists_eq_add_of_le' (show 1 ≤ k by omega)
  refine (callS k 21 _).trans ((t21 (callN B k) (lvl B k).2 k).trans ?_)
  refine bnd (s22 (by omega) _) ?_
  rw [probes10]
  refine bnd (s30 (by omega)) ?_
  refine bnd (s22 (by omega) _) ?_
  rw [probesInf]
  rfl
end Go.Eng.Bk
