/- Make and MakeFilter answer the same. -/
import Derived.Test.YtogancdiihbjfaaBkG9
namespace Go.Eng.Bk
open Go Go.Proofs Go.Eng
set_option linter.unusedVariables false
set_option linter.unusedSimpArgs false
def bitsK (x n : Nat) : Nat := (((fm2 false FloatKind.f64 x six64).bind fun v1 => (FF.mul v1 (FloatKind.f64.nearest (n : Int))).bind fun v2 => fToI FloatKind.f64 (floorF v2) IntKind.i64).getD 0).toNat
/-- The bytes of a filter. -/
def filt (keys : List ByteArray) (x : Nat) : List Int :=
  if probes x = 0 then [] else (mkF keys (bitsM (bitsK x keys.length)) (probes x).toNat keys.length 0 (List.replicate (bitsM (bitsK x keys.length) / 8 + 1) 0)).set (bitsM (bitsK x keys.length) / 8) (probes x)
theorem probes_ne {x : Nat} (h : probes x ≠ 0) : FF.order x x = some .eq ∧ FF.order x one64 ≠ some .lt := by
  by_cases hc : FF.order x x = some .eq ∧ FF.order x one64 ≠ some .lt
  · exact hc
  · exact absurd (show probes x = 0 by unfold probes; rw [if_neg hc]) h
theorem s24 {k : Nat} {keys : List ByteArray} {x : Nat} (hl : keys.length ≤ 100) (hks : ∀ s ∈ keys, s.size ≤ 1000) (hk : 2000 ≤ k) : callN B k 24 [argAV (.sl .str) keys, argAV (.flt .f64) x] = (some (filt keys x) : Option (List Int)) := by
  obtain ⟨k, rfl⟩ := Nat.exists_eq_add_of_le' (show 3 ≤ k by omega)
  refine (callS (k + 2) 24 _).trans ((t24 (callN B (k + 2)) (lvl B (k + 2)).2 (k + 2) keys x).trans ?_)
  refine bnd (s22 (by omega) x) ?_
  unfold filt
  by_cases h0 : probes x = 0
  · rw [h0, if_pos rfl]; rfl
  have e0 : (probes x == 0) = false := beq_eq_false_iff_ne.2 h0
  rw [e0, cond_false, if_neg h0]
  obtain ⟨h1, h2⟩ := probes_ne h0
  obtain ⟨v1, v2, kk, f1, f2, f3, f4, f5⟩ := bits_ok h1 h2 hl
  have hkk : bitsK x keys.length = kk := by unfold bitsK; rw [f1, Option.bind_some, f2, Option.bind_some, f5]; rfl
  obtain ⟨N, hN, hN2⟩ := probes_nat x
  rw [hkk, hN, Int.toNat_natCast]
  have hM := bitsM_range f4
  refine bnd f1 (bnd f2 (bnd (s59 (by omega) f3) (bnd f5 ?_)))
  have e1 : IntKind.i64.wrap (((bitsM kk / 8 : Nat) : Int) + 1) = ((bitsM kk / 8 + 1 : Nat) : Int) := by rw [w64 (by omega) (by omega)]; omega
  rw [bitsM_eq f4, t8d _ (by omega), e1, if_pos (by omega), Int.toNat_natCast, lvl2, lvl2]
  exact l24 (q := k) (mq := k) (mq1 := k + 1) (k + 2) keys N kk (by omega) f4 (by omega) (by omega) hks (by omega) keys.length 0 (k + 2) _ (by omega) (by omega) (by rw [List.length_replicate])
theorem s25 {k : Nat} {keys : List ByteArray} {x : Nat} (hl : keys.length ≤ 100) (hks : ∀ s ∈ keys, s.size ≤ 1000) (hk : 2000 ≤ k) : callN B k 25 [argAV (.sl .str) keys, argAV (.flt .f64) x] = (some (filt keys x) : Option (List Int)) := by
  obtain ⟨k, rfl⟩ := Nat.exists_eq_add_of_le' (show 1 ≤ k by omega)
  refine (callS k 25 _).trans ((t25 (callN B k) (lvl B k).2 k keys x).trans ?_)
  refine bnd (s23 (by omega) x) ?_
  unfold filt
  by_cases h0 : probes x = 0
  · rw [h0, if_pos rfl]; rfl
  have e0 : (probes x == 0) = false := beq_eq_false_iff_ne.2 h0
  rw [e0, cond_false, if_neg h0]
  obtain ⟨h1, h2⟩ := probes_ne h0
  obtain ⟨v1, v2, kk, f1, f2, f3, f4, f5⟩ := bits_ok h1 h2 hl
  have hkk : bitsK x keys.length = kk := by unfold bitsK; rw [f1, Option.bind_some, f2, Option.bind_some, f5]; rfl
  obtain ⟨N, hN, hN2⟩ := probes_nat x
  rw [hkk, hN, Int.toNat_natCast]
  have hM := bitsM_range f4
  refine bnd f1 (bnd f2 (bnd (s59 (by omega) f3) (bnd f5 ?_)))
  have e1 : IntKind.i64.wrap (((bitsM kk / 8 : Nat) : Int) + 1) = ((bitsM kk / 8 + 1 : Nat) : Int) := by rw [w64 (by omega) (by omega)]; omega
  rw [bitsM_eq f4, t8d _ (by omega), e1, if_pos (by omega), Int.toNat_natCast, Int.toNat_natCast, if_pos (by rw [List.length_replicate]; omega), wu8, show ((N : Int) % 256) = (N : Int) from by omega]
  rw [← mkF_comm keys N (by omega) hM.2.2]
  exact l25 (q := k) k keys N kk (by omega) f4 (by omega) hks (by omega) keys.length 0 k _ (by omega) (by omega) (by rw [List.length_set, List.length_replicate])
end Go.Eng.Bk
