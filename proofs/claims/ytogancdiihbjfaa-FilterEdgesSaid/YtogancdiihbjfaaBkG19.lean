/- FilterEdges' function answers true. -/
import Derived.Test.YtogancdiihbjfaaBkG18
namespace Go.Eng.Bk
open Go Go.Proofs Go.Eng
set_option linter.unusedVariables false
set_option linter.unusedSimpArgs false
theorem probesNaN : probes 9221120237041090561 = 0 := by decide +kernel
theorem probesNz : probes 9223372036854775808 = 0 := by decide +kernel
theorem probesMinf : probes 18442240474082181120 = 0 := by decide +kernel
theorem probes1 : probes 4607182418800017408 = 1 := by decide +kernel
theorem probesUnder : probes 4607182418800017407 = 0 := by decide +kernel
theorem probesBig : probes 9094988921128908188 = 12 := by decide +kernel
theorem s32 {k : Nat} (h : 5 ≤ k) : callN B k 32 [.v (.flt .f64) (4607182418800017408 : Nat), .v (.flt .f64) (0 : Nat)] = (some 4607182418800017407 : Option Nat) := by
  obtain ⟨k, rfl⟩ := Nat.exists_eq_add_of_le' (show 1 ≤ k by omega)
  refine (callS k 32 _).trans ((t32 (callN B k) (lvl B k).2 k 4607182418800017408 0).trans ?_)
  refine bnd ((s28 (by omega) _).trans (show _ = some false from by decide +kernel)) ?_
  rw [beq_self_eq_true, cond_true]
  refine bnd ((s28 (by omega) _).trans (show _ = some false from by decide +kernel)) ?_
  rw [cond_false, show (Go.FloatKind.f64.format.order 4607182418800017408 0 == Option.some Ordering.eq) = false from by decide +kernel, cond_false, cond_false, show ((Go.FloatKind.f64.format.order 0 4607182418800017408 == Option.some Ordering.gt) == (Go.FloatKind.f64.format.order 4607182418800017408 0 == Option.some Ordering.gt)) = false from by decide +kernel, cond_false]
  refine bnd (s65 (by omega) _) (bnd (s64 (by omega) _) ?_)
  decide +kernel
theorem s7 {k : Nat} (hk : 10000 ≤ k) (a b : Nat) : callN B k 7 [argAV (.flt .f64) a, argAV (.flt .f64) b] = (some true : Option Bool) := by
  obtain ⟨k, rfl⟩ := Nat.exists_eq_add_of_le' (show 1 ≤ k by omega)
  refine (callS k 7 _).trans ((t7 (callN B k) (lvl B k).2 k a b).trans ?_)
  have aw : (((callN B k 21 []).bind fun (v0 : Bool) => some (v0)) : Option Bool) = some true := bnd (s21 (by omega)) rfl
  refine bnd (s22 (by omega) a) (bnd (s22 (by omega) b) (bnd (s29 (by omega)) (bnd ((s22 (by omega) _).trans (congrArg some probesNaN)) ?_)))
  rw [bne_self_eq_false, beq_self_eq_true, cond_true]
  refine bnd (s31 (by omega)) (bnd ((s22 (by omega) _).trans (congrArg some probesNz)) ?_)
  rw [bne_self_eq_false, beq_self_eq_true, cond_true]
  refine bnd (s30' (by omega)) (bnd ((s22 (by omega) _).trans (congrArg some probesMinf)) ?_)
  rw [bne_self_eq_false, beq_self_eq_true, cond_true]
  refine bnd ((s22 (by omega) _).trans (congrArg some probes1)) ?_
  rw [bne_self_eq_false, beq_self_eq_true, cond_true]
  refine bnd (s32 (by omega)) (bnd ((s22 (by omega) _).trans (congrArg some probesUnder)) ?_)
  rw [bne_self_eq_false, beq_self_eq_true, cond_true]
  refine bnd ((s22 (by omega) _).trans (congrArg some probesBig)) ?_
  rw [bne_self_eq_false, cond_false]
  obtain ⟨N, hN, hN2⟩ := probes_nat a
  rw [decide_eq_true (show probes a ≥ 0 by omega), decide_eq_true (show probes a ≤ 12 by omega), beq_self_eq_true, cond_true, cond_true]
  have mk : (callN B k 24 [(.v (.sl .str) ([(ByteArray.mk #[(120 : UInt8)])])), (.v (.flt .f64) (a))] : Option (List Int)) = some (filt [(ByteArray.mk #[(120 : UInt8)])] a) := s24 (by decide) (fun s hs => by rw [List.mem_singleton.1 hs]; decide) (by omega)
  have hlen : ((((filt [(ByteArray.mk #[(120 : UInt8)])] a).length : Int) == 0) == (probes a == 0)) = true := by
    by_cases h0 : probes a = 0
    · unfold filt
      rw [if_pos h0, h0]
      rfl
    · rw [filt_len h0, show (probes a == 0) = false from beq_eq_false_iff_ne.2 h0, show (((bitsM (bitsK a [(ByteArray.mk #[(120 : UInt8)])].length) / 8 + 1 : Nat) : Int) == 0) = false from beq_eq_false_iff_ne.2 (by omega)]
      rfl
  by_cases hc : FF.order a b = some .lt ∨ FF.order a b = some .eq
  · have e : (Go.FloatKind.f64.format.order a b == Option.some Ordering.lt || Go.FloatKind.f64.format.order a b == Option.some Ordering.eq) = true := by
      rw [Bool.or_eq_true, beq_iff_eq, beq_iff_eq]
      exact hc
    rw [e, show (!true) = false from rfl, beq_self_eq_true, cond_true, decide_eq_true (probes_mono hc), beq_self_eq_true, cond_true]
    refine bnd mk ?_
    rw [hlen, beq_self_eq_true, cond_true]
    exact aw
  · have e : (Go.FloatKind.f64.format.order a b == Option.some Ordering.lt || Go.FloatKind.f64.format.order a b == Option.some Ordering.eq) = false := by
      rw [Bool.or_eq_false_iff, beq_eq_false_iff_ne, beq_eq_false_iff_ne]
      exact ⟨fun h => hc (.inl h), fun h => hc (.inr h)⟩
    rw [e, show (!false) = true from rfl, show (true == false) = false from rfl, cond_false]
    refine bnd mk ?_
    rw [hlen, beq_self_eq_true, cond_true]
    exact aw
end Go.Eng.Bk
