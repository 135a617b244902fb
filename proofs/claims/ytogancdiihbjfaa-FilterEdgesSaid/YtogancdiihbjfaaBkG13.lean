/- FilterHas' function answers true. -/
import Derived.Test.YtogancdiihbjfaaBkG12
namespace Go.Eng.Bk
open Go Go.Proofs Go.Eng
set_option linter.unusedVariables false
set_option linter.unusedSimpArgs false
theorem s31 {k : Nat} (h : 2 ≤ k) : callN B k 31 [.v (.flt .f64) (0 : Nat), .v (.flt .f64) (13830554455654793216 : Nat)] = (some 9223372036854775808 : Option Nat) := by
  obtain ⟨k, rfl⟩ := Nat.exists_eq_add_of_le' (show 1 ≤ k by omega)
  refine (callS k 31 _).trans ((t31 (callN B k) (lvl B k).2 k 0 13830554455654793216).trans ?_)
  refine bnd (s65 (by omega) _) (bnd (s65 (by omega) _) (bnd (s64 (by omega) _) ?_))
  decide +kernel
theorem filt_small {keys : List ByteArray} (x : Nat) (hn : keys.length ≤ 100) : (filt keys x).length < 100000000 := by
  by_cases h : probes x = 0
  · unfold filt
    rw [if_pos h]
    decide
  · have hM := bitsM_range (bitsK_ok h hn)
    rw [filt_len h]
    omega
theorem l6_22 {k : Nat} {inl : InlT} {m1 : Nat} (K : AEx → St → Option Bool) {keys : List ByteArray} (a1 v2 v3 v4 v5 : Nat) (x11 : Int) (x : Nat) (hn : keys.length ≤ 100) (hks : ∀ s ∈ keys, s.size ≤ 1000) (hk : 2000 ≤ k) (r : Option Bool)
    (hK : LP B (callN B k) inl 6 m1 [1, 1, 1, 0, 1] (s6_17 keys a1 v2 v3 v4 v5 (IntKind.i64.wrap (x11 + (1 : Int)))) K = r) (d : Nat) : ∀ (i m : Nat), i + d = keys.length → d < m →
    LP B (callN B k) inl 6 m [1, 1, 1, 0, 1, 0, 1, 0, 1, 1] (s6_22 keys a1 v2 v3 v4 v5 x11 (filt keys x) (i : Int)) (KN B (callN B k) inl 6 m1 [1, 1, 1, 0, 1] [1, 0, 1, 1] K) = r := by
  induction d with
  | zero =>
    intro i m hd hm
    obtain ⟨m, rfl⟩ : ∃ k, m = k + 1 := ⟨m - 1, by omega⟩
    rw [s6_22_l, bF (by omega), s6_22x25_k]
    exact hK
  | succ d ih =>
    intro i m hd hm
    obtain ⟨m, rfl⟩ : ∃ k, m = k + 1 := ⟨m - 1, by omega⟩
    have hsz := getS_size hks i
    rw [s6_22_l, bT (by omega), if_pos (by omega), Int.toNat_natCast]
    refine bnd (s26 (filt_bytes keys x) (filt_small x hn) (key := keys.getD i noS) (by omega) (by omega)) ?_
    rw [filt_may hn (by omega), show (!true) = false from rfl, cond_false, w64 (x := (i : Int) + 1) (by omega) (by omega)]
    exact ih (i + 1) m (by omega) (by omega)
theorem l6_17 {k : Nat} {inl : InlT} (m0 : Nat) {keys : List ByteArray} (a1 v2 v3 v4 v5 : Nat) (hn : keys.length ≤ 100) (hks : ∀ s ∈ keys, s.size ≤ 1000) (hk : 2000 ≤ k) (d : Nat) : ∀ (i m : Nat), i + d = 9 → d + keys.length < m →
    LP B (callN B k) inl 6 m [1, 1, 1, 0, 1] (s6_17 keys a1 v2 v3 v4 v5 (i : Int)) (KA B (callN B k) inl 6 m0 [1, 1, 1, 0, 1] (FI B (callN B k) inl 6)) = some true := by
  induction d with
  | zero =>
    intro i m hd hm
    obtain ⟨m, rfl⟩ : ∃ k, m = k + 1 := ⟨m - 1, by omega⟩
    rw [s6_17_l, bF (by simp only [List.length_cons, List.length_nil]; omega), s6_17x28_k]
    exact bnd (s21 (by omega)) rfl
  | succ d ih =>
    intro i m hd hm
    obtain ⟨m, rfl⟩ : ∃ k, m = k + 1 := ⟨m - 1, by omega⟩
    rw [s6_17_l, bT (by simp only [List.length_cons, List.length_nil]; omega), if_pos (by simp only [List.length_cons, List.length_nil]; omega)]
    refine bnd (s24 hn hks (by omega)) ?_
    refine l6_22 _ a1 v2 v3 v4 v5 (i : Int) _ hn hks hk _ ?_ keys.length 0 m (by omega) (by omega)
    rw [w64 (x := (i : Int) + 1) (by omega) (by omega)]
    exact ih (i + 1) m (by omega) (by omega)
theorem s6 {k : Nat} (hk : 10000 ≤ k) (keys : List ByteArray) (x : Nat) : callN B k 6 [argAV (.sl .str) keys, argAV (.flt .f64) x] = (some true : Option Bool) := by
  obtain ⟨k, rfl⟩ := Nat.exists_eq_add_of_le' (show 1 ≤ k by omega)
  refine (callS k 6 _).trans ((t6 (callN B k) (lvl B k).2 k keys x).trans ?_)
  have aw : (((callN B k 21 []).bind fun (v0 : Bool) => some (v0)) : Option Bool) = some true := bnd (s21 (by omega)) rfl
  obtain ⟨r, hr, hr2⟩ := s20 (k := k) keys (by omega)
  refine bnd hr ?_
  cases r with
  | true => exact aw
  | false =>
  obtain ⟨hl, hks⟩ := hr2 rfl
  rw [cond_false]
  have hks' : ∀ s ∈ keys, s.size ≤ 1000 := fun s hs => Nat.le_trans (hks s hs) (by omega)
  refine bnd (s29 (by omega)) (bnd (s30 (by omega)) (bnd (s30' (by omega)) (bnd (s31 (by omega)) ?_)))
  exact l6_17 k x _ _ _ _ (by omega) hks' (by omega) 9 0 k (by omega) (by omega)
end Go.Eng.Bk
