/- What a filter's bytes say of a key: the program's and the document's answer is one. -/
import Derived.Test.YtogancdiihbjfaaBkG4
namespace Go.Eng.Bk
open Go Go.Proofs Go.Eng
set_option linter.unusedVariables false
set_option linter.unusedSimpArgs false
def may (f : List Int) (key : ByteArray) : Bool :=
  if f.length < 2 then true else if f.getD (f.length - 1) 0 = 0 ∨ f.getD (f.length - 1) 0 > 12 then true else mayA f (hashS key) (8 * (f.length - 1)) (f.getD (f.length - 1) 0).toNat 0
theorem lastB {f : List Int} (hf : Bytes f) : ∃ N : Nat, f.getD (f.length - 1) 0 = (N : Int) ∧ N < 256 := by
  by_cases h : f.length - 1 < f.length
  · have := hf _ (getD_mem h 0)
    exact ⟨(f.getD (f.length - 1) 0).toNat, by omega, by omega⟩
  · refine ⟨0, ?_, by omega⟩
    rw [List.getD_eq_getElem?_getD, List.getElem?_eq_none (by omega)]
    rfl
theorem s26 {k : Nat} {f : List Int} (hf : Bytes f) (hlen : f.length < 100000000) {key : ByteArray} (hkey : key.size ≤ 140737488351232) (hk : key.size + 300 ≤ k) : callN B k 26 [argAV (.sl u8) f, argAV .str key] = (some (may f key) : Option Bool) := by
  obtain ⟨k, rfl⟩ := Nat.exists_eq_add_of_le' (show 3 ≤ k by omega)
  refine (callS (k + 2) 26 _).trans ((t26 (callN B (k + 2)) (lvl B (k + 2)).2 (k + 2) f key).trans ?_)
  obtain ⟨N, hN, hN2⟩ := lastB hf
  unfold may
  have hw : IntKind.i64.wrap ((f.length : Int) - 1) = (f.length : Int) - 1 := w64 (by omega) (by omega)
  rw [hw]
  by_cases h2 : f.length < 2
  · rw [decide_eq_true (by omega), if_pos h2]
    rfl
  rw [decide_eq_false (by omega), beq_self_eq_true, cond_true, if_pos (by omega), if_neg h2]
  have e1 : ((f.length : Int) - 1).toNat = f.length - 1 := by omega
  rw [e1, hN]
  by_cases h0 : N = 0
  · subst h0
    rw [show (((0 : Nat) : Int) == (0 : Int)) = true from rfl, show (true == false) = false from rfl, cond_false, if_pos (.inl rfl)]
  have h0' : ((N : Int) == (0 : Int)) = false := beq_eq_false_iff_ne.2 (by omega)
  rw [h0', beq_self_eq_true, cond_true, if_pos (by omega)]
  by_cases h12 : N > 12
  · rw [bT (by omega), if_pos (.inr (by omega))]
  rw [bF (by omega), if_pos (by omega), if_neg (by omega), lvl2, lvl2]
  have hi := c26_60_0_i (callN B (k + 1)) (inlN B (callN B k) (lvl B k).2 k) (k + 1) (IA B (callN B (k + 2)) (inlN B (callN B (k + 1)) (inlN B (callN B k) (lvl B k).2 k) (k + 1)) 26 (k + 2) [1, 1, 1, 0, 9] (FI B (callN B (k + 2)) (inlN B (callN B (k + 1)) (inlN B (callN B k) (lvl B k).2 k) (k + 1)) 26)) f key
  rw [hw, e1, hN] at hi
  refine hi.trans ?_
  refine bnd (s94 hkey (by omega)) ?_
  have hr := hashS_range key
  have hu : IntKind.u32.wrap (hashS key) = hashS key := by rw [wu32]; omega
  rw [hu]
  refine bnd (s95 (by omega) _ hr.1 hr.2) ?_
  have := l60_4 (q := k) (inl := (lvl B k).2) (mq := k) (k + 1) (IA B (callN B (k + 2)) (inlN B (callN B (k + 1)) (inlN B (callN B k) (lvl B k).2 k) (k + 1)) 26 (k + 2) [1, 1, 1, 0, 9] (FI B (callN B (k + 2)) (inlN B (callN B (k + 1)) (inlN B (callN B k) (lvl B k).2 k) (k + 1)) 26)) f key (hashS key) (f.length - 1) N (by omega) (by omega) (by omega) hN2 hN
    (fun b => some b) (c26_60_0r10_k15 _ _ _ f key) (c26_60_0r11_k16 _ _ _ f key) N 0 (k + 1) (by omega) (by omega)
  exact this
theorem s27 {k : Nat} {f : List Int} (hf : Bytes f) (hlen : f.length < 100000000) {key : ByteArray} (hkey : key.size ≤ 140737488351232) (hk : key.size + 300 ≤ k) : callN B k 27 [argAV (.sl u8) f, argAV .str key] = (some (may f key) : Option Bool) := by
  obtain ⟨k, rfl⟩ := Nat.exists_eq_add_of_le' (show 1 ≤ k by omega)
  refine (callS k 27 _).trans ((t27 (callN B k) (lvl B k).2 k f key).trans ?_)
  obtain ⟨N, hN, hN2⟩ := lastB hf
  unfold may
  have hw : IntKind.i64.wrap ((f.length : Int) - 1) = (f.length : Int) - 1 := w64 (by omega) (by omega)
  rw [hw]
  by_cases h2 : f.length < 2
  · rw [bT (by omega), if_pos h2]
  rw [bF (by omega), if_pos (by omega), if_neg h2]
  have e1 : ((f.length : Int) - 1).toNat = f.length - 1 := by omega
  have hNw : IntKind.i64.wrap (N : Int) = (N : Int) := w64 (by omega) (by omega)
  rw [e1, hN, hNw]
  by_cases h0 : N = 0
  · subst h0
    rw [show (((0 : Nat) : Int) == (0 : Int)) = true from rfl, show (true == false) = false from rfl, cond_false, if_pos (.inl rfl)]
  have h0' : ((N : Int) == (0 : Int)) = false := beq_eq_false_iff_ne.2 (by omega)
  rw [h0', beq_self_eq_true, cond_true]
  by_cases h12 : N > 12
  · rw [bT (by omega), if_pos (.inr (by omega))]
  rw [bF (by omega), if_neg (by omega)]
  refine bnd (s62 hkey (by omega)) ?_
  exact l27 k f (hashS key) (f.length - 1) N (by omega) (by omega) (by omega) hN2 hN N 0 k (by omega) (by omega)
end Go.Eng.Bk
