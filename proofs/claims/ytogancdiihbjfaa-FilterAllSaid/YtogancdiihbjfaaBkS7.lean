/- BlockLong's function answers true. -/
import Derived.Test.YtogancdiihbjfaaBkS6
namespace Go.Eng.Bk
open Go Go.Proofs Go.Eng
set_option linter.unusedVariables false
set_option linter.unusedSimpArgs false
abbrev uB : ByteArray := ByteArray.mk #[(117 : UInt8)]
def lgE (i : Nat) : En := ((uB, ((200 : Nat) : Int) - (i : Int), 1, ()), ByteArray.mk #[], ())
def lg (k : Nat) : List En := (List.range k).map lgE
theorem lg_length (k : Nat) : (lg k).length = k := by simp [lg]
theorem lg_succ (k : Nat) : lg (k + 1) = lg k ++ [lgE k] := by simp [lg, List.range_succ]
theorem lg_get {k i : Nat} (h : i < k) : (lg k).getD i d0 = lgE i := by
  rw [getD_lt' (by rw [lg_length]; exact h)]
  simp [lg]
theorem lgE_may {i : Nat} (h : i ≤ 100) : mayE (lgE i) = true := by
  unfold mayE mayK mayB lgE
  simp only [Bool.and_eq_true, decide_eq_true_eq, Bool.or_eq_true, beq_iff_eq]
  refine ⟨⟨⟨by decide, by omega, by omega, ?_⟩, by decide⟩, ?_⟩ <;> first | exact .inl trivial | exact .inr trivial | simp
theorem lgE_lt {i j : Nat} (h : i < j) : LtE (lgE i) (lgE j) := by
  refine .inr ⟨rfl, .inl ?_⟩
  show ((200 : Nat) : Int) - (i : Int) > ((200 : Nat) : Int) - (j : Int)
  omega
theorem lg_rising {k : Nat} (h : k ≤ 100) : rising (lg k) = true := by
  refine rising_of (fun e he => ?_) (List.pairwise_iff_getElem.2 (fun i j hi hj hij => ?_))
  · unfold lg at he
    obtain ⟨i, hi, rfl⟩ := List.mem_map.1 he
    exact lgE_may (by have := List.mem_range.1 hi; omega)
  · have h1 : (lg k)[i] = lgE i := by rw [← lg_get (show i < k by rw [lg_length] at hi; exact hi), getD_lt' hi]
    have h2 : (lg k)[j] = lgE j := by rw [← lg_get (show j < k by rw [lg_length] at hj; exact hj), getD_lt' hj]
    rw [h1, h2]
    exact lgE_lt hij
theorem swap_not {k i : Nat} (hi : i + 1 < k) : rising (((lg k).set i (lgE (i + 1))).set (i + 1) (lgE i)) = false := by
  cases hr : rising (((lg k).set i (lgE (i + 1))).set (i + 1) (lgE i)) with
  | false => rfl
  | true =>
    have hp := rising_pair hr
    have hl : (((lg k).set i (lgE (i + 1))).set (i + 1) (lgE i)).length = k := by rw [List.length_set, List.length_set, lg_length]
    have := List.pairwise_iff_getElem.1 hp i (i + 1) (by omega) (by omega) (by omega)
    rw [List.getElem_set_ne (by omega), List.getElem_set_self, List.getElem_set_self] at this
    exact (LtKe.irr (this.trans (lgE_lt (Nat.lt_succ_self i)))).elim
theorem putBlock_err {l : List En} (h0 : l.length ≠ 0) (hr : rising l = true) : (putBlock l).2.1 = if l.length > 64 then 4 else 0 := by
  unfold putBlock
  rw [if_neg (by simp [h0, hr])]
  split <;> rfl
theorem putBlock_bad {l : List En} (hr : rising l = false) : putBlock l = ([], 1, ()) := by
  unfold putBlock
  rw [if_pos (.inr hr)]
theorem l3 {q : Nat} (hq : 400 ≤ q) {inl : InlT} (m0 : Nat) (n a : Nat) (hn : n < 256) (ha : a < 256) (d : Nat) : ∀ (i m : Nat), i + d = 1 + n % 100 → d < m →
    LP B (callN B q) inl 3 m [1, 1, 1, 0, 1] (s3_2 (n : Int) (a : Int) (lg i) (i : Int)) (KA B (callN B q) inl 3 m0 [1, 1, 1, 0, 1] (FI B (callN B q) inl 3)) = (some true : Option Bool) := by
  have hw0 : IntKind.i64.wrap (n : Int) = (n : Int) := w64 (by omega) (by omega)
  have hwa : IntKind.i64.wrap (a : Int) = (a : Int) := w64 (by omega) (by omega)
  have hK : IntKind.i64.wrap ((1 : Int) + (IntKind.i64.wrap (n : Int)).tmod (100 : Int)) = ((1 + n % 100 : Nat) : Int) := by
    rw [hw0, show (n : Int).tmod 100 = ((n % 100 : Nat) : Int) from rfl, w64 (by omega) (by omega)]; omega
  have hlen := lg_length (1 + n % 100)
  induction d with
  | zero =>
    intro i m hd hm
    obtain ⟨m, rfl⟩ : ∃ k, m = k + 1 := ⟨m - 1, by omega⟩
    obtain rfl : i = 1 + n % 100 := by omega
    rw [s3_2_l, hK, bF (by omega), s3_2x3_k, hK]
    have hr := lg_rising (k := 1 + n % 100) (by omega)
    have he := putBlock_err (by omega) hr
    rw [hlen] at he
    refine bnd (s17 (by omega) (by omega)) ?_
    refine bnd (s18 (by omega) _) ?_
    have tail_ : (bif decide (((1 + n % 100 : Nat) : Int) < (2 : Int)) then ((callN B q 19 []).bind fun (v7 : Bool) => some (v7)) else (if IntKind.i64.wrap (((1 + n % 100 : Nat) : Int) - (1 : Int)) = (0 : Int) then (none) else (if (0 : Int) ≤ (IntKind.i64.wrap (a : Int)).tmod (IntKind.i64.wrap (((1 + n % 100 : Nat) : Int) - (1 : Int))) ∧ (IntKind.i64.wrap (a : Int)).tmod (IntKind.i64.wrap (((1 + n % 100 : Nat) : Int) - (1 : Int))) < ((lg (1 + n % 100)).length : Int) then (if (0 : Int) ≤ IntKind.i64.wrap ((IntKind.i64.wrap (a : Int)).tmod (IntKind.i64.wrap (((1 + n % 100 : Nat) : Int) - (1 : Int))) + (1 : Int)) ∧ IntKind.i64.wrap ((IntKind.i64.wrap (a : Int)).tmod (IntKind.i64.wrap (((1 + n % 100 : Nat) : Int) - (1 : Int))) + (1 : Int)) < ((lg (1 + n % 100)).length : Int) then (if (0 : Int) ≤ (IntKind.i64.wrap (a : Int)).tmod (IntKind.i64.wrap (((1 + n % 100 : Nat) : Int) - (1 : Int))) ∧ (IntKind.i64.wrap (a : Int)).tmod (IntKind.i64.wrap (((1 + n % 100 : Nat) : Int) - (1 : Int))) < ((lg (1 + n % 100)).length : Int) then (if (0 : Int) ≤ IntKind.i64.wrap ((IntKind.i64.wrap (a : Int)).tmod (IntKind.i64.wrap (((1 + n % 100 : Nat) : Int) - (1 : Int))) + (1 : Int)) ∧ IntKind.i64.wrap ((IntKind.i64.wrap (a : Int)).tmod (IntKind.i64.wrap (((1 + n % 100 : Nat) : Int) - (1 : Int))) + (1 : Int)) < ((((lg (1 + n % 100)).set ((IntKind.i64.wrap (a : Int)).tmod (IntKind.i64.wrap (((1 + n % 100 : Nat) : Int) - (1 : Int)))).toNat ((lg (1 + n % 100)).getD (IntKind.i64.wrap ((IntKind.i64.wrap (a : Int)).tmod (IntKind.i64.wrap (((1 + n % 100 : Nat) : Int) - (1 : Int))) + (1 : Int))).toNat d0)).length : Nat) : Int) then ((callN B q 17 [(.v (.sl EntryT) (((lg (1 + n % 100)).set ((IntKind.i64.wrap (a : Int)).tmod (IntKind.i64.wrap (((1 + n % 100 : Nat) : Int) - (1 : Int)))).toNat ((lg (1 + n % 100)).getD (IntKind.i64.wrap ((IntKind.i64.wrap (a : Int)).tmod (IntKind.i64.wrap (((1 + n % 100 : Nat) : Int) - (1 : Int))) + (1 : Int))).toNat d0)).set (IntKind.i64.wrap ((IntKind.i64.wrap (a : Int)).tmod (IntKind.i64.wrap (((1 + n % 100 : Nat) : Int) - (1 : Int))) + (1 : Int))).toNat ((lg (1 + n % 100)).getD ((IntKind.i64.wrap (a : Int)).tmod (IntKind.i64.wrap (((1 + n % 100 : Nat) : Int) - (1 : Int)))).toNat d0)))]).bind fun (v8 : ((List Int) × Int × Unit)) => (callN B q 18 [(.v (.int .i64) (v8.snd.fst))]).bind fun (v9 : Int) => bif (v9 == (1 : Int)) == true then ((callN B q 19 []).bind fun (v10 : Bool) => some (v10)) else (some (false))) else (none)) else (none)) else (none)) else (none))) : Option Bool) = some true := by
      by_cases h2 : n % 100 = 0
      · rw [bT (by omega)]
        exact bnd (s19 (by omega)) rfl
      · rw [bF (by omega)]
        have hw1 : IntKind.i64.wrap (((1 + n % 100 : Nat) : Int) - (1 : Int)) = ((n % 100 : Nat) : Int) := by rw [w64 (by omega) (by omega)]; omega
        have htm : (a : Int).tmod ((n % 100 : Nat) : Int) = ((a % (n % 100) : Nat) : Int) := rfl
        have hlt := Nat.mod_lt a (show n % 100 > 0 by omega)
        have hw2 : IntKind.i64.wrap (((a % (n % 100) : Nat) : Int) + 1) = ((a % (n % 100) + 1 : Nat) : Int) := by rw [w64 (by omega) (by omega)]; omega
        rw [hw1, hwa, htm, hw2, hlen, if_neg (by omega), if_pos (by omega), if_pos (by omega), if_pos (by omega), Int.toNat_natCast, Int.toNat_natCast, if_pos (by rw [List.length_set, hlen]; omega), lg_get (by omega), lg_get (by omega)]
        have hsw := swap_not (k := 1 + n % 100) (i := a % (n % 100)) (by omega)
        have hsl : (((lg (1 + n % 100)).set (a % (n % 100)) (lgE (a % (n % 100) + 1))).set (a % (n % 100) + 1) (lgE (a % (n % 100)))).length = 1 + n % 100 := by rw [List.length_set, List.length_set, hlen]
        refine bnd (s17 (by omega) (by omega)) ?_
        rw [putBlock_bad hsw]
        refine bnd (s18 (by omega) _) ?_
        rw [show (((1 : Int) == (1 : Int)) == true) = true from rfl, cond_true]
        exact bnd (s19 (by omega)) rfl
    by_cases h64 : 1 + n % 100 > 64
    · rw [if_pos h64] at he
      rw [he]
      have e1 : (!(((4 : Int) == (0 : Int)) == decide (((1 + n % 100 : Nat) : Int) ≤ 64))) = false := by
        rw [decide_eq_false (by omega)]; rfl
      rw [e1, beq_self_eq_true, cond_true, decide_eq_true (show ((1 + n % 100 : Nat) : Int) > 64 by omega), beq_self_eq_true, cond_true]
      refine bnd (s18 (by omega) _) ?_
      rw [show ((4 : Int) != (4 : Int)) = false from rfl, cond_false]
      exact tail_
    · rw [if_neg h64] at he
      rw [he]
      have e1 : (!(((0 : Int) == (0 : Int)) == decide (((1 + n % 100 : Nat) : Int) ≤ 64))) = false := by
        rw [decide_eq_true (by omega)]; rfl
      rw [e1, beq_self_eq_true, cond_true, decide_eq_false (show ¬ ((1 + n % 100 : Nat) : Int) > 64 by omega), show (false == true) = false from rfl, cond_false]
      exact tail_
  | succ d ih =>
    intro i m hd hm
    obtain ⟨m, rfl⟩ : ∃ k, m = k + 1 := ⟨m - 1, by omega⟩
    have hl := lg_length i
    have hw1 : IntKind.i64.wrap ((200 : Int) - (i : Int)) = ((200 : Nat) : Int) - (i : Int) := by rw [w64 (by omega) (by omega)]; omega
    have hw2 : IntKind.i64.wrap ((i : Int) + 1) = ((i + 1 : Nat) : Int) := by rw [w64 (by omega) (by omega)]; omega
    rw [s3_2_l, hK, bT (by omega), hw1, hw2, if_pos (by simp only [List.length_cons, List.length_nil]; omega)]
    have := ih (i + 1) m (by omega) (by omega)
    rw [lg_succ] at this
    exact this
theorem s3 {k : Nat} (hk : 500 ≤ k) (n a : Nat) (hn : n < 256) (ha : a < 256) : callN B k 3 [argAV u8 (n : Int), argAV u8 (a : Int)] = (some true : Option Bool) := by
  obtain ⟨k, rfl⟩ := Nat.exists_eq_add_of_le' (show 1 ≤ k by omega)
  refine (callS k 3 _).trans ((t3 (callN B k) (lvl B k).2 k (n : Int) (a : Int)).trans ?_)
  exact l3 (by omega) k n a hn ha (1 + n % 100) 0 k (by omega) (by omega)
end Go.Eng.Bk
