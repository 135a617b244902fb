/- FilterAll's function answers true. -/
import Derived.Test.YtogancdiihbjfaaBkG10
import Derived.Test.YtogancdiihbjfaaBkU
namespace Go.Eng.Bk
open Go Go.Proofs Go.Eng
set_option linter.unusedVariables false
set_option linter.unusedSimpArgs false
/-- What is not more than the statements go through. -/
theorem l20 {call : CallT B} {inl : InlT} (m0 : Nat) {l : List ByteArray} (d : Nat) : ∀ (i m : Nat), i + d = 100 → d < m → (∀ j, j < i → (l.getD j noS).size ≤ 300) →
    ∃ r : Bool, LP B call inl 20 m [1, 0, 1] (s20_1 l (i : Int)) (KA B call inl 20 m0 [1, 0, 1] (FI B call inl 20)) = (some r : Option Bool) ∧ (r = false → l.length ≤ 80 ∧ ∀ s ∈ l, s.size ≤ 300) := by
  have done : ∀ i, (∀ j, j < i → (l.getD j noS).size ≤ 300) → (l.length ≤ i ∨ i = 100) → decide ((l.length : Int) > 80) = false → l.length ≤ 80 ∧ ∀ s ∈ l, s.size ≤ 300 := by
    intro i hb hi hd
    have h80 : l.length ≤ 80 := by have := of_decide_eq_false hd; omega
    refine ⟨h80, fun s hs => ?_⟩
    obtain ⟨j, hj, rfl⟩ := List.mem_iff_getElem.1 hs
    rw [← getD_lt' hj noS]
    exact hb j (by omega)
  induction d with
  | zero =>
    intro i m hd hm hb
    obtain ⟨m, rfl⟩ : ∃ k, m = k + 1 := ⟨m - 1, by omega⟩
    by_cases h : (i : Int) < (l.length : Int)
    · exact ⟨_, by rw [s20_1_l, decide_eq_true h, beq_self_eq_true, cond_true, bF (by omega), s20_1x3_k], done i hb (by omega)⟩
    · exact ⟨_, by rw [s20_1_l, decide_eq_false h, show (false == true) = false from rfl, cond_false, s20_1x3_k], done i hb (by omega)⟩
  | succ d ih =>
    intro i m hd hm hb
    obtain ⟨m, rfl⟩ : ∃ k, m = k + 1 := ⟨m - 1, by omega⟩
    by_cases h : (i : Int) < (l.length : Int)
    · rw [s20_1_l, decide_eq_true h, beq_self_eq_true, cond_true, bT (by omega), if_pos (by omega), Int.toNat_natCast, w64 (x := (i : Int) + 1) (by omega) (by omega), s20_1x2_k]
      by_cases hc : (((l.getD i noS).size : Nat) : Int) > 300
      · exact ⟨true, bT hc, fun h => by cases h⟩
      · obtain ⟨r, hr, hr2⟩ := ih (i + 1) m (by omega) (by omega) (fun j hj => by
          by_cases hji : j = i
          · subst hji; omega
          · exact hb j (by omega))
        exact ⟨r, (bF hc).trans hr, hr2⟩
    · exact ⟨_, by rw [s20_1_l, decide_eq_false h, show (false == true) = false from rfl, cond_false, s20_1x3_k], done i hb (by omega)⟩
theorem s20 {k : Nat} (l : List ByteArray) (hk : 200 ≤ k) : ∃ r : Bool, callN B k 20 [argAV (.sl .str) l] = (some r : Option Bool) ∧ (r = false → l.length ≤ 80 ∧ ∀ s ∈ l, s.size ≤ 300) := by
  obtain ⟨k, rfl⟩ := Nat.exists_eq_add_of_le' (show 1 ≤ k by omega)
  obtain ⟨r, hr, hr2⟩ := l20 (call := callN B k) (inl := (lvl B k).2) k (l := l) 100 0 k (by omega) (by omega) (fun j hj => by omega)
  exact ⟨r, (callS k 20 _).trans ((t20 (callN B k) (lvl B k).2 k l).trans hr), hr2⟩
theorem s4 {k : Nat} (hk : 10000 ≤ k) (keys : List ByteArray) (x : Nat) {f : List Int} (hf : Bytes f) (key : ByteArray) : callN B k 4 [argAV (.sl .str) keys, argAV (.flt .f64) x, argAV (.sl u8) f, argAV .str key] = (some true : Option Bool) := by
  obtain ⟨k, rfl⟩ := Nat.exists_eq_add_of_le' (show 1 ≤ k by omega)
  refine (callS k 4 _).trans ((t4 (callN B k) (lvl B k).2 k keys x f key).trans ?_)
  have aw : (((callN B k 21 []).bind fun (v0 : Bool) => some (v0)) : Option Bool) = some true := bnd (s21 (by omega)) rfl
  obtain ⟨r, hr, hr2⟩ := s20 (k := k) keys (by omega)
  refine bnd hr ?_
  cases r with
  | true => exact aw
  | false =>
  obtain ⟨hl, hks⟩ := hr2 rfl
  rw [beq_self_eq_true, cond_true]
  by_cases c2 : (f.length : Int) > 2000
  · rw [decide_eq_true c2]; exact aw
  rw [decide_eq_false c2, beq_self_eq_true, cond_true]
  by_cases c4 : (key.size : Int) > 300
  · rw [decide_eq_true c4]; exact aw
  rw [decide_eq_false c4, cond_false]
  refine bnd (s22 (by omega) x) (bnd (s23 (by omega) x) ?_)
  rw [beq_self_eq_true, beq_self_eq_true, cond_true]
  have hks' : ∀ s ∈ keys, s.size ≤ 1000 := fun s hs => Nat.le_trans (hks s hs) (by omega)
  refine bnd (s24 (by omega) hks' (by omega)) (bnd (s25 (by omega) hks' (by omega)) ?_)
  rw [beq_self_eq_true, beq_self_eq_true, cond_true]
  refine bnd (s26 hf (by omega) (by omega) (by omega)) (bnd (s27 hf (by omega) (by omega) (by omega)) ?_)
  rw [beq_self_eq_true, beq_self_eq_true, cond_true]
  exact aw
end Go.Eng.Bk
