/- What the functions around BlockAll answer: Above, SameEntries, Great, the document's GetBlock, Seek. -/
import Derived.Test.YtogancdiihbjfaaBkS8
namespace Go.Eng.Bk
open Go Go.Proofs Go.Eng
set_option linter.unusedVariables false
set_option linter.unusedSimpArgs false
abbrev noE : En × Bool × Unit := (d0, false, ())
/-- The first entry that is not ahead of a key. -/
def above (k : Ke) : List En → En × Bool × Unit
  | [] => noE
  | e :: t => if cmpKe e.1 k ≥ 0 then (e, true, ()) else above k t
theorem l40 {q : Nat} (hq : 6 ≤ q) {inl : InlT} (m0 : Nat) {l : List En} (hlen : l.length ≤ 140737488351232) (key : Ke) (d : Nat) : ∀ (i m : Nat), i + d = l.length → d < m →
    LP B (callN B q) inl 40 m [1, 0, 1] (s40_3 l key (i : Int)) (KA B (callN B q) inl 40 m0 [1, 0, 1] (FI B (callN B q) inl 40)) = (some (above key (l.drop i)) : Option (En × Bool × Unit)) := by
  induction d with
  | zero =>
    intro i m hd hm
    obtain ⟨m, rfl⟩ : ∃ k, m = k + 1 := ⟨m - 1, by omega⟩
    rw [s40_3_l, bF (by omega), s40_3x6_k, List.drop_eq_nil_of_le (by omega)]
    rfl
  | succ d ih =>
    intro i m hd hm
    obtain ⟨m, rfl⟩ : ∃ k, m = k + 1 := ⟨m - 1, by omega⟩
    obtain ⟨e, t, hdr, _⟩ := drop_cons (l := l) (i := i) (by omega)
    rw [s40_3_l, bT (by omega), if_pos (by omega), Int.toNat_natCast]
    refine bnd (s81 (by omega) (l.getD i d0).1 key) ?_
    rw [dgetD hdr d0, hdr]
    have ha : above key (e :: t) = if cmpKe e.1 key ≥ 0 then (e, true, ()) else above key t := rfl
    rw [ha]
    by_cases hc : cmpKe e.1 key ≥ 0
    · rw [bT hc, if_pos hc, if_pos (by omega), s40_3x5_k, Int.toNat_natCast, dgetD hdr]
    · rw [bF hc, if_neg hc, w64 (x := (i : Int) + 1) (by omega) (by omega)]
      have := ih (i + 1) m (by omega) (by omega)
      rw [dsucc hdr] at this
      exact this
theorem s40 {k : Nat} {l : List En} (hlen : l.length ≤ 140737488351232) (hk : l.length + 9 ≤ k) (key : Ke) : callN B k 40 [argAV (.sl EntryT) l, argAV KeyT key] = (some (above key l) : Option (En × Bool × Unit)) := by
  obtain ⟨k, rfl⟩ := Nat.exists_eq_add_of_le' (show 1 ≤ k by omega)
  refine (callS k 40 _).trans ((t40 (callN B k) (lvl B k).2 k l key).trans ?_)
  exact l40 (by omega) k hlen key l.length 0 k (by omega) (by omega)
theorem same_self (x : ByteArray × Int × Int × ByteArray) : (ByteArray.toList x.1 == ByteArray.toList x.1 && (x.2.1 == x.2.1 && (x.2.2.1 == x.2.2.1 && ByteArray.toList x.2.2.2 == ByteArray.toList x.2.2.2))) = true := by
  simp only [beq_self_eq_true, Bool.and_true]
theorem l41 {call : CallT B} {inl : InlT} (m0 : Nat) {l : List En} (hlen : l.length ≤ 140737488351232) (d : Nat) : ∀ (i m : Nat), i + d = l.length → d < m →
    LP B call inl 41 m [1, 1, 0, 1] (s41_1 l l (i : Int)) (KA B call inl 41 m0 [1, 1, 0, 1] (FI B call inl 41)) = (some true : Option Bool) := by
  induction d with
  | zero =>
    intro i m hd hm
    obtain ⟨m, rfl⟩ : ∃ k, m = k + 1 := ⟨m - 1, by omega⟩
    rw [s41_1_l, bF (by omega), s41_1x3_k]
  | succ d ih =>
    intro i m hd hm
    obtain ⟨m, rfl⟩ : ∃ k, m = k + 1 := ⟨m - 1, by omega⟩
    rw [s41_1_l, bT (by omega), if_pos (by omega), if_pos (by omega), Int.toNat_natCast, w64 (x := (i : Int) + 1) (by omega) (by omega)]
    have := same_self ((l.getD i d0).1.1, (l.getD i d0).1.2.1, (l.getD i d0).1.2.2.1, (l.getD i d0).2.1)
    simp only at this
    rw [this, Bool.not_true, cond_false]
    exact ih (i + 1) m (by omega) (by omega)
theorem s41 {k : Nat} {l : List En} (hlen : l.length ≤ 140737488351232) (hk : l.length + 9 ≤ k) : callN B k 41 [argAV (.sl EntryT) l, argAV (.sl EntryT) l] = (some true : Option Bool) := by
  obtain ⟨k, rfl⟩ := Nat.exists_eq_add_of_le' (show 1 ≤ k by omega)
  refine (callS k 41 _).trans ((t41 (callN B k) (lvl B k).2 k l l).trans ?_)
  rw [bne_self_eq_false, cond_false]
  exact l41 k hlen l.length 0 k (by omega) (by omega)
theorem l36 {call : CallT B} {inl : InlT} (m0 : Nat) {l : List En} (d : Nat) : ∀ (i m : Nat), i + d = 400 → d < m →
    ∃ r : Bool, LP B call inl 36 m [1, 0, 1] (s36_1 l (i : Int)) (KA B call inl 36 m0 [1, 0, 1] (FI B call inl 36)) = (some r : Option Bool) := by
  induction d with
  | zero =>
    intro i m hd hm
    obtain ⟨m, rfl⟩ : ∃ k, m = k + 1 := ⟨m - 1, by omega⟩
    by_cases h : (i : Int) < (l.length : Int)
    · exact ⟨_, by rw [s36_1_l, decide_eq_true h, beq_self_eq_true, cond_true, bF (by omega), s36_1x3_k]⟩
    · exact ⟨_, by rw [s36_1_l, decide_eq_false h, show (false == true) = false from rfl, cond_false, s36_1x3_k]⟩
  | succ d ih =>
    intro i m hd hm
    obtain ⟨m, rfl⟩ : ∃ k, m = k + 1 := ⟨m - 1, by omega⟩
    by_cases h : (i : Int) < (l.length : Int)
    · obtain ⟨r, hr⟩ := ih (i + 1) m (by omega) (by omega)
      rw [s36_1_l, decide_eq_true h, beq_self_eq_true, cond_true, bT (by omega), if_pos (by omega), if_pos (by omega), w64 (x := (i : Int) + 1) (by omega) (by omega), s36_1x2_k]
      generalize decide (((List.getD l (i : Int).toNat (((ByteArray.mk #[]), (0 : Int), (0 : Int), ()), (ByteArray.mk #[]), ())).fst.fst.size : Int) > 300) = c1
      generalize decide (((List.getD l (i : Int).toNat (((ByteArray.mk #[]), (0 : Int), (0 : Int), ()), (ByteArray.mk #[]), ())).snd.fst.size : Int) > 1000) = c2
      cases c1 with
      | true => exact ⟨true, rfl⟩
      | false =>
        cases c2 with
        | true => exact ⟨true, rfl⟩
        | false => exact ⟨r, hr⟩
    · exact ⟨_, by rw [s36_1_l, decide_eq_false h, show (false == true) = false from rfl, cond_false, s36_1x3_k]⟩
theorem s36 {k : Nat} (l : List En) (hk : 500 ≤ k) : ∃ r : Bool, callN B k 36 [argAV (.sl EntryT) l] = (some r : Option Bool) := by
  obtain ⟨k, rfl⟩ := Nat.exists_eq_add_of_le' (show 1 ≤ k by omega)
  obtain ⟨r, hr⟩ := l36 (call := callN B k) (inl := (lvl B k).2) k (l := l) 400 0 k (by omega) (by omega)
  exact ⟨r, (callS k 36 _).trans ((t36 (callN B k) (lvl B k).2 k l).trans hr)⟩
/-! ### the numbers of a block's end -/
theorem bval_fx (n : Nat) : ∀ (k a : Nat), n / 256 ^ k = a → bval a (fx n k) = n
  | 0, a, h => by simpa [bval, fx] using h.symm
  | k + 1, a, h => by
    simp only [bval, fx, Int.toNat_natCast]
    refine bval_fx n k _ ?_
    have h1 : n / 256 ^ k / 256 = a := by rw [Nat.div_div_eq_div_mul, ← Nat.pow_succ]; exact h
    omega
theorem putB_pl (l : List En) : ∀ (d i : Nat) (out pl : List Int), (∃ a, pl.length = 4 * a) → ∃ a, (putB l d i out pl).2.length = 4 * a ∧ pl.length ≤ 4 * a ∧ 4 * a ≤ pl.length + 4 * d ∧ (i % 4 = 0 → 0 < d → 4 ≤ 4 * a)
  | 0, i, out, pl, ⟨a, h⟩ => ⟨a, h, by omega, by omega, by omega⟩
  | d + 1, i, out, pl, ⟨a, h⟩ => by
    by_cases hi : i % 4 = 0
    · have hl : (if i % 4 = 0 then pl ++ fx out.length 4 else pl).length = 4 * (a + 1) := by rw [if_pos hi, List.length_append, fx_length]; omega
      obtain ⟨b, h1, h2, h3, _⟩ := putB_pl l d (i + 1) (out ++ encE (shAt l i) (l.getD i d0)) (if i % 4 = 0 then pl ++ fx out.length 4 else pl) ⟨a + 1, hl⟩
      exact ⟨b, h1, by omega, by omega, by omega⟩
    · have hl : (if i % 4 = 0 then pl ++ fx out.length 4 else pl).length = 4 * a := by rw [if_neg hi]; exact h
      obtain ⟨b, h1, h2, h3, _⟩ := putB_pl l d (i + 1) (out ++ encE (shAt l i) (l.getD i d0)) (if i % 4 = 0 then pl ++ fx out.length 4 else pl) ⟨a, hl⟩
      exact ⟨b, h1, by omega, by omega, by omega⟩
/-- The last two bytes of a block tell its whole keys. -/
theorem putBlock_end {l : List En} (h : (putBlock l).2.1 = 0) : ∃ (x y : List Int) (a : Nat), (putBlock l).1 = x ++ y ++ fx a 2 ∧ y.length = 4 * a ∧ 1 ≤ a ∧ a ≤ 64 ∧ x = (putB l l.length 0 [] []).1 ∧
    gfx (putBlock l).1 (((putBlock l).1.length : Int) - 2) 2 = ((a : Int), true, ()) := by
  obtain ⟨h0, hr, h64⟩ := putBlock_zero h
  obtain ⟨a, h1, _, h2, h3⟩ := putB_pl l l.length 0 [] [] ⟨0, rfl⟩
  have hp := putBlock_ok h0 hr h64
  have e : (putBlock l).1 = (putB l l.length 0 [] []).1 ++ (putB l l.length 0 [] []).2 ++ fx a 2 := by
    rw [hp]
    show _ ++ _ ++ fx (List.length _ / 4) 2 = _
    rw [h1, Nat.mul_div_cancel_left _ (by omega)]
  simp only [List.length_nil] at h2
  have ha : 1 ≤ a ∧ a ≤ 64 := by have := h3 rfl (by omega); omega
  refine ⟨_, _, a, e, h1, ha.1, ha.2, rfl, ?_⟩
  rw [e]
  generalize (putB l l.length 0 [] []).1 ++ (putB l l.length 0 [] []).2 = z
  have hl : (z ++ fx a 2).length = z.length + 2 := by rw [List.length_append, fx_length]
  have e2 : ((z ++ fx a 2).length : Int) - 2 = (z.length : Int) := by omega
  rw [e2, gfx_yes (by omega), List.drop_left, List.take_of_length_le (by rw [fx_length]; omega)]
  rw [bval_fx a 2 0 (by rw [show (256 : Nat) ^ 2 = 65536 from by decide]; omega)]
theorem getBlock_zero {b : List Int} (h : (gfx b ((b.length : Int) - 2) 2).1 = 0) : getBlock b = ([], false, ()) := by
  rcases getBlock_cases b with h1 | ⟨out, h1, h2⟩
  · exact h1
  · obtain ⟨x, y, a, _, _, ha, _, _, hg⟩ := putBlock_end (l := out) (by rw [h2])
    rw [h2] at hg
    simp only at hg
    rw [hg] at h
    simp only at h
    omega
end Go.Eng.Bk
