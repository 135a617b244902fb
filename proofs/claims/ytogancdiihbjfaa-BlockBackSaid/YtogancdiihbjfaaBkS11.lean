/- What the document's GetBlock answers, and what Seek does; BlockAll's function answers true. -/
import Derived.Test.YtogancdiihbjfaaBkS10
namespace Go.Eng.Bk
open Go Go.Proofs Go.Eng
set_option linter.unusedVariables false
set_option linter.unusedSimpArgs false
theorem s38 {k : Nat} {b : List Int} (hb : Bytes b) (hlen : b.length ≤ 1000000000) (hk : b.length + 50010 ≤ k) : callN B k 38 [argAV (.sl u8) b] = (some (getBlock b) : Option (List En × Bool × Unit)) := by
  obtain ⟨k, rfl⟩ := Nat.exists_eq_add_of_le' (show 1 ≤ k by omega)
  refine (callS k 38 _).trans ((t38 (callN B k) (lvl B k).2 k b).trans ?_)
  have hw1 : IntKind.i64.wrap ((b.length : Int) - 2) = (b.length : Int) - 2 := w64 (by omega) (by omega)
  rw [hw1]
  refine bnd (s75 (by omega) hb (by omega) ((b.length : Int) - 2) (by omega) 2 (by omega) (by omega)) ?_
  obtain ⟨c, hc⟩ := gfx_nat hb ((b.length : Int) - 2) 2
  have hz := getBlock_zero (b := b)
  unfold getBlock at hz ⊢
  generalize hr : gfx b ((b.length : Int) - 2) 2 = r at hc hz ⊢
  cases ho : r.2.1 with
  | false =>
    rw [if_neg (fun h => by cases h.1)]
    rfl
  | true =>
    rw [Bool.not_true, beq_self_eq_true, cond_true]
    have hcb : c < 65536 := by
      unfold gfx at hr
      split at hr
      · rw [← hr] at ho; cases ho
      · have := bval_lt ((b.drop ((b.length : Int) - 2).toNat).take 2) 0 0 ((hb.drop _).take 2) (by simp)
        have hll : ((b.drop ((b.length : Int) - 2).toNat).take 2).length ≤ 2 := by rw [List.length_take]; omega
        have hpw : 256 ^ (0 + ((b.drop ((b.length : Int) - 2).toNat).take 2).length) ≤ 256 ^ 2 := Nat.pow_le_pow_right (by omega) (by omega)
        have : (256 : Nat) ^ 2 = 65536 := by decide
        rw [← hr] at hc
        simp only at hc
        omega
    by_cases h1 : r.1 < 1
    · rw [decide_eq_true h1, show (true == false) = false from rfl, cond_false]
      rw [ho] at hz
      exact congrArg some (hz (by omega)).symm
    rw [decide_eq_false h1, beq_self_eq_true, cond_true]
    by_cases h2 : r.1 > (b.length : Int)
    · rw [decide_eq_true h2, show (true == false) = false from rfl, cond_false, if_neg (fun h => by have := h.2; omega)]
    rw [decide_eq_false h2, beq_self_eq_true, cond_true]
    have hw2 : IntKind.i64.wrap (IntKind.i64.wrap ((4 : Int) * r.1) + 2) = 4 * (c : Int) + 2 := by rw [hc, w64 (x := 4 * (c : Int)) (by omega) (by omega), w64 (by omega) (by omega)]
    by_cases h4 : 4 * r.1 > (b.length : Int) - 2
    · rw [bT (by rw [hw2]; omega), if_neg (fun h => by have := h.2; omega)]
    · rw [bF (by rw [hw2]; omega), if_pos ⟨rfl, by omega⟩]
      have hl := l38 (q := k) (by omega) (inl := (lvl B k).2) k hb hlen (v0 := r) c hc (by omega) (b.length + 1) 0 k [] ⟨#[]⟩ (by omega) (by omega) (by omega) (by simp) (Nat.zero_le _)
      have e : ((b.length : Int) - 2 - 4 * r.1).toNat = b.length - 2 - 4 * c := by rw [hc]; omega
      rw [e]
      exact hl
/-! ### Seek -/
theorem mid (i j : Nat) (h : i + j < 1000000000) : IntKind.i64.wrap ((IntKind.u64.wrap (IntKind.i64.wrap ((i : Int) + (j : Int)))).fdiv ((2 : Int) ^ Min.min (Int.toNat (1 : Int)) IntKind.u64.bits)) = (((i + j) / 2 : Nat) : Int) := by
  rw [w64 (x := (i : Int) + (j : Int)) (by omega) (by omega), wu64 (by omega) (by omega)]
  rw [show ((2 : Int) ^ Min.min (Int.toNat (1 : Int)) IntKind.u64.bits) = 2 from by decide]
  rw [Int.fdiv_eq_ediv_of_nonneg _ (by omega), w64 (by omega) (by omega)]
  omega
theorem l78 {q : Nat} (hq : 8 ≤ q) {inl : InlT} {mq : Nat} {R : Type} (m0 : Nat) (K : AV → St → Option R) (b : List Int) (key : Ke) (v0 : List En × Bool × Unit) (hlen : v0.1.length ≤ 64) {r : Option R}
    (hr : ∀ i : Nat, 4 * i ≤ v0.1.length + 3 → (0 < i → cmpKe (v0.1.getD (4 * (i - 1)) d0).1 key < 0) → K (.v i64 (i : Int)) (c39_78_1r14 b key v0) = r) (d : Nat) : ∀ (i j m : Nat), i ≤ j → j ≤ i + d → 4 * j ≤ v0.1.length + 3 → d < m → (0 < i → cmpKe (v0.1.getD (4 * (i - 1)) d0).1 key < 0) →
    LP B (callN B (q + 1)) (inlN B (callN B q) inl mq) 78 m [1, 1, 0] (s78_6 b key v0 (i : Int) (j : Int)) (KA B (callN B (q + 1)) (inlN B (callN B q) inl mq) 78 m0 [1, 1, 0] (FN B (callN B (q + 1)) (inlN B (callN B q) inl mq) 78 47 K)) = r := by
  induction d with
  | zero =>
    intro i j m h1 h2 h3 hm hi
    obtain ⟨m, rfl⟩ : ∃ k, m = k + 1 := ⟨m - 1, by omega⟩
    rw [s78_6_l, bF (by omega), s78_6x12_k]
    exact hr i (by omega) hi
  | succ d ih =>
    intro i j m h1 h2 h3 hm hi
    obtain ⟨m, rfl⟩ : ∃ k, m = k + 1 := ⟨m - 1, by omega⟩
    by_cases hij : i < j
    · rw [s78_6_l, bT (by omega), c78_79_7_i]
      have hmid := mid i j (by omega)
      have hm4 : IntKind.i64.wrap ((((i + j) / 2 : Nat) : Int) * 4) = ((4 * ((i + j) / 2) : Nat) : Int) := by rw [w64 (by omega) (by omega)]; omega
      rw [hmid, hm4, if_pos (by omega), Int.toNat_natCast]
      refine bnd (s80 (by omega) (v0.1.getD (4 * ((i + j) / 2)) d0).1 key) ?_
      rw [c78_79_7r9_k11, hmid]
      have hw : IntKind.i64.wrap ((((i + j) / 2 : Nat) : Int) + 1) = (((i + j) / 2 + 1 : Nat) : Int) := by rw [w64 (by omega) (by omega)]; omega
      rw [hw]
      by_cases hc : cmpKe (v0.1.getD (4 * ((i + j) / 2)) d0).1 key ≥ 0
      · rw [decide_eq_true hc, Bool.not_true, cond_false]
        exact ih i ((i + j) / 2) m (by omega) (by omega) (by omega) (by omega) hi
      · rw [decide_eq_false hc, Bool.not_false, cond_true]
        exact ih ((i + j) / 2 + 1) j m (by omega) (by omega) (by omega) (by omega) (fun _ => by rw [Nat.add_sub_cancel]; omega)
    · rw [s78_6_l, bF (by omega), s78_6x12_k]
      exact hr i (by omega) hi
theorem l39 {q : Nat} (hq : 8 ≤ q) {inl : InlT} (m0 : Nat) (key : Ke) (v0 : List En × Bool × Unit) (x : Int) (from_ : Nat) (hf : IntKind.i64.wrap (maxI (0 : Int) (IntKind.i64.wrap (x - (1 : Int))) * (4 : Int)) = (from_ : Int)) (hlen : v0.1.length ≤ 140737488351232) (d : Nat) : ∀ (i m : Nat), i + d = (v0.1.drop from_).length → d < m →
    LP B (callN B q) inl 39 m [1, 1, 1, 1, 1, 0, 1] (s39_23 key v0 x (i : Int)) (KA B (callN B q) inl 39 m0 [1, 1, 1, 1, 1, 0, 1] (FI B (callN B q) inl 39)) = (some (above key ((v0.1.drop from_).drop i)) : Option (En × Bool × Unit)) := by
  have hll : (v0.1.drop from_).length ≤ 140737488351232 := by rw [List.length_drop]; omega
  have hL : List.drop (IntKind.i64.wrap (maxI (0 : Int) (IntKind.i64.wrap (x - (1 : Int))) * (4 : Int))).toNat (List.take (List.length v0.fst) v0.fst) = v0.1.drop from_ := by
    rw [hf, Int.toNat_natCast, List.take_length]
  induction d with
  | zero =>
    intro i m hd hm
    obtain ⟨m, rfl⟩ : ∃ k, m = k + 1 := ⟨m - 1, by omega⟩
    rw [s39_23_l, hL, bF (by omega), s39_23x26_k, List.drop_eq_nil_of_le (by omega)]
    rfl
  | succ d ih =>
    intro i m hd hm
    obtain ⟨m, rfl⟩ : ∃ k, m = k + 1 := ⟨m - 1, by omega⟩
    obtain ⟨e, t, hdr, _⟩ := drop_cons (l := v0.1.drop from_) (i := i) (by omega)
    rw [s39_23_l, hL, bT (by omega), if_pos (by omega), Int.toNat_natCast]
    refine bnd (s80 (by omega) ((v0.1.drop from_).getD i d0).1 key) ?_
    rw [dgetD hdr d0, hdr]
    have ha : above key (e :: t) = if cmpKe e.1 key ≥ 0 then (e, true, ()) else above key t := rfl
    rw [ha]
    by_cases hc : cmpKe e.1 key ≥ 0
    · rw [bT hc, if_pos hc, s39_23x25_k, hL, Int.toNat_natCast, dgetD hdr]
    · rw [bF hc, if_neg hc, w64 (x := (i : Int) + 1) (by omega) (by omega)]
      have := ih (i + 1) m (by omega) (by omega)
      rw [dsucc hdr] at this
      exact this
theorem above_drop {key : Ke} : ∀ (l : List En) (n : Nat), (∀ j, j < n → j < l.length → cmpKe (l.getD j d0).1 key < 0) → above key (l.drop n) = above key l
  | _, 0, _ => rfl
  | [], n + 1, _ => rfl
  | e :: t, n + 1, h => by
    have h0 := h 0 (by omega) (by simp)
    have ha : above key (e :: t) = if cmpKe e.1 key ≥ 0 then (e, true, ()) else above key t := rfl
    rw [ha, if_neg (by have : cmpKe e.1 key < 0 := h0; omega), List.drop_succ_cons]
    exact above_drop t n (fun j hj hl => h (j + 1) (by omega) (by simpa using hl))
theorem pair_lt {l : List En} (h : l.Pairwise LtE) {i j : Nat} (hij : i < j) (hj : j < l.length) : LtE (l.getD i d0) (l.getD j d0) := by
  rw [getD_lt' (show i < l.length by omega), getD_lt' hj]
  exact List.pairwise_iff_getElem.1 h i j (by omega) hj hij
theorem getBlock_rising (b : List Int) : (getBlock b).1.length ≤ 64 ∧ (getBlock b).1.Pairwise LtE := by
  rcases getBlock_cases b with h | ⟨out, h, h'⟩
  · rw [h]; exact ⟨by simp, List.Pairwise.nil⟩
  · rw [h]
    have := putBlock_zero (l := out) (by rw [h'])
    exact ⟨this.2.2, rising_pair this.2.1⟩
theorem s39 {k : Nat} {b : List Int} (hb : Bytes b) (hlen : b.length ≤ 1000000000) (hk : b.length + 50020 ≤ k) (key : Ke) : callN B k 39 [argAV (.sl u8) b, argAV KeyT key] = (some (above key (getBlock b).1) : Option (En × Bool × Unit)) := by
  obtain ⟨k, rfl⟩ := Nat.exists_eq_add_of_le' (show 3 ≤ k by omega)
  refine (callS (k + 2) 39 _).trans ((t39 (callN B (k + 2)) (lvl B (k + 2)).2 (k + 2) b key).trans ?_)
  refine bnd (s34 hb hlen (by omega)) ?_
  obtain ⟨hl64, hpair⟩ := getBlock_rising b
  have hno : (getBlock b).2.1 = false → (getBlock b).1 = [] := by
    intro h
    rcases getBlock_cases b with h1 | ⟨out, h1, _⟩
    · rw [h1]
    · rw [h1] at h; cases h
  generalize getBlock b = v0 at hl64 hpair hno ⊢
  cases ho : v0.2.1 with
  | false =>
    rw [hno ho]
    rfl
  | true =>
    rw [Bool.not_true, cond_false, lvl2, lvl2, c39_78_1_i]
    have hw : IntKind.i64.wrap ((IntKind.i64.wrap (IntKind.i64.wrap ((v0.1.length : Int) + (4 : Int)) - (1 : Int))).tdiv (4 : Int)) = (((v0.1.length + 3) / 4 : Nat) : Int) := by
      rw [w64 (x := (v0.1.length : Int) + 4) (by omega) (by omega), show (v0.1.length : Int) + 4 - 1 = ((v0.1.length + 3 : Nat) : Int) from by omega, w64 (x := ((v0.1.length + 3 : Nat) : Int)) (by omega) (by omega)]
      show IntKind.i64.wrap (((v0.1.length + 3) / 4 : Nat) : Int) = _
      exact w64 (by omega) (by omega)
    rw [hw]
    refine l78 (by omega) (k + 1) _ b key v0 hl64 ?_ ((v0.1.length + 3) / 4) 0 ((v0.1.length + 3) / 4) (k + 1) (by omega) (by omega) (by omega) (by omega) (fun h => absurd h (by omega))
    intro i hi hlow
    refine (c39_78_1r14_k28 _ _ _ b key v0 (i : Int)).trans ?_
    have hmax : IntKind.i64.wrap (maxI (0 : Int) (IntKind.i64.wrap ((i : Int) - (1 : Int))) * (4 : Int)) = ((4 * (i - 1) : Nat) : Int) := by
      rw [w64 (x := (i : Int) - 1) (by omega) (by omega)]
      have : maxI (0 : Int) ((i : Int) - 1) = ((i - 1 : Nat) : Int) := by
        unfold maxI
        split <;> omega
      rw [this, w64 (by omega) (by omega)]
      omega
    rw [hmax, if_pos (by omega)]
    have := l39 (q := k + 2) (by omega) (inl := inlN B (callN B (k + 1)) (inlN B (callN B k) (lvl B k).2 k) (k + 1)) (k + 2) key v0 (i : Int) (4 * (i - 1)) hmax (by omega) (v0.1.drop (4 * (i - 1))).length 0 (k + 2) (by omega) (by rw [List.length_drop]; omega)
    refine this.trans (congrArg some ?_)
    rw [List.drop_zero]
    refine above_drop v0.1 (4 * (i - 1)) (fun j hj hjl => ?_)
    have h1 := hlow (by omega)
    exact cmpKe_lt.2 ((pair_lt hpair hj (by omega)).trans (cmpKe_lt.1 h1))
theorem s9 {k : Nat} (hk : 100000 ≤ k) {l : List En} {b : List Int} (hb : Bytes b) (key : Ke) : callN B k 9 [argAV (.sl EntryT) l, argAV (.sl u8) b, argAV KeyT key] = (some true : Option Bool) := by
  obtain ⟨k, rfl⟩ := Nat.exists_eq_add_of_le' (show 1 ≤ k by omega)
  refine (callS k 9 _).trans ((t9 (callN B k) (lvl B k).2 k l b key).trans ?_)
  have aw : (((callN B k 19 []).bind fun (v0 : Bool) => some (v0)) : Option Bool) = some true := bnd (s19 (by omega)) rfl
  obtain ⟨r, hr⟩ := s36 (k := k) l (by omega)
  refine bnd hr ?_
  cases r with
  | true => exact aw
  | false =>
  rw [beq_self_eq_true, cond_true]
  by_cases c2 : (l.length : Int) > 80
  · rw [decide_eq_true c2]; exact aw
  rw [decide_eq_false c2, beq_self_eq_true, cond_true]
  by_cases c3 : (b.length : Int) > 3000
  · rw [decide_eq_true c3]; exact aw
  rw [decide_eq_false c3, beq_self_eq_true, cond_true]
  by_cases c4 : (key.1.size : Int) > 300
  · rw [decide_eq_true c4]; exact aw
  rw [decide_eq_false c4, cond_false]
  have hgl := (getBlock_rising b).1
  refine bnd (s17 (l := l) (by omega) (by omega)) ?_
  refine bnd (s37 (l := l) (by omega) (by omega)) ?_
  refine bnd (s34 hb (by omega) (by omega)) ?_
  refine bnd (s38 hb (by omega) (by omega)) ?_
  refine bnd (s39 hb (by omega) (by omega) key) ?_
  refine bnd (s40 (l := (getBlock b).1) (by omega) (by omega) key) ?_
  rw [beq_self_eq_true, beq_self_eq_true, cond_true]
  refine bnd (s18 (by omega) _) ?_
  rw [beq_self_eq_true, beq_self_eq_true, cond_true]
  refine bnd (s41 (l := (getBlock b).1) (by omega) (by omega)) ?_
  rw [beq_self_eq_true, cond_true, beq_self_eq_true, beq_self_eq_true, cond_true]
  have := same_self ((above key (getBlock b).1).1.1.1, (above key (getBlock b).1).1.1.2.1, (above key (getBlock b).1).1.1.2.2.1, (above key (getBlock b).1).1.2.1)
  simp only at this
  rw [this, beq_self_eq_true, cond_true, beq_self_eq_true, beq_self_eq_true, cond_true]
  exact aw
end Go.Eng.Bk
