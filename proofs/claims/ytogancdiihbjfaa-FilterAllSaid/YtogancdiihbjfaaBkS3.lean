/- What the functions of numbers, texts, keys and entries answer, the program's and the document's (on). -/
import Derived.Test.YtogancdiihbjfaaBkS2
namespace Go.Eng.Bk
open Go Go.Proofs Go.Eng
set_option linter.unusedVariables false
set_option linter.unusedSimpArgs false
theorem l73 {call : CallT B} {inl : InlT} (m0 : Nat) (d : Nat) : ∀ (n : Nat) (out : List Int) (m : Nat), n < 128 ^ (d + 1) → n < 9223372036854775808 → out.length + d < 140737488355327 → d < m →
    LP B call inl 73 m [1, 1, 1, 0] (s73_2 (n : Int) out) (KA B call inl 73 m0 [1, 1, 1, 0] (FI B call inl 73)) = (some (out ++ enc n) : Option (List Int)) := by
  have last : ∀ (n : Nat) (out : List Int) (m : Nat), n < 128 → out.length < 140737488355327 → 
      LP B call inl 73 (m + 1) [1, 1, 1, 0] (s73_2 (n : Int) out) (KA B call inl 73 m0 [1, 1, 1, 0] (FI B call inl 73)) = (some (out ++ enc n) : Option (List Int)) := by
    intro n out m h1 ho
    rw [s73_2_l, bF (by omega), s73_2x3_k, if_pos (by simp only [List.length_cons, List.length_nil]; omega), enc_lt h1, wu8]
    have : (n : Int) % 256 = n := by omega
    rw [this]
  induction d with
  | zero =>
    intro n out m h hn ho hm
    obtain ⟨m, rfl⟩ : ∃ k, m = k + 1 := ⟨m - 1, by omega⟩
    exact last n out m (by simpa using h) (by omega)
  | succ d ih =>
    intro n out m h hn ho hm
    obtain ⟨m, rfl⟩ : ∃ k, m = k + 1 := ⟨m - 1, by omega⟩
    by_cases h1 : n < 128
    · exact last n out m h1 (by omega)
    · have e1 : Int.tmod (n : Int) (128 : Int) = ((n % 128 : Nat) : Int) := rfl
      have e2 : Int.tdiv (n : Int) (128 : Int) = ((n / 128 : Nat) : Int) := rfl
      have e3 : IntKind.u8.wrap (IntKind.i64.wrap ((128 : Int) + ((n % 128 : Nat) : Int))) = ((n % 128 + 128 : Nat) : Int) := by
        rw [w64 (by omega) (by omega), wu8]; omega
      rw [s73_2_l, bT (by omega), if_pos (by simp only [List.length_cons, List.length_nil]; omega), enc_ge h1, e1, e2, e3, w64 (x := ((n / 128 : Nat) : Int)) (by omega) (by omega)]
      refine (ih (n / 128) _ m (by rw [Nat.pow_succ] at h; omega) (by omega) (by simp only [List.length_append, List.length_cons, List.length_nil]; omega) (by omega)).trans ?_
      exact congrArg some (by simp)
theorem s73 {k : Nat} (hk : 12 ≤ k) {n : Nat} (hn : n < 9223372036854775808) : callN B k 73 [.v i64 (n : Int)] = (some (enc n) : Option (List Int)) := by
  obtain ⟨k, rfl⟩ := Nat.exists_eq_add_of_le' (show 1 ≤ k by omega)
  refine (callS k 73 _).trans ((t73 (callN B k) (lvl B k).2 k (n : Int)).trans ?_)
  rw [bF (by omega)]
  exact l73 k 8 n [] k (by rw [show (128 : Nat) ^ (8 + 1) = 9223372036854775808 from by decide]; exact hn) hn (by simp) (by omega)
theorem s74 {k : Nat} (hk : 13 ≤ k) {s : ByteArray} (hs : s.size ≤ 70368744177664) : callN B k 74 [.v .str s] = (some (enc s.size ++ bytesOf s) : Option (List Int)) := by
  obtain ⟨k, rfl⟩ := Nat.exists_eq_add_of_le' (show 1 ≤ k by omega)
  refine (callS k 74 _).trans ((t74 (callN B k) (lvl B k).2 k s).trans ?_)
  refine bnd (s73 (by omega) (by omega)) ?_
  have := enc_length9 (n := s.size) (by omega)
  rw [if_pos (by omega)]
theorem l76 {call : CallT B} {inl : InlT} (m0 : Nat) {l : List Int} (hl : Bytes l) (hlen : l.length ≤ 140737488351232) (p : Nat) (hp : p ≤ l.length) (d : Nat) : ∀ (i n m : Nat), i + d = 9 → n < 128 ^ i → d < m →
    LP B call inl 76 m [1, 1, 1, 0, 1] (s76_2 l (p : Int) (n : Int) (i : Int)) (KA B call inl 76 m0 [1, 1, 1, 0, 1] (FI B call inl 76)) =
      (some (match dec i n (l.drop (p + i)) with | some (v, j) => ((v : Int), (p : Int) + j, true, ()) | none => (0, 0, false, ())) : Option (Int × Int × Bool × Unit)) := by
  induction d with
  | zero =>
    intro i n m hd hn hm
    obtain ⟨m, rfl⟩ : ∃ k, m = k + 1 := ⟨m - 1, by omega⟩
    obtain rfl : i = 9 := by omega
    rw [s76_2_l, decide_eq_false (by omega), show (false == true) = false from rfl, cond_false, s76_2x5_k]
    cases l.drop (p + 9) <;> rfl
  | succ d ih =>
    intro i n m hd hn hm
    obtain ⟨m, rfl⟩ : ∃ k, m = k + 1 := ⟨m - 1, by omega⟩
    by_cases hlp : l.length ≤ p + i
    · have hdn : l.drop (p + i) = [] := List.drop_of_length_le hlp
      rw [s76_2_l, decide_eq_true (by omega), beq_self_eq_true, cond_true]
      have hw : IntKind.i64.wrap ((l.length : Int) - (p : Int)) ≤ (i : Int) := by
        rw [w64 (by omega) (by omega)]; omega
      rw [bF (by omega), s76_2x5_k, hdn]
      rfl
    · rw [s76_2_l, decide_eq_true (by omega), beq_self_eq_true, cond_true, w64 (x := (l.length : Int) - (p : Int)) (by omega) (by omega)]
      cases hd0 : l.drop (p + i) with
      | nil =>
        have : l.length ≤ p + i := by simpa using hd0
        exact absurd this hlp
      | cons c t =>
        have hlt := drop_lt hd0
        have hc := hl c (by have : c ∈ l.drop (p + i) := by rw [hd0]; simp
                            exact List.mem_of_mem_drop this)
        obtain ⟨cn, rfl⟩ : ∃ m : Nat, c = m := ⟨c.toNat, by omega⟩
        have hpi : (p : Int) + (i : Int) = ((p + i : Nat) : Int) := by omega
        have hpos : ((p + i : Nat) : Int) + 1 = (p : Int) + ((i + 1 : Nat) : Int) := by omega
        have hi1 : (i : Int) + 1 = ((i + 1 : Nat) : Int) := by omega
        have hpw : 128 ^ i ≤ 128 ^ 8 := Nat.pow_le_pow_right (by omega) (by omega)
        have hmm : (cn % 128) * 128 ^ i ≤ 127 * 128 ^ i := Nat.mul_le_mul_right _ (by omega)
        have hsum : n + (cn % 128) * 2 ^ (7 * i) < 128 ^ (i + 1) := by
          rw [← pow7, Nat.pow_succ]; omega
        have h8 : (128 : Nat) ^ 8 = 72057594037927936 := by decide
        have hs2 : n + (cn % 128) * 2 ^ (7 * i) < 9223372036854775808 := by
          rw [← pow7]; omega
        have hw1 : IntKind.i64.wrap ((p : Int) + (i : Int)) = ((p + i : Nat) : Int) := by rw [hpi]; exact w64 (by omega) (by omega)
        have hw2 : IntKind.u64.wrap (IntKind.i64.wrap ((7 : Int) * (i : Int))) = ((7 * i : Nat) : Int) := by
          rw [w64 (by omega) (by omega), wu64 (by omega) (by omega)]; omega
        have hget : IntKind.i64.wrap (List.getD l (IntKind.i64.wrap ((p : Int) + (i : Int))).toNat (0 : Int)) = (cn : Int) := by
          rw [hw1, Int.toNat_natCast, getD_drop hd0]; exact w64 (by omega) (by omega)
        have hor : IntKind.i64.wrap (↑(BitVec.ofInt IntKind.i64.bits (n : Int) ||| BitVec.ofInt IntKind.i64.bits (IntKind.i64.wrap ((IntKind.i64.wrap (List.getD l (IntKind.i64.wrap ((p : Int) + (i : Int))).toNat (0 : Int))).tmod (128 : Int) * (2 : Int) ^ Min.min (IntKind.u64.wrap (IntKind.i64.wrap ((7 : Int) * (i : Int)))).toNat IntKind.i64.bits))).toNat : Int) = ((n + (cn % 128) * 2 ^ (7 * i) : Nat) : Int) := by
          rw [hget, hw2, show Int.tmod (cn : Int) (128 : Int) = ((cn % 128 : Nat) : Int) from rfl, shl_nat _ _ (by omega) (by omega), or_shift _ _ _ (by rw [← pow7]; exact hn) hs2]
        have hret : KA B call inl 76 m0 [1, 1, 1, 0, 1] (FI B call inl 76) .ret (s76_2x4 l (p : Int) (n : Int) (i : Int)) = (some ((((n + cn % 128 * 128 ^ i : Nat) : Int), (p : Int) + ((i + 1 : Nat) : Int), true, ())) : Option (Int × Int × Bool × Unit)) := by
          rw [s76_2x4_k, hor, hw1, w64 (x := ((p + i : Nat) : Int) + 1) (by omega) (by omega), ← pow7, hpos]
        rw [bT (by omega), if_pos (by rw [hw1]; omega), if_neg (by rw [hw2]; omega), hor, hget]
        simp only [dec, Int.toNat_natCast]
        rw [if_pos (by omega : i < 9)]
        by_cases h1 : cn > 127
        · rw [bT (by omega), if_pos (by omega), w64 (x := (i : Int) + 1) (by omega) (by omega), hi1]
          rw [ih (i + 1) (n + cn % 128 * 2 ^ (7 * i)) m (by omega) hsum (by omega), show p + (i + 1) = p + i + 1 from by omega, drop_succ hd0, ← pow7]
        · have hcm : cn % 128 = cn := by omega
          rw [hcm] at hret
          rw [bF (by omega), if_neg (by omega)]
          by_cases h2 : cn = 0
          · subst h2
            rw [show ((((0 : Nat) : Int) == (0 : Int)) == true) = true from rfl, cond_true]
            by_cases h3 : 0 < i
            · rw [bT (by omega), s76_2x3_k, if_pos ⟨rfl, h3⟩]
            · rw [bF (by omega), hret, if_neg (fun h => h3 h.2)]
          · have : (((cn : Int) == (0 : Int)) == true) = false := by
              have : ((cn : Int) == (0 : Int)) = false := beq_eq_false_iff_ne.2 (by omega)
              rw [this]; rfl
            rw [this, cond_false, hret, if_neg (fun h => h2 (by have := h.1; omega))]
theorem getN_no {l : List Int} {p : Nat} (h : l.length ≤ p) : getN l (p : Int) = (0, 0, false) := by
  unfold getN
  rw [if_neg (by omega), Int.toNat_natCast, List.drop_of_length_le h]
  rfl
theorem s76 {k : Nat} (hk : 12 ≤ k) {l : List Int} (hl : Bytes l) (hlen : l.length ≤ 140737488351232) (at_ : Int) : callN B k 76 [.v (.sl u8) l, .v i64 at_] = (some (g3 (getN l at_)) : Option (Int × Int × Bool × Unit)) := by
  obtain ⟨k, rfl⟩ := Nat.exists_eq_add_of_le' (show 1 ≤ k by omega)
  refine (callS k 76 _).trans ((t76 (callN B k) (lvl B k).2 k l at_).trans ?_)
  by_cases h : at_ < 0
  · rw [decide_eq_true h]
    exact congrArg some (by unfold getN; rw [if_pos h])
  · rw [decide_eq_false h, beq_self_eq_true, cond_true]
    obtain ⟨p, rfl⟩ : ∃ m : Nat, at_ = m := ⟨at_.toNat, by omega⟩
    by_cases h2 : l.length ≤ p
    · rw [bT (by omega)]
      exact congrArg some (by rw [getN_no h2])
    · rw [bF (by omega)]
      refine (l76 k hl hlen p (by omega) 9 0 0 k (by omega) (by simp) (by omega)).trans (congrArg some ?_)
      unfold getN
      rw [if_neg (by omega)]
      simp only [Nat.add_zero, Int.toNat_natCast]
      cases dec 0 0 (List.drop p l) with
      | none => rfl
      | some q => rfl
theorem s77 {k : Nat} (hk : 13 ≤ k) {l : List Int} (hl : Bytes l) (hlen : l.length ≤ 140737488351232) (at_ : Int) : callN B k 77 [.v (.sl u8) l, .v i64 at_] = (some (g3 (getT l at_)) : Option (ByteArray × Int × Bool × Unit)) := by
  obtain ⟨k, rfl⟩ := Nat.exists_eq_add_of_le' (show 1 ≤ k by omega)
  refine (callS k 77 _).trans ((t77 (callN B k) (lvl B k).2 k l at_).trans ?_)
  refine bnd (s76 (by omega) hl hlen at_) ?_
  unfold getT
  rcases getN_cases hl at_ with h | ⟨p, n, j, rfl, hd, h, hn, h1, h9, hp⟩
  · rw [h]; rfl
  · rw [h]
    have hw1 : IntKind.i64.wrap ((List.length l : Int) - ((p + j : Nat) : Int)) = (List.length l : Int) - ((p + j : Nat) : Int) := w64 (by omega) (by omega)
    change (bif decide ((n : Int) > IntKind.i64.wrap ((List.length l : Int) - ((p + j : Nat) : Int))) then _ else _) = _
    rw [hw1]
    by_cases hc : (n : Int) > (l.length : Int) - ((p + j : Nat) : Int)
    · rw [bT hc]
      simp only [if_true]
      rw [if_pos hc]
    · have hw2 : IntKind.i64.wrap (((p + j : Nat) : Int) + (n : Int)) = ((p + j : Nat) : Int) + (n : Int) := w64 (by omega) (by omega)
      rw [bF hc]
      change (if (0 : Int) ≤ ((p + j : Nat) : Int) ∧ ((p + j : Nat) : Int) ≤ IntKind.i64.wrap (((p + j : Nat) : Int) + (n : Int)) ∧ IntKind.i64.wrap (((p + j : Nat) : Int) + (n : Int)) ≤ (List.length l : Int) then some (strOf (List.drop (Int.toNat ((p + j : Nat) : Int)) (List.take (IntKind.i64.wrap (((p + j : Nat) : Int) + (n : Int))).toNat l)), IntKind.i64.wrap (((p + j : Nat) : Int) + (n : Int)), true, ()) else none) = _
      rw [hw2, if_pos (by omega)]
      simp only [if_true]
      rw [if_neg hc]
/-! ### keys -/
abbrev d0 : En := ((⟨#[]⟩, 0, 0, ()), ⟨#[]⟩, ())
def mayK (a : Ke) : Bool := mayB a.1 a.2.1 a.2.2.1
def cmpKe (a b : Ke) : Int := cmpK a.1 a.2.1 a.2.2.1 b.1 b.2.1 b.2.2.1
theorem s115 {k : Nat} (h : 1 ≤ k) (x : ByteArray) : callN B k 115 [.v .str x] = (some false : Option Bool) := by
  obtain ⟨k, rfl⟩ := Nat.exists_eq_add_of_le' h
  refine (callS k 115 _).trans ((t115 (callN B k) (lvl B k).2 k x).trans ?_)
  exact congrArg some (by simp)
theorem s116 {k : Nat} (h : 1 ≤ k) (x : Int) : callN B k 116 [.v i64 x] = (some false : Option Bool) := by
  obtain ⟨k, rfl⟩ := Nat.exists_eq_add_of_le' h
  refine (callS k 116 _).trans ((t116 (callN B k) (lvl B k).2 k x).trans ?_)
  exact congrArg some (by simp)
theorem s101 {k : Nat} (h : 2 ≤ k) (a b : ByteArray) : callN B k 101 [.v .str a, .v .str b] = (some (cmpS a b) : Option Int) := by
  obtain ⟨k, rfl⟩ := Nat.exists_eq_add_of_le' (show 1 ≤ k by omega)
  refine (callS k 101 _).trans ((t101 (callN B k) (lvl B k).2 k a b).trans ?_)
  refine bnd (s115 (by omega) _) (bnd (s115 (by omega) _) ?_)
  change @Eq (Option Int) _ _
  simp only [cond_false]
  unfold cmpS
  cases h1 : Op.bytesLess a.toList b.toList with
  | true => simp
  | false =>
    by_cases h2 : a.toList = b.toList
    · simp [h2]
    · simp [h2, beq_eq_false_iff_ne.2 h2]
theorem s102 {k : Nat} (h : 2 ≤ k) (a b : Int) : callN B k 102 [.v i64 a, .v i64 b] = (some (cmpI a b) : Option Int) := by
  obtain ⟨k, rfl⟩ := Nat.exists_eq_add_of_le' (show 1 ≤ k by omega)
  refine (callS k 102 _).trans ((t102 (callN B k) (lvl B k).2 k a b).trans ?_)
  refine bnd (s116 (by omega) _) (bnd (s116 (by omega) _) ?_)
  change @Eq (Option Int) _ _
  simp only [cond_false]
  unfold cmpI
  by_cases h1 : a < b
  · simp [h1]
  · by_cases h2 : a > b
    · simp [h1, h2]
    · simp [h1, h2]
theorem l100 {call : CallT B} {inl : InlT} (m0 m : Nat) (x y z : Int) : LP B call inl 100 (m + 4) [1, 1, 0, 1] (s100_1 [x, y, z] 0) (KA B call inl 100 m0 [1, 1, 0, 1] (FI B call inl 100)) = (some (or3 x y z) : Option Int) := by
  have w1 : IntKind.i64.wrap ((0 : Int) + (1 : Int)) = 1 := by decide +kernel
  have w2 : IntKind.i64.wrap ((1 : Int) + (1 : Int)) = 2 := by decide +kernel
  have w3 : IntKind.i64.wrap ((2 : Int) + (1 : Int)) = 3 := by decide +kernel
  have hz : ∀ u : Int, u ≠ 0 → (u != 0) = true := fun u hu => by simpa using hu
  have hzz : ((0 : Int) != 0) = false := by decide
  unfold or3
  rw [s100_1_l, bT (by simp), if_pos (by simp), show List.getD [x, y, z] (Int.toNat (0 : Int)) (0 : Int) = x from rfl, w1]
  by_cases hx : x = 0
  · rw [hx, hzz, cond_false, if_pos rfl, s100_1_l, bT (by simp), if_pos (by simp), show List.getD [(0 : Int), y, z] (Int.toNat (1 : Int)) (0 : Int) = y from rfl, w2]
    by_cases hy : y = 0
    · rw [hy, hzz, cond_false, if_pos rfl, s100_1_l, bT (by simp), if_pos (by simp), show List.getD [(0 : Int), 0, z] (Int.toNat (2 : Int)) (0 : Int) = z from rfl, w3]
      by_cases hc : z = 0
      · rw [hc, hzz, cond_false, s100_1_l, bF (by simp), s100_1x3_k]
      · rw [hz z hc, cond_true, s100_1x2_k]
        rfl
    · rw [hz y hy, cond_true, s100_1x2_k, if_neg hy]
      rfl
  · rw [hz x hx, cond_true, s100_1x2_k, if_neg hx]
    rfl
theorem s100 {k : Nat} (h : 5 ≤ k) (x y z : Int) : callN B k 100 [.v (.sl i64) [x, y, z]] = (some (or3 x y z) : Option Int) := by
  obtain ⟨k, rfl⟩ := Nat.exists_eq_add_of_le' h
  exact (callS (k + 4) 100 _).trans ((t100 (callN B (k + 4)) (lvl B (k + 4)).2 (k + 4) [x, y, z]).trans (l100 _ _ x y z))
theorem s80 {k : Nat} (h : 6 ≤ k) (a b : Ke) : callN B k 80 [argAV KeyT a, argAV KeyT b] = (some (cmpKe a b) : Option Int) := by
  obtain ⟨k, rfl⟩ := Nat.exists_eq_add_of_le' (show 1 ≤ k by omega)
  refine (callS k 80 _).trans ((t80 (callN B k) (lvl B k).2 k a b).trans ?_)
  exact bnd (s101 (by omega) _ _) (bnd (s102 (by omega) _ _) (bnd (s102 (by omega) _ _) (bnd (s100 (by omega) _ _ _) rfl)))
theorem s81 {k : Nat} (h : 1 ≤ k) (a b : Ke) : callN B k 81 [argAV KeyT a, argAV KeyT b] = (some (cmpKe a b) : Option Int) := by
  obtain ⟨k, rfl⟩ := Nat.exists_eq_add_of_le' (show 1 ≤ k by omega)
  refine (callS k 81 _).trans ((t81 (callN B k) (lvl B k).2 k a b).trans ?_)
  unfold cmpKe cmpK or3
  obtain ⟨u, s, d, _⟩ := a
  obtain ⟨v, t, e, _⟩ := b
  change @Eq (Option Int) _ _
  simp only
  have nb : ∀ {x y : Int}, x ≠ y → (x != y) = true := fun h => by simpa using h
  have ne : ∀ {x : Int}, (x != x) = false := by simp
  rcases cmpS_cases u v with ⟨h1, c⟩ | ⟨h1, c⟩ | ⟨h1, c⟩
  · have h2 : (u.toList == v.toList) = false := beq_eq_false_iff_ne.2 (fun e => by rw [e, bl_irr] at h1; cases h1)
    rw [c, h2, h1]; rfl
  · have h2 : (u.toList == v.toList) = true := by rw [h1]; simp
    rw [c, h2]
    rcases cmpI_cases t s with ⟨h3, c2⟩ | ⟨h3, c2⟩ | ⟨h3, c2⟩
    · rw [c2, nb (show s ≠ t by omega), decide_eq_true (show s > t by omega)]; rfl
    · subst h3
      rw [c2, ne]
      rcases cmpI_cases e d with ⟨h4, c4⟩ | ⟨h4, c4⟩ | ⟨h4, c4⟩
      · rw [c4, nb (show d ≠ e by omega), decide_eq_true (show d > e by omega)]; rfl
      · subst h4; rw [c4, ne]; rfl
      · rw [c4, nb (show d ≠ e by omega), decide_eq_false (show ¬ d > e by omega)]; rfl
    · rw [c2, nb (show s ≠ t by omega), decide_eq_false (show ¬ s > t by omega)]; rfl
  · have h2 : (u.toList == v.toList) = false := beq_eq_false_iff_ne.2 (fun e => by rw [e, bl_irr] at h1; cases h1)
    rw [c, h2, bl_asym h1]; rfl
theorem s112 {k : Nat} (h : 1 ≤ k) (a : Ke) : callN B k 112 [argAV KeyT a] = (some (mayK a) : Option Bool) := by
  obtain ⟨k, rfl⟩ := Nat.exists_eq_add_of_le' h
  refine (callS k 112 _).trans ((t112 (callN B k) (lvl B k).2 k a).trans ?_)
  change @Eq (Option Bool) _ _
  unfold mayK mayB
  by_cases h1 : (a.1.size : Int) ≤ 64
  · by_cases h2 : 0 ≤ a.2.1
    · by_cases h3 : a.2.1 ≤ 9007199254740992
      · by_cases h4 : a.2.2.1 = 1
        · simp [h1, h2, h3, h4]
        · by_cases h5 : a.2.2.1 = 2
          · simp [h1, h2, h3, h5]
          · simp [h1, h2, h3, h4, h5, beq_eq_false_iff_ne.2 h4, beq_eq_false_iff_ne.2 h5]
      · simp [h1, h2, h3]
    · simp [h1, h2]
  · simp [h1]
theorem s122 {k : Nat} (h : 1 ≤ k) (x : Int) : callN B k 122 [.v i64 x] = (some (decide (0 ≤ x ∧ x ≤ 9007199254740992)) : Option Bool) := by
  obtain ⟨k, rfl⟩ := Nat.exists_eq_add_of_le' h
  refine (callS k 122 _).trans ((t122 (callN B k) (lvl B k).2 k x).trans ?_)
  change @Eq (Option Bool) _ _
  by_cases h1 : 0 ≤ x
  · simp [h1]
  · simp [h1]
theorem s114 {k : Nat} (h : 2 ≤ k) (a : Ke) : callN B k 114 [argAV KeyT a] = (some (mayK a) : Option Bool) := by
  obtain ⟨k, rfl⟩ := Nat.exists_eq_add_of_le' (show 1 ≤ k by omega)
  refine (callS k 114 _).trans ((t114 (callN B k) (lvl B k).2 k a).trans ?_)
  unfold mayK mayB
  by_cases h1 : (a.1.size : Int) ≤ 64
  · rw [decide_eq_true h1, beq_self_eq_true, cond_true]
    refine bnd (s122 (by omega) _) ?_
    change @Eq (Option Bool) _ _
    by_cases h2 : 0 ≤ a.2.1
    · by_cases h3 : a.2.1 ≤ 9007199254740992
      · by_cases h4 : a.2.2.1 = 1
        · simp [h1, h2, h3, h4]
        · by_cases h5 : a.2.2.1 = 2
          · simp [h1, h2, h3, h5]
          · simp [h1, h2, h3, h4, h5, beq_eq_false_iff_ne.2 h4, beq_eq_false_iff_ne.2 h5]
      · simp [h1, h2, h3]
    · simp [h1, h2]
  · change @Eq (Option Bool) _ _
    simp [h1]
/-- Whether an entry may be. -/
def mayE (e : En) : Bool := mayK e.1 && decide ((e.2.1.size : Int) ≤ 512) && (e.1.2.2.1 == 1 || e.2.1.toList == (ByteArray.mk #[]).toList)
theorem s90 {k : Nat} (h : 2 ≤ k) (a : En) : callN B k 90 [argAV EntryT a] = (some (mayE a) : Option Bool) := by
  obtain ⟨k, rfl⟩ := Nat.exists_eq_add_of_le' (show 1 ≤ k by omega)
  refine (callS k 90 _).trans ((t90 (callN B k) (lvl B k).2 k a).trans ?_)
  refine bnd (s112 (by omega) a.1) ?_
  change @Eq (Option Bool) _ _
  unfold mayE
  cases mayK a.1 <;> cases decide ((a.2.1.size : Int) ≤ 512) <;> cases (a.1.2.2.1 == 1) <;> rfl
theorem s96 {k : Nat} (h : 3 ≤ k) (a : En) : callN B k 96 [argAV EntryT a] = (some (mayE a) : Option Bool) := by
  obtain ⟨k, rfl⟩ := Nat.exists_eq_add_of_le' (show 1 ≤ k by omega)
  refine (callS k 96 _).trans ((t96 (callN B k) (lvl B k).2 k a).trans ?_)
  refine bnd (s114 (by omega) a.1) ?_
  change @Eq (Option Bool) _ _
  unfold mayE
  cases mayK a.1 <;> cases decide ((a.2.1.size : Int) ≤ 512) <;> cases (a.1.2.2.1 == 1) <;> rfl
/-- Whether each may be, and is above the one ahead. -/
def risA (l : List En) : Nat → Nat → Bool
  | 0, _ => true
  | d + 1, i => mayE (l.getD i d0) && (i == 0 || decide (cmpKe (l.getD (i - 1) d0).1 (l.getD i d0).1 < 0)) && risA l d (i + 1)
def rising (l : List En) : Bool := risA l l.length 0
theorem l52 {q : Nat} (hq : 6 ≤ q) {inl : InlT} (m0 : Nat) {l : List En} (hlen : l.length ≤ 140737488351232) (d : Nat) : ∀ (i m : Nat), i + d = l.length → d < m →
    LP B (callN B q) inl 52 m [1, 1, 0, 1] (s52_4 l (i : Int)) (KA B (callN B q) inl 52 m0 [1, 1, 0, 1] (FI B (callN B q) inl 52)) = (some (risA l d i) : Option Bool) := by
  induction d with
  | zero =>
    intro i m hd hm
    obtain ⟨m, rfl⟩ : ∃ k, m = k + 1 := ⟨m - 1, by omega⟩
    rw [s52_4_l, bF (by omega), s52_4x9_k]
    rfl
  | succ d ih =>
    intro i m hd hm
    obtain ⟨m, rfl⟩ : ∃ k, m = k + 1 := ⟨m - 1, by omega⟩
    rw [s52_4_l, bT (by omega), if_pos (by omega), Int.toNat_natCast]
    refine bnd (s90 (by omega) (l.getD i d0)) ?_
    have hr : risA l (d + 1) i = (mayE (l.getD i d0) && (i == 0 || decide (cmpKe (l.getD (i - 1) d0).1 (l.getD i d0).1 < 0)) && risA l d (i + 1)) := rfl
    rw [hr, w64 (x := (i : Int) + 1) (by omega) (by omega)]
    have hnext := ih (i + 1) m (by omega) (by omega)
    cases hm : mayE (l.getD i d0) with
    | false => rw [Bool.not_false, cond_true, s52_4x6_k]; rfl
    | true =>
      rw [Bool.not_true, cond_false]
      by_cases hi : i = 0
      · subst hi
        rw [show (((0 : Nat) : Int) == (0 : Int)) = true from rfl, cond_true]
        exact hnext
      · have h0 : ((i : Int) == (0 : Int)) = false := beq_eq_false_iff_ne.2 (by omega)
        have e1 : IntKind.i64.wrap ((i : Int) - 1) = ((i - 1 : Nat) : Int) := by rw [w64 (by omega) (by omega)]; omega
        rw [h0, cond_false, e1, if_pos (by omega), Int.toNat_natCast]
        refine bnd (s80 (by omega) (l.getD (i - 1) d0).1 (l.getD i d0).1) ?_
        have h1 : (i == 0) = false := beq_eq_false_iff_ne.2 hi
        rw [h1]
        by_cases hc : cmpKe (l.getD (i - 1) d0).1 (l.getD i d0).1 < 0
        · rw [bF (by omega), decide_eq_true hc]
          exact hnext
        · rw [bT (by omega), decide_eq_false hc, s52_4x8_k]
          rfl
theorem s52 {k : Nat} {l : List En} (hlen : l.length ≤ 140737488351232) (hk : l.length + 8 ≤ k) : callN B k 52 [argAV (.sl EntryT) l] = (some (rising l) : Option Bool) := by
  obtain ⟨k, rfl⟩ := Nat.exists_eq_add_of_le' (show 1 ≤ k by omega)
  refine (callS k 52 _).trans ((t52 (callN B k) (lvl B k).2 k l).trans ?_)
  exact l52 (by omega) k hlen l.length 0 k (by omega) (by omega)
theorem l70 {q : Nat} (hq : 6 ≤ q) {inl : InlT} (m0 : Nat) {l : List En} (hlen : l.length ≤ 140737488351232) (d : Nat) : ∀ (i m : Nat), i + d = l.length → d < m →
    LP B (callN B q) inl 70 m [1, 0, 1] (s70_4 l (i : Int)) (KA B (callN B q) inl 70 m0 [1, 0, 1] (FI B (callN B q) inl 70)) = (some (risA l d i) : Option Bool) := by
  induction d with
  | zero =>
    intro i m hd hm
    obtain ⟨m, rfl⟩ : ∃ k, m = k + 1 := ⟨m - 1, by omega⟩
    rw [s70_4_l, bF (by omega), s70_4x8_k]
    rfl
  | succ d ih =>
    intro i m hd hm
    obtain ⟨m, rfl⟩ : ∃ k, m = k + 1 := ⟨m - 1, by omega⟩
    rw [s70_4_l, bT (by omega), if_pos (by omega), Int.toNat_natCast]
    refine bnd (s96 (by omega) (l.getD i d0)) ?_
    have hr : risA l (d + 1) i = (mayE (l.getD i d0) && (i == 0 || decide (cmpKe (l.getD (i - 1) d0).1 (l.getD i d0).1 < 0)) && risA l d (i + 1)) := rfl
    rw [hr, w64 (x := (i : Int) + 1) (by omega) (by omega)]
    have hnext := ih (i + 1) m (by omega) (by omega)
    cases hm : mayE (l.getD i d0) with
    | false => rw [Bool.not_false, show (true == false) = false from rfl, cond_false, s70_4x7_k]; rfl
    | true =>
      rw [Bool.not_true, beq_self_eq_true, cond_true]
      by_cases hi : i = 0
      · subst hi
        rw [decide_eq_false (by omega), show (false == true) = false from rfl, cond_false]
        exact hnext
      · have e1 : IntKind.i64.wrap ((i : Int) - 1) = ((i - 1 : Nat) : Int) := by rw [w64 (by omega) (by omega)]; omega
        rw [decide_eq_true (by omega), beq_self_eq_true, cond_true, e1, if_pos (by omega), if_pos (by omega), Int.toNat_natCast]
        refine bnd (s81 (by omega) (l.getD (i - 1) d0).1 (l.getD i d0).1) ?_
        have h1 : (i == 0) = false := beq_eq_false_iff_ne.2 hi
        rw [h1]
        by_cases hc : cmpKe (l.getD (i - 1) d0).1 (l.getD i d0).1 < 0
        · rw [bF (by omega), decide_eq_true hc]
          exact hnext
        · rw [bT (by omega), decide_eq_false hc, s70_4x7_k]
          rfl
theorem s70 {k : Nat} {l : List En} (hlen : l.length ≤ 140737488351232) (hk : l.length + 8 ≤ k) : callN B k 70 [argAV (.sl EntryT) l] = (some (rising l) : Option Bool) := by
  obtain ⟨k, rfl⟩ := Nat.exists_eq_add_of_le' (show 1 ≤ k by omega)
  refine (callS k 70 _).trans ((t70 (callN B k) (lvl B k).2 k l).trans ?_)
  exact l70 (by omega) k hlen l.length 0 k (by omega) (by omega)
end Go.Eng.Bk
