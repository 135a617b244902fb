/- What the functions of numbers, texts and keys answer. -/
import Derived.Test.YtogancdiihbjfaaBkK
import Derived.Test.YtogancdiihbjfaaBkT1
import Derived.Test.YtogancdiihbjfaaBkT2
namespace Go.Eng.Bk
open Go Go.Proofs Go.Eng
set_option linter.unusedVariables false
set_option linter.unusedSimpArgs false
theorem bnd {α β : Type} {o : Option α} {x : α} {f : α → Option β} {r : Option β} (h : o = some x) (h2 : f x = r) : o.bind f = r := by rw [h]; exact h2
theorem cif {α : Type} (b : Bool) (x y : α) : (bif b then x else y) = if b = true then x else y := by cases b <;> rfl
theorem bT {c : Prop} [Decidable c] {α : Type} {x y : α} (h : c) : (bif decide c then x else y) = x := by rw [decide_eq_true h]; rfl
theorem bF {c : Prop} [Decidable c] {α : Type} {x y : α} (h : ¬ c) : (bif decide c then x else y) = y := by rw [decide_eq_false h]; rfl
theorem getD_drop {l : List Int} {i : Nat} {c : Int} {t : List Int} (h : l.drop i = c :: t) (d : Int) : l.getD i d = c := by
  have : l[i]? = some c := by
    have := congrArg (fun x => x[0]?) h
    simpa using this
  rw [List.getD_eq_getElem?_getD, this]; rfl
/-- Rooms are no matter. -/
abbrev room : Nat := 140737488355328
theorem callS (k : Nat) (f : FuncId) (args : List AV) : callN B (k + 1) f args = stepN B (callN B k) (lvl B k).2 k f args := by kernel_rfl
/-! ### numbers -/
theorem l55 {call : CallT B} {inl : InlT} (m0 : Nat) (d : Nat) : ∀ (n : Nat) (out : List Int) (m : Nat), n < 128 ^ (d + 1) → out.length + d < 140737488355327 → d < m →
    LP B call inl 55 m [1, 1, 1, 0] (s55_2 (n : Int) out) (KA B call inl 55 m0 [1, 1, 1, 0] (FI B call inl 55)) = (some (out ++ enc n) : Option (List Int)) := by
  induction d with
  | zero =>
    intro n out m h ho hm
    obtain ⟨m, rfl⟩ : ∃ k, m = k + 1 := ⟨m - 1, by omega⟩
    have h1 : n < 128 := by simpa using h
    rw [s55_2_l, bF (by omega), s55_2x3_k, if_pos (by simp only [List.length_cons, List.length_nil]; omega), enc_lt h1, wu8]
    have : (n : Int) % 256 = n := by omega
    rw [this]
  | succ d ih =>
    intro n out m h ho hm
    obtain ⟨m, rfl⟩ : ∃ k, m = k + 1 := ⟨m - 1, by omega⟩
    by_cases h1 : n < 128
    · rw [s55_2_l, bF (by omega), s55_2x3_k, if_pos (by simp only [List.length_cons, List.length_nil]; omega), enc_lt h1, wu8]
      have : (n : Int) % 256 = n := by omega
      rw [this]
    · rw [s55_2_l, bT (by omega), if_pos (by simp only [List.length_cons, List.length_nil]; omega), enc_ge h1]
      have e1 : IntKind.u8.wrap (n : Int) = ((n % 256 : Nat) : Int) := by rw [wu8]; omega
      have e2 : Int.fdiv (n : Int) ((2 : Int) ^ Min.min (Int.toNat (7 : Int)) IntKind.i64.bits) = ((n / 128 : Nat) : Int) := by
        have : (2 : Int) ^ Min.min (Int.toNat (7 : Int)) IntKind.i64.bits = 128 := by decide
        rw [this, Int.fdiv_eq_ediv_of_nonneg _ (by omega)]; omega
      rw [e1, e2, or128 _ (by omega), show n % 256 % 128 = n % 128 from by omega]
      rw [ih (n / 128) _ m (by rw [Nat.pow_succ] at h; omega) (by simp only [List.length_append, List.length_cons, List.length_nil]; omega) (by omega)]
      exact congrArg some (by simp)
theorem s55 {k : Nat} (hk : 12 ≤ k) {n : Nat} (hn : n < 9223372036854775808) : callN B k 55 [.v i64 (n : Int)] = (some (enc n) : Option (List Int)) := by
  obtain ⟨k, rfl⟩ := Nat.exists_eq_add_of_le' (show 1 ≤ k by omega)
  refine (callS k 55 _).trans ((t55 (callN B k) (lvl B k).2 k (n : Int)).trans ?_)
  rw [bF (by omega)]
  exact l55 k 8 n [] k (by rw [show (128 : Nat) ^ (8 + 1) = 9223372036854775808 from by decide]; exact hn) (by simp) (by omega)
theorem s56 {k : Nat} (hk : 13 ≤ k) {s : ByteArray} (hs : s.size ≤ 70368744177664) : callN B k 56 [.v .str s] = (some (enc s.size ++ bytesOf s) : Option (List Int)) := by
  obtain ⟨k, rfl⟩ := Nat.exists_eq_add_of_le' (show 1 ≤ k by omega)
  refine (callS k 56 _).trans ((t56 (callN B k) (lvl B k).2 k s).trans ?_)
  refine bnd (s55 (by omega) (by omega)) ?_
  have := enc_length9 (n := s.size) (by omega)
  rw [if_pos (by omega)]
abbrev g3 {α β γ : Type} (x : α × β × γ) : α × β × γ × Unit := (x.1, x.2.1, x.2.2, ())
theorem l97 {call : CallT B} {inl : InlT} (m0 : Nat) {l : List Int} (hl : Bytes l) (hlen : l.length ≤ 140737488351232) (p : Nat) (d : Nat) : ∀ (i n m : Nat), i + d = 9 → n < 128 ^ i → d < m →
    LP B call inl 97 m [1, 1, 1, 0, 1] (s97_2 l (p : Int) (n : Int) (i : Int)) (KA B call inl 97 m0 [1, 1, 1, 0, 1] (FI B call inl 97)) =
      (some (match dec i n (l.drop (p + i)) with | some (v, j) => ((v : Int), (p : Int) + j, true, ()) | none => (0, 0, false, ())) : Option (Int × Int × Bool × Unit)) := by
  induction d with
  | zero =>
    intro i n m hd hn hm
    obtain ⟨m, rfl⟩ : ∃ k, m = k + 1 := ⟨m - 1, by omega⟩
    obtain rfl : i = 9 := by omega
    rw [s97_2_l, bF (by omega), s97_2x6_k]
    cases l.drop (p + 9) <;> rfl
  | succ d ih =>
    intro i n m hd hn hm
    obtain ⟨m, rfl⟩ : ∃ k, m = k + 1 := ⟨m - 1, by omega⟩
    rw [s97_2_l, bT (by omega), w64 (x := (l.length : Int) - i) (by omega) (by omega)]
    cases hd0 : l.drop (p + i) with
    | nil =>
      have : l.length ≤ p + i := by simpa using hd0
      rw [bT (by omega), s97_2x3_k]
      rfl
    | cons c t =>
      have hlt := drop_lt hd0
      have hc := hl c (by have : c ∈ l.drop (p + i) := by rw [hd0]; simp
                          exact List.mem_of_mem_drop this)
      obtain ⟨cn, rfl⟩ : ∃ m : Nat, c = m := ⟨c.toNat, by omega⟩
      have hpi : (p : Int) + (i : Int) = ((p + i : Nat) : Int) := by omega
      have h7i : (7 : Int) * (i : Int) = ((7 * i : Nat) : Int) := by omega
      have hpos : ((p + i : Nat) : Int) + 1 = (p : Int) + ((i + 1 : Nat) : Int) := by omega
      have hi1 : (i : Int) + 1 = ((i + 1 : Nat) : Int) := by omega
      have hpw : 128 ^ i ≤ 128 ^ 8 := Nat.pow_le_pow_right (by omega) (by omega)
      have hm : (cn % 128) * 128 ^ i ≤ 127 * 128 ^ i := Nat.mul_le_mul_right _ (by omega)
      have hsum : n + (cn % 128) * 2 ^ (7 * i) < 128 ^ (i + 1) := by
        rw [← pow7, Nat.pow_succ]; omega
      have h8 : (128 : Nat) ^ 8 = 72057594037927936 := by decide
      have hs2 : n + (cn % 128) * 2 ^ (7 * i) < 9223372036854775808 := by
        rw [← pow7]; omega
      have hget : ∀ x, List.getD l (IntKind.i64.wrap ((p : Int) + (i : Int))).toNat x = (cn : Int) := by
        intro x
        rw [hpi, w64 (x := ((p + i : Nat) : Int)) (by omega) (by omega), Int.toNat_natCast]
        exact getD_drop hd0 x
      have hor : ∀ x, IntKind.i64.wrap (↑(BitVec.ofInt IntKind.i64.bits (n : Int) ||| BitVec.ofInt IntKind.i64.bits (IntKind.i64.wrap (IntKind.i64.wrap (IntKind.u8.wrap (↑(BitVec.ofInt IntKind.u8.bits (List.getD l (IntKind.i64.wrap ((p : Int) + (i : Int))).toNat x) &&& BitVec.ofInt IntKind.u8.bits (127 : Int)).toNat : Int)) * (2 : Int) ^ Min.min (IntKind.i64.wrap ((7 : Int) * (i : Int))).toNat IntKind.i64.bits))).toNat : Int) = ((n + (cn % 128) * 2 ^ (7 * i) : Nat) : Int) := by
        intro x
        rw [hget x, and127 cn (by omega), h7i, w64 (x := ((7 * i : Nat) : Int)) (by omega) (by omega), w64 (x := ((cn % 128 : Nat) : Int)) (by omega) (by omega), shl_nat _ _ (by omega) (by omega), or_shift _ _ _ (by rw [← pow7]; exact hn) hs2]
      have hw1 : IntKind.i64.wrap ((p : Int) + (i : Int)) = ((p + i : Nat) : Int) := by rw [hpi]; exact w64 (by omega) (by omega)
      have hw2 : IntKind.i64.wrap ((7 : Int) * (i : Int)) = ((7 * i : Nat) : Int) := by rw [h7i]; exact w64 (by omega) (by omega)
      rw [bF (by omega), if_pos (by rw [hw1]; omega), if_neg (by rw [hw2]; omega), hor 0, hget]
      simp only [dec, Int.toNat_natCast]
      rw [if_pos (by omega : i < 9)]
      by_cases h1 : cn > 127
      · rw [bT (by omega), if_pos (by omega), w64 (x := (i : Int) + 1) (by omega) (by omega), hi1]
        rw [ih (i + 1) (n + cn % 128 * 2 ^ (7 * i)) m (by omega) hsum (by omega), show p + (i + 1) = p + i + 1 from by omega, drop_succ hd0, ← pow7]
      · have hcm : cn % 128 = cn := by omega
        rw [bF (by omega), if_neg (by omega)]
        have hret : KA B call inl 97 m0 [1, 1, 1, 0, 1] (FI B call inl 97) .ret (s97_2x5 l (p : Int) (n : Int) (i : Int)) = (some ((((n + cn * 128 ^ i : Nat) : Int), (p : Int) + ((i + 1 : Nat) : Int), true, ())) : Option (Int × Int × Bool × Unit)) := by
          rw [s97_2x5_k, hor, hw1, w64 (x := ((p + i : Nat) : Int) + 1) (by omega) (by omega), hcm, ← pow7, hpos]
        by_cases h2 : cn = 0
        · subst h2
          rw [show ((((0 : Nat) : Int) == (0 : Int)) == true) = true from rfl, cond_true]
          by_cases h3 : 0 < i
          · rw [bT (by omega), s97_2x4_k, if_pos ⟨rfl, h3⟩]
          · rw [bF (by omega), hret, if_neg (fun h => h3 h.2)]
        · have : (((cn : Int) == (0 : Int)) == true) = false := by
            have : ((cn : Int) == (0 : Int)) = false := beq_eq_false_iff_ne.2 (by omega)
            rw [this]; rfl
          rw [this, cond_false, hret, if_neg (fun h => h2 (by have := h.1; omega))]
theorem s97 {k : Nat} (hk : 12 ≤ k) {l : List Int} (hl : Bytes l) (hlen : l.length ≤ 140737488351232) (at_ : Int) : callN B k 97 [.v (.sl u8) l, .v i64 at_] = (some (g3 (getN l at_)) : Option (Int × Int × Bool × Unit)) := by
  obtain ⟨k, rfl⟩ := Nat.exists_eq_add_of_le' (show 1 ≤ k by omega)
  refine (callS k 97 _).trans ((t97 (callN B k) (lvl B k).2 k l at_).trans ?_)
  unfold getN
  by_cases h : at_ < 0
  · rw [bT h, if_pos h]
  · rw [bF h, if_neg h]
    obtain ⟨p, rfl⟩ : ∃ m : Nat, at_ = m := ⟨at_.toNat, by omega⟩
    refine (l97 k hl hlen p 9 0 0 k (by omega) (by simp) (by omega)).trans ?_
    simp only [Nat.add_zero, Int.toNat_natCast]
    cases dec 0 0 (List.drop p l) with
    | none => rfl
    | some q => rfl
theorem s98 {k : Nat} (hk : 13 ≤ k) {l : List Int} (hl : Bytes l) (hlen : l.length ≤ 140737488351232) (at_ : Int) : callN B k 98 [.v (.sl u8) l, .v i64 at_] = (some (g3 (getT l at_)) : Option (ByteArray × Int × Bool × Unit)) := by
  obtain ⟨k, rfl⟩ := Nat.exists_eq_add_of_le' (show 1 ≤ k by omega)
  refine (callS k 98 _).trans ((t98 (callN B k) (lvl B k).2 k l at_).trans ?_)
  refine bnd (s97 (by omega) hl hlen at_) ?_
  unfold getT
  rcases getN_cases hl at_ with h | ⟨p, n, j, rfl, hd, h, hn, h1, h9, hp⟩
  · rw [h]; rfl
  · rw [h]
    have hw1 : IntKind.i64.wrap ((List.length l : Int) - ((p + j : Nat) : Int)) = (List.length l : Int) - ((p + j : Nat) : Int) := w64 (by omega) (by omega)
    change (bif decide ((n : Int) > IntKind.i64.wrap ((List.length l : Int) - ((p + j : Nat) : Int))) then _ else _) = _
    rw [hw1]
    by_cases hc : (n : Int) > (l.length : Int) - ((p + j : Nat) : Int)
    · rw [bT hc]
      simp only [if_true]
      rw [if_pos hc]
    · have hw2 : IntKind.i64.wrap (((p + j : Nat) : Int) + (n : Int)) = ((p + j : Nat) : Int) + (n : Int) := w64 (by omega) (by omega)
      rw [bF hc]
      change (if (0 : Int) ≤ ((p + j : Nat) : Int) ∧ ((p + j : Nat) : Int) ≤ IntKind.i64.wrap (((p + j : Nat) : Int) + (n : Int)) ∧ IntKind.i64.wrap (((p + j : Nat) : Int) + (n : Int)) ≤ (List.length l : Int) then some (strOf (List.drop (Int.toNat ((p + j : Nat) : Int)) (List.take (IntKind.i64.wrap (((p + j : Nat) : Int) + (n : Int))).toNat l)), IntKind.i64.wrap (((p + j : Nat) : Int) + (n : Int)), true, ()) else none) = _
      rw [hw2, if_pos (by omega)]
      simp only [if_true]
      rw [if_neg hc]
/-! ### numbers in so many bytes -/
/-- So many bytes of a number, the highest one first. -/
def fx (n : Nat) : Nat → List Int
  | 0 => []
  | k + 1 => ((n / 256 ^ k % 256 : Nat) : Int) :: fx n k
theorem fx_length (n : Nat) : ∀ k, (fx n k).length = k
  | 0 => rfl
  | k + 1 => by simp [fx, fx_length n k]
theorem fx_bytes (n : Nat) : ∀ k, Bytes (fx n k)
  | 0 => Bytes.nil
  | k + 1 => fun x hx => by
    rcases List.mem_cons.1 hx with h | h
    · subst h; omega
    · exact fx_bytes n k x h
theorem set_app {α : Type} (a : List α) (b : List α) (x : α) (h : b ≠ []) : (a ++ b).set a.length x = a ++ (x :: b.tail) := by
  cases b with
  | nil => exact (h rfl).elim
  | cons y b => simp
theorem fx_app (n : Nat) (i : Nat) : ∀ k, fx n (k + 1) = (fx (n / 256) k) ++ [((n % 256 : Nat) : Int)]
  | 0 => by simp [fx]
  | k + 1 => by
    have ih := fx_app n i k
    have e1 : fx n (k + 1 + 1) = ((n / 256 ^ (k + 1) % 256 : Nat) : Int) :: fx n (k + 1) := rfl
    have e2 : fx (n / 256) (k + 1) = ((n / 256 / 256 ^ k % 256 : Nat) : Int) :: fx (n / 256) k := rfl
    rw [e1, ih, e2, Nat.div_div_eq_div_mul, show 256 * 256 ^ k = 256 ^ (k + 1) from by rw [Nat.pow_succ, Nat.mul_comm]]
    rfl
theorem l53 {call : CallT B} {inl : InlT} (m0 n z : Nat) (hz : z ≤ 8) (d : Nat) : ∀ (i m : Nat) (a : List Int), i + d = z → a.length = i → d < m →
    LP B call inl 53 m [1, 1, 1, 0, 1] (s53_2 (n : Int) (z : Int) (a ++ List.replicate d 0) (i : Int)) (KA B call inl 53 m0 [1, 1, 1, 0, 1] (FI B call inl 53)) = (some (a ++ fx n d) : Option (List Int)) := by
  induction d with
  | zero =>
    intro i m a hd ha hm
    obtain ⟨m, rfl⟩ : ∃ k, m = k + 1 := ⟨m - 1, by omega⟩
    rw [s53_2_l, bF (by omega), s53_2x3_k]
    rfl
  | succ d ih =>
    intro i m a hd ha hm
    obtain ⟨m, rfl⟩ : ∃ k, m = k + 1 := ⟨m - 1, by omega⟩
    have e1 : IntKind.i64.wrap ((8 : Int) * IntKind.i64.wrap (IntKind.i64.wrap ((z : Int) - (1 : Int)) - (i : Int))) = ((8 * d : Nat) : Int) := by
      rw [w64 (x := (z : Int) - 1) (by omega) (by omega), w64 (x := (z : Int) - 1 - (i : Int)) (by omega) (by omega), w64 (by omega) (by omega)]
      omega
    have e2 : IntKind.i64.wrap ((i : Int) + (1 : Int)) = ((i + 1 : Nat) : Int) := w64 (by omega) (by omega)
    rw [s53_2_l, bT (by omega), e1, if_neg (by omega), if_pos (by simp only [List.length_append, List.length_replicate]; omega), e2]
    have e3 : IntKind.u8.wrap (Int.fdiv (n : Int) ((2 : Int) ^ Min.min (Int.toNat ((8 * d : Nat) : Int)) IntKind.i64.bits)) = ((n / 256 ^ d % 256 : Nat) : Int) := by
      have hb : IntKind.i64.bits = 64 := rfl
      rw [hb, Int.toNat_natCast, Nat.min_eq_left (by omega), wu8, Int.fdiv_eq_ediv_of_nonneg _ (by exact Int.pow_nonneg (by omega))]
      have : (2 : Int) ^ (8 * d) = ((256 ^ d : Nat) : Int) := by rw [Int.pow_mul, Int.natCast_pow, show (2 : Int) ^ 8 = ((256 : Nat) : Int) from by decide]
      rw [this]
      omega
    rw [e3, Int.toNat_natCast]
    have e4 : (a ++ List.replicate (d + 1) (0 : Int)).set i ((n / 256 ^ d % 256 : Nat) : Int) = (a ++ [((n / 256 ^ d % 256 : Nat) : Int)]) ++ List.replicate d 0 := by
      rw [← ha, set_app _ _ _ (by rw [List.replicate_succ]; exact List.cons_ne_nil _ _), List.replicate_succ, List.tail_cons, List.append_assoc]
      rfl
    rw [e4]
    refine (ih (i + 1) m _ (by omega) (by simp [ha]) (by omega)).trans ?_
    exact congrArg some (by simp [fx])
theorem s53 {k : Nat} (hk : 10 ≤ k) (n z : Nat) (h1 : 1 ≤ z) (h8 : z ≤ 8) : callN B k 53 [.v i64 (n : Int), .v i64 (z : Int)] = (some (fx n z) : Option (List Int)) := by
  obtain ⟨k, rfl⟩ := Nat.exists_eq_add_of_le' (show 1 ≤ k by omega)
  refine (callS k 53 _).trans ((t53 (callN B k) (lvl B k).2 k (n : Int) (z : Int)).trans ?_)
  rw [decide_eq_false (show ¬ ((z : Int) < 1) by omega), beq_self_eq_true, cond_true, bF (by omega), if_pos (by omega)]
  have := l53 (call := callN B k) (inl := (lvl B k).2) k n z h8 z 0 k [] (by omega) rfl (by omega)
  exact this
theorem l71 {call : CallT B} {inl : InlT} (m0 : Nat) (d : Nat) : ∀ (n m : Nat) (b : List Int), d < 9 → d < m → n < 18446744073709551616 →
    LP B call inl 71 m [1, 1, 1, 1, 0, 1] (s71_3 (List.replicate d 0 ++ b) (n : Int) ((d : Int) - 1)) (KA B call inl 71 m0 [1, 1, 1, 1, 0, 1] (FI B call inl 71)) = (some (fx n d ++ b) : Option (List Int)) := by
  induction d with
  | zero =>
    intro n m b hd hm hn
    obtain ⟨m, rfl⟩ : ∃ k, m = k + 1 := ⟨m - 1, by omega⟩
    rw [s71_3_l, bF (by omega), s71_3x4_k]
    rfl
  | succ d ih =>
    intro n m b hd hm hn
    obtain ⟨m, rfl⟩ : ∃ k, m = k + 1 := ⟨m - 1, by omega⟩
    have e0 : (((d + 1 : Nat) : Int) - 1) = (d : Int) := by omega
    rw [e0, s71_3_l, bT (by omega), if_pos (by simp only [List.length_append, List.length_replicate]; omega), w64 (x := (d : Int) - 1) (by omega) (by omega), wu8, Int.toNat_natCast]
    have e3 : Int.fdiv (n : Int) ((2 : Int) ^ Min.min (Int.toNat (8 : Int)) IntKind.u64.bits) = ((n / 256 : Nat) : Int) := by
      have : (2 : Int) ^ Min.min (Int.toNat (8 : Int)) IntKind.u64.bits = 256 := by decide
      rw [this, Int.fdiv_eq_ediv_of_nonneg _ (by omega)]; omega
    have e4 : (List.replicate (d + 1) (0 : Int) ++ b).set d ((n : Int) % 256) = List.replicate d 0 ++ (((n % 256 : Nat) : Int) :: b) := by
      have : List.replicate (d + 1) (0 : Int) ++ b = List.replicate d 0 ++ (0 :: b) := by rw [List.replicate_succ']; simp
      rw [this]
      have := set_app (List.replicate d (0 : Int)) (0 :: b) ((n : Int) % 256) (by simp)
      rw [List.length_replicate] at this
      rw [this]
      simp
    rw [e3, e4]
    refine (ih (n / 256) m _ (by omega) (by omega) (by omega)).trans ?_
    exact congrArg some (by rw [fx_app n 0 d]; simp)
theorem s71 {k : Nat} (hk : 11 ≤ k) (n z : Nat) (h1 : 1 ≤ z) (h8 : z ≤ 8) (hn : n < 9223372036854775808) : callN B k 71 [.v i64 (n : Int), .v i64 (z : Int)] = (some (fx n z) : Option (List Int)) := by
  obtain ⟨k, rfl⟩ := Nat.exists_eq_add_of_le' (show 1 ≤ k by omega)
  refine (callS k 71 _).trans ((t71 (callN B k) (lvl B k).2 k (n : Int) (z : Int)).trans ?_)
  rw [decide_eq_false (show ¬ ((z : Int) < 1) by omega), beq_self_eq_true, cond_true, bF (by omega), if_pos (by omega), w64 (x := (z : Int) - 1) (by omega) (by omega)]
  have hu : IntKind.u64.wrap (n : Int) = (n : Int) := by
    have hb : IntKind.u64.bits = 64 := rfl
    have hs : IntKind.u64.signed = false := rfl
    unfold IntKind.wrap
    rw [hb, hs]
    simp
    omega
  rw [hu, Int.toNat_natCast]
  have := l71 (call := callN B k) (inl := (lvl B k).2) k z n k [] (by omega) (by omega) (by omega)
  rw [List.append_nil, List.append_nil] at this
  exact this
end Go.Eng.Bk
