/- What the functions of numbers, texts and keys answer, the program's and the document's. -/
import Derived.Test.YtogancdiihbjfaaBkS1
namespace Go.Eng.Bk
open Go Go.Proofs Go.Eng
set_option linter.unusedVariables false
set_option linter.unusedSimpArgs false
theorem wu64 {x : Int} (h0 : 0 ≤ x) (h1 : x < 18446744073709551616) : IntKind.u64.wrap x = x := by
  have hb : IntKind.u64.bits = 64 := rfl
  have hs : IntKind.u64.signed = false := rfl
  unfold IntKind.wrap
  rw [hb, hs]
  simp
  omega
/-- A row of bytes as a number, the highest one first. -/
def bval : Nat → List Int → Nat
  | a, [] => a
  | a, c :: t => bval (a * 256 + c.toNat) t
theorem bval_lt : ∀ (l : List Int) (a k : Nat), Bytes l → a < 256 ^ k → bval a l < 256 ^ (k + l.length)
  | [], a, k, _, h => by simpa [bval] using h
  | c :: t, a, k, hb, h => by
    have hc := hb c (by simp)
    simp only [bval, List.length_cons]
    have := bval_lt t (a * 256 + c.toNat) (k + 1) (fun x hx => hb x (by simp [hx])) (by rw [Nat.pow_succ]; omega)
    rwa [show k + 1 + t.length = k + (t.length + 1) from by omega] at this
theorem drop_cons {α : Type} {l : List α} {i : Nat} (h : i < l.length) : ∃ c t, l.drop i = c :: t ∧ c ∈ l := by
  cases hd : l.drop i with
  | nil => exact absurd (List.drop_eq_nil_iff.1 hd) (by omega)
  | cons c t => exact ⟨c, t, rfl, List.mem_of_mem_drop (by rw [hd]; simp : c ∈ l.drop i)⟩
theorem dsucc {α : Type} {l : List α} {i : Nat} {c : α} {t : List α} (h : l.drop i = c :: t) : l.drop (i + 1) = t := by
  have : l.drop (i + 1) = (l.drop i).drop 1 := by rw [List.drop_drop]
  rw [this, h]; rfl
theorem dgetD {α : Type} {l : List α} {i : Nat} {c : α} {t : List α} (h : l.drop i = c :: t) (d : α) : l.getD i d = c := by
  have : l[i]? = some c := by
    have := congrArg (fun x => x[0]?) h
    simpa using this
  rw [List.getD_eq_getElem?_getD, this]; rfl
theorem or_low (n c : Nat) (hc : c < 256) (hn : n * 256 < 9223372036854775808 - 256) : IntKind.i64.wrap (((BitVec.ofInt IntKind.i64.bits ((n * 256 : Nat) : Int) ||| BitVec.ofInt IntKind.i64.bits (c : Int)).toNat : Nat) : Int) = ((n * 256 + c : Nat) : Int) := by
  rw [BitVec.or_comm]
  have := or_shift c n 8 (by omega) (by omega)
  rw [show (2 : Nat) ^ 8 = 256 from rfl] at this
  rw [this]
  omega
theorem l67 {call : CallT B} {inl : InlT} (m0 : Nat) {l : List Int} (at_ z : Nat) {sub : List Int} (hsub : List.drop at_ (List.take (IntKind.i64.wrap ((at_ : Int) + (z : Int))).toNat l) = sub) (hb : Bytes sub) (hlen : sub.length ≤ 7) (d : Nat) :
    ∀ (i n m : Nat), i + d = sub.length → n < 256 ^ i → d < m →
    LP B call inl 67 m [1, 1, 1, 0, 1] (s67_2 l (at_ : Int) (z : Int) (n : Int) (i : Int)) (KA B call inl 67 m0 [1, 1, 1, 0, 1] (FI B call inl 67)) = (some (((bval n (sub.drop i) : Nat) : Int), true, ()) : Option (Int × Bool × Unit)) := by
  induction d with
  | zero =>
    intro i n m hd hn hm
    obtain ⟨m, rfl⟩ : ∃ k, m = k + 1 := ⟨m - 1, by omega⟩
    rw [s67_2_l]
    simp only [Int.toNat_natCast, hsub]
    rw [bF (by omega), s67_2x3_k, List.drop_of_length_le (by omega)]
    rfl
  | succ d ih =>
    intro i n m hd hn hm
    obtain ⟨m, rfl⟩ : ∃ k, m = k + 1 := ⟨m - 1, by omega⟩
    obtain ⟨c, t, hct, hc⟩ := drop_cons (l := sub) (i := i) (by omega)
    have hc' := hb c hc
    obtain ⟨cn, rfl⟩ : ∃ k : Nat, c = k := ⟨c.toNat, by omega⟩
    have hp : 256 ^ i ≤ 256 ^ 6 := Nat.pow_le_pow_right (by omega) (by omega)
    have h6 : (256 : Nat) ^ 6 = 281474976710656 := by decide
    have e2 : (n : Int) * (2 : Int) ^ Min.min (Int.toNat (8 : Int)) IntKind.i64.bits = ((n * 256 : Nat) : Int) := by
      have : (2 : Int) ^ Min.min (Int.toNat (8 : Int)) IntKind.i64.bits = 256 := by decide
      rw [this]; omega
    rw [s67_2_l]
    simp only [Int.toNat_natCast, hsub]
    rw [bT (by omega), if_pos (by omega), dgetD hct, e2, w64 (x := ((n * 256 : Nat) : Int)) (by omega) (by omega), w64 (x := (cn : Int)) (by omega) (by omega), or_low n cn (by omega) (by omega), w64 (x := (i : Int) + 1) (by omega) (by omega)]
    refine (ih (i + 1) (n * 256 + cn) m (by omega) (by rw [Nat.pow_succ]; omega) (by omega)).trans ?_
    rw [dsucc hct, hct]
    rfl
/-- The number that stands at a place, in so many bytes. -/
def gfx (l : List Int) (at_ : Int) (z : Nat) : Int × Bool × Unit := if at_ < 0 ∨ (z : Int) > (l.length : Int) - at_ then (0, false, ()) else (((bval 0 ((l.drop at_.toNat).take z) : Nat) : Int), true, ())
theorem gfx_no {l : List Int} {at_ : Int} {z : Nat} (h : at_ < 0 ∨ (z : Int) > (l.length : Int) - at_) : gfx l at_ z = (0, false, ()) := if_pos h
theorem gfx_yes {l : List Int} {p : Nat} {z : Nat} (h : p + z ≤ l.length) : gfx l (p : Int) z = (((bval 0 ((l.drop p).take z) : Nat) : Int), true, ()) := by
  unfold gfx
  rw [if_neg (by omega), Int.toNat_natCast]
theorem s67 {k : Nat} (hk : 9 ≤ k) {l : List Int} (hl : Bytes l) (hlen : l.length ≤ 140737488351232) (at_ : Int) (hat : -100 ≤ at_) (z : Nat) (h1 : 1 ≤ z) (h7 : z ≤ 7) : callN B k 67 [.v (.sl u8) l, .v i64 at_, .v i64 (z : Int)] = (some (gfx l at_ z) : Option (Int × Bool × Unit)) := by
  obtain ⟨k, rfl⟩ := Nat.exists_eq_add_of_le' (show 1 ≤ k by omega)
  refine (callS k 67 _).trans ((t67 (callN B k) (lvl B k).2 k l at_ (z : Int)).trans ?_)
  rw [decide_eq_false (show ¬ ((z : Int) < 1) by omega), beq_self_eq_true, cond_true, decide_eq_false (show ¬ ((z : Int) > 7) by omega), beq_self_eq_true, cond_true]
  by_cases h : at_ < 0
  · rw [decide_eq_true h]; exact congrArg some (gfx_no (.inl h)).symm
  · rw [decide_eq_false h, beq_self_eq_true, cond_true]
    by_cases h2 : at_ > (l.length : Int)
    · rw [decide_eq_true h2]; exact congrArg some (gfx_no (.inr (by omega))).symm
    · rw [decide_eq_false h2, beq_self_eq_true, cond_true, w64 (x := (l.length : Int) - at_) (by omega) (by omega)]
      by_cases h3 : (z : Int) > (l.length : Int) - at_
      · rw [bT h3]; exact congrArg some (gfx_no (.inr h3)).symm
      · rw [bF h3, w64 (x := at_ + (z : Int)) (by omega) (by omega), if_pos (by omega)]
        obtain ⟨p, rfl⟩ : ∃ m : Nat, at_ = m := ⟨at_.toNat, by omega⟩
        have hsub : List.drop p (List.take (IntKind.i64.wrap ((p : Int) + (z : Int))).toNat l) = (l.drop p).take z := by
          rw [w64 (by omega) (by omega), show ((p : Int) + (z : Int)).toNat = p + z from by omega, List.drop_take]
          congr 1; omega
        have hll : ((l.drop p).take z).length = z := by rw [List.length_take, List.length_drop]; omega
        have := l67 (call := callN B k) (inl := (lvl B k).2) k p z hsub ((hl.drop p).take z) (by omega) z 0 0 k (by omega) (by simp) (by omega)
        rw [List.drop_zero] at this
        exact this.trans (congrArg some (gfx_yes (by omega)).symm)
theorem l75 {call : CallT B} {inl : InlT} (m0 : Nat) {l : List Int} (hl : Bytes l) (hlen : l.length ≤ 140737488351232) (at_ z : Nat) (hz : z ≤ 7) (haz : at_ + z ≤ l.length) (d : Nat) :
    ∀ (i n m : Nat), i + d = z → n < 256 ^ i → d < m →
    LP B call inl 75 m [1, 1, 1, 0, 1] (s75_2 l (at_ : Int) (z : Int) (n : Int) (i : Int)) (KA B call inl 75 m0 [1, 1, 1, 0, 1] (FI B call inl 75)) = (some (((bval n ((l.drop (at_ + i)).take d) : Nat) : Int), true, ()) : Option (Int × Bool × Unit)) := by
  induction d with
  | zero =>
    intro i n m hd hn hm
    obtain ⟨m, rfl⟩ : ∃ k, m = k + 1 := ⟨m - 1, by omega⟩
    rw [s75_2_l, bF (by omega), s75_2x3_k, List.take_zero]
    rfl
  | succ d ih =>
    intro i n m hd hn hm
    obtain ⟨m, rfl⟩ : ∃ k, m = k + 1 := ⟨m - 1, by omega⟩
    obtain ⟨c, t, hct, hc⟩ := drop_cons (l := l) (i := at_ + i) (by omega)
    have hc' := hl c hc
    obtain ⟨cn, rfl⟩ : ∃ k : Nat, c = k := ⟨c.toNat, by omega⟩
    have hp : 256 ^ i ≤ 256 ^ 6 := Nat.pow_le_pow_right (by omega) (by omega)
    have h6 : (256 : Nat) ^ 6 = 281474976710656 := by decide
    have e1 : IntKind.i64.wrap ((at_ : Int) + (i : Int)) = ((at_ + i : Nat) : Int) := w64 (by omega) (by omega)
    rw [s75_2_l, bT (by omega), e1, if_pos (by omega), Int.toNat_natCast, dgetD hct, w64 (x := (256 : Int) * (n : Int)) (by omega) (by omega), w64 (x := (cn : Int)) (by omega) (by omega), w64 (x := (256 : Int) * (n : Int) + (cn : Int)) (by omega) (by omega), w64 (x := (i : Int) + 1) (by omega) (by omega)]
    have e2 : (256 : Int) * (n : Int) + (cn : Int) = ((n * 256 + cn : Nat) : Int) := by omega
    have e3 : (i : Int) + 1 = ((i + 1 : Nat) : Int) := by omega
    rw [e2, e3]
    refine (ih (i + 1) (n * 256 + cn) m (by omega) (by rw [Nat.pow_succ]; omega) (by omega)).trans ?_
    rw [show at_ + (i + 1) = at_ + i + 1 from by omega, dsucc hct, hct]
    rfl
theorem s75 {k : Nat} (hk : 9 ≤ k) {l : List Int} (hl : Bytes l) (hlen : l.length ≤ 140737488351232) (at_ : Int) (hat : -100 ≤ at_) (z : Nat) (h1 : 1 ≤ z) (h7 : z ≤ 7) : callN B k 75 [.v (.sl u8) l, .v i64 at_, .v i64 (z : Int)] = (some (gfx l at_ z) : Option (Int × Bool × Unit)) := by
  obtain ⟨k, rfl⟩ := Nat.exists_eq_add_of_le' (show 1 ≤ k by omega)
  refine (callS k 75 _).trans ((t75 (callN B k) (lvl B k).2 k l at_ (z : Int)).trans ?_)
  rw [decide_eq_false (show ¬ ((z : Int) < 1) by omega), beq_self_eq_true, cond_true, decide_eq_false (show ¬ ((z : Int) > 7) by omega), beq_self_eq_true, cond_true]
  by_cases h : at_ < 0
  · rw [decide_eq_true h]; exact congrArg some (gfx_no (.inl h)).symm
  · rw [decide_eq_false h, beq_self_eq_true, cond_true, w64 (x := (l.length : Int) - (z : Int)) (by omega) (by omega)]
    by_cases h3 : at_ > (l.length : Int) - (z : Int)
    · rw [bT h3]; exact congrArg some (gfx_no (.inr (by omega))).symm
    · rw [bF h3]
      obtain ⟨p, rfl⟩ : ∃ m : Nat, at_ = m := ⟨at_.toNat, by omega⟩
      have := l75 (call := callN B k) (inl := (lvl B k).2) k hl hlen p z h7 (by omega) z 0 0 k (by omega) (by simp) (by omega)
      rw [Nat.add_zero] at this
      exact this.trans (congrArg some (gfx_yes (by omega)).symm)
/-! ### the same rows -/
theorem l69 {call : CallT B} {inl : InlT} (m0 : Nat) {a b : List Int} (hab : a.length = b.length) (hlen : a.length ≤ 140737488351232) (d : Nat) : ∀ (i m : Nat), i + d = a.length → d < m →
    LP B call inl 69 m [1, 1, 0, 1] (s69_1 a b (i : Int)) (KA B call inl 69 m0 [1, 1, 0, 1] (FI B call inl 69)) = (some (decide (a.drop i = b.drop i)) : Option Bool) := by
  induction d with
  | zero =>
    intro i m hd hm
    obtain ⟨m, rfl⟩ : ∃ k, m = k + 1 := ⟨m - 1, by omega⟩
    rw [s69_1_l, bF (by omega), s69_1x3_k, List.drop_of_length_le (by omega), List.drop_of_length_le (by omega)]
    rfl
  | succ d ih =>
    intro i m hd hm
    obtain ⟨m, rfl⟩ : ∃ k, m = k + 1 := ⟨m - 1, by omega⟩
    obtain ⟨c, t, hct, _⟩ := drop_cons (l := a) (i := i) (by omega)
    obtain ⟨e, u, heu, _⟩ := drop_cons (l := b) (i := i) (by omega)
    rw [s69_1_l, bT (by omega), if_pos (by omega), if_pos (by omega), Int.toNat_natCast, dgetD hct, dgetD heu, w64 (x := (i : Int) + 1) (by omega) (by omega), hct, heu]
    by_cases hce : c = e
    · subst hce
      have : (c != c) = false := by simp
      rw [this, cond_false]
      refine (ih (i + 1) m (by omega) (by omega)).trans ?_
      rw [dsucc hct, dsucc heu]
      exact congrArg some (by simp)
    · have : (c != e) = true := by simpa using hce
      rw [this, cond_true, s69_1x2_k]
      have : ¬ (c :: t = e :: u) := fun h => hce (List.cons.inj h).1
      exact congrArg some (decide_eq_false this).symm
theorem s69 {k : Nat} (a b : List Int) (hlen : a.length ≤ 140737488351232) (hk : a.length + 2 ≤ k) : callN B k 69 [.v (.sl u8) a, .v (.sl u8) b] = (some (decide (a = b)) : Option Bool) := by
  obtain ⟨k, rfl⟩ := Nat.exists_eq_add_of_le' (show 1 ≤ k by omega)
  refine (callS k 69 _).trans ((t69 (callN B k) (lvl B k).2 k a b).trans ?_)
  by_cases h : a.length = b.length
  · have : ((a.length : Int) != (b.length : Int)) = false := by simp [h]
    rw [this, cond_false]
    have := l69 (call := callN B k) (inl := (lvl B k).2) k h hlen a.length 0 k (by omega) (by omega)
    rw [List.drop_zero, List.drop_zero] at this
    exact this
  · have h1 : ((a.length : Int) != (b.length : Int)) = true := by simp; omega
    rw [h1, cond_true, decide_eq_false (fun e => h (by rw [e]))]
/-! ### how far two texts are alike -/
def shr : List Int → List Int → Nat
  | x :: a, y :: b => if x = y then shr a b + 1 else 0
  | _, _ => 0
theorem shr_le : ∀ a b : List Int, shr a b ≤ a.length ∧ shr a b ≤ b.length
  | x :: a, y :: b => by
    have := shr_le a b
    simp only [shr, List.length_cons]
    split <;> omega
  | [], _ => by simp [shr]
  | _ :: _, [] => by simp [shr]
theorem shr_take : ∀ a b : List Int, a.take (shr a b) = b.take (shr a b)
  | x :: a, y :: b => by
    simp only [shr]
    split
    · rename_i h; subst h; simp [shr_take a b]
    · rfl
  | [], _ => by simp [shr]
  | _ :: _, [] => by simp [shr]
theorem shr_comm : ∀ a b : List Int, shr a b = shr b a
  | x :: a, y :: b => by
    simp only [shr, shr_comm a b]
    by_cases h : x = y
    · rw [if_pos h, if_pos h.symm]
    · rw [if_neg h, if_neg (fun e => h e.symm)]
  | [], b => by cases b <;> simp [shr]
  | _ :: _, [] => by simp [shr]
theorem byteAt_get (s : ByteArray) {i : Nat} {c : Int} {t : List Int} (h : (bytesOf s).drop i = c :: t) : byteAt s (i : Int) = c := by
  have hlt : i < (bytesOf s).length := drop_lt h
  have hlt' : i < s.size := by rw [← bytesOf_length]; exact hlt
  have hg := dgetD h 0
  unfold byteAt
  rw [dif_pos (by simpa using hlt')]
  rw [← hg, List.getD_eq_getElem?_getD, List.getElem?_eq_getElem hlt, Option.getD_some]
  simp only [bytesOf, List.getElem_map]
  rfl
theorem l54 {call : CallT B} {inl : InlT} (m0 : Nat) (a b : ByteArray) (ha : a.size ≤ 140737488351232) (d : Nat) : ∀ (i m : Nat), i + d = a.size → d < m →
    LP B call inl 54 m [1, 1, 0] (s54_1 a b (i : Int)) (KA B call inl 54 m0 [1, 1, 0] (FI B call inl 54)) = (some ((i + shr ((bytesOf a).drop i) ((bytesOf b).drop i) : Nat) : Int) : Option Int) := by
  have hal := bytesOf_length a
  have hbl := bytesOf_length b
  induction d with
  | zero =>
    intro i m hd hm
    obtain ⟨m, rfl⟩ : ∃ k, m = k + 1 := ⟨m - 1, by omega⟩
    rw [s54_1_l, decide_eq_false (by unfold minI; split <;> omega), show (false == true) = false from rfl, cond_false, s54_1x2_k, List.drop_of_length_le (by omega : (bytesOf a).length ≤ i)]
    simp [shr]
    rfl
  | succ d ih =>
    intro i m hd hm
    obtain ⟨m, rfl⟩ : ∃ k, m = k + 1 := ⟨m - 1, by omega⟩
    obtain ⟨c, t, hct, _⟩ := drop_cons (l := bytesOf a) (i := i) (by omega)
    rw [s54_1_l]
    by_cases hb : i < b.size
    · obtain ⟨e, u, heu, _⟩ := drop_cons (l := bytesOf b) (i := i) (by omega)
      rw [decide_eq_true (by unfold minI; split <;> omega), beq_self_eq_true, cond_true, if_pos (by omega), if_pos (by omega), byteAt_get a hct, byteAt_get b heu, hct, heu, w64 (x := (i : Int) + 1) (by omega) (by omega)]
      simp only [shr]
      by_cases hce : c = e
      · rw [beq_iff_eq.2 hce, cond_true, if_pos hce]
        refine (ih (i + 1) m (by omega) (by omega)).trans ?_
        rw [dsucc hct, dsucc heu, show i + 1 + shr t u = i + (shr t u + 1) from by omega]
      · rw [beq_eq_false_iff_ne.2 hce, cond_false, if_neg hce, s54_1x2_k]
        rfl
    · rw [decide_eq_false (by unfold minI; split <;> omega), show (false == true) = false from rfl, cond_false, s54_1x2_k, List.drop_of_length_le (by omega : (bytesOf b).length ≤ i), hct]
      rfl
theorem s54 {k : Nat} (a b : ByteArray) (ha : a.size ≤ 140737488351232) (hk : a.size + 2 ≤ k) : callN B k 54 [.v .str a, .v .str b] = (some ((shr (bytesOf a) (bytesOf b) : Nat) : Int) : Option Int) := by
  obtain ⟨k, rfl⟩ := Nat.exists_eq_add_of_le' (show 1 ≤ k by omega)
  refine (callS k 54 _).trans ((t54 (callN B k) (lvl B k).2 k a b).trans ?_)
  have := l54 (call := callN B k) (inl := (lvl B k).2) k a b ha a.size 0 k (by omega) (by omega)
  rw [Nat.zero_add, List.drop_zero, List.drop_zero] at this
  exact this
theorem l72 {call : CallT B} {inl : InlT} (m0 : Nat) (a b : ByteArray) (ha : a.size ≤ 140737488351232) (d : Nat) : ∀ (i m : Nat), i + d = a.size → d < m →
    LP B call inl 72 m [1, 1, 0] (s72_1 a b (i : Int)) (KA B call inl 72 m0 [1, 1, 0] (FI B call inl 72)) = (some ((i + shr ((bytesOf a).drop i) ((bytesOf b).drop i) : Nat) : Int) : Option Int) := by
  have hal := bytesOf_length a
  have hbl := bytesOf_length b
  induction d with
  | zero =>
    intro i m hd hm
    obtain ⟨m, rfl⟩ : ∃ k, m = k + 1 := ⟨m - 1, by omega⟩
    rw [s72_1_l, decide_eq_false (by omega), show (false == true) = false from rfl, cond_false, s72_1x2_k, List.drop_of_length_le (by omega : (bytesOf a).length ≤ i)]
    simp [shr]
    rfl
  | succ d ih =>
    intro i m hd hm
    obtain ⟨m, rfl⟩ : ∃ k, m = k + 1 := ⟨m - 1, by omega⟩
    obtain ⟨c, t, hct, _⟩ := drop_cons (l := bytesOf a) (i := i) (by omega)
    rw [s72_1_l, decide_eq_true (by omega), beq_self_eq_true, cond_true]
    by_cases hb : i < b.size
    · obtain ⟨e, u, heu, _⟩ := drop_cons (l := bytesOf b) (i := i) (by omega)
      rw [decide_eq_true (by omega), beq_self_eq_true, cond_true, if_pos (by omega), if_pos (by omega), byteAt_get a hct, byteAt_get b heu, hct, heu, w64 (x := (i : Int) + 1) (by omega) (by omega)]
      simp only [shr]
      by_cases hce : c = e
      · rw [beq_iff_eq.2 hce, cond_true, if_pos hce]
        refine (ih (i + 1) m (by omega) (by omega)).trans ?_
        rw [dsucc hct, dsucc heu, show i + 1 + shr t u = i + (shr t u + 1) from by omega]
      · rw [beq_eq_false_iff_ne.2 hce, cond_false, if_neg hce, s72_1x2_k]
        rfl
    · rw [decide_eq_false (by omega), show (false == true) = false from rfl, cond_false, s72_1x2_k, List.drop_of_length_le (by omega : (bytesOf b).length ≤ i), hct]
      rfl
theorem s72 {k : Nat} (a b : ByteArray) (ha : a.size ≤ 140737488351232) (hk : a.size + 2 ≤ k) : callN B k 72 [.v .str a, .v .str b] = (some ((shr (bytesOf a) (bytesOf b) : Nat) : Int) : Option Int) := by
  obtain ⟨k, rfl⟩ := Nat.exists_eq_add_of_le' (show 1 ≤ k by omega)
  refine (callS k 72 _).trans ((t72 (callN B k) (lvl B k).2 k a b).trans ?_)
  have := l72 (call := callN B k) (inl := (lvl B k).2) k a b ha a.size 0 k (by omega) (by omega)
  rw [Nat.zero_add, List.drop_zero, List.drop_zero] at this
  exact this
end Go.Eng.Bk
