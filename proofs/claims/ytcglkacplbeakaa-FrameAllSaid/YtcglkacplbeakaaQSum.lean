/- Plain laws about the check sum: what the printed sum.Sum and the reference's come to; one byte turned gives another sum. -/
import Derived.Test.YtcglkacplbeakaaQKey
import Derived.Test.YtcglkacplbeakaaPAx10
import Derived.Test.YtcglkacplbeakaaPAx15
namespace Go.Proofs.Ytcglkacplbeakaa.PA
open Go.RowKit Go.Proofs.YtcglkacplbeakaaW.PrintWords Go.Proofs.YtcglkacplbeakaaW.PrintLast Go.Proofs.YtcglkacplbeakaaW.PrintMore
set_option linter.unusedVariables false
set_option linter.unusedSimpArgs false

theorem xor_lc {a b c : Nat} (h : a ^^^ b = a ^^^ c) : b = c := by
  have h1 : a ^^^ (a ^^^ b) = a ^^^ (a ^^^ c) := by rw [h]
  rwa [← Nat.xor_assoc, ← Nat.xor_assoc, Nat.xor_self, Nat.zero_xor, Nat.zero_xor] at h1
theorem xor_rc {a b c : Nat} (h : b ^^^ a = c ^^^ a) : b = c := by
  rw [Nat.xor_comm b, Nat.xor_comm c] at h
  exact xor_lc h
theorem u32_bits (op : BinOp) (x y : Int) : Go.bits op .u32 x y = (((match op with | .and => BitVec.ofInt 32 x &&& BitVec.ofInt 32 y | .or => BitVec.ofInt 32 x ||| BitVec.ofInt 32 y | .xor => BitVec.ofInt 32 x ^^^ BitVec.ofInt 32 y | _ => BitVec.ofInt 32 x &&& ~~~(BitVec.ofInt 32 y)).toNat : Nat) : Int) := by
  unfold Go.bits
  show IntKind.wrap .u32 _ = _
  have h : ∀ b : BitVec 32, IntKind.u32.wrap (b.toNat : Int) = (b.toNat : Int) := by
    intro b
    have := b.isLt
    unfold IntKind.wrap
    show (if (false && _) = true then _ else (b.toNat : Int) % 2 ^ 32) = _
    simp only [Bool.false_and, Bool.false_eq_true, if_false]
    omega
  cases op <;> exact h _
theorem ofInt32 (a : Nat) (h : a < 4294967296) : (BitVec.ofInt 32 (a : Int)).toNat = a := by
  rw [BitVec.toNat_ofInt]
  omega
theorem xor32 (a b : Nat) (ha : a < 4294967296) (hb : b < 4294967296) : Go.bits .xor .u32 (a : Int) (b : Int) = ((a ^^^ b : Nat) : Int) := by
  rw [u32_bits]
  show (((BitVec.ofInt 32 (a : Int) ^^^ BitVec.ofInt 32 (b : Int)).toNat : Nat) : Int) = _
  rw [BitVec.toNat_xor, ofInt32 a ha, ofInt32 b hb]
theorem and1_32 (a : Nat) (ha : a < 4294967296) : Go.bits .and .u32 (a : Int) 1 = ((a % 2 : Nat) : Int) := by
  rw [u32_bits]
  show (((BitVec.ofInt 32 (a : Int) &&& BitVec.ofInt 32 1).toNat : Nat) : Int) = _
  rw [BitVec.toNat_and, ofInt32 a ha, show (BitVec.ofInt 32 1).toNat = 1 from rfl, Nat.and_one_is_mod]

def stepN (r : Nat) : Nat := if r % 2 = 0 then r / 2 else (r / 2) ^^^ 2197175160
def stepsN : Nat → Nat → Nat
  | 0, r => r
  | d + 1, r => stepsN d (stepN r)
def sumR : List Int → Nat → Nat
  | [], r => r
  | c :: t, r => sumR t (stepsN 8 (r ^^^ c.toNat))
def sumS (l : List Int) : Nat := 4294967295 ^^^ sumR l 4294967295
theorem xor_lt32 {a b : Nat} (ha : a < 4294967296) (hb : b < 4294967296) : a ^^^ b < 4294967296 := Nat.xor_lt_two_pow (n := 32) ha hb
theorem stepN_lt {r : Nat} (h : r < 4294967296) : stepN r < 4294967296 := by
  unfold stepN
  split
  · omega
  · exact xor_lt32 (by omega) (by omega)
theorem stepsN_lt : ∀ (d : Nat) {r : Nat}, r < 4294967296 → stepsN d r < 4294967296
  | 0, _, h => h
  | d + 1, _, h => stepsN_lt d (stepN_lt h)
theorem sumR_lt : ∀ (l : List Int) (r : Nat), Bytes l → r < 4294967296 → sumR l r < 4294967296
  | [], _, _, h => h
  | c :: t, r, hl, h => by
    have hc := hl c (by simp)
    exact sumR_lt t _ (fun x hx => hl x (by simp [hx])) (stepsN_lt 8 (xor_lt32 h (by omega)))
theorem sumS_lt {l : List Int} (hl : Bytes l) : sumS l < 4294967296 := xor_lt32 (by omega) (sumR_lt l _ hl (by omega))

theorem step_eq (r : Nat) (h : r < 4294967296) : (if Go.bits .and .u32 (r : Int) 1 = 0 then ((r : Int) / 2) else Go.bits .xor .u32 ((r : Int) / 2) 2197175160) = ((stepN r : Nat) : Int) := by
  rw [and1_32 r h]
  unfold stepN
  have e : (r : Int) / 2 = ((r / 2 : Nat) : Int) := by omega
  by_cases h1 : r % 2 = 0
  · rw [if_pos (by omega), if_pos h1, e]
  · rw [if_neg (by omega), if_neg h1, e]
    exact xor32 (r / 2) 2197175160 (by omega) (by omega)

theorem sum_l1 (d : Nat) : ∀ (r i k : Nat) (l : List Int) (n p : Int), r < 4294967296 → i + d = 8 → d < k →
    sum_Sum.l1 k (r : Int) l n p (i : Int) = sum_Sum.l0 (k - d - 1) ((stepsN d r : Nat) : Int) l n (wrap64 (p + 1)) := by
  induction d with
  | zero =>
    intro r i k l n p hr hi hk
    obtain ⟨k, rfl⟩ : ∃ m, k = m + 1 := ⟨k - 1, by omega⟩
    obtain rfl : i = 8 := by omega
    simp only [sum_Sum.l1]
    rw [if_neg (by omega)]
    rfl
  | succ d ih =>
    intro r i k l n p hr hi hk
    obtain ⟨k, rfl⟩ : ∃ m, k = m + 1 := ⟨k - 1, by omega⟩
    simp only [sum_Sum.l1]
    rw [if_pos (by omega), w64 (x := (i : Int) + 1) (by omega) (by omega)]
    have e : k + 1 - (d + 1) - 1 = k - d - 1 := by omega
    have hs := step_eq r hr
    have := ih (stepN r) (i + 1) k l n p (stepN_lt hr) (by omega) (by omega)
    rw [show ((i + 1 : Nat) : Int) = (i : Int) + 1 from by omega] at this
    rw [e]
    by_cases h1 : Go.bits .and .u32 (r : Int) 1 = 0
    · rw [if_pos h1] at hs ⊢
      rw [hs]; exact this
    · rw [if_neg h1] at hs ⊢
      rw [hs]; exact this
theorem sum_l0 {l : List Int} (hl : Bytes l) (hlen : l.length ≤ 140737488351232) (d : Nat) : ∀ (r p k : Nat), r < 4294967296 → p + d = l.length → 10 * d < k →
    sum_Sum.l0 k (r : Int) l (l.length : Int) (p : Int) = some (((4294967295 ^^^ sumR (l.drop p) r : Nat) : Int)) := by
  induction d with
  | zero =>
    intro r p k hr hp hk
    obtain ⟨k, rfl⟩ : ∃ m, k = m + 1 := ⟨k - 1, by omega⟩
    simp only [sum_Sum.l0]
    have hd : l.drop p = [] := List.drop_of_length_le (by omega)
    have hx : 4294967295 ^^^ r < 4294967296 := xor_lt32 (by omega) hr
    have e := xor32 4294967295 r (by omega) hr
    simp only [Int.cast_ofNat_Int] at e
    rw [if_neg (by omega), hd, e, w64 (by omega) (by omega)]
    rfl
  | succ d ih =>
    intro r p k hr hp hk
    obtain ⟨k, rfl⟩ : ∃ m, k = m + 1 := ⟨k - 1, by omega⟩
    simp only [sum_Sum.l0]
    cases hd : l.drop p with
    | nil => have := congrArg List.length hd; simp at this; omega
    | cons c t =>
      have hc := hl c (by have : c ∈ l.drop p := by rw [hd]; simp
                          exact List.mem_of_mem_drop this)
      obtain ⟨cn, rfl⟩ : ∃ m : Nat, c = m := ⟨c.toNat, by omega⟩
      have e1 : (cn : Int) % 4294967296 = ((cn : Nat) : Int) := by omega
      rw [if_pos (by omega), if_pos (by omega), if_pos (by omega), rd_drop hd, e1, xor32 r cn hr (by omega)]
      have hx := xor_lt32 hr (by omega : cn < 4294967296)
      have := sum_l1 8 (r ^^^ cn) 0 k l (l.length : Int) (p : Int) hx (by omega) (by omega)
      rw [show ((0 : Nat) : Int) = 0 from rfl] at this
      rw [this]
      rw [w64 (x := (p : Int) + 1) (by omega) (by omega)]
      have h3 := ih (stepsN 8 (r ^^^ cn)) (p + 1) (k - 8 - 1) (stepsN_lt 8 hx) (by omega) (by omega)
      rw [show ((p + 1 : Nat) : Int) = (p : Int) + 1 from by omega] at h3
      rw [h3, drop_succ hd]
      rfl
theorem sum_Sum_eq {k : Nat} {l : List Int} (hl : Bytes l) (hlen : l.length ≤ 140737488351232) (hk : 10 * l.length < k) : sum_Sum.f k l = some ((sumS l : Nat) : Int) := by
  unfold sum_Sum.f sumS
  have := sum_l0 hl hlen l.length 4294967295 0 k (by omega) (by omega) hk
  exact this

/-! The sum tells a turned byte. -/
theorem stepN_inj {r s : Nat} (hr : r < 4294967296) (hs : s < 4294967296) (h : stepN r = stepN s) : r = s := by
  unfold stepN at h
  have t : ∀ x, x < 4294967296 → (x / 2).testBit 31 = false := fun x hx => Nat.testBit_lt_two_pow (by omega)
  have tp : (2197175160 : Nat).testBit 31 = true := by decide
  by_cases h1 : r % 2 = 0 <;> by_cases h2 : s % 2 = 0
  · rw [if_pos h1, if_pos h2] at h; omega
  · rw [if_pos h1, if_neg h2] at h
    have := congrArg (fun x => x.testBit 31) h
    simp only [Nat.testBit_xor, t r hr, t s hs, tp] at this
    cases this
  · rw [if_neg h1, if_pos h2] at h
    have := congrArg (fun x => x.testBit 31) h
    simp only [Nat.testBit_xor, t r hr, t s hs, tp] at this
    cases this
  · rw [if_neg h1, if_neg h2] at h
    have := xor_rc h
    omega
theorem stepsN_inj : ∀ (d : Nat) {r s : Nat}, r < 4294967296 → s < 4294967296 → stepsN d r = stepsN d s → r = s
  | 0, _, _, _, _, h => h
  | d + 1, _, _, hr, hs, h => stepN_inj hr hs (stepsN_inj d (stepN_lt hr) (stepN_lt hs) h)
theorem sumR_inj : ∀ (l : List Int) {r s : Nat}, Bytes l → r < 4294967296 → s < 4294967296 → sumR l r = sumR l s → r = s
  | [], _, _, _, _, _, h => h
  | c :: t, r, s, hl, hr, hs, h => by
    have hc := hl c (by simp)
    have h1 := sumR_inj t (fun x hx => hl x (by simp [hx])) (stepsN_lt 8 (xor_lt32 hr (by omega))) (stepsN_lt 8 (xor_lt32 hs (by omega))) h
    have h2 := stepsN_inj 8 (xor_lt32 hr (by omega)) (xor_lt32 hs (by omega)) h1
    exact xor_rc h2
theorem sumR_turned : ∀ (a : List Int) (c d : Int) (t : List Int) {r : Nat}, Bytes a → 0 ≤ c → c ≤ 255 → 0 ≤ d → d ≤ 255 → Bytes t → r < 4294967296 → sumR (a ++ c :: t) r = sumR (a ++ d :: t) r → c = d
  | [], c, d, t, r, _, hc, hc2, hd, hd2, ht, hr, h => by
    simp only [List.nil_append, sumR] at h
    have h1 := sumR_inj t ht (stepsN_lt 8 (xor_lt32 hr (by omega))) (stepsN_lt 8 (xor_lt32 hr (by omega))) h
    have h2 := stepsN_inj 8 (xor_lt32 hr (by omega)) (xor_lt32 hr (by omega)) h1
    have h3 := xor_lc h2
    omega
  | x :: a, c, d, t, r, ha, hc, hc2, hd, hd2, ht, hr, h => by
    simp only [List.cons_append, sumR] at h
    have hx := ha x (by simp)
    exact sumR_turned a c d t (fun x hx => ha x (by simp [hx])) hc hc2 hd hd2 ht (stepsN_lt 8 (xor_lt32 hr (by omega))) h
theorem sumS_turned {a t : List Int} {c d : Int} (ha : Bytes a) (ht : Bytes t) (hc : 0 ≤ c ∧ c ≤ 255) (hd : 0 ≤ d ∧ d ≤ 255) (h : sumS (a ++ c :: t) = sumS (a ++ d :: t)) : c = d :=
  sumR_turned a c d t (r := 4294967295) ha hc.1 hc.2 hd.1 hd.2 ht (by omega) (xor_lc h)
end Go.Proofs.Ytcglkacplbeakaa.PA
