/- Plain laws about numbers as bytes: what the printed num.Put, num.Get and the reference's come to. -/
import Derived.Test.YtcglkacplbeakaaPAx6
import Derived.Test.YtcglkacplbeakaaPAx4
namespace Go.Proofs.Ytcglkacplbeakaa.PA
open Go.RowKit Go.Proofs.YtcglkacplbeakaaW.PrintWords Go.Proofs.YtcglkacplbeakaaW.PrintLast Go.Proofs.YtcglkacplbeakaaW.PrintMore
set_option linter.unusedVariables false
set_option linter.unusedSimpArgs false

theorem w64 {x : Int} (h0 : -9223372036854775808 ≤ x) (h1 : x ≤ 9223372036854775807) : wrap64 x = x := by unfold wrap64; omega

def Bytes (l : List Int) : Prop := ∀ x ∈ l, 0 ≤ x ∧ x ≤ 255
theorem Bytes.nil : Bytes [] := fun _ h => by cases h
theorem Bytes.append {a b : List Int} (ha : Bytes a) (hb : Bytes b) : Bytes (a ++ b) := fun x hx => by
  rcases List.mem_append.1 hx with h | h
  · exact ha x h
  · exact hb x h
theorem Bytes.drop {a : List Int} (ha : Bytes a) (n : Nat) : Bytes (a.drop n) := fun x hx => ha x (List.mem_of_mem_drop hx)
theorem Bytes.take {a : List Int} (ha : Bytes a) (n : Nat) : Bytes (a.take n) := fun x hx => ha x (List.mem_of_mem_take hx)
theorem Bytes.of_wf {l : List Int} (h : ∀ x ∈ l, (Lit.int .u8 x).wf = true) : Bytes l := fun x hx => by
  have := h x hx
  simp [Lit.wf, IntKind.min, IntKind.max, IntKind.signed, IntKind.bits] at this
  omega

theorem or128 (n : Nat) (h : n < 256) : Go.bits .or .u8 (n : Int) 128 = ((n % 128 + 128 : Nat) : Int) := by
  have : ∀ m : Fin 256, Go.bits .or .u8 ((m.val : Nat) : Int) 128 = ((m.val % 128 + 128 : Nat) : Int) := by decide +kernel
  exact this ⟨n, h⟩
theorem and127 (n : Nat) (h : n < 256) : Go.bits .and .u8 (n : Int) 127 = ((n % 128 : Nat) : Int) := by
  have : ∀ m : Fin 256, Go.bits .and .u8 ((m.val : Nat) : Int) 127 = ((m.val % 128 : Nat) : Int) := by decide +kernel
  exact this ⟨n, h⟩
theorem wrap_i64 (x : Int) : IntKind.i64.wrap x = wrap64 x := by
  have hb : IntKind.i64.bits = 64 := rfl
  have hs : IntKind.i64.signed = true := rfl
  unfold IntKind.wrap wrap64
  rw [hb, hs]
  simp only [Bool.true_and, decide_eq_true_eq]
  split <;> omega
theorem toNat_ofInt64 (a : Nat) (h : a < 9223372036854775808) : (BitVec.ofInt 64 (a : Int)).toNat = a := by
  rw [BitVec.toNat_ofInt]
  omega
theorem or_nat (a b : Nat) (ha : a < 9223372036854775808) (hb : b < 9223372036854775808) (h : a ||| b < 9223372036854775808) : Go.bits .or .i64 (a : Int) (b : Int) = ((a ||| b : Nat) : Int) := by
  unfold Go.bits
  show IntKind.wrap .i64 _ = _
  rw [wrap_i64]
  have h1 : (BitVec.ofInt IntKind.i64.bits (a : Int) ||| BitVec.ofInt IntKind.i64.bits (b : Int)).toNat = a ||| b := by
    show (BitVec.ofInt 64 (a : Int) ||| BitVec.ofInt 64 (b : Int)).toNat = a ||| b
    rw [BitVec.toNat_or, toNat_ofInt64 a ha, toNat_ofInt64 b hb]
  show wrap64 (((BitVec.ofInt IntKind.i64.bits (a : Int) ||| BitVec.ofInt IntKind.i64.bits (b : Int)).toNat : Nat) : Int) = _
  rw [h1]
  exact w64 (by omega) (by omega)
theorem or_shift (a b i : Nat) (ha : a < 2 ^ i) (h : a + b * 2 ^ i < 9223372036854775808) : Go.bits .or .i64 (a : Int) ((b * 2 ^ i : Nat) : Int) = ((a + b * 2 ^ i : Nat) : Int) := by
  have h0 : a ||| b * 2 ^ i = a + b * 2 ^ i := by
    rw [Nat.or_comm, Nat.mul_comm b, ← Nat.two_pow_add_eq_or_of_lt ha, Nat.add_comm]
  rw [or_nat a (b * 2 ^ i) (by omega) (by omega) (by omega), h0]
theorem shl_nat (b i : Nat) (hi : i ≤ 64) (h : b * 2 ^ i < 9223372036854775808) : shl .i64 (b : Int) (i : Int) = ((b * 2 ^ i : Nat) : Int) := by
  unfold shl
  rw [wrap_i64]
  have hb : IntKind.i64.bits = 64 := rfl
  rw [hb, show ((i : Int)).toNat = i from rfl, Nat.min_eq_left hi]
  have : (b : Int) * 2 ^ i = ((b * 2 ^ i : Nat) : Int) := by push_cast; rfl
  rw [this]
  exact w64 (by omega) (by omega)

/-- A number's bytes. -/
def enc (n : Nat) : List Int := if n < 128 then [(n : Int)] else ((n % 128 + 128 : Nat) : Int) :: enc (n / 128)
termination_by n
decreasing_by omega
theorem enc_lt {n : Nat} (h : n < 128) : enc n = [(n : Int)] := by unfold enc; rw [if_pos h]
theorem enc_ge {n : Nat} (h : ¬ n < 128) : enc n = ((n % 128 + 128 : Nat) : Int) :: enc (n / 128) := by
  conv => lhs; unfold enc
  rw [if_neg h]
theorem enc_bytes (n : Nat) : Bytes (enc n) := by
  induction n using Nat.strongRecOn with
  | _ n ih =>
    by_cases h : n < 128
    · rw [enc_lt h]
      intro x hx
      simp only [List.mem_singleton] at hx
      omega
    · rw [enc_ge h]
      intro x hx
      rcases List.mem_cons.1 hx with h1 | h1
      · omega
      · exact ih (n / 128) (by omega) x h1
theorem enc_length_pos (n : Nat) : 1 ≤ (enc n).length := by
  by_cases h : n < 128
  · rw [enc_lt h]; simp
  · rw [enc_ge h]; simp
theorem enc_length_le (d : Nat) : ∀ n, n < 128 ^ (d + 1) → (enc n).length ≤ d + 1 := by
  induction d with
  | zero => intro n h; rw [enc_lt (by simpa using h)]; simp
  | succ d ih =>
    intro n h
    by_cases h1 : n < 128
    · rw [enc_lt h1]; simp
    · rw [enc_ge h1]
      have := ih (n / 128) (by rw [Nat.pow_succ] at h; omega)
      simp only [List.length_cons]
      omega
theorem enc_length9 {n : Nat} (h : n < 9223372036854775808) : (enc n).length ≤ 9 := enc_length_le 8 n (by simpa using h)

theorem num_Put_loop (d : Nat) : ∀ (n : Nat) (out : List Int) (k : Nat), n < 128 ^ (d + 1) → n < 9223372036854775808 → out.length + d < 140737488355328 → d < k → num_Put.l0 k (n : Int) out = some (out ++ enc n) := by
  induction d with
  | zero =>
    intro n out k h _ ho hk
    obtain ⟨k, rfl⟩ : ∃ m, k = m + 1 := ⟨k - 1, by omega⟩
    have h1 : n < 128 := by simpa using h
    simp only [num_Put.l0]
    rw [if_neg (by omega), if_pos (by omega), enc_lt h1]
    have : (n : Int) % 256 = n := by omega
    rw [this]
  | succ d ih =>
    intro n out k h hb ho hk
    obtain ⟨k, rfl⟩ : ∃ m, k = m + 1 := ⟨k - 1, by omega⟩
    simp only [num_Put.l0]
    by_cases h1 : n < 128
    · rw [if_neg (by omega), if_pos (by omega), enc_lt h1]
      have : (n : Int) % 256 = n := by omega
      rw [this]
    · rw [if_pos (by omega), if_pos (by omega), enc_ge h1]
      have e1 : (n : Int) % 256 = ((n % 256 : Nat) : Int) := by omega
      have e2 : (n : Int) / 128 = ((n / 128 : Nat) : Int) := by omega
      rw [e1, e2, or128 _ (by omega), show n % 256 % 128 = n % 128 from by omega]
      rw [ih (n / 128) _ k (by rw [Nat.pow_succ] at h; omega) (by omega) (by simp only [List.length_append, List.length_cons, List.length_nil]; omega) (by omega)]
      simp
theorem num_Put_eq {k : Nat} (hk : 9 ≤ k) {n : Nat} (hn : n < 9223372036854775808) : num_Put.f k (n : Int) = some (enc n) := by
  unfold num_Put.f
  rw [if_neg (by omega), num_Put_loop 8 n [] k (by simpa using hn) hn (by simp) (by omega)]
  simp
theorem num_Put_neg {k : Nat} {n : Int} (hn : n < 0) : num_Put.f k n = some [] := by
  unfold num_Put.f
  rw [if_pos hn]

/-- The number that a row of bytes begins with, and how many bytes it has; the bytes ahead are i, and come to acc. -/
def dec : Nat → Nat → List Int → Option (Nat × Nat)
  | _, _, [] => none
  | i, acc, c :: t => if i < 9 then (if c > 127 then dec (i + 1) (acc + (c.toNat % 128) * 128 ^ i) t else if c = 0 ∧ 0 < i then none else some (acc + c.toNat * 128 ^ i, i + 1)) else none

def getN (l : List Int) (at_ : Int) : Int × Int × Bool :=
  if at_ < 0 then (0, 0, false) else
    match dec 0 0 (l.drop at_.toNat) with
    | some (n, j) => ((n : Int), at_ + j, true)
    | none => (0, 0, false)

theorem rd_drop {l : List Int} {i : Nat} {c : Int} {t : List Int} (h : l.drop i = c :: t) : rd l (i : Int) = c := by
  unfold rd
  have : l[i]? = some c := by
    have := congrArg (fun x => x[0]?) h
    simpa using this
  simp [List.getD, this]
theorem drop_lt {l : List Int} {i : Nat} {c : Int} {t : List Int} (h : l.drop i = c :: t) : i < l.length := by
  rcases Nat.lt_or_ge i l.length with h1 | h1
  · exact h1
  · rw [List.drop_of_length_le h1] at h; cases h
theorem drop_succ {l : List Int} {i : Nat} {c : Int} {t : List Int} (h : l.drop i = c :: t) : l.drop (i + 1) = t := by
  have : l.drop (i + 1) = (l.drop i).drop 1 := by rw [List.drop_drop]
  rw [this, h]; rfl
theorem pow7 (i : Nat) : 128 ^ i = 2 ^ (7 * i) := by
  rw [show (128 : Nat) = 2 ^ 7 from rfl, ← Nat.pow_mul]

theorem num_Get_loop {l : List Int} (hl : Bytes l) (hlen : l.length ≤ 140737488351232) (p : Nat) (d : Nat) : ∀ (i n k : Nat), i + d = 9 → n < 128 ^ i → d < k →
    num_Get.l0 k l (p : Int) (n : Int) (i : Int) = some (match dec i n (l.drop (p + i)) with | some (v, j) => ((v : Int), (p : Int) + j, true) | none => (0, 0, false)) := by
  induction d with
  | zero =>
    intro i n k hd hn hk
    obtain ⟨k, rfl⟩ : ∃ m, k = m + 1 := ⟨k - 1, by omega⟩
    obtain rfl : i = 9 := by omega
    simp only [num_Get.l0]
    rw [if_neg (by omega)]
    cases l.drop (p + 9) <;> simp [dec]
  | succ d ih =>
    intro i n k hd hn hk
    obtain ⟨k, rfl⟩ : ∃ m, k = m + 1 := ⟨k - 1, by omega⟩
    simp only [num_Get.l0]
    rw [if_pos (by omega), w64 (x := (l.length : Int) - i) (by omega) (by omega)]
    cases hd0 : l.drop (p + i) with
    | nil =>
      have : l.length ≤ p + i := by simpa using hd0
      rw [if_pos (by omega)]
      simp [dec]
    | cons c t =>
      have hlt := drop_lt hd0
      have hc := hl c (by have : c ∈ l.drop (p + i) := by rw [hd0]; simp
                          exact List.mem_of_mem_drop this)
      obtain ⟨cn, rfl⟩ : ∃ m : Nat, c = m := ⟨c.toNat, by omega⟩
      have hpi : (p : Int) + (i : Int) = ((p + i : Nat) : Int) := by omega
      have h7i : (7 : Int) * (i : Int) = ((7 * i : Nat) : Int) := by omega
      rw [if_neg (by omega), hpi, w64 (x := ((p + i : Nat) : Int)) (by omega) (by omega), rd_drop hd0, if_pos (by omega), if_pos (by omega), h7i, w64 (x := ((7 * i : Nat) : Int)) (by omega) (by omega), if_pos (by omega), and127 cn (by omega), w64 (x := ((cn % 128 : Nat) : Int)) (by omega) (by omega)]
      have hpw : 128 ^ i ≤ 128 ^ 8 := Nat.pow_le_pow_right (by omega) (by omega)
      have hm : (cn % 128) * 128 ^ i ≤ 127 * 128 ^ i := Nat.mul_le_mul_right _ (by omega)
      have hsum : n + (cn % 128) * 2 ^ (7 * i) < 128 ^ (i + 1) := by
        rw [← pow7, Nat.pow_succ]; omega
      have h8 : (128 : Nat) ^ 8 = 72057594037927936 := by decide
      have hs2 : n + (cn % 128) * 2 ^ (7 * i) < 9223372036854775808 := by
        rw [← pow7]; omega
      rw [shl_nat _ _ (by omega) (by omega), or_shift _ _ _ (by rw [← pow7]; exact hn) hs2, ← pow7, w64 (x := (i : Int) + 1) (by omega) (by omega), w64 (x := ((p + i : Nat) : Int) + 1) (by omega) (by omega)]
      simp only [dec, Int.toNat_natCast]
      rw [if_pos (by omega : i < 9)]
      by_cases h1 : cn > 127
      · rw [if_pos (by omega), if_pos (by omega)]
        have := ih (i + 1) (n + cn % 128 * 128 ^ i) k (by omega) (by rw [pow7 i]; exact hsum) (by omega)
        rw [show ((i + 1 : Nat) : Int) = (i : Int) + 1 from by omega] at this
        rw [this, show p + (i + 1) = p + i + 1 from by omega, drop_succ hd0]
      · have hcm : cn % 128 = cn := by omega
        have h127 : ¬ ((cn : Int) > 127) := by omega
        have hpos : ((p + i : Nat) : Int) + 1 = (p : Int) + ((i + 1 : Nat) : Int) := by omega
        simp only [if_neg h127]
        rw [hcm, hpos]
        by_cases h2 : (cn : Int) = 0
        · simp only [if_pos h2]
          by_cases h3 : 0 < i
          · rw [if_pos (by omega), if_pos ⟨h2, h3⟩]
          · rw [if_neg (by omega), if_neg (fun h => h3 h.2)]
        · rw [if_neg h2, if_neg (fun h => h2 h.1)]
theorem num_Get_eq {k : Nat} (hk : 10 ≤ k) {l : List Int} (hl : Bytes l) (hlen : l.length ≤ 140737488351232) (at_ : Int) : num_Get.f k l at_ = some (getN l at_) := by
  unfold num_Get.f getN
  by_cases h : at_ < 0
  · rw [if_pos h, if_pos h]
  · rw [if_neg h, if_neg h]
    obtain ⟨p, rfl⟩ : ∃ m : Nat, at_ = m := ⟨at_.toNat, by omega⟩
    have := num_Get_loop hl hlen p 9 0 0 k (by omega) (by simp) (by omega)
    simp only [Nat.add_zero, Int.ofNat_zero, Int.toNat_natCast] at this ⊢
    exact this

theorem dec_enc (d : Nat) : ∀ (n i acc : Nat) (rest : List Int), n < 128 ^ (d + 1) → i + d < 9 → (0 < i → 0 < n) → dec i acc (enc n ++ rest) = some (acc + n * 128 ^ i, i + (enc n).length) := by
  induction d with
  | zero =>
    intro n i acc rest hn hi h0
    have h1 : n < 128 := by simpa using hn
    rw [enc_lt h1]
    simp only [List.cons_append, List.nil_append, dec, Int.toNat_natCast, List.length_cons, List.length_nil]
    rw [if_pos (by omega), if_neg (by omega), if_neg (by omega)]
  | succ d ih =>
    intro n i acc rest hn hi h0
    by_cases h1 : n < 128
    · rw [enc_lt h1]
      simp only [List.cons_append, List.nil_append, dec, Int.toNat_natCast, List.length_cons, List.length_nil]
      rw [if_pos (by omega), if_neg (by omega), if_neg (by omega)]
    · rw [enc_ge h1]
      simp only [List.cons_append, dec, Int.toNat_natCast, List.length_cons]
      rw [if_pos (by omega), if_pos (by omega), ih (n / 128) (i + 1) _ rest (by rw [Nat.pow_succ] at hn; omega) (by omega) (by omega)]
      have e1 : (n % 128 + 128) % 128 = n % 128 := by omega
      rw [e1]
      congr 1
      have e2 : acc + n % 128 * 128 ^ i + n / 128 * 128 ^ (i + 1) = acc + n * 128 ^ i := by
        rw [Nat.pow_succ, Nat.add_assoc, show n / 128 * (128 ^ i * 128) = (n / 128 * 128) * 128 ^ i from by rw [Nat.mul_comm (128 ^ i), Nat.mul_assoc], ← Nat.add_mul]
        congr 2
        omega
      rw [e2, show i + 1 + (enc (n / 128)).length = i + ((enc (n / 128)).length + 1) from by omega]
theorem getN_enc {n : Nat} (hn : n < 9223372036854775808) (pre rest : List Int) : getN (pre ++ (enc n ++ rest)) (pre.length : Int) = ((n : Int), (pre.length : Int) + (enc n).length, true) := by
  unfold getN
  rw [if_neg (by omega)]
  simp only [Int.toNat_natCast, List.drop_left]
  rw [dec_enc 8 n 0 0 rest (by simpa using hn) (by omega) (by omega)]
  simp

theorem enc_inj {a b : Nat} (h : enc a = enc b) : a = b := by
  induction a using Nat.strongRecOn generalizing b with
  | _ a ih =>
    by_cases ha : a < 128 <;> by_cases hb : b < 128
    · rw [enc_lt ha, enc_lt hb] at h
      simp only [List.cons.injEq] at h
      omega
    · rw [enc_lt ha, enc_ge hb] at h
      simp only [List.cons.injEq] at h
      omega
    · rw [enc_ge ha, enc_lt hb] at h
      simp only [List.cons.injEq] at h
      omega
    · rw [enc_ge ha, enc_ge hb] at h
      simp only [List.cons.injEq] at h
      have := ih (a / 128) (by omega) h.2
      omega
end Go.Proofs.Ytcglkacplbeakaa.PA
