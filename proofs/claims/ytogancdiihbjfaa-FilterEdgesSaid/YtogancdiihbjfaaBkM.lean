/- Plain laws: numbers, texts, keys as bytes. -/
import Derived.Test.YtogancdiihbjfaaBkA
namespace Go.Eng.Bk
open Go Go.Eng
set_option linter.unusedVariables false
set_option linter.unusedSimpArgs false
theorem w64 {x : Int} (h0 : -9223372036854775808 ≤ x) (h1 : x ≤ 9223372036854775807) : IntKind.i64.wrap x = x := by
  have hb : IntKind.i64.bits = 64 := rfl
  have hs : IntKind.i64.signed = true := rfl
  unfold IntKind.wrap
  rw [hb, hs]
  simp only [Bool.true_and, decide_eq_true_eq]
  split <;> omega
theorem wu8 (x : Int) : IntKind.u8.wrap x = x % 256 := by
  have hb : IntKind.u8.bits = 8 := rfl
  have hs : IntKind.u8.signed = false := rfl
  unfold IntKind.wrap
  rw [hb, hs]
  simp
def Bytes (l : List Int) : Prop := ∀ x ∈ l, 0 ≤ x ∧ x ≤ 255
theorem Bytes.nil : Bytes [] := fun _ h => by cases h
theorem Bytes.append {a b : List Int} (ha : Bytes a) (hb : Bytes b) : Bytes (a ++ b) := fun x hx => by
  rcases List.mem_append.1 hx with h | h
  · exact ha x h
  · exact hb x h
theorem Bytes.drop {a : List Int} (ha : Bytes a) (n : Nat) : Bytes (a.drop n) := fun x hx => ha x (List.mem_of_mem_drop hx)
theorem Bytes.take {a : List Int} (ha : Bytes a) (n : Nat) : Bytes (a.take n) := fun x hx => ha x (List.mem_of_mem_take hx)
theorem Bytes.of_wf {l : List Int} (h : ∀ x ∈ l, (Lit.int .u8 x).wf = true) : Bytes l := fun x hx => by
  have := h x hx
  simp [Lit.wf, IntKind.min, IntKind.max, IntKind.signed, IntKind.bits] at this
  omega


theorem or128 (n : Nat) (h : n < 256) : IntKind.u8.wrap (((BitVec.ofInt IntKind.u8.bits (n : Int) ||| BitVec.ofInt IntKind.u8.bits (128 : Int)).toNat : Nat) : Int) = ((n % 128 + 128 : Nat) : Int) := by
  have : ∀ m : Fin 256, IntKind.u8.wrap (((BitVec.ofInt IntKind.u8.bits ((m.val : Nat) : Int) ||| BitVec.ofInt IntKind.u8.bits (128 : Int)).toNat : Nat) : Int) = ((m.val % 128 + 128 : Nat) : Int) := by decide +kernel
  exact this ⟨n, h⟩
theorem and127 (n : Nat) (h : n < 256) : IntKind.u8.wrap (((BitVec.ofInt IntKind.u8.bits (n : Int) &&& BitVec.ofInt IntKind.u8.bits (127 : Int)).toNat : Nat) : Int) = ((n % 128 : Nat) : Int) := by
  have : ∀ m : Fin 256, IntKind.u8.wrap (((BitVec.ofInt IntKind.u8.bits ((m.val : Nat) : Int) &&& BitVec.ofInt IntKind.u8.bits (127 : Int)).toNat : Nat) : Int) = ((m.val % 128 : Nat) : Int) := by decide +kernel
  exact this ⟨n, h⟩
theorem toNat_ofInt64 (a : Nat) (h : a < 9223372036854775808) : (BitVec.ofInt 64 (a : Int)).toNat = a := by
  rw [BitVec.toNat_ofInt]
  omega
theorem or_nat (a b : Nat) (ha : a < 9223372036854775808) (hb : b < 9223372036854775808) (h : a ||| b < 9223372036854775808) : IntKind.i64.wrap (((BitVec.ofInt IntKind.i64.bits (a : Int) ||| BitVec.ofInt IntKind.i64.bits (b : Int)).toNat : Nat) : Int) = ((a ||| b : Nat) : Int) := by
  have h1 : (BitVec.ofInt IntKind.i64.bits (a : Int) ||| BitVec.ofInt IntKind.i64.bits (b : Int)).toNat = a ||| b := by
    show (BitVec.ofInt 64 (a : Int) ||| BitVec.ofInt 64 (b : Int)).toNat = a ||| b
    rw [BitVec.toNat_or, toNat_ofInt64 a ha, toNat_ofInt64 b hb]
  rw [h1]
  exact w64 (by omega) (by omega)
theorem or_shift (a b i : Nat) (ha : a < 2 ^ i) (h : a + b * 2 ^ i < 9223372036854775808) : IntKind.i64.wrap (((BitVec.ofInt IntKind.i64.bits (a : Int) ||| BitVec.ofInt IntKind.i64.bits ((b * 2 ^ i : Nat) : Int)).toNat : Nat) : Int) = ((a + b * 2 ^ i : Nat) : Int) := by
  have h0 : a ||| b * 2 ^ i = a + b * 2 ^ i := by
    rw [Nat.or_comm, Nat.mul_comm b, ← Nat.two_pow_add_eq_or_of_lt ha, Nat.add_comm]
  rw [or_nat a (b * 2 ^ i) (by omega) (by omega) (by omega), h0]
theorem shl_nat (b i : Nat) (hi : i ≤ 64) (h : b * 2 ^ i < 9223372036854775808) : IntKind.i64.wrap ((b : Int) * 2 ^ (min ((i : Int)).toNat IntKind.i64.bits)) = ((b * 2 ^ i : Nat) : Int) := by
  have hb : IntKind.i64.bits = 64 := rfl
  rw [hb, show ((i : Int)).toNat = i from rfl, Nat.min_eq_left hi]
  have : (b : Int) * 2 ^ i = ((b * 2 ^ i : Nat) : Int) := by push_cast; rfl
  rw [this]
  exact w64 (by omega) (by omega)
/-- A number's bytes. -/
def enc (n : Nat) : List Int := if n < 128 then [(n : Int)] else ((n % 128 + 128 : Nat) : Int) :: enc (n / 128)
termination_by n
decreasing_by omega
theorem enc_lt {n : Nat} (h : n < 128) : enc n = [(n : Int)] := by unfold enc; rw [if_pos h]
theorem enc_ge {n : Nat} (h : ¬ n < 128) : enc n = ((n % 128 + 128 : Nat) : Int) :: enc (n / 128) := by
  conv => lhs; unfold enc
  rw [if_neg h]
theorem enc_bytes (n : Nat) : Bytes (enc n) := by
  induction n using Nat.strongRecOn with
  | _ n ih =>
    by_cases h : n < 128
    · rw [enc_lt h]
      intro x hx
      simp only [List.mem_singleton] at hx
      omega
    · rw [enc_ge h]
      intro x hx
      rcases List.mem_cons.1 hx with h1 | h1
      · omega
      · exact ih (n / 128) (by omega) x h1
theorem enc_length_pos (n : Nat) : 1 ≤ (enc n).length := by
  by_cases h : n < 128
  · rw [enc_lt h]; simp
  · rw [enc_ge h]; simp
theorem enc_length_le (d : Nat) : ∀ n, n < 128 ^ (d + 1) → (enc n).length ≤ d + 1 := by
  induction d with
  | zero => intro n h; rw [enc_lt (by simpa using h)]; simp
  | succ d ih =>
    intro n h
    by_cases h1 : n < 128
    · rw [enc_lt h1]; simp
    · rw [enc_ge h1]
      have := ih (n / 128) (by rw [Nat.pow_succ] at h; omega)
      simp only [List.length_cons]
      omega
theorem enc_length9 {n : Nat} (h : n < 9223372036854775808) : (enc n).length ≤ 9 := enc_length_le 8 n (by rw [show (128 : Nat) ^ (8 + 1) = 9223372036854775808 from by decide]; exact h)

/-- The number that a row of bytes begins with, and how many bytes it has; the bytes ahead are i, and come to acc. -/
def dec : Nat → Nat → List Int → Option (Nat × Nat)
  | _, _, [] => none
  | i, acc, c :: t => if i < 9 then (if c > 127 then dec (i + 1) (acc + (c.toNat % 128) * 128 ^ i) t else if c = 0 ∧ 0 < i then none else some (acc + c.toNat * 128 ^ i, i + 1)) else none

def getN (l : List Int) (at_ : Int) : Int × Int × Bool :=
  if at_ < 0 then (0, 0, false) else
    match dec 0 0 (l.drop at_.toNat) with
    | some (n, j) => ((n : Int), at_ + j, true)
    | none => (0, 0, false)

theorem drop_lt {l : List Int} {i : Nat} {c : Int} {t : List Int} (h : l.drop i = c :: t) : i < l.length := by
  rcases Nat.lt_or_ge i l.length with h1 | h1
  · exact h1
  · rw [List.drop_of_length_le h1] at h; cases h
theorem drop_succ {l : List Int} {i : Nat} {c : Int} {t : List Int} (h : l.drop i = c :: t) : l.drop (i + 1) = t := by
  have : l.drop (i + 1) = (l.drop i).drop 1 := by rw [List.drop_drop]
  rw [this, h]; rfl
theorem pow7 (i : Nat) : 128 ^ i = 2 ^ (7 * i) := by
  rw [show (128 : Nat) = 2 ^ 7 from rfl, ← Nat.pow_mul]

theorem dec_enc (d : Nat) : ∀ (n i acc : Nat) (rest : List Int), n < 128 ^ (d + 1) → i + d < 9 → (0 < i → 0 < n) → dec i acc (enc n ++ rest) = some (acc + n * 128 ^ i, i + (enc n).length) := by
  induction d with
  | zero =>
    intro n i acc rest hn hi h0
    have h1 : n < 128 := by simpa using hn
    rw [enc_lt h1]
    simp only [List.cons_append, List.nil_append, dec, Int.toNat_natCast, List.length_cons, List.length_nil]
    rw [if_pos (by omega), if_neg (by omega), if_neg (by omega)]
  | succ d ih =>
    intro n i acc rest hn hi h0
    by_cases h1 : n < 128
    · rw [enc_lt h1]
      simp only [List.cons_append, List.nil_append, dec, Int.toNat_natCast, List.length_cons, List.length_nil]
      rw [if_pos (by omega), if_neg (by omega), if_neg (by omega)]
    · rw [enc_ge h1]
      simp only [List.cons_append, dec, Int.toNat_natCast, List.length_cons]
      rw [if_pos (by omega), if_pos (by omega), ih (n / 128) (i + 1) _ rest (by rw [Nat.pow_succ] at hn; omega) (by omega) (by omega)]
      have e1 : (n % 128 + 128) % 128 = n % 128 := by omega
      rw [e1]
      congr 1
      have e2 : acc + n % 128 * 128 ^ i + n / 128 * 128 ^ (i + 1) = acc + n * 128 ^ i := by
        rw [Nat.pow_succ, Nat.add_assoc, show n / 128 * (128 ^ i * 128) = (n / 128 * 128) * 128 ^ i from by rw [Nat.mul_comm (128 ^ i), Nat.mul_assoc], ← Nat.add_mul]
        congr 2
        omega
      rw [e2, show i + 1 + (enc (n / 128)).length = i + ((enc (n / 128)).length + 1) from by omega]
theorem getN_enc {n : Nat} (hn : n < 9223372036854775808) (pre rest : List Int) : getN (pre ++ (enc n ++ rest)) (pre.length : Int) = ((n : Int), (pre.length : Int) + (enc n).length, true) := by
  unfold getN
  rw [if_neg (by omega)]
  simp only [Int.toNat_natCast, List.drop_left]
  rw [dec_enc 8 n 0 0 rest (by rw [show (128 : Nat) ^ (8 + 1) = 9223372036854775808 from by decide]; exact hn) (by omega) (by omega)]
  simp

theorem enc_inj {a b : Nat} (h : enc a = enc b) : a = b := by
  induction a using Nat.strongRecOn generalizing b with
  | _ a ih =>
    by_cases ha : a < 128 <;> by_cases hb : b < 128
    · rw [enc_lt ha, enc_lt hb] at h
      simp only [List.cons.injEq] at h
      omega
    · rw [enc_lt ha, enc_ge hb] at h
      simp only [List.cons.injEq] at h
      omega
    · rw [enc_ge ha, enc_lt hb] at h
      simp only [List.cons.injEq] at h
      omega
    · rw [enc_ge ha, enc_ge hb] at h
      simp only [List.cons.injEq] at h
      have := ih (a / 128) (by omega) h.2
      omega
theorem bytesOf_length (s : ByteArray) : (bytesOf s).length = s.size := by unfold bytesOf; rw [List.length_map, Array.length_toList]; rfl
theorem ba_toList (s : ByteArray) : s.toList = s.data.toList := ByteArray.toList_eq s
theorem ba_ext {a b : ByteArray} (h : a.toList = b.toList) : a = b := by
  rw [ba_toList, ba_toList] at h
  cases a; cases b
  congr
  exact Array.toList_inj.1 h
theorem strOf_toList (l : List Int) : (strOf l).toList = l.map fun n => UInt8.ofNat n.toNat := by rw [ba_toList]; rfl
theorem bytesOf_bytes (s : ByteArray) : Bytes (bytesOf s) := by
  intro x hx
  unfold bytesOf at hx
  obtain ⟨b, _, rfl⟩ := List.mem_map.1 hx
  have := b.toNat_lt
  omega
theorem strOf_bytesOf (s : ByteArray) : strOf (bytesOf s) = s := by
  apply ba_ext
  rw [strOf_toList, ba_toList]
  unfold bytesOf
  rw [List.map_map]
  conv => rhs; rw [← List.map_id s.data.toList]
  apply List.map_congr_left
  intro b _
  simp
theorem bytesOf_strOf {l : List Int} (h : Bytes l) : bytesOf (strOf l) = l := by
  unfold bytesOf
  rw [← ba_toList, strOf_toList, List.map_map]
  conv => rhs; rw [← List.map_id l]
  apply List.map_congr_left
  intro x hx
  have := h x hx
  simp only [Function.comp_apply, UInt8.toNat_ofNat', id]
  omega
theorem bytesOf_inj {a b : ByteArray} (h : bytesOf a = bytesOf b) : a = b := by
  rw [← strOf_bytesOf a, ← strOf_bytesOf b, h]
theorem strOf_inj {a b : List Int} (ha : Bytes a) (hb : Bytes b) (h : strOf a = strOf b) : a = b := by
  rw [← bytesOf_strOf ha, ← bytesOf_strOf hb, h]
theorem strOf_len (l : List Int) : (strOf l).size = l.length := by simp [strOf, ByteArray.size]
theorem dec_bound : ∀ (l : List Int) (i acc v j : Nat), dec i acc l = some (v, j) → acc < 128 ^ i → Bytes l → v < 128 ^ j ∧ i < j ∧ j ≤ 9 ∧ j ≤ i + l.length
  | [], i, acc, v, j, h, _, _ => by simp [dec] at h
  | c :: t, i, acc, v, j, h, ha, hb => by
    have hc := hb c (by simp)
    simp only [dec] at h
    split at h
    case isFalse => cases h
    rename_i hi
    split at h
    · have hm : (c.toNat % 128) * 128 ^ i ≤ 127 * 128 ^ i := Nat.mul_le_mul_right _ (by omega)
      have := dec_bound t (i + 1) _ v j h (by rw [Nat.pow_succ]; omega) (fun x hx => hb x (by simp [hx]))
      simp only [List.length_cons]
      omega
    · split at h
      · cases h
      · simp only [Option.some.injEq, Prod.mk.injEq] at h
        obtain ⟨rfl, rfl⟩ := h
        have hm : c.toNat * 128 ^ i ≤ 127 * 128 ^ i := Nat.mul_le_mul_right _ (by omega)
        simp only [List.length_cons]
        refine ⟨?_, by omega, by omega, by omega⟩
        rw [Nat.pow_succ]; omega
theorem getN_cases {l : List Int} (hl : Bytes l) (at_ : Int) : (getN l at_ = (0, 0, false)) ∨ ∃ (p n j : Nat), at_ = p ∧ dec 0 0 (l.drop p) = some (n, j) ∧ getN l at_ = ((n : Int), ((p + j : Nat) : Int), true) ∧ n < 9223372036854775808 ∧ 1 ≤ j ∧ j ≤ 9 ∧ p + j ≤ l.length := by
  unfold getN
  by_cases h : at_ < 0
  · left; rw [if_pos h]
  · rw [if_neg h]
    cases hd : dec 0 0 (l.drop at_.toNat) with
    | none => left; rfl
    | some q =>
      obtain ⟨n, j⟩ := q
      right
      have hb := dec_bound _ 0 0 n j hd (by simp) (hl.drop _)
      have h9 : (128 : Nat) ^ j ≤ 128 ^ 9 := Nat.pow_le_pow_right (by omega) (by omega)
      have : (128 : Nat) ^ 9 = 9223372036854775808 := by decide
      rw [List.length_drop] at hb
      refine ⟨at_.toNat, n, j, by omega, hd, ?_, by omega, by omega, by omega, by omega⟩
      have : at_ + (j : Int) = ((at_.toNat + j : Nat) : Int) := by omega
      show ((n : Int), at_ + (j : Int), true) = _
      rw [this]

/-- A text that stands at a place. -/
def getT (l : List Int) (at_ : Int) : ByteArray × Int × Bool :=
  if (getN l at_).2.2 = true then (if (getN l at_).1 > (l.length : Int) - (getN l at_).2.1 then (⟨#[]⟩, 0, false) else
    (strOf ((l.take ((getN l at_).2.1 + (getN l at_).1).toNat).drop (getN l at_).2.1.toNat), (getN l at_).2.1 + (getN l at_).1, true)) else (⟨#[]⟩, 0, false)
theorem getT_cases {l : List Int} (hl : Bytes l) (at_ : Int) : (getT l at_ = (⟨#[]⟩, 0, false)) ∨ ∃ (p n j : Nat), at_ = p ∧ dec 0 0 (l.drop p) = some (n, j) ∧ getT l at_ = (strOf ((l.take (p + j + n)).drop (p + j)), ((p + j + n : Nat) : Int), true) ∧ 1 ≤ j ∧ j ≤ 9 ∧ p + j + n ≤ l.length := by
  unfold getT
  rcases getN_cases hl at_ with h | ⟨p, n, j, rfl, hd, h, hn, h1, h9, hp⟩
  · left; rw [h]; rfl
  · rw [h]
    simp only [if_true]
    by_cases hc : (n : Int) > (l.length : Int) - ((p + j : Nat) : Int)
    · left; rw [if_pos hc]
    · right
      rw [if_neg hc]
      refine ⟨p, n, j, rfl, hd, ?_, h1, h9, by omega⟩
      have e : ((p + j : Nat) : Int) + (n : Int) = ((p + j + n : Nat) : Int) := by omega
      rw [e]
      simp only [Int.toNat_natCast]
theorem getT_enc {s : ByteArray} (hs : s.size ≤ 70368744177664) (pre rest : List Int) : getT (pre ++ (enc s.size ++ (bytesOf s ++ rest))) (pre.length : Int) = (s, ((pre.length + (enc s.size).length + s.size : Nat) : Int), true) := by
  unfold getT
  rw [getN_enc (by omega)]
  simp only [if_true]
  have hb : (bytesOf s).length = s.size := bytesOf_length s
  rw [if_neg (by simp only [List.length_append, hb]; omega)]
  have e : (pre.length : Int) + ((enc s.size).length : Int) + (s.size : Int) = ((pre.length + (enc s.size).length + s.size : Nat) : Int) := by omega
  have e2 : (pre.length : Int) + ((enc s.size).length : Int) = ((pre.length + (enc s.size).length : Nat) : Int) := by omega
  rw [e, e2]
  simp only [Int.toNat_natCast]
  have e3 : pre ++ (enc s.size ++ (bytesOf s ++ rest)) = (pre ++ enc s.size) ++ (bytesOf s ++ rest) := by rw [List.append_assoc]
  rw [e3, List.drop_take, List.drop_left' (by simp)]
  have e4 : pre.length + (enc s.size).length + s.size - (pre.length + (enc s.size).length) = (bytesOf s).length := by rw [hb]; omega
  rw [e4, List.take_left, strOf_bytesOf]

/-- Whether a key may be. -/
def mayB (u : ByteArray) (s k : Int) : Bool := decide ((u.size : Int) ≤ 64 ∧ 0 ≤ s ∧ s ≤ 9007199254740992 ∧ (k = 1 ∨ k = 2))
theorem mayB_true {u : ByteArray} {s k : Int} (h : mayB u s k = true) : (u.size : Int) ≤ 64 ∧ 0 ≤ s ∧ s ≤ 9007199254740992 ∧ (k = 1 ∨ k = 2) := of_decide_eq_true h

theorem getN_num {l : List Int} (hl : Bytes l) (at_ : Int) : ∃ n : Nat, (getN l at_).1 = n ∧ n < 9223372036854775808 := by
  rcases getN_cases hl at_ with h | ⟨p, n, j, _, _, h, hn, _⟩
  · exact ⟨0, by rw [h]; rfl, by omega⟩
  · exact ⟨n, by rw [h], hn⟩
end Go.Eng.Bk
