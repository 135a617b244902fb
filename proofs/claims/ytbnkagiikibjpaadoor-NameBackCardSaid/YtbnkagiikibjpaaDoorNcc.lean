/- Nc, part 3: several texts of mine, laid together. -/
import Derived.Test.YtbnkagiikibjpaaDoorNcb
import Derived.Lib.AtoiAllCases
import Derived.Lib.ItoaLen
import Derived.Lib.IndexLaws
set_option linter.unusedVariables false
set_option linter.unusedSimpArgs false
/- Plain laws: numbers, texts, keys as bytes. -/
namespace Go.Eng.Bk
open Go Go.Eng
set_option linter.unusedVariables false
set_option linter.unusedSimpArgs false
theorem w64 {x : Int} (h0 : -9223372036854775808 ≤ x) (h1 : x ≤ 9223372036854775807) : IntKind.i64.wrap x = x := by
  have hb : IntKind.i64.bits = 64 := rfl
  have hs : IntKind.i64.signed = true := rfl
  unfold IntKind.wrap
  rw [hb, hs]
  simp only [Bool.true_and, decide_eq_true_eq]
  split <;> omega
theorem wu8 (x : Int) : IntKind.u8.wrap x = x % 256 := by
  have hb : IntKind.u8.bits = 8 := rfl
  have hs : IntKind.u8.signed = false := rfl
  unfold IntKind.wrap
  rw [hb, hs]
  simp
def Bytes (l : List Int) : Prop := ∀ x ∈ l, 0 ≤ x ∧ x ≤ 255
theorem Bytes.nil : Bytes [] := fun _ h => by cases h
theorem Bytes.append {a b : List Int} (ha : Bytes a) (hb : Bytes b) : Bytes (a ++ b) := fun x hx => by
  rcases List.mem_append.1 hx with h | h
  · exact ha x h
  · exact hb x h
theorem Bytes.drop {a : List Int} (ha : Bytes a) (n : Nat) : Bytes (a.drop n) := fun x hx => ha x (List.mem_of_mem_drop hx)
theorem Bytes.take {a : List Int} (ha : Bytes a) (n : Nat) : Bytes (a.take n) := fun x hx => ha x (List.mem_of_mem_take hx)
theorem Bytes.of_wf {l : List Int} (h : ∀ x ∈ l, (Lit.int .u8 x).wf = true) : Bytes l := fun x hx => by
  have := h x hx
  simp [Lit.wf, IntKind.min, IntKind.max, IntKind.signed, IntKind.bits] at this
  omega


theorem or128 (n : Nat) (h : n < 256) : IntKind.u8.wrap (((BitVec.ofInt IntKind.u8.bits (n : Int) ||| BitVec.ofInt IntKind.u8.bits (128 : Int)).toNat : Nat) : Int) = ((n % 128 + 128 : Nat) : Int) := by
  have : ∀ m : Fin 256, IntKind.u8.wrap (((BitVec.ofInt IntKind.u8.bits ((m.val : Nat) : Int) ||| BitVec.ofInt IntKind.u8.bits (128 : Int)).toNat : Nat) : Int) = ((m.val % 128 + 128 : Nat) : Int) := by decide +kernel
  exact this ⟨n, h⟩
theorem and127 (n : Nat) (h : n < 256) : IntKind.u8.wrap (((BitVec.ofInt IntKind.u8.bits (n : Int) &&& BitVec.ofInt IntKind.u8.bits (127 : Int)).toNat : Nat) : Int) = ((n % 128 : Nat) : Int) := by
  have : ∀ m : Fin 256, IntKind.u8.wrap (((BitVec.ofInt IntKind.u8.bits ((m.val : Nat) : Int) &&& BitVec.ofInt IntKind.u8.bits (127 : Int)).toNat : Nat) : Int) = ((m.val % 128 : Nat) : Int) := by decide +kernel
  exact this ⟨n, h⟩
theorem toNat_ofInt64 (a : Nat) (h : a < 9223372036854775808) : (BitVec.ofInt 64 (a : Int)).toNat = a := by
  rw [BitVec.toNat_ofInt]
  omega
theorem or_nat (a b : Nat) (ha : a < 9223372036854775808) (hb : b < 9223372036854775808) (h : a ||| b < 9223372036854775808) : IntKind.i64.wrap (((BitVec.ofInt IntKind.i64.bits (a : Int) ||| BitVec.ofInt IntKind.i64.bits (b : Int)).toNat : Nat) : Int) = ((a ||| b : Nat) : Int) := by
  have h1 : (BitVec.ofInt IntKind.i64.bits (a : Int) ||| BitVec.ofInt IntKind.i64.bits (b : Int)).toNat = a ||| b := by
    show (BitVec.ofInt 64 (a : Int) ||| BitVec.ofInt 64 (b : Int)).toNat = a ||| b
    rw [BitVec.toNat_or, toNat_ofInt64 a ha, toNat_ofInt64 b hb]
  rw [h1]
  exact w64 (by omega) (by omega)
theorem or_shift (a b i : Nat) (ha : a < 2 ^ i) (h : a + b * 2 ^ i < 9223372036854775808) : IntKind.i64.wrap (((BitVec.ofInt IntKind.i64.bits (a : Int) ||| BitVec.ofInt IntKind.i64.bits ((b * 2 ^ i : Nat) : Int)).toNat : Nat) : Int) = ((a + b * 2 ^ i : Nat) : Int) := by
  have h0 : a ||| b * 2 ^ i = a + b * 2 ^ i := by
    rw [Nat.or_comm, Nat.mul_comm b, ← Nat.two_pow_add_eq_or_of_lt ha, Nat.add_comm]
  rw [or_nat a (b * 2 ^ i) (by omega) (by omega) (by omega), h0]
theorem shl_nat (b i : Nat) (hi : i ≤ 64) (h : b * 2 ^ i < 9223372036854775808) : IntKind.i64.wrap ((b : Int) * 2 ^ (min ((i : Int)).toNat IntKind.i64.bits)) = ((b * 2 ^ i : Nat) : Int) := by
  have hb : IntKind.i64.bits = 64 := rfl
  rw [hb, show ((i : Int)).toNat = i from rfl, Nat.min_eq_left hi]
  have : (b : Int) * 2 ^ i = ((b * 2 ^ i : Nat) : Int) := by push_cast; rfl
  rw [this]
  exact w64 (by omega) (by omega)
/-- A number's bytes. -/
def enc (n : Nat) : List Int := if n < 128 then [(n : Int)] else ((n % 128 + 128 : Nat) : Int) :: enc (n / 128)
termination_by n
decreasing_by omega
theorem enc_lt {n : Nat} (h : n < 128) : enc n = [(n : Int)] := by unfold enc; rw [if_pos h]
theorem enc_ge {n : Nat} (h : ¬ n < 128) : enc n = ((n % 128 + 128 : Nat) : Int) :: enc (n / 128) := by
  conv => lhs; unfold enc
  rw [if_neg h]
theorem enc_bytes (n : Nat) : Bytes (enc n) := by
  induction n using Nat.strongRecOn with
  | _ n ih =>
    by_cases h : n < 128
    · rw [enc_lt h]
      intro x hx
      simp only [List.mem_singleton] at hx
      omega
    · rw [enc_ge h]
      intro x hx
      rcases List.mem_cons.1 hx with h1 | h1
      · omega
      · exact ih (n / 128) (by omega) x h1
theorem enc_length_pos (n : Nat) : 1 ≤ (enc n).length := by
  by_cases h : n < 128
  · rw [enc_lt h]; simp
  · rw [enc_ge h]; simp
theorem enc_length_le (d : Nat) : ∀ n, n < 128 ^ (d + 1) → (enc n).length ≤ d + 1 := by
  induction d with
  | zero => intro n h; rw [enc_lt (by simpa using h)]; simp
  | succ d ih =>
    intro n h
    by_cases h1 : n < 128
    · rw [enc_lt h1]; simp
    · rw [enc_ge h1]
      have := ih (n / 128) (by rw [Nat.pow_succ] at h; omega)
      simp only [List.length_cons]
      omega
theorem enc_length9 {n : Nat} (h : n < 9223372036854775808) : (enc n).length ≤ 9 := enc_length_le 8 n (by rw [show (128 : Nat) ^ (8 + 1) = 9223372036854775808 from by decide]; exact h)

/-- The number that a row of bytes begins with, and how many bytes it has; the bytes ahead are i, and come to acc. -/
def dec : Nat → Nat → List Int → Option (Nat × Nat)
  | _, _, [] => none
  | i, acc, c :: t => if i < 9 then (if c > 127 then dec (i + 1) (acc + (c.toNat % 128) * 128 ^ i) t else if c = 0 ∧ 0 < i then none else some (acc + c.toNat * 128 ^ i, i + 1)) else none

def getN (l : List Int) (at_ : Int) : Int × Int × Bool :=
  if at_ < 0 then (0, 0, false) else
    match dec 0 0 (l.drop at_.toNat) with
    | some (n, j) => ((n : Int), at_ + j, true)
    | none => (0, 0, false)

theorem drop_lt {l : List Int} {i : Nat} {c : Int} {t : List Int} (h : l.drop i = c :: t) : i < l.length := by
  rcases Nat.lt_or_ge i l.length with h1 | h1
  · exact h1
  · rw [List.drop_of_length_le h1] at h; cases h
theorem drop_succ {l : List Int} {i : Nat} {c : Int} {t : List Int} (h : l.drop i = c :: t) : l.drop (i + 1) = t := by
  have : l.drop (i + 1) = (l.drop i).drop 1 := by rw [List.drop_drop]
  rw [this, h]; rfl
theorem pow7 (i : Nat) : 128 ^ i = 2 ^ (7 * i) := by
  rw [show (128 : Nat) = 2 ^ 7 from rfl, ← Nat.pow_mul]

theorem dec_enc (d : Nat) : ∀ (n i acc : Nat) (rest : List Int), n < 128 ^ (d + 1) → i + d < 9 → (0 < i → 0 < n) → dec i acc (enc n ++ rest) = some (acc + n * 128 ^ i, i + (enc n).length) := by
  induction d with
  | zero =>
    intro n i acc rest hn hi h0
    have h1 : n < 128 := by simpa using hn
    rw [enc_lt h1]
    simp only [List.cons_append, List.nil_append, dec, Int.toNat_natCast, List.length_cons, List.length_nil]
    rw [if_pos (by omega), if_neg (by omega), if_neg (by omega)]
  | succ d ih =>
    intro n i acc rest hn hi h0
    by_cases h1 : n < 128
    · rw [enc_lt h1]
      simp only [List.cons_append, List.nil_append, dec, Int.toNat_natCast, List.length_cons, List.length_nil]
      rw [if_pos (by omega), if_neg (by omega), if_neg (by omega)]
    · rw [enc_ge h1]
      simp only [List.cons_append, dec, Int.toNat_natCast, List.length_cons]
      rw [if_pos (by omega), if_pos (by omega), ih (n / 128) (i + 1) _ rest (by rw [Nat.pow_succ] at hn; omega) (by omega) (by omega)]
      have e1 : (n % 128 + 128) % 128 = n % 128 := by omega
      rw [e1]
      congr 1
      have e2 : acc + n % 128 * 128 ^ i + n / 128 * 128 ^ (i + 1) = acc + n * 128 ^ i := by
        rw [Nat.pow_succ, Nat.add_assoc, show n / 128 * (128 ^ i * 128) = (n / 128 * 128) * 128 ^ i from by rw [Nat.mul_comm (128 ^ i), Nat.mul_assoc], ← Nat.add_mul]
        congr 2
        omega
      rw [e2, show i + 1 + (enc (n / 128)).length = i + ((enc (n / 128)).length + 1) from by omega]
theorem getN_enc {n : Nat} (hn : n < 9223372036854775808) (pre rest : List Int) : getN (pre ++ (enc n ++ rest)) (pre.length : Int) = ((n : Int), (pre.length : Int) + (enc n).length, true) := by
  unfold getN
  rw [if_neg (by omega)]
  simp only [Int.toNat_natCast, List.drop_left]
  rw [dec_enc 8 n 0 0 rest (by rw [show (128 : Nat) ^ (8 + 1) = 9223372036854775808 from by decide]; exact hn) (by omega) (by omega)]
  simp

theorem enc_inj {a b : Nat} (h : enc a = enc b) : a = b := by
  induction a using Nat.strongRecOn generalizing b with
  | _ a ih =>
    by_cases ha : a < 128 <;> by_cases hb : b < 128
    · rw [enc_lt ha, enc_lt hb] at h
      simp only [List.cons.injEq] at h
      omega
    · rw [enc_lt ha, enc_ge hb] at h
      simp only [List.cons.injEq] at h
      omega
    · rw [enc_ge ha, enc_lt hb] at h
      simp only [List.cons.injEq] at h
      omega
    · rw [enc_ge ha, enc_ge hb] at h
      simp only [List.cons.injEq] at h
      have := ih (a / 128) (by omega) h.2
      omega
theorem bytesOf_length (s : ByteArray) : (bytesOf s).length = s.size := by unfold bytesOf; rw [List.length_map, Array.length_toList]; rfl
theorem ba_toList (s : ByteArray) : s.toList = s.data.toList := ByteArray.toList_eq s
theorem ba_ext {a b : ByteArray} (h : a.toList = b.toList) : a = b := by
  rw [ba_toList, ba_toList] at h
  cases a; cases b
  congr
  exact Array.toList_inj.1 h
theorem strOf_toList (l : List Int) : (strOf l).toList = l.map fun n => UInt8.ofNat n.toNat := by rw [ba_toList]; rfl
theorem bytesOf_bytes (s : ByteArray) : Bytes (bytesOf s) := by
  intro x hx
  unfold bytesOf at hx
  obtain ⟨b, _, rfl⟩ := List.mem_map.1 hx
  have := b.toNat_lt
  omega
theorem strOf_bytesOf (s : ByteArray) : strOf (bytesOf s) = s := by
  apply ba_ext
  rw [strOf_toList, ba_toList]
  unfold bytesOf
  rw [List.map_map]
  conv => rhs; rw [← List.map_id s.data.toList]
  apply List.map_congr_left
  intro b _
  simp
theorem bytesOf_strOf {l : List Int} (h : Bytes l) : bytesOf (strOf l) = l := by
  unfold bytesOf
  rw [← ba_toList, strOf_toList, List.map_map]
  conv => rhs; rw [← List.map_id l]
  apply List.map_congr_left
  intro x hx
  have := h x hx
  simp only [Function.comp_apply, UInt8.toNat_ofNat', id]
  omega
theorem bytesOf_inj {a b : ByteArray} (h : bytesOf a = bytesOf b) : a = b := by
  rw [← strOf_bytesOf a, ← strOf_bytesOf b, h]
theorem strOf_inj {a b : List Int} (ha : Bytes a) (hb : Bytes b) (h : strOf a = strOf b) : a = b := by
  rw [← bytesOf_strOf ha, ← bytesOf_strOf hb, h]
theorem strOf_len (l : List Int) : (strOf l).size = l.length := by simp [strOf, ByteArray.size]
theorem dec_bound : ∀ (l : List Int) (i acc v j : Nat), dec i acc l = some (v, j) → acc < 128 ^ i → Bytes l → v < 128 ^ j ∧ i < j ∧ j ≤ 9 ∧ j ≤ i + l.length
  | [], i, acc, v, j, h, _, _ => by simp [dec] at h
  | c :: t, i, acc, v, j, h, ha, hb => by
    have hc := hb c (by simp)
    simp only [dec] at h
    split at h
    case isFalse => cases h
    rename_i hi
    split at h
    · have hm : (c.toNat % 128) * 128 ^ i ≤ 127 * 128 ^ i := Nat.mul_le_mul_right _ (by omega)
      have := dec_bound t (i + 1) _ v j h (by rw [Nat.pow_succ]; omega) (fun x hx => hb x (by simp [hx]))
      simp only [List.length_cons]
      omega
    · split at h
      · cases h
      · simp only [Option.some.injEq, Prod.mk.injEq] at h
        obtain ⟨rfl, rfl⟩ := h
        have hm : c.toNat * 128 ^ i ≤ 127 * 128 ^ i := Nat.mul_le_mul_right _ (by omega)
        simp only [List.length_cons]
        refine ⟨?_, by omega, by omega, by omega⟩
        rw [Nat.pow_succ]; omega
theorem getN_cases {l : List Int} (hl : Bytes l) (at_ : Int) : (getN l at_ = (0, 0, false)) ∨ ∃ (p n j : Nat), at_ = p ∧ dec 0 0 (l.drop p) = some (n, j) ∧ getN l at_ = ((n : Int), ((p + j : Nat) : Int), true) ∧ n < 9223372036854775808 ∧ 1 ≤ j ∧ j ≤ 9 ∧ p + j ≤ l.length := by
  unfold getN
  by_cases h : at_ < 0
  · left; rw [if_pos h]
  · rw [if_neg h]
    cases hd : dec 0 0 (l.drop at_.toNat) with
    | none => left; rfl
    | some q =>
      obtain ⟨n, j⟩ := q
      right
      have hb := dec_bound _ 0 0 n j hd (by simp) (hl.drop _)
      have h9 : (128 : Nat) ^ j ≤ 128 ^ 9 := Nat.pow_le_pow_right (by omega) (by omega)
      have : (128 : Nat) ^ 9 = 9223372036854775808 := by decide
      rw [List.length_drop] at hb
      refine ⟨at_.toNat, n, j, by omega, hd, ?_, by omega, by omega, by omega, by omega⟩
      have : at_ + (j : Int) = ((at_.toNat + j : Nat) : Int) := by omega
      show ((n : Int), at_ + (j : Int), true) = _
      rw [this]

/-- A text that stands at a place. -/
def getT (l : List Int) (at_ : Int) : ByteArray × Int × Bool :=
  if (getN l at_).2.2 = true then (if (getN l at_).1 > (l.length : Int) - (getN l at_).2.1 then (⟨#[]⟩, 0, false) else
    (strOf ((l.take ((getN l at_).2.1 + (getN l at_).1).toNat).drop (getN l at_).2.1.toNat), (getN l at_).2.1 + (getN l at_).1, true)) else (⟨#[]⟩, 0, false)
theorem getT_cases {l : List Int} (hl : Bytes l) (at_ : Int) : (getT l at_ = (⟨#[]⟩, 0, false)) ∨ ∃ (p n j : Nat), at_ = p ∧ dec 0 0 (l.drop p) = some (n, j) ∧ getT l at_ = (strOf ((l.take (p + j + n)).drop (p + j)), ((p + j + n : Nat) : Int), true) ∧ 1 ≤ j ∧ j ≤ 9 ∧ p + j + n ≤ l.length := by
  unfold getT
  rcases getN_cases hl at_ with h | ⟨p, n, j, rfl, hd, h, hn, h1, h9, hp⟩
  · left; rw [h]; rfl
  · rw [h]
    simp only [if_true]
    by_cases hc : (n : Int) > (l.length : Int) - ((p + j : Nat) : Int)
    · left; rw [if_pos hc]
    · right
      rw [if_neg hc]
      refine ⟨p, n, j, rfl, hd, ?_, h1, h9, by omega⟩
      have e : ((p + j : Nat) : Int) + (n : Int) = ((p + j + n : Nat) : Int) := by omega
      rw [e]
      simp only [Int.toNat_natCast]
theorem getT_enc {s : ByteArray} (hs : s.size ≤ 70368744177664) (pre rest : List Int) : getT (pre ++ (enc s.size ++ (bytesOf s ++ rest))) (pre.length : Int) = (s, ((pre.length + (enc s.size).length + s.size : Nat) : Int), true) := by
  unfold getT
  rw [getN_enc (by omega)]
  simp only [if_true]
  have hb : (bytesOf s).length = s.size := bytesOf_length s
  rw [if_neg (by simp only [List.length_append, hb]; omega)]
  have e : (pre.length : Int) + ((enc s.size).length : Int) + (s.size : Int) = ((pre.length + (enc s.size).length + s.size : Nat) : Int) := by omega
  have e2 : (pre.length : Int) + ((enc s.size).length : Int) = ((pre.length + (enc s.size).length : Nat) : Int) := by omega
  rw [e, e2]
  simp only [Int.toNat_natCast]
  have e3 : pre ++ (enc s.size ++ (bytesOf s ++ rest)) = (pre ++ enc s.size) ++ (bytesOf s ++ rest) := by rw [List.append_assoc]
  rw [e3, List.drop_take, List.drop_left' (by simp)]
  have e4 : pre.length + (enc s.size).length + s.size - (pre.length + (enc s.size).length) = (bytesOf s).length := by rw [hb]; omega
  rw [e4, List.take_left, strOf_bytesOf]

/-- Whether a key may be. -/
def mayB (u : ByteArray) (s k : Int) : Bool := decide ((u.size : Int) ≤ 64 ∧ 0 ≤ s ∧ s ≤ 9007199254740992 ∧ (k = 1 ∨ k = 2))
theorem mayB_true {u : ByteArray} {s k : Int} (h : mayB u s k = true) : (u.size : Int) ≤ 64 ∧ 0 ≤ s ∧ s ≤ 9007199254740992 ∧ (k = 1 ∨ k = 2) := of_decide_eq_true h

theorem getN_num {l : List Int} (hl : Bytes l) (at_ : Int) : ∃ n : Nat, (getN l at_).1 = n ∧ n < 9223372036854775808 := by
  rcases getN_cases hl at_ with h | ⟨p, n, j, _, _, h, hn, _⟩
  · exact ⟨0, by rw [h]; rfl, by omega⟩
  · exact ⟨n, by rw [h], hn⟩
end Go.Eng.Bk
/- Small lemmas that all the walks need. -/
namespace Go.Eng.Bk
open Go Go.Proofs Go.Eng
set_option linter.unusedVariables false
set_option linter.unusedSimpArgs false
theorem bnd {α β : Type} {o : Option α} {x : α} {f : α → Option β} {r : Option β} (h : o = some x) (h2 : f x = r) : o.bind f = r := by rw [h]; exact h2
theorem cif {α : Type} (b : Bool) (x y : α) : (bif b then x else y) = if b = true then x else y := by cases b <;> rfl
theorem bT {c : Prop} [Decidable c] {α : Type} {x y : α} (h : c) : (bif decide c then x else y) = x := by rw [decide_eq_true h]; rfl
theorem bF {c : Prop} [Decidable c] {α : Type} {x y : α} (h : ¬ c) : (bif decide c then x else y) = y := by rw [decide_eq_false h]; rfl
theorem getD_drop {l : List Int} {i : Nat} {c : Int} {t : List Int} (h : l.drop i = c :: t) (d : Int) : l.getD i d = c := by
  have : l[i]? = some c := by
    have := congrArg (fun x => x[0]?) h
    simpa using this
  rw [List.getD_eq_getElem?_getD, this]; rfl
/-- Rooms are no matter. -/
abbrev room : Nat := 140737488355328
theorem callS (k : Nat) (f : FuncId) (args : List AV) : callN B (k + 1) f args = stepN B (callN B k) (lvl B k).2 k f args := by kernel_rfl
theorem wu64 {x : Int} (h0 : 0 ≤ x) (h1 : x < 18446744073709551616) : IntKind.u64.wrap x = x := by
  have hb : IntKind.u64.bits = 64 := rfl
  have hs : IntKind.u64.signed = false := rfl
  unfold IntKind.wrap
  rw [hb, hs]
  simp
  omega
theorem drop_cons {α : Type} {l : List α} {i : Nat} (h : i < l.length) : ∃ c t, l.drop i = c :: t ∧ c ∈ l := by
  cases hd : l.drop i with
  | nil => exact absurd (List.drop_eq_nil_iff.1 hd) (by omega)
  | cons c t => exact ⟨c, t, rfl, List.mem_of_mem_drop (by rw [hd]; simp : c ∈ l.drop i)⟩
theorem dsucc {α : Type} {l : List α} {i : Nat} {c : α} {t : List α} (h : l.drop i = c :: t) : l.drop (i + 1) = t := by
  have : l.drop (i + 1) = (l.drop i).drop 1 := by rw [List.drop_drop]
  rw [this, h]; rfl
theorem dgetD {α : Type} {l : List α} {i : Nat} {c : α} {t : List α} (h : l.drop i = c :: t) (d : α) : l.getD i d = c := by
  have : l[i]? = some c := by
    have := congrArg (fun x => x[0]?) h
    simpa using this
  rw [List.getD_eq_getElem?_getD, this]; rfl
theorem getD_mem {α : Type} {l : List α} {i : Nat} (h : i < l.length) (d : α) : l.getD i d ∈ l := by
  rw [List.getD_eq_getElem?_getD, List.getElem?_eq_getElem h]
  exact List.getElem_mem h
theorem getD_lt' {α : Type} {l : List α} {i : Nat} (h : i < l.length) (d : α) : l.getD i d = l[i] := by
  rw [List.getD_eq_getElem?_getD, List.getElem?_eq_getElem h]; rfl
theorem lvl2 (k : Nat) : (lvl B (k + 1)).2 = inlN B (callN B k) (lvl B k).2 k := by kernel_rfl
end Go.Eng.Bk
/- Names: plain laws on digits. -/
namespace Go.Eng.Bk
open Go Go.Proofs Go.Eng
set_option linter.unusedVariables false
set_option linter.unusedSimpArgs false
/-- What digits tell. -/
def decV : Nat → List UInt8 → Option Nat
  | acc, [] => some acc
  | acc, c :: r => if 48 ≤ c.toNat ∧ c.toNat ≤ 57 then decV (acc * 10 + (c.toNat - 48)) r else none
theorem decV_append : ∀ (a b : List UInt8) (acc : Nat), decV acc (a ++ b) = (decV acc a).bind fun x => decV x b
  | [], b, acc => rfl
  | c :: a, b, acc => by
    simp only [List.cons_append, decV]
    split
    · exact decV_append a b _
    · rfl
theorem dig_toNat {d : Nat} (h : d < 10) : (UInt8.ofNat (48 + d)).toNat = 48 + d := by
  rw [UInt8.toNat_ofNat']; omega
theorem decV_dec (n : Nat) : decV 0 (Lib.decDigits n) = some n := by
  induction n using Nat.strongRecOn with
  | ind n ih =>
    rw [Lib.decDigits]
    split
    · rename_i h
      simp only [decV, dig_toNat h]
      rw [if_pos (by omega)]
      simp
    · rename_i h
      rw [decV_append, ih (n / 10) (by omega)]
      simp only [Option.bind_some, decV, dig_toNat (Nat.mod_lt n (by decide : 0 < 10))]
      rw [if_pos (by omega)]
      congr 1
      omega
theorem dec_dig (n : Nat) : ∀ c ∈ Lib.decDigits n, 48 ≤ c.toNat ∧ c.toNat ≤ 57 := by
  induction n using Nat.strongRecOn with
  | ind n ih =>
    intro c hc
    rw [Lib.decDigits] at hc
    split at hc
    · rename_i h
      rw [List.mem_singleton.1 hc, dig_toNat h]; omega
    · rename_i h
      rcases List.mem_append.1 hc with hc | hc
      · exact ih (n / 10) (by omega) c hc
      · rw [List.mem_singleton.1 hc, dig_toNat (Nat.mod_lt n (by decide : 0 < 10))]
        have := Nat.mod_lt n (show 0 < 10 by decide)
        omega
theorem nDig_le : ∀ (k n : Nat), n < 10 ^ (k + 1) → Lib.nDigits n ≤ k + 1
  | 0, n, h => by rw [Lib.nDigits_small (by omega)]; omega
  | k + 1, n, h => by
    by_cases h1 : n < 10
    · rw [Lib.nDigits_small h1]; omega
    · rw [Lib.nDigits_big h1]
      have := nDig_le k (n / 10) (by rw [Nat.pow_succ] at h; omega)
      omega
theorem dec_len {n : Nat} (h : n ≤ 9007199254740992) : (Lib.decDigits n).length ≤ 16 := by
  rw [Lib.decDigits_length]
  exact nDig_le 15 n (by omega)
theorem dec_ne (n : Nat) : Lib.decDigits n ≠ [] := fun h => by
  have := Lib.nDigits_pos n
  rw [← Lib.decDigits_length, h] at this
  simp at this
theorem parse_dec : ∀ (l : List UInt8) (acc v : Nat), decV acc l = some v → v < 9223372036854775808 → acc ≤ v ∧ Lib.parseUint10 acc l = .ok v
  | [], acc, v, h, hv => by
    simp only [decV, Option.some.injEq] at h
    subst h
    exact ⟨Nat.le_refl _, rfl⟩
  | c :: r, acc, v, h, hv => by
    simp only [decV] at h
    split at h
    · rename_i hc
      obtain ⟨h1, h2⟩ := parse_dec r _ v h hv
      refine ⟨by omega, ?_⟩
      simp only [Lib.parseUint10]
      rw [if_pos hc, if_neg (by omega), if_neg (by omega)]
      exact h2
    · cases h
theorem atoi_dec {n : Nat} (h : n < 9223372036854775808) : Lib.atoiAll (Lib.decDigits n) = .ok (n : Int) := by
  obtain ⟨_, hp⟩ := parse_dec _ 0 n (decV_dec n) h
  cases hl : Lib.decDigits n with
  | nil => exact absurd hl (dec_ne n)
  | cons c r =>
    have hc := dec_dig n c (by rw [hl]; simp)
    rw [Lib.atoiAll_plain c r (by omega) (by omega)]
    unfold Lib.parseMag
    rw [if_neg (by simp), ← hl, hp]
    simp only [Lib.signless]
    rw [if_neg (by omega)]
theorem itoa_nat (n : Nat) : Lib.itoa (n : Int) = Lib.decDigits n := by
  unfold Lib.itoa
  rw [if_neg (by omega), Int.toNat_natCast]
/-- A text is a number's digits. -/
def Canon (t : ByteArray) (v : Int) : Prop := 0 ≤ v ∧ v ≤ 9007199254740992 ∧ itoaB v = t
theorem Canon.list {t : ByteArray} {v : Int} (h : Canon t v) : ∃ n : Nat, v = n ∧ n ≤ 9007199254740992 ∧ t.data.toList = Lib.decDigits n := by
  obtain ⟨n, rfl⟩ := Int.eq_ofNat_of_zero_le h.1
  refine ⟨n, rfl, by have := h.2.1; omega, ?_⟩
  rw [← h.2.2]
  show (Lib.itoa (n : Int)).toArray.toList = _
  rw [itoa_nat]
theorem numB_canon {t : ByteArray} {v : Int} (h : Canon t v) : numB t = (v, true, ()) := by
  obtain ⟨n, rfl, hn, hl⟩ := h.list
  unfold numB
  rw [hl, atoi_dec (by omega)]
  simp only
  rw [decide_eq_true (⟨h.1, h.2.1⟩ : (0 : Int) ≤ (n : Int) ∧ (n : Int) ≤ 9007199254740992), decide_eq_true h.2.2]
  rfl
theorem canon_numB {t : ByteArray} (h : (numB t).2.1 = true) : Canon t (numB t).1 := by
  unfold numB at h ⊢
  split at h
  · rename_i n hn
    simp only [Bool.and_eq_true, decide_eq_true_eq] at h ⊢
    exact ⟨h.1.1, h.1.2, h.2⟩
  · cases h
  · cases h
/-- .. as the document reads it. -/
def numD (l : List UInt8) : Int := if l = [] ∨ 16 < l.length then -1 else match decV 0 l with
  | some n => (n : Int)
  | none => -1
theorem numD_canon {t : ByteArray} {v : Int} (h : Canon t v) : numD t.data.toList = v := by
  obtain ⟨n, rfl, hn, hl⟩ := h.list
  unfold numD
  rw [hl, if_neg (by
    have := dec_len hn
    intro h
    rcases h with h | h
    · exact dec_ne n h
    · omega), decV_dec]
theorem Canon.dig {t : ByteArray} {v : Int} (h : Canon t v) : ∀ c ∈ t.data.toList, 48 ≤ c.toNat ∧ c.toNat ≤ 57 := by
  obtain ⟨n, rfl, hn, hl⟩ := h.list
  rw [hl]; exact dec_dig n
theorem Canon.uniq {t : ByteArray} {v u : Int} (h : Canon t v) (k : Canon t u) : v = u := by rw [← numD_canon h, numD_canon k]
theorem canon_nat {n : Nat} (h : n ≤ 9007199254740992) : Canon (itoaB (n : Int)) n := ⟨by omega, by omega, rfl⟩
theorem canon_may {n : Int} (h0 : 0 ≤ n) (h1 : n ≤ 9007199254740992) : Canon (itoaB n) n := ⟨h0, h1, rfl⟩
theorem itoaB_size {n : Int} (h0 : 0 ≤ n) (h1 : n ≤ 9007199254740992) : (itoaB n).size ≤ 16 := by
  obtain ⟨m, rfl, hm, hl⟩ := (canon_may h0 h1).list
  have : (itoaB (m : Int)).size = (itoaB (m : Int)).data.toList.length := Array.length_toList.symm
  rw [this, hl]
  exact dec_len hm
/-! Digits, one by one -/
def dgA : Nat → Nat → ByteArray → ByteArray
  | 0, _, acc => acc
  | d + 1, n, acc => if n ≥ 10 then dgA d (n / 10) (strOf [((48 + n % 10 : Nat) : Int)] ++ acc) else strOf [((48 + n : Nat) : Int)] ++ acc
theorem ba_app (a b : ByteArray) : (a ++ b).data.toList = a.data.toList ++ b.data.toList := by rw [ByteArray.data_append, Array.toList_append]
theorem dgA_dec : ∀ (d n : Nat) (acc : ByteArray), n < 10 ^ (d + 1) → (dgA (d + 1) n acc).data.toList = Lib.decDigits n ++ acc.data.toList
  | d, n, acc, h => by
    have e1 : ∀ x : Nat, (strOf [(x : Int)]).data.toList = [UInt8.ofNat x] := fun x => by simp [strOf]
    simp only [dgA]
    rw [Lib.decDigits]
    by_cases h1 : n < 10
    · rw [dif_pos h1, if_neg (by omega), ba_app, e1]
    · rw [dif_neg h1, if_pos (by omega)]
      cases d with
      | zero => omega
      | succ d =>
        rw [dgA_dec d (n / 10) _ (by rw [Nat.pow_succ] at h; omega), ba_app, e1, List.append_assoc]
theorem dg_itoa {n : Nat} (h : n < 100000000000000000000) : dgA 20 n ⟨#[]⟩ = itoaB (n : Int) := by
  refine ba_ext ?_
  rw [ba_toList, ba_toList, dgA_dec 19 n _ (by omega)]
  show Lib.decDigits n ++ [] = (Lib.itoa (n : Int)).toArray.toList
  rw [itoa_nat, List.append_nil]
end Go.Eng.Bk
/- What the machine answers at some functions of the program: printed by the generator, each checked by the kernel. -/
namespace Go.Eng.Bk
open Go Go.Proofs Go.Eng
set_option linter.unusedVariables false
set_option maxRecDepth 100000
section
variable (call : CallT B) (inl : InlT) (m : Nat)
/-! function 3 -/
theorem t3 (a0 : Int) (a1 : Int) (a2 : Int) (a3 : ByteArray) : stepN B call inl m 3 [argAV (.int .i64) a0, argAV (.int .i64) a1, argAV (.int .i64) a2, argAV .str a3] = (bif decide ((↑(ByteArray.size a3) : Int) > (200 : Int)) then ((call 8 []).bind fun (v0 : Bool) => some (v0)) else ((call 9 [(.v .str (a3))]).bind fun (v1 : (Int × Int × Int × Unit)) => (call 10 [(.v .str (a3))]).bind fun (v2 : (Int × Int × Int × Unit)) => (call 11 [(.v (.int .i64) (a0)), (.v (.int .i64) (a1)), (.v (.int .i64) (a2))]).bind fun (v3 : ByteArray) => (call 12 [(.v (.int .i64) (a0)), (.v (.int .i64) (a1)), (.v (.int .i64) (a2))]).bind fun (v4 : ByteArray) => bif (ByteArray.toList v3 == ByteArray.toList v4) == true then (bif (v1.fst == v2.fst) == true then (bif (v1.snd.fst == v2.snd.fst) == true then (bif (v1.snd.snd.fst == v2.snd.snd.fst) == true then ((call 8 []).bind fun (v5 : Bool) => some (v5)) else (some (false))) else (some (false))) else (some (false))) else (some (false))) : Option Bool) := by kernel_rfl
/-! function 5 -/
theorem t5 (a0 : Int) (a1 : Int) : stepN B call inl m 5 [argAV (.int .u32) a0, argAV (.int .u8) a1] = ((call 12 [(.v (.int .i64) ((1 : Int))), (.v (.int .i64) ((0 : Int))), (.v (.int .i64) (IntKind.i64.wrap a0))]).bind fun (v0 : ByteArray) => bif decide ((↑(ByteArray.size v0) : Int) < (5 : Int)) then (some (false)) else (if (0 : Int) ≤ (4 : Int) ∧ (4 : Int) ≤ (↑(ByteArray.size v0) : Int) then (if (↑((ByteArray.mk #[(108 : UInt8), (111 : UInt8), (103 : UInt8), (45 : UInt8), (48 : UInt8)]).size + (ByteArray.extract v0 (Int.toNat (4 : Int)) (ByteArray.size v0)).size) : Int) > IntKind.i64.max then (none) else (if (↑((ByteArray.mk #[(108 : UInt8), (111 : UInt8), (103 : UInt8), (45 : UInt8), (32 : UInt8)]).size + (ByteArray.extract v0 (Int.toNat (4 : Int)) (ByteArray.size v0)).size) : Int) > IntKind.i64.max then (none) else (if (↑((ByteArray.mk #[(108 : UInt8), (111 : UInt8), (103 : UInt8), (45 : UInt8), (45 : UInt8)]).size + (ByteArray.extract v0 (Int.toNat (4 : Int)) (ByteArray.size v0)).size) : Int) > IntKind.i64.max then (none) else (if (↑((ByteArray.mk #[(108 : UInt8), (111 : UInt8), (103 : UInt8), (45 : UInt8)]).size + (ByteArray.extract v0 (Int.toNat (4 : Int)) (ByteArray.size v0)).size) : Int) > IntKind.i64.max then (none) else (if (↑(ByteArray.size ((ByteArray.mk #[(108 : UInt8), (111 : UInt8), (103 : UInt8), (45 : UInt8)]) ++ ByteArray.extract v0 (Int.toNat (4 : Int)) (ByteArray.size v0)) + (ByteArray.mk #[(45 : UInt8), (49 : UInt8)]).size) : Int) > IntKind.i64.max then (none) else (if (↑((ByteArray.mk #[(102 : UInt8), (97 : UInt8), (114 : UInt8), (45 : UInt8)]).size + (ByteArray.extract v0 (Int.toNat (4 : Int)) (ByteArray.size v0)).size) : Int) > IntKind.i64.max then (none) else (if (↑((ByteArray.mk #[(102 : UInt8), (97 : UInt8), (114 : UInt8), (45 : UInt8), (49 : UInt8), (45 : UInt8), (48 : UInt8)]).size + (ByteArray.extract v0 (Int.toNat (4 : Int)) (ByteArray.size v0)).size) : Int) > IntKind.i64.max then (none) else (if (↑((ByteArray.mk #[(102 : UInt8), (97 : UInt8), (114 : UInt8), (45 : UInt8)]).size + (ByteArray.extract v0 (Int.toNat (4 : Int)) (ByteArray.size v0)).size) : Int) > IntKind.i64.max then (none) else (if (↑(ByteArray.size ((ByteArray.mk #[(102 : UInt8), (97 : UInt8), (114 : UInt8), (45 : UInt8)]) ++ ByteArray.extract v0 (Int.toNat (4 : Int)) (ByteArray.size v0)) + (ByteArray.mk #[(45 : UInt8)]).size) : Int) > IntKind.i64.max then (none) else (if (↑((ByteArray.mk #[(76 : UInt8), (111 : UInt8), (103 : UInt8), (45 : UInt8)]).size + (ByteArray.extract v0 (Int.toNat (4 : Int)) (ByteArray.size v0)).size) : Int) > IntKind.i64.max then (none) else (if (↑((ByteArray.mk #[(108 : UInt8), (111 : UInt8), (103 : UInt8)]).size + (ByteArray.extract v0 (Int.toNat (4 : Int)) (ByteArray.size v0)).size) : Int) > IntKind.i64.max then (none) else (if (0 : Int) ≤ (IntKind.i64.wrap a1).tmod (↑[(ByteArray.mk #[(108 : UInt8), (111 : UInt8), (103 : UInt8), (45 : UInt8), (48 : UInt8)]) ++ ByteArray.extract v0 (Int.toNat (4 : Int)) (ByteArray.size v0), (ByteArray.mk #[(108 : UInt8), (111 : UInt8), (103 : UInt8), (45 : UInt8), (32 : UInt8)]) ++ ByteArray.extract v0 (Int.toNat (4 : Int)) (ByteArray.size v0), (ByteArray.mk #[(108 : UInt8), (111 : UInt8), (103 : UInt8), (45 : UInt8), (45 : UInt8)]) ++ ByteArray.extract v0 (Int.toNat (4 : Int)) (ByteArray.size v0), (ByteArray.mk #[(108 : UInt8), (111 : UInt8), (103 : UInt8), (45 : UInt8)]) ++ ByteArray.extract v0 (Int.toNat (4 : Int)) (ByteArray.size v0) ++ (ByteArray.mk #[(45 : UInt8), (49 : UInt8)]), (ByteArray.mk #[(102 : UInt8), (97 : UInt8), (114 : UInt8), (45 : UInt8)]) ++ ByteArray.extract v0 (Int.toNat (4 : Int)) (ByteArray.size v0), (ByteArray.mk #[(102 : UInt8), (97 : UInt8), (114 : UInt8), (45 : UInt8), (49 : UInt8), (45 : UInt8), (48 : UInt8)]) ++ ByteArray.extract v0 (Int.toNat (4 : Int)) (ByteArray.size v0), (ByteArray.mk #[(102 : UInt8), (97 : UInt8), (114 : UInt8), (45 : UInt8)]) ++ ByteArray.extract v0 (Int.toNat (4 : Int)) (ByteArray.size v0) ++ (ByteArray.mk #[(45 : UInt8)]), (ByteArray.mk #[(76 : UInt8), (111 : UInt8), (103 : UInt8), (45 : UInt8)]) ++ ByteArray.extract v0 (Int.toNat (4 : Int)) (ByteArray.size v0), (ByteArray.mk #[(108 : UInt8), (111 : UInt8), (103 : UInt8)]) ++ ByteArray.extract v0 (Int.toNat (4 : Int)) (ByteArray.size v0), (ByteArray.mk #[(99 : UInt8), (117 : UInt8), (114 : UInt8), (114 : UInt8), (101 : UInt8), (110 : UInt8), (116 : UInt8), (45 : UInt8), (49 : UInt8)]), (ByteArray.mk #[(109 : UInt8), (97 : UInt8), (114 : UInt8), (107 : UInt8), (45 : UInt8)]), (ByteArray.mk #[(116 : UInt8), (97 : UInt8), (98 : UInt8), (108 : UInt8), (101 : UInt8), (45 : UInt8), (120 : UInt8)]), (ByteArray.mk #[])].length : Int) ∧ (IntKind.i64.wrap a1).tmod (↑[(ByteArray.mk #[(108 : UInt8), (111 : UInt8), (103 : UInt8), (45 : UInt8), (48 : UInt8)]) ++ ByteArray.extract v0 (Int.toNat (4 : Int)) (ByteArray.size v0), (ByteArray.mk #[(108 : UInt8), (111 : UInt8), (103 : UInt8), (45 : UInt8), (32 : UInt8)]) ++ ByteArray.extract v0 (Int.toNat (4 : Int)) (ByteArray.size v0), (ByteArray.mk #[(108 : UInt8), (111 : UInt8), (103 : UInt8), (45 : UInt8), (45 : UInt8)]) ++ ByteArray.extract v0 (Int.toNat (4 : Int)) (ByteArray.size v0), (ByteArray.mk #[(108 : UInt8), (111 : UInt8), (103 : UInt8), (45 : UInt8)]) ++ ByteArray.extract v0 (Int.toNat (4 : Int)) (ByteArray.size v0) ++ (ByteArray.mk #[(45 : UInt8), (49 : UInt8)]), (ByteArray.mk #[(102 : UInt8), (97 : UInt8), (114 : UInt8), (45 : UInt8)]) ++ ByteArray.extract v0 (Int.toNat (4 : Int)) (ByteArray.size v0), (ByteArray.mk #[(102 : UInt8), (97 : UInt8), (114 : UInt8), (45 : UInt8), (49 : UInt8), (45 : UInt8), (48 : UInt8)]) ++ ByteArray.extract v0 (Int.toNat (4 : Int)) (ByteArray.size v0), (ByteArray.mk #[(102 : UInt8), (97 : UInt8), (114 : UInt8), (45 : UInt8)]) ++ ByteArray.extract v0 (Int.toNat (4 : Int)) (ByteArray.size v0) ++ (ByteArray.mk #[(45 : UInt8)]), (ByteArray.mk #[(76 : UInt8), (111 : UInt8), (103 : UInt8), (45 : UInt8)]) ++ ByteArray.extract v0 (Int.toNat (4 : Int)) (ByteArray.size v0), (ByteArray.mk #[(108 : UInt8), (111 : UInt8), (103 : UInt8)]) ++ ByteArray.extract v0 (Int.toNat (4 : Int)) (ByteArray.size v0), (ByteArray.mk #[(99 : UInt8), (117 : UInt8), (114 : UInt8), (114 : UInt8), (101 : UInt8), (110 : UInt8), (116 : UInt8), (45 : UInt8), (49 : UInt8)]), (ByteArray.mk #[(109 : UInt8), (97 : UInt8), (114 : UInt8), (107 : UInt8), (45 : UInt8)]), (ByteArray.mk #[(116 : UInt8), (97 : UInt8), (98 : UInt8), (108 : UInt8), (101 : UInt8), (45 : UInt8), (120 : UInt8)]), (ByteArray.mk #[])].length : Int) < (↑[(ByteArray.mk #[(108 : UInt8), (111 : UInt8), (103 : UInt8), (45 : UInt8), (48 : UInt8)]) ++ ByteArray.extract v0 (Int.toNat (4 : Int)) (ByteArray.size v0), (ByteArray.mk #[(108 : UInt8), (111 : UInt8), (103 : UInt8), (45 : UInt8), (32 : UInt8)]) ++ ByteArray.extract v0 (Int.toNat (4 : Int)) (ByteArray.size v0), (ByteArray.mk #[(108 : UInt8), (111 : UInt8), (103 : UInt8), (45 : UInt8), (45 : UInt8)]) ++ ByteArray.extract v0 (Int.toNat (4 : Int)) (ByteArray.size v0), (ByteArray.mk #[(108 : UInt8), (111 : UInt8), (103 : UInt8), (45 : UInt8)]) ++ ByteArray.extract v0 (Int.toNat (4 : Int)) (ByteArray.size v0) ++ (ByteArray.mk #[(45 : UInt8), (49 : UInt8)]), (ByteArray.mk #[(102 : UInt8), (97 : UInt8), (114 : UInt8), (45 : UInt8)]) ++ ByteArray.extract v0 (Int.toNat (4 : Int)) (ByteArray.size v0), (ByteArray.mk #[(102 : UInt8), (97 : UInt8), (114 : UInt8), (45 : UInt8), (49 : UInt8), (45 : UInt8), (48 : UInt8)]) ++ ByteArray.extract v0 (Int.toNat (4 : Int)) (ByteArray.size v0), (ByteArray.mk #[(102 : UInt8), (97 : UInt8), (114 : UInt8), (45 : UInt8)]) ++ ByteArray.extract v0 (Int.toNat (4 : Int)) (ByteArray.size v0) ++ (ByteArray.mk #[(45 : UInt8)]), (ByteArray.mk #[(76 : UInt8), (111 : UInt8), (103 : UInt8), (45 : UInt8)]) ++ ByteArray.extract v0 (Int.toNat (4 : Int)) (ByteArray.size v0), (ByteArray.mk #[(108 : UInt8), (111 : UInt8), (103 : UInt8)]) ++ ByteArray.extract v0 (Int.toNat (4 : Int)) (ByteArray.size v0), (ByteArray.mk #[(99 : UInt8), (117 : UInt8), (114 : UInt8), (114 : UInt8), (101 : UInt8), (110 : UInt8), (116 : UInt8), (45 : UInt8), (49 : UInt8)]), (ByteArray.mk #[(109 : UInt8), (97 : UInt8), (114 : UInt8), (107 : UInt8), (45 : UInt8)]), (ByteArray.mk #[(116 : UInt8), (97 : UInt8), (98 : UInt8), (108 : UInt8), (101 : UInt8), (45 : UInt8), (120 : UInt8)]), (ByteArray.mk #[])].length : Int) then ((call 9 [(.v .str ([(ByteArray.mk #[(108 : UInt8), (111 : UInt8), (103 : UInt8), (45 : UInt8), (48 : UInt8)]) ++ ByteArray.extract v0 (Int.toNat (4 : Int)) (ByteArray.size v0), (ByteArray.mk #[(108 : UInt8), (111 : UInt8), (103 : UInt8), (45 : UInt8), (32 : UInt8)]) ++ ByteArray.extract v0 (Int.toNat (4 : Int)) (ByteArray.size v0), (ByteArray.mk #[(108 : UInt8), (111 : UInt8), (103 : UInt8), (45 : UInt8), (45 : UInt8)]) ++ ByteArray.extract v0 (Int.toNat (4 : Int)) (ByteArray.size v0), (ByteArray.mk #[(108 : UInt8), (111 : UInt8), (103 : UInt8), (45 : UInt8)]) ++ ByteArray.extract v0 (Int.toNat (4 : Int)) (ByteArray.size v0) ++ (ByteArray.mk #[(45 : UInt8), (49 : UInt8)]), (ByteArray.mk #[(102 : UInt8), (97 : UInt8), (114 : UInt8), (45 : UInt8)]) ++ ByteArray.extract v0 (Int.toNat (4 : Int)) (ByteArray.size v0), (ByteArray.mk #[(102 : UInt8), (97 : UInt8), (114 : UInt8), (45 : UInt8), (49 : UInt8), (45 : UInt8), (48 : UInt8)]) ++ ByteArray.extract v0 (Int.toNat (4 : Int)) (ByteArray.size v0), (ByteArray.mk #[(102 : UInt8), (97 : UInt8), (114 : UInt8), (45 : UInt8)]) ++ ByteArray.extract v0 (Int.toNat (4 : Int)) (ByteArray.size v0) ++ (ByteArray.mk #[(45 : UInt8)]), (ByteArray.mk #[(76 : UInt8), (111 : UInt8), (103 : UInt8), (45 : UInt8)]) ++ ByteArray.extract v0 (Int.toNat (4 : Int)) (ByteArray.size v0), (ByteArray.mk #[(108 : UInt8), (111 : UInt8), (103 : UInt8)]) ++ ByteArray.extract v0 (Int.toNat (4 : Int)) (ByteArray.size v0), (ByteArray.mk #[(99 : UInt8), (117 : UInt8), (114 : UInt8), (114 : UInt8), (101 : UInt8), (110 : UInt8), (116 : UInt8), (45 : UInt8), (49 : UInt8)]), (ByteArray.mk #[(109 : UInt8), (97 : UInt8), (114 : UInt8), (107 : UInt8), (45 : UInt8)]), (ByteArray.mk #[(116 : UInt8), (97 : UInt8), (98 : UInt8), (108 : UInt8), (101 : UInt8), (45 : UInt8), (120 : UInt8)]), (ByteArray.mk #[])].getD ((IntKind.i64.wrap a1).tmod (↑[(ByteArray.mk #[(108 : UInt8), (111 : UInt8), (103 : UInt8), (45 : UInt8), (48 : UInt8)]) ++ ByteArray.extract v0 (Int.toNat (4 : Int)) (ByteArray.size v0), (ByteArray.mk #[(108 : UInt8), (111 : UInt8), (103 : UInt8), (45 : UInt8), (32 : UInt8)]) ++ ByteArray.extract v0 (Int.toNat (4 : Int)) (ByteArray.size v0), (ByteArray.mk #[(108 : UInt8), (111 : UInt8), (103 : UInt8), (45 : UInt8), (45 : UInt8)]) ++ ByteArray.extract v0 (Int.toNat (4 : Int)) (ByteArray.size v0), (ByteArray.mk #[(108 : UInt8), (111 : UInt8), (103 : UInt8), (45 : UInt8)]) ++ ByteArray.extract v0 (Int.toNat (4 : Int)) (ByteArray.size v0) ++ (ByteArray.mk #[(45 : UInt8), (49 : UInt8)]), (ByteArray.mk #[(102 : UInt8), (97 : UInt8), (114 : UInt8), (45 : UInt8)]) ++ ByteArray.extract v0 (Int.toNat (4 : Int)) (ByteArray.size v0), (ByteArray.mk #[(102 : UInt8), (97 : UInt8), (114 : UInt8), (45 : UInt8), (49 : UInt8), (45 : UInt8), (48 : UInt8)]) ++ ByteArray.extract v0 (Int.toNat (4 : Int)) (ByteArray.size v0), (ByteArray.mk #[(102 : UInt8), (97 : UInt8), (114 : UInt8), (45 : UInt8)]) ++ ByteArray.extract v0 (Int.toNat (4 : Int)) (ByteArray.size v0) ++ (ByteArray.mk #[(45 : UInt8)]), (ByteArray.mk #[(76 : UInt8), (111 : UInt8), (103 : UInt8), (45 : UInt8)]) ++ ByteArray.extract v0 (Int.toNat (4 : Int)) (ByteArray.size v0), (ByteArray.mk #[(108 : UInt8), (111 : UInt8), (103 : UInt8)]) ++ ByteArray.extract v0 (Int.toNat (4 : Int)) (ByteArray.size v0), (ByteArray.mk #[(99 : UInt8), (117 : UInt8), (114 : UInt8), (114 : UInt8), (101 : UInt8), (110 : UInt8), (116 : UInt8), (45 : UInt8), (49 : UInt8)]), (ByteArray.mk #[(109 : UInt8), (97 : UInt8), (114 : UInt8), (107 : UInt8), (45 : UInt8)]), (ByteArray.mk #[(116 : UInt8), (97 : UInt8), (98 : UInt8), (108 : UInt8), (101 : UInt8), (45 : UInt8), (120 : UInt8)]), (ByteArray.mk #[])].length : Int)).toNat (ByteArray.mk #[])))]).bind fun (v1 : (Int × Int × Int × Unit)) => bif (v1.fst == (0 : Int)) == true then (bif (v1.snd.fst == (0 : Int)) == true then (bif (v1.snd.snd.fst == (0 : Int)) == true then ((call 8 []).bind fun (v2 : Bool) => some (v2)) else (some (false))) else (some (false))) else (some (false))) else (none))))))))))))) else (none)) : Option Bool) := by kernel_rfl
/-! function 8 -/
theorem t8 : stepN B call inl m 8 [] = ((call 11 [(.v (.int .i64) ((7 : Int))), (.v (.int .i64) ((3 : Int))), (.v (.int .i64) ((12 : Int)))]).bind fun (v0 : ByteArray) => some (ByteArray.toList v0 == (ByteArray.mk #[(102 : UInt8), (97 : UInt8), (114 : UInt8), (45 : UInt8), (51 : UInt8), (45 : UInt8), (49 : UInt8), (50 : UInt8)]).toList) : Option Bool) := by kernel_rfl
/-! function 9 -/
def s9_27 (a0 : ByteArray) (x9 : Int) : St := { t := [(.v .str (a0)), (.raw undef), .bad, .bad, .bad, (.v (.int .i64) (x9)), .bad, .bad, .bad, .bad, .bad, .bad, .bad, .bad, .bad, .bad, .bad, .bad, .bad, .bad, .bad, .bad, .bad, .bad, .bad, .bad, .bad, .bad, .bad, .bad, .bad, .bad, .bad, .bad, .bad, .bad, .bad, .bad, .bad, .bad, .bad, .bad, .bad, .bad, .bad, .bad, .bad, .bad, .bad, .bad, .bad, .bad, .bad, .bad, .bad, .bad, .bad, .bad, .bad, .bad, .bad, .bad, .bad, .bad, .bad, .bad, .bad], bx := [], live := 0, g := [] }
def s9_27x29 (y0 : ByteArray) (y1 : Int) (y2 : ByteArray) : St := { t := [(.v .str (y0)), (.raw undef), (.v (.int .i64) (y1)), (.v (.int .i64) ((0 : Int))), (.v (.int .i64) ((0 : Int))), (.v (.int .i64) (y1)), .bad, .bad, .bad, .bad, .bad, .bad, (.v (.int .i64) (y1)), (.v .bool (decide (y1 ≤ (8 : Int)))), .bad, .bad, (.v .str (y0)), (.v .bool (!ByteArray.toList y0 == (ByteArray.mk #[]).toList)), (.v .bool (true)), (.v .str (y0)), (.v (.int .i64) (y1)), (.v .str (y2)), (.v .bool (ByteArray.toList y0 == ByteArray.toList y2)), (.v .bool (ByteArray.toList y0 == ByteArray.toList y2)), (.v (.int .i64) (y1)), .bad, .bad, .bad, .bad, .bad, .bad, .bad, .bad, .bad, .bad, .bad, .bad, .bad, .bad, .bad, .bad, .bad, .bad, .bad, .bad, .bad, .bad, .bad, .bad, .bad, .bad, .bad, .bad, .bad, .bad, .bad, .bad, .bad, .bad, .bad, .bad, .bad, .bad, .bad, .bad, .bad, .bad], bx := [none, none, none, none, none, none, none, none, none, none, none, none, none, none], live := 0, g := [] }
def s9_27x36 (y0 : ByteArray) (y1 : Int) (y2 : ByteArray) (y3 : ByteArray) (y4 : (ByteArray × Bool × Unit)) (y5 : ByteArray) (y6 : (ByteArray × ByteArray × Bool × Unit)) (y7 : (Int × Bool × Unit)) (y8 : (Int × Bool × Unit)) : St := { t := [(.v .str (y0)), (.raw undef), .bad, .bad, .bad, (.v (.int .i64) (y1)), (.v .str (y6.snd.fst)), (.v .bool (y8.snd.fst)), (.v (.int .i64) (y7.fst)), (.v .bool (y7.snd.fst)), (.v .str (y6.fst)), (.v (.int .i64) (y8.fst)), (.v (.int .i64) (y1)), (.v .bool (decide (y1 ≤ (8 : Int)))), .bad, .bad, (.v .str (y0)), (.v .bool (!ByteArray.toList y0 == (ByteArray.mk #[]).toList)), (.v .bool (true)), (.v .str (y0)), (.v (.int .i64) (y1)), (.v .str (y2)), (.v .bool (ByteArray.toList y0 == ByteArray.toList y2)), (.v .bool (ByteArray.toList y0 == ByteArray.toList y2)), .bad, (.tup [(.v .str (y4.fst)), (.v .bool (y4.snd.fst))]), (.v .str (y0)), (.v (.int .i64) (y1)), (.v .str (y3)), (.tup [(.v .str (y4.fst)), (.v .bool (y4.snd.fst))]), (.v .str (y4.fst)), (.v .bool (y4.snd.fst)), (.v .bool (y4.snd.fst)), (.v .bool (!y4.snd.fst)), (.v .bool (false)), (.v (.int .i64) (y1)), (.v .str (y5)), (.v .bool (ByteArray.toList y5 == (ByteArray.mk #[]).toList)), (.v .bool (ByteArray.toList y5 == (ByteArray.mk #[]).toList)), (.v (.int .i64) (y1)), (.v .bool (y1 == (7 : Int))), (.tup [(.v .str (y6.fst)), (.v .str (y6.snd.fst)), (.v .bool (y6.snd.snd.fst))]), (.v .str (y4.fst)), (.tup [(.v .str (y6.fst)), (.v .str (y6.snd.fst)), (.v .bool (y6.snd.snd.fst))]), (.v .str (y6.fst)), (.v .str (y6.snd.fst)), (.v .bool (y6.snd.snd.fst)), (.v .bool (y6.snd.snd.fst)), (.tup [(.v (.int .i64) (y7.fst)), (.v .bool (y7.snd.fst))]), (.v .str (y6.fst)), (.tup [(.v (.int .i64) (y7.fst)), (.v .bool (y7.snd.fst))]), (.v (.int .i64) (y7.fst)), (.v .bool (y7.snd.fst)), (.tup [(.v (.int .i64) (y8.fst)), (.v .bool (y8.snd.fst))]), (.v .str (y6.snd.fst)), (.tup [(.v (.int .i64) (y8.fst)), (.v .bool (y8.snd.fst))]), (.v (.int .i64) (y8.fst)), (.v .bool (y8.snd.fst)), (.v .bool (y7.snd.fst)), (.v .bool (!y7.snd.fst)), (.v .bool (false)), (.v .bool (y8.snd.fst)), (.v .bool (!y8.snd.fst)), (.v .bool (!y8.snd.fst)), .bad, .bad, .bad], bx := [none, none, none, none, none, none, none, none, none, none, none, none, none, none, none, none, none, none, none, none, none, none, none, none, none, none, none, none, none, none, none, none, none, none, none, none, none, none, none, none, none, none, none, none, none, none, none, none, none, none, none, none, none, none, none, none, none, none, none, none, none], live := 0, g := [] }
def s9_27x37 (y0 : ByteArray) (y1 : Int) (y2 : ByteArray) (y3 : ByteArray) (y4 : (ByteArray × Bool × Unit)) (y5 : ByteArray) (y6 : (ByteArray × ByteArray × Bool × Unit)) (y7 : (Int × Bool × Unit)) (y8 : (Int × Bool × Unit)) : St := { t := [(.v .str (y0)), (.raw undef), (.v (.int .i64) (y1)), (.v (.int .i64) (y7.fst)), (.v (.int .i64) (y8.fst)), (.v (.int .i64) (y1)), (.v .str (y6.snd.fst)), (.v .bool (y8.snd.fst)), (.v (.int .i64) (y7.fst)), (.v .bool (y7.snd.fst)), (.v .str (y6.fst)), (.v (.int .i64) (y8.fst)), (.v (.int .i64) (y1)), (.v .bool (decide (y1 ≤ (8 : Int)))), .bad, .bad, (.v .str (y0)), (.v .bool (!ByteArray.toList y0 == (ByteArray.mk #[]).toList)), (.v .bool (true)), (.v .str (y0)), (.v (.int .i64) (y1)), (.v .str (y2)), (.v .bool (ByteArray.toList y0 == ByteArray.toList y2)), (.v .bool (ByteArray.toList y0 == ByteArray.toList y2)), .bad, (.tup [(.v .str (y4.fst)), (.v .bool (y4.snd.fst))]), (.v .str (y0)), (.v (.int .i64) (y1)), (.v .str (y3)), (.tup [(.v .str (y4.fst)), (.v .bool (y4.snd.fst))]), (.v .str (y4.fst)), (.v .bool (y4.snd.fst)), (.v .bool (y4.snd.fst)), (.v .bool (!y4.snd.fst)), (.v .bool (false)), (.v (.int .i64) (y1)), (.v .str (y5)), (.v .bool (ByteArray.toList y5 == (ByteArray.mk #[]).toList)), (.v .bool (ByteArray.toList y5 == (ByteArray.mk #[]).toList)), (.v (.int .i64) (y1)), (.v .bool (y1 == (7 : Int))), (.tup [(.v .str (y6.fst)), (.v .str (y6.snd.fst)), (.v .bool (y6.snd.snd.fst))]), (.v .str (y4.fst)), (.tup [(.v .str (y6.fst)), (.v .str (y6.snd.fst)), (.v .bool (y6.snd.snd.fst))]), (.v .str (y6.fst)), (.v .str (y6.snd.fst)), (.v .bool (y6.snd.snd.fst)), (.v .bool (y6.snd.snd.fst)), (.tup [(.v (.int .i64) (y7.fst)), (.v .bool (y7.snd.fst))]), (.v .str (y6.fst)), (.tup [(.v (.int .i64) (y7.fst)), (.v .bool (y7.snd.fst))]), (.v (.int .i64) (y7.fst)), (.v .bool (y7.snd.fst)), (.tup [(.v (.int .i64) (y8.fst)), (.v .bool (y8.snd.fst))]), (.v .str (y6.snd.fst)), (.tup [(.v (.int .i64) (y8.fst)), (.v .bool (y8.snd.fst))]), (.v (.int .i64) (y8.fst)), (.v .bool (y8.snd.fst)), (.v .bool (y7.snd.fst)), (.v .bool (!y7.snd.fst)), (.v .bool (false)), (.v .bool (y8.snd.fst)), (.v .bool (!y8.snd.fst)), (.v .bool (!y8.snd.fst)), (.v (.int .i64) (y1)), (.v (.int .i64) (y7.fst)), (.v (.int .i64) (y8.fst))], bx := [none, none, none, none, none, none, none, none, none, none, none, none, none, none, none, none, none, none, none, none, none, none, none, none, none, none, none, none, none, none, none, none, none, none, none, none, none, none, none, none, none, none, none, none, none, none, none, none, none, none, none, none, none, none, none, none, none, none, none, none, none, none, none, none, none, none, none], live := 0, g := [] }
def s9_27x38 (y0 : ByteArray) (y1 : Int) (y2 : ByteArray) (y3 : ByteArray) (y4 : (ByteArray × Bool × Unit)) (y5 : ByteArray) (y6 : (ByteArray × ByteArray × Bool × Unit)) (y7 : (Int × Bool × Unit)) (y8 : (Int × Bool × Unit)) : St := { t := [(.v .str (y0)), (.raw undef), .bad, .bad, .bad, (.v (.int .i64) (y1)), (.v .str (y6.snd.fst)), (.v .bool (y8.snd.fst)), (.v (.int .i64) (y7.fst)), (.v .bool (y7.snd.fst)), (.v .str (y6.fst)), (.v (.int .i64) (y8.fst)), (.v (.int .i64) (y1)), (.v .bool (decide (y1 ≤ (8 : Int)))), .bad, .bad, (.v .str (y0)), (.v .bool (!ByteArray.toList y0 == (ByteArray.mk #[]).toList)), (.v .bool (true)), (.v .str (y0)), (.v (.int .i64) (y1)), (.v .str (y2)), (.v .bool (ByteArray.toList y0 == ByteArray.toList y2)), (.v .bool (ByteArray.toList y0 == ByteArray.toList y2)), .bad, (.tup [(.v .str (y4.fst)), (.v .bool (y4.snd.fst))]), (.v .str (y0)), (.v (.int .i64) (y1)), (.v .str (y3)), (.tup [(.v .str (y4.fst)), (.v .bool (y4.snd.fst))]), (.v .str (y4.fst)), (.v .bool (y4.snd.fst)), (.v .bool (y4.snd.fst)), (.v .bool (!y4.snd.fst)), (.v .bool (false)), (.v (.int .i64) (y1)), (.v .str (y5)), (.v .bool (ByteArray.toList y5 == (ByteArray.mk #[]).toList)), (.v .bool (ByteArray.toList y5 == (ByteArray.mk #[]).toList)), (.v (.int .i64) (y1)), (.v .bool (y1 == (7 : Int))), (.tup [(.v .str (y6.fst)), (.v .str (y6.snd.fst)), (.v .bool (y6.snd.snd.fst))]), (.v .str (y4.fst)), (.tup [(.v .str (y6.fst)), (.v .str (y6.snd.fst)), (.v .bool (y6.snd.snd.fst))]), (.v .str (y6.fst)), (.v .str (y6.snd.fst)), (.v .bool (y6.snd.snd.fst)), (.v .bool (y6.snd.snd.fst)), (.tup [(.v (.int .i64) (y7.fst)), (.v .bool (y7.snd.fst))]), (.v .str (y6.fst)), (.tup [(.v (.int .i64) (y7.fst)), (.v .bool (y7.snd.fst))]), (.v (.int .i64) (y7.fst)), (.v .bool (y7.snd.fst)), (.tup [(.v (.int .i64) (y8.fst)), (.v .bool (y8.snd.fst))]), (.v .str (y6.snd.fst)), (.tup [(.v (.int .i64) (y8.fst)), (.v .bool (y8.snd.fst))]), (.v (.int .i64) (y8.fst)), (.v .bool (y8.snd.fst)), (.v .bool (y7.snd.fst)), (.v .bool (!y7.snd.fst)), (.v .bool (!false)), (.raw undef), (.raw undef), (.v .bool (true)), .bad, .bad, .bad], bx := [none, none, none, none, none, none, none, none, none, none, none, none, none, none, none, none, none, none, none, none, none, none, none, none, none, none, none, none, none, none, none, none, none, none, none, none, none, none, none, none, none, none, none, none, none, none, none, none, none, none, none, none, none, none, none, none, none, none, none, none, none], live := 0, g := [] }
def s9_27x40 (y0 : ByteArray) (y1 : Int) (y2 : ByteArray) (y3 : ByteArray) (y4 : (ByteArray × Bool × Unit)) (y5 : ByteArray) (y6 : (ByteArray × ByteArray × Bool × Unit)) (y7 : (Int × Bool × Unit)) : St := { t := [(.v .str (y0)), (.raw undef), .bad, .bad, .bad, (.v (.int .i64) (y1)), (.v .str (y6.snd.fst)), (.v .bool (y7.snd.fst)), (.v (.int .i64) ((0 : Int))), (.v .bool (y6.snd.snd.fst)), (.v .str (y6.fst)), (.v (.int .i64) (y7.fst)), (.v (.int .i64) (y1)), (.v .bool (decide (y1 ≤ (8 : Int)))), .bad, .bad, (.v .str (y0)), (.v .bool (!ByteArray.toList y0 == (ByteArray.mk #[]).toList)), (.v .bool (true)), (.v .str (y0)), (.v (.int .i64) (y1)), (.v .str (y2)), (.v .bool (ByteArray.toList y0 == ByteArray.toList y2)), (.v .bool (ByteArray.toList y0 == ByteArray.toList y2)), .bad, (.tup [(.v .str (y4.fst)), (.v .bool (y4.snd.fst))]), (.v .str (y0)), (.v (.int .i64) (y1)), (.v .str (y3)), (.tup [(.v .str (y4.fst)), (.v .bool (y4.snd.fst))]), (.v .str (y4.fst)), (.v .bool (y4.snd.fst)), (.v .bool (y4.snd.fst)), (.v .bool (!y4.snd.fst)), (.v .bool (false)), (.v (.int .i64) (y1)), (.v .str (y5)), (.v .bool (ByteArray.toList y5 == (ByteArray.mk #[]).toList)), (.v .bool (ByteArray.toList y5 == (ByteArray.mk #[]).toList)), (.v (.int .i64) (y1)), (.v .bool (y1 == (7 : Int))), (.tup [(.v .str (y6.fst)), (.v .str (y6.snd.fst)), (.v .bool (y6.snd.snd.fst))]), (.v .str (y4.fst)), (.tup [(.v .str (y6.fst)), (.v .str (y6.snd.fst)), (.v .bool (y6.snd.snd.fst))]), (.v .str (y6.fst)), (.v .str (y6.snd.fst)), (.v .bool (y6.snd.snd.fst)), (.v .bool (y6.snd.snd.fst)), .bad, .bad, .bad, .bad, .bad, (.tup [(.v (.int .i64) (y7.fst)), (.v .bool (y7.snd.fst))]), (.v .str (y6.snd.fst)), (.tup [(.v (.int .i64) (y7.fst)), (.v .bool (y7.snd.fst))]), (.v (.int .i64) (y7.fst)), (.v .bool (y7.snd.fst)), (.v .bool (y6.snd.snd.fst)), (.v .bool (!y6.snd.snd.fst)), (.v .bool (false)), (.v .bool (y7.snd.fst)), (.v .bool (!y7.snd.fst)), (.v .bool (!y7.snd.fst)), .bad, .bad, .bad], bx := [none, none, none, none, none, none, none, none, none, none, none, none, none, none, none, none, none, none, none, none, none, none, none, none, none, none, none, none, none, none, none, none, none, none, none, none, none, none, none, none, none, none, none, none, none, none, none, none, none, none, none, none, none, none], live := 0, g := [] }
def s9_27x41 (y0 : ByteArray) (y1 : Int) (y2 : ByteArray) (y3 : ByteArray) (y4 : (ByteArray × Bool × Unit)) (y5 : ByteArray) (y6 : (ByteArray × ByteArray × Bool × Unit)) (y7 : (Int × Bool × Unit)) : St := { t := [(.v .str (y0)), (.raw undef), (.v (.int .i64) (y1)), (.v (.int .i64) ((0 : Int))), (.v (.int .i64) (y7.fst)), (.v (.int .i64) (y1)), (.v .str (y6.snd.fst)), (.v .bool (y7.snd.fst)), (.v (.int .i64) ((0 : Int))), (.v .bool (y6.snd.snd.fst)), (.v .str (y6.fst)), (.v (.int .i64) (y7.fst)), (.v (.int .i64) (y1)), (.v .bool (decide (y1 ≤ (8 : Int)))), .bad, .bad, (.v .str (y0)), (.v .bool (!ByteArray.toList y0 == (ByteArray.mk #[]).toList)), (.v .bool (true)), (.v .str (y0)), (.v (.int .i64) (y1)), (.v .str (y2)), (.v .bool (ByteArray.toList y0 == ByteArray.toList y2)), (.v .bool (ByteArray.toList y0 == ByteArray.toList y2)), .bad, (.tup [(.v .str (y4.fst)), (.v .bool (y4.snd.fst))]), (.v .str (y0)), (.v (.int .i64) (y1)), (.v .str (y3)), (.tup [(.v .str (y4.fst)), (.v .bool (y4.snd.fst))]), (.v .str (y4.fst)), (.v .bool (y4.snd.fst)), (.v .bool (y4.snd.fst)), (.v .bool (!y4.snd.fst)), (.v .bool (false)), (.v (.int .i64) (y1)), (.v .str (y5)), (.v .bool (ByteArray.toList y5 == (ByteArray.mk #[]).toList)), (.v .bool (ByteArray.toList y5 == (ByteArray.mk #[]).toList)), (.v (.int .i64) (y1)), (.v .bool (y1 == (7 : Int))), (.tup [(.v .str (y6.fst)), (.v .str (y6.snd.fst)), (.v .bool (y6.snd.snd.fst))]), (.v .str (y4.fst)), (.tup [(.v .str (y6.fst)), (.v .str (y6.snd.fst)), (.v .bool (y6.snd.snd.fst))]), (.v .str (y6.fst)), (.v .str (y6.snd.fst)), (.v .bool (y6.snd.snd.fst)), (.v .bool (y6.snd.snd.fst)), .bad, .bad, .bad, .bad, .bad, (.tup [(.v (.int .i64) (y7.fst)), (.v .bool (y7.snd.fst))]), (.v .str (y6.snd.fst)), (.tup [(.v (.int .i64) (y7.fst)), (.v .bool (y7.snd.fst))]), (.v (.int .i64) (y7.fst)), (.v .bool (y7.snd.fst)), (.v .bool (y6.snd.snd.fst)), (.v .bool (!y6.snd.snd.fst)), (.v .bool (false)), (.v .bool (y7.snd.fst)), (.v .bool (!y7.snd.fst)), (.v .bool (!y7.snd.fst)), (.v (.int .i64) (y1)), (.v (.int .i64) ((0 : Int))), (.v (.int .i64) (y7.fst))], bx := [none, none, none, none, none, none, none, none, none, none, none, none, none, none, none, none, none, none, none, none, none, none, none, none, none, none, none, none, none, none, none, none, none, none, none, none, none, none, none, none, none, none, none, none, none, none, none, none, none, none, none, none, none, none, none, none, none, none, none, none], live := 0, g := [] }
def s9_27x42 (y0 : ByteArray) (y1 : Int) (y2 : ByteArray) (y3 : ByteArray) (y4 : (ByteArray × Bool × Unit)) (y5 : ByteArray) (y6 : (ByteArray × ByteArray × Bool × Unit)) (y7 : (Int × Bool × Unit)) : St := { t := [(.v .str (y0)), (.raw undef), .bad, .bad, .bad, (.v (.int .i64) (y1)), (.v .str (y6.snd.fst)), (.v .bool (y7.snd.fst)), (.v (.int .i64) ((0 : Int))), (.v .bool (y6.snd.snd.fst)), (.v .str (y6.fst)), (.v (.int .i64) (y7.fst)), (.v (.int .i64) (y1)), (.v .bool (decide (y1 ≤ (8 : Int)))), .bad, .bad, (.v .str (y0)), (.v .bool (!ByteArray.toList y0 == (ByteArray.mk #[]).toList)), (.v .bool (true)), (.v .str (y0)), (.v (.int .i64) (y1)), (.v .str (y2)), (.v .bool (ByteArray.toList y0 == ByteArray.toList y2)), (.v .bool (ByteArray.toList y0 == ByteArray.toList y2)), .bad, (.tup [(.v .str (y4.fst)), (.v .bool (y4.snd.fst))]), (.v .str (y0)), (.v (.int .i64) (y1)), (.v .str (y3)), (.tup [(.v .str (y4.fst)), (.v .bool (y4.snd.fst))]), (.v .str (y4.fst)), (.v .bool (y4.snd.fst)), (.v .bool (y4.snd.fst)), (.v .bool (!y4.snd.fst)), (.v .bool (false)), (.v (.int .i64) (y1)), (.v .str (y5)), (.v .bool (ByteArray.toList y5 == (ByteArray.mk #[]).toList)), (.v .bool (ByteArray.toList y5 == (ByteArray.mk #[]).toList)), (.v (.int .i64) (y1)), (.v .bool (y1 == (7 : Int))), (.tup [(.v .str (y6.fst)), (.v .str (y6.snd.fst)), (.v .bool (y6.snd.snd.fst))]), (.v .str (y4.fst)), (.tup [(.v .str (y6.fst)), (.v .str (y6.snd.fst)), (.v .bool (y6.snd.snd.fst))]), (.v .str (y6.fst)), (.v .str (y6.snd.fst)), (.v .bool (y6.snd.snd.fst)), (.v .bool (y6.snd.snd.fst)), .bad, .bad, .bad, .bad, .bad, (.tup [(.v (.int .i64) (y7.fst)), (.v .bool (y7.snd.fst))]), (.v .str (y6.snd.fst)), (.tup [(.v (.int .i64) (y7.fst)), (.v .bool (y7.snd.fst))]), (.v (.int .i64) (y7.fst)), (.v .bool (y7.snd.fst)), (.v .bool (y6.snd.snd.fst)), (.v .bool (!y6.snd.snd.fst)), (.v .bool (!false)), (.raw undef), (.raw undef), (.v .bool (true)), .bad, .bad, .bad], bx := [none, none, none, none, none, none, none, none, none, none, none, none, none, none, none, none, none, none, none, none, none, none, none, none, none, none, none, none, none, none, none, none, none, none, none, none, none, none, none, none, none, none, none, none, none, none, none, none, none, none, none, none, none, none], live := 0, g := [] }
def s9_27x44 (y0 : ByteArray) (y1 : Int) (y2 : ByteArray) (y3 : ByteArray) (y4 : (ByteArray × Bool × Unit)) (y5 : ByteArray) (y6 : (Int × Bool × Unit)) : St := { t := [(.v .str (y0)), (.raw undef), .bad, .bad, .bad, (.v (.int .i64) (y1)), (.v .str (y4.fst)), (.v .bool (y6.snd.fst)), (.v (.int .i64) ((0 : Int))), (.v .bool (true)), .bad, (.v (.int .i64) (y6.fst)), (.v (.int .i64) (y1)), (.v .bool (decide (y1 ≤ (8 : Int)))), .bad, .bad, (.v .str (y0)), (.v .bool (!ByteArray.toList y0 == (ByteArray.mk #[]).toList)), (.v .bool (true)), (.v .str (y0)), (.v (.int .i64) (y1)), (.v .str (y2)), (.v .bool (ByteArray.toList y0 == ByteArray.toList y2)), (.v .bool (ByteArray.toList y0 == ByteArray.toList y2)), .bad, (.tup [(.v .str (y4.fst)), (.v .bool (y4.snd.fst))]), (.v .str (y0)), (.v (.int .i64) (y1)), (.v .str (y3)), (.tup [(.v .str (y4.fst)), (.v .bool (y4.snd.fst))]), (.v .str (y4.fst)), (.v .bool (y4.snd.fst)), (.v .bool (y4.snd.fst)), (.v .bool (!y4.snd.fst)), (.v .bool (false)), (.v (.int .i64) (y1)), (.v .str (y5)), (.v .bool (ByteArray.toList y5 == (ByteArray.mk #[]).toList)), (.v .bool (ByteArray.toList y5 == (ByteArray.mk #[]).toList)), (.v (.int .i64) (y1)), (.v .bool (y1 == (7 : Int))), .bad, .bad, .bad, .bad, .bad, .bad, .bad, .bad, .bad, .bad, .bad, .bad, (.tup [(.v (.int .i64) (y6.fst)), (.v .bool (y6.snd.fst))]), (.v .str (y4.fst)), (.tup [(.v (.int .i64) (y6.fst)), (.v .bool (y6.snd.fst))]), (.v (.int .i64) (y6.fst)), (.v .bool (y6.snd.fst)), (.v .bool (true)), (.v .bool (!true)), (.v .bool (false)), (.v .bool (y6.snd.fst)), (.v .bool (!y6.snd.fst)), (.v .bool (!y6.snd.fst)), .bad, .bad, .bad], bx := [none, none, none, none, none, none, none, none, none, none, none, none, none, none, none, none, none, none, none, none, none, none, none, none, none, none, none, none, none, none, none, none, none, none, none, none, none, none, none, none, none, none, none], live := 0, g := [] }
def s9_27x45 (y0 : ByteArray) (y1 : Int) (y2 : ByteArray) (y3 : ByteArray) (y4 : (ByteArray × Bool × Unit)) (y5 : ByteArray) (y6 : (Int × Bool × Unit)) : St := { t := [(.v .str (y0)), (.raw undef), (.v (.int .i64) (y1)), (.v (.int .i64) ((0 : Int))), (.v (.int .i64) (y6.fst)), (.v (.int .i64) (y1)), (.v .str (y4.fst)), (.v .bool (y6.snd.fst)), (.v (.int .i64) ((0 : Int))), (.v .bool (true)), .bad, (.v (.int .i64) (y6.fst)), (.v (.int .i64) (y1)), (.v .bool (decide (y1 ≤ (8 : Int)))), .bad, .bad, (.v .str (y0)), (.v .bool (!ByteArray.toList y0 == (ByteArray.mk #[]).toList)), (.v .bool (true)), (.v .str (y0)), (.v (.int .i64) (y1)), (.v .str (y2)), (.v .bool (ByteArray.toList y0 == ByteArray.toList y2)), (.v .bool (ByteArray.toList y0 == ByteArray.toList y2)), .bad, (.tup [(.v .str (y4.fst)), (.v .bool (y4.snd.fst))]), (.v .str (y0)), (.v (.int .i64) (y1)), (.v .str (y3)), (.tup [(.v .str (y4.fst)), (.v .bool (y4.snd.fst))]), (.v .str (y4.fst)), (.v .bool (y4.snd.fst)), (.v .bool (y4.snd.fst)), (.v .bool (!y4.snd.fst)), (.v .bool (false)), (.v (.int .i64) (y1)), (.v .str (y5)), (.v .bool (ByteArray.toList y5 == (ByteArray.mk #[]).toList)), (.v .bool (ByteArray.toList y5 == (ByteArray.mk #[]).toList)), (.v (.int .i64) (y1)), (.v .bool (y1 == (7 : Int))), .bad, .bad, .bad, .bad, .bad, .bad, .bad, .bad, .bad, .bad, .bad, .bad, (.tup [(.v (.int .i64) (y6.fst)), (.v .bool (y6.snd.fst))]), (.v .str (y4.fst)), (.tup [(.v (.int .i64) (y6.fst)), (.v .bool (y6.snd.fst))]), (.v (.int .i64) (y6.fst)), (.v .bool (y6.snd.fst)), (.v .bool (true)), (.v .bool (!true)), (.v .bool (false)), (.v .bool (y6.snd.fst)), (.v .bool (!y6.snd.fst)), (.v .bool (!y6.snd.fst)), (.v (.int .i64) (y1)), (.v (.int .i64) ((0 : Int))), (.v (.int .i64) (y6.fst))], bx := [none, none, none, none, none, none, none, none, none, none, none, none, none, none, none, none, none, none, none, none, none, none, none, none, none, none, none, none, none, none, none, none, none, none, none, none, none, none, none, none, none, none, none, none, none, none, none, none, none], live := 0, g := [] }
def s9_27x52 (y0 : ByteArray) (y1 : Int) (y2 : ByteArray) (y3 : (ByteArray × Bool × Unit)) (y4 : ByteArray) (y5 : (ByteArray × ByteArray × Bool × Unit)) (y6 : (Int × Bool × Unit)) (y7 : (Int × Bool × Unit)) : St := { t := [(.v .str (y0)), (.raw undef), .bad, .bad, .bad, (.v (.int .i64) (y1)), (.v .str (y5.snd.fst)), (.v .bool (y7.snd.fst)), (.v (.int .i64) (y6.fst)), (.v .bool (y6.snd.fst)), (.v .str (y5.fst)), (.v (.int .i64) (y7.fst)), (.v (.int .i64) (y1)), (.v .bool (decide (y1 ≤ (8 : Int)))), .bad, .bad, (.v .str (y0)), (.v .bool (!ByteArray.toList y0 == (ByteArray.mk #[]).toList)), (.v .bool (!true)), (.raw undef), (.raw undef), (.raw undef), (.raw undef), (.v .bool (false)), .bad, (.tup [(.v .str (y3.fst)), (.v .bool (y3.snd.fst))]), (.v .str (y0)), (.v (.int .i64) (y1)), (.v .str (y2)), (.tup [(.v .str (y3.fst)), (.v .bool (y3.snd.fst))]), (.v .str (y3.fst)), (.v .bool (y3.snd.fst)), (.v .bool (y3.snd.fst)), (.v .bool (!y3.snd.fst)), (.v .bool (false)), (.v (.int .i64) (y1)), (.v .str (y4)), (.v .bool (ByteArray.toList y4 == (ByteArray.mk #[]).toList)), (.v .bool (ByteArray.toList y4 == (ByteArray.mk #[]).toList)), (.v (.int .i64) (y1)), (.v .bool (y1 == (7 : Int))), (.tup [(.v .str (y5.fst)), (.v .str (y5.snd.fst)), (.v .bool (y5.snd.snd.fst))]), (.v .str (y3.fst)), (.tup [(.v .str (y5.fst)), (.v .str (y5.snd.fst)), (.v .bool (y5.snd.snd.fst))]), (.v .str (y5.fst)), (.v .str (y5.snd.fst)), (.v .bool (y5.snd.snd.fst)), (.v .bool (y5.snd.snd.fst)), (.tup [(.v (.int .i64) (y6.fst)), (.v .bool (y6.snd.fst))]), (.v .str (y5.fst)), (.tup [(.v (.int .i64) (y6.fst)), (.v .bool (y6.snd.fst))]), (.v (.int .i64) (y6.fst)), (.v .bool (y6.snd.fst)), (.tup [(.v (.int .i64) (y7.fst)), (.v .bool (y7.snd.fst))]), (.v .str (y5.snd.fst)), (.tup [(.v (.int .i64) (y7.fst)), (.v .bool (y7.snd.fst))]), (.v (.int .i64) (y7.fst)), (.v .bool (y7.snd.fst)), (.v .bool (y6.snd.fst)), (.v .bool (!y6.snd.fst)), (.v .bool (false)), (.v .bool (y7.snd.fst)), (.v .bool (!y7.snd.fst)), (.v .bool (!y7.snd.fst)), .bad, .bad, .bad], bx := [none, none, none, none, none, none, none, none, none, none, none, none, none, none, none, none, none, none, none, none, none, none, none, none, none, none, none, none, none, none, none, none, none, none, none, none, none, none, none, none, none, none, none, none, none, none, none, none, none, none, none, none, none, none, none, none, none, none, none, none, none], live := 0, g := [] }
def s9_27x53 (y0 : ByteArray) (y1 : Int) (y2 : ByteArray) (y3 : (ByteArray × Bool × Unit)) (y4 : ByteArray) (y5 : (ByteArray × ByteArray × Bool × Unit)) (y6 : (Int × Bool × Unit)) (y7 : (Int × Bool × Unit)) : St := { t := [(.v .str (y0)), (.raw undef), (.v (.int .i64) (y1)), (.v (.int .i64) (y6.fst)), (.v (.int .i64) (y7.fst)), (.v (.int .i64) (y1)), (.v .str (y5.snd.fst)), (.v .bool (y7.snd.fst)), (.v (.int .i64) (y6.fst)), (.v .bool (y6.snd.fst)), (.v .str (y5.fst)), (.v (.int .i64) (y7.fst)), (.v (.int .i64) (y1)), (.v .bool (decide (y1 ≤ (8 : Int)))), .bad, .bad, (.v .str (y0)), (.v .bool (!ByteArray.toList y0 == (ByteArray.mk #[]).toList)), (.v .bool (!true)), (.raw undef), (.raw undef), (.raw undef), (.raw undef), (.v .bool (false)), .bad, (.tup [(.v .str (y3.fst)), (.v .bool (y3.snd.fst))]), (.v .str (y0)), (.v (.int .i64) (y1)), (.v .str (y2)), (.tup [(.v .str (y3.fst)), (.v .bool (y3.snd.fst))]), (.v .str (y3.fst)), (.v .bool (y3.snd.fst)), (.v .bool (y3.snd.fst)), (.v .bool (!y3.snd.fst)), (.v .bool (false)), (.v (.int .i64) (y1)), (.v .str (y4)), (.v .bool (ByteArray.toList y4 == (ByteArray.mk #[]).toList)), (.v .bool (ByteArray.toList y4 == (ByteArray.mk #[]).toList)), (.v (.int .i64) (y1)), (.v .bool (y1 == (7 : Int))), (.tup [(.v .str (y5.fst)), (.v .str (y5.snd.fst)), (.v .bool (y5.snd.snd.fst))]), (.v .str (y3.fst)), (.tup [(.v .str (y5.fst)), (.v .str (y5.snd.fst)), (.v .bool (y5.snd.snd.fst))]), (.v .str (y5.fst)), (.v .str (y5.snd.fst)), (.v .bool (y5.snd.snd.fst)), (.v .bool (y5.snd.snd.fst)), (.tup [(.v (.int .i64) (y6.fst)), (.v .bool (y6.snd.fst))]), (.v .str (y5.fst)), (.tup [(.v (.int .i64) (y6.fst)), (.v .bool (y6.snd.fst))]), (.v (.int .i64) (y6.fst)), (.v .bool (y6.snd.fst)), (.tup [(.v (.int .i64) (y7.fst)), (.v .bool (y7.snd.fst))]), (.v .str (y5.snd.fst)), (.tup [(.v (.int .i64) (y7.fst)), (.v .bool (y7.snd.fst))]), (.v (.int .i64) (y7.fst)), (.v .bool (y7.snd.fst)), (.v .bool (y6.snd.fst)), (.v .bool (!y6.snd.fst)), (.v .bool (false)), (.v .bool (y7.snd.fst)), (.v .bool (!y7.snd.fst)), (.v .bool (!y7.snd.fst)), (.v (.int .i64) (y1)), (.v (.int .i64) (y6.fst)), (.v (.int .i64) (y7.fst))], bx := [none, none, none, none, none, none, none, none, none, none, none, none, none, none, none, none, none, none, none, none, none, none, none, none, none, none, none, none, none, none, none, none, none, none, none, none, none, none, none, none, none, none, none, none, none, none, none, none, none, none, none, none, none, none, none, none, none, none, none, none, none, none, none, none, none, none, none], live := 0, g := [] }
def s9_27x54 (y0 : ByteArray) (y1 : Int) (y2 : ByteArray) (y3 : (ByteArray × Bool × Unit)) (y4 : ByteArray) (y5 : (ByteArray × ByteArray × Bool × Unit)) (y6 : (Int × Bool × Unit)) (y7 : (Int × Bool × Unit)) : St := { t := [(.v .str (y0)), (.raw undef), .bad, .bad, .bad, (.v (.int .i64) (y1)), (.v .str (y5.snd.fst)), (.v .bool (y7.snd.fst)), (.v (.int .i64) (y6.fst)), (.v .bool (y6.snd.fst)), (.v .str (y5.fst)), (.v (.int .i64) (y7.fst)), (.v (.int .i64) (y1)), (.v .bool (decide (y1 ≤ (8 : Int)))), .bad, .bad, (.v .str (y0)), (.v .bool (!ByteArray.toList y0 == (ByteArray.mk #[]).toList)), (.v .bool (!true)), (.raw undef), (.raw undef), (.raw undef), (.raw undef), (.v .bool (false)), .bad, (.tup [(.v .str (y3.fst)), (.v .bool (y3.snd.fst))]), (.v .str (y0)), (.v (.int .i64) (y1)), (.v .str (y2)), (.tup [(.v .str (y3.fst)), (.v .bool (y3.snd.fst))]), (.v .str (y3.fst)), (.v .bool (y3.snd.fst)), (.v .bool (y3.snd.fst)), (.v .bool (!y3.snd.fst)), (.v .bool (false)), (.v (.int .i64) (y1)), (.v .str (y4)), (.v .bool (ByteArray.toList y4 == (ByteArray.mk #[]).toList)), (.v .bool (ByteArray.toList y4 == (ByteArray.mk #[]).toList)), (.v (.int .i64) (y1)), (.v .bool (y1 == (7 : Int))), (.tup [(.v .str (y5.fst)), (.v .str (y5.snd.fst)), (.v .bool (y5.snd.snd.fst))]), (.v .str (y3.fst)), (.tup [(.v .str (y5.fst)), (.v .str (y5.snd.fst)), (.v .bool (y5.snd.snd.fst))]), (.v .str (y5.fst)), (.v .str (y5.snd.fst)), (.v .bool (y5.snd.snd.fst)), (.v .bool (y5.snd.snd.fst)), (.tup [(.v (.int .i64) (y6.fst)), (.v .bool (y6.snd.fst))]), (.v .str (y5.fst)), (.tup [(.v (.int .i64) (y6.fst)), (.v .bool (y6.snd.fst))]), (.v (.int .i64) (y6.fst)), (.v .bool (y6.snd.fst)), (.tup [(.v (.int .i64) (y7.fst)), (.v .bool (y7.snd.fst))]), (.v .str (y5.snd.fst)), (.tup [(.v (.int .i64) (y7.fst)), (.v .bool (y7.snd.fst))]), (.v (.int .i64) (y7.fst)), (.v .bool (y7.snd.fst)), (.v .bool (y6.snd.fst)), (.v .bool (!y6.snd.fst)), (.v .bool (!false)), (.raw undef), (.raw undef), (.v .bool (true)), .bad, .bad, .bad], bx := [none, none, none, none, none, none, none, none, none, none, none, none, none, none, none, none, none, none, none, none, none, none, none, none, none, none, none, none, none, none, none, none, none, none, none, none, none, none, none, none, none, none, none, none, none, none, none, none, none, none, none, none, none, none, none, none, none, none, none, none, none], live := 0, g := [] }
def s9_27x56 (y0 : ByteArray) (y1 : Int) (y2 : ByteArray) (y3 : (ByteArray × Bool × Unit)) (y4 : ByteArray) (y5 : (ByteArray × ByteArray × Bool × Unit)) (y6 : (Int × Bool × Unit)) : St := { t := [(.v .str (y0)), (.raw undef), .bad, .bad, .bad, (.v (.int .i64) (y1)), (.v .str (y5.snd.fst)), (.v .bool (y6.snd.fst)), (.v (.int .i64) ((0 : Int))), (.v .bool (y5.snd.snd.fst)), (.v .str (y5.fst)), (.v (.int .i64) (y6.fst)), (.v (.int .i64) (y1)), (.v .bool (decide (y1 ≤ (8 : Int)))), .bad, .bad, (.v .str (y0)), (.v .bool (!ByteArray.toList y0 == (ByteArray.mk #[]).toList)), (.v .bool (!true)), (.raw undef), (.raw undef), (.raw undef), (.raw undef), (.v .bool (false)), .bad, (.tup [(.v .str (y3.fst)), (.v .bool (y3.snd.fst))]), (.v .str (y0)), (.v (.int .i64) (y1)), (.v .str (y2)), (.tup [(.v .str (y3.fst)), (.v .bool (y3.snd.fst))]), (.v .str (y3.fst)), (.v .bool (y3.snd.fst)), (.v .bool (y3.snd.fst)), (.v .bool (!y3.snd.fst)), (.v .bool (false)), (.v (.int .i64) (y1)), (.v .str (y4)), (.v .bool (ByteArray.toList y4 == (ByteArray.mk #[]).toList)), (.v .bool (ByteArray.toList y4 == (ByteArray.mk #[]).toList)), (.v (.int .i64) (y1)), (.v .bool (y1 == (7 : Int))), (.tup [(.v .str (y5.fst)), (.v .str (y5.snd.fst)), (.v .bool (y5.snd.snd.fst))]), (.v .str (y3.fst)), (.tup [(.v .str (y5.fst)), (.v .str (y5.snd.fst)), (.v .bool (y5.snd.snd.fst))]), (.v .str (y5.fst)), (.v .str (y5.snd.fst)), (.v .bool (y5.snd.snd.fst)), (.v .bool (y5.snd.snd.fst)), .bad, .bad, .bad, .bad, .bad, (.tup [(.v (.int .i64) (y6.fst)), (.v .bool (y6.snd.fst))]), (.v .str (y5.snd.fst)), (.tup [(.v (.int .i64) (y6.fst)), (.v .bool (y6.snd.fst))]), (.v (.int .i64) (y6.fst)), (.v .bool (y6.snd.fst)), (.v .bool (y5.snd.snd.fst)), (.v .bool (!y5.snd.snd.fst)), (.v .bool (false)), (.v .bool (y6.snd.fst)), (.v .bool (!y6.snd.fst)), (.v .bool (!y6.snd.fst)), .bad, .bad, .bad], bx := [none, none, none, none, none, none, none, none, none, none, none, none, none, none, none, none, none, none, none, none, none, none, none, none, none, none, none, none, none, none, none, none, none, none, none, none, none, none, none, none, none, none, none, none, none, none, none, none, none, none, none, none, none, none], live := 0, g := [] }
def s9_27x57 (y0 : ByteArray) (y1 : Int) (y2 : ByteArray) (y3 : (ByteArray × Bool × Unit)) (y4 : ByteArray) (y5 : (ByteArray × ByteArray × Bool × Unit)) (y6 : (Int × Bool × Unit)) : St := { t := [(.v .str (y0)), (.raw undef), (.v (.int .i64) (y1)), (.v (.int .i64) ((0 : Int))), (.v (.int .i64) (y6.fst)), (.v (.int .i64) (y1)), (.v .str (y5.snd.fst)), (.v .bool (y6.snd.fst)), (.v (.int .i64) ((0 : Int))), (.v .bool (y5.snd.snd.fst)), (.v .str (y5.fst)), (.v (.int .i64) (y6.fst)), (.v (.int .i64) (y1)), (.v .bool (decide (y1 ≤ (8 : Int)))), .bad, .bad, (.v .str (y0)), (.v .bool (!ByteArray.toList y0 == (ByteArray.mk #[]).toList)), (.v .bool (!true)), (.raw undef), (.raw undef), (.raw undef), (.raw undef), (.v .bool (false)), .bad, (.tup [(.v .str (y3.fst)), (.v .bool (y3.snd.fst))]), (.v .str (y0)), (.v (.int .i64) (y1)), (.v .str (y2)), (.tup [(.v .str (y3.fst)), (.v .bool (y3.snd.fst))]), (.v .str (y3.fst)), (.v .bool (y3.snd.fst)), (.v .bool (y3.snd.fst)), (.v .bool (!y3.snd.fst)), (.v .bool (false)), (.v (.int .i64) (y1)), (.v .str (y4)), (.v .bool (ByteArray.toList y4 == (ByteArray.mk #[]).toList)), (.v .bool (ByteArray.toList y4 == (ByteArray.mk #[]).toList)), (.v (.int .i64) (y1)), (.v .bool (y1 == (7 : Int))), (.tup [(.v .str (y5.fst)), (.v .str (y5.snd.fst)), (.v .bool (y5.snd.snd.fst))]), (.v .str (y3.fst)), (.tup [(.v .str (y5.fst)), (.v .str (y5.snd.fst)), (.v .bool (y5.snd.snd.fst))]), (.v .str (y5.fst)), (.v .str (y5.snd.fst)), (.v .bool (y5.snd.snd.fst)), (.v .bool (y5.snd.snd.fst)), .bad, .bad, .bad, .bad, .bad, (.tup [(.v (.int .i64) (y6.fst)), (.v .bool (y6.snd.fst))]), (.v .str (y5.snd.fst)), (.tup [(.v (.int .i64) (y6.fst)), (.v .bool (y6.snd.fst))]), (.v (.int .i64) (y6.fst)), (.v .bool (y6.snd.fst)), (.v .bool (y5.snd.snd.fst)), (.v .bool (!y5.snd.snd.fst)), (.v .bool (false)), (.v .bool (y6.snd.fst)), (.v .bool (!y6.snd.fst)), (.v .bool (!y6.snd.fst)), (.v (.int .i64) (y1)), (.v (.int .i64) ((0 : Int))), (.v (.int .i64) (y6.fst))], bx := [none, none, none, none, none, none, none, none, none, none, none, none, none, none, none, none, none, none, none, none, none, none, none, none, none, none, none, none, none, none, none, none, none, none, none, none, none, none, none, none, none, none, none, none, none, none, none, none, none, none, none, none, none, none, none, none, none, none, none, none], live := 0, g := [] }
def s9_27x58 (y0 : ByteArray) (y1 : Int) (y2 : ByteArray) (y3 : (ByteArray × Bool × Unit)) (y4 : ByteArray) (y5 : (ByteArray × ByteArray × Bool × Unit)) (y6 : (Int × Bool × Unit)) : St := { t := [(.v .str (y0)), (.raw undef), .bad, .bad, .bad, (.v (.int .i64) (y1)), (.v .str (y5.snd.fst)), (.v .bool (y6.snd.fst)), (.v (.int .i64) ((0 : Int))), (.v .bool (y5.snd.snd.fst)), (.v .str (y5.fst)), (.v (.int .i64) (y6.fst)), (.v (.int .i64) (y1)), (.v .bool (decide (y1 ≤ (8 : Int)))), .bad, .bad, (.v .str (y0)), (.v .bool (!ByteArray.toList y0 == (ByteArray.mk #[]).toList)), (.v .bool (!true)), (.raw undef), (.raw undef), (.raw undef), (.raw undef), (.v .bool (false)), .bad, (.tup [(.v .str (y3.fst)), (.v .bool (y3.snd.fst))]), (.v .str (y0)), (.v (.int .i64) (y1)), (.v .str (y2)), (.tup [(.v .str (y3.fst)), (.v .bool (y3.snd.fst))]), (.v .str (y3.fst)), (.v .bool (y3.snd.fst)), (.v .bool (y3.snd.fst)), (.v .bool (!y3.snd.fst)), (.v .bool (false)), (.v (.int .i64) (y1)), (.v .str (y4)), (.v .bool (ByteArray.toList y4 == (ByteArray.mk #[]).toList)), (.v .bool (ByteArray.toList y4 == (ByteArray.mk #[]).toList)), (.v (.int .i64) (y1)), (.v .bool (y1 == (7 : Int))), (.tup [(.v .str (y5.fst)), (.v .str (y5.snd.fst)), (.v .bool (y5.snd.snd.fst))]), (.v .str (y3.fst)), (.tup [(.v .str (y5.fst)), (.v .str (y5.snd.fst)), (.v .bool (y5.snd.snd.fst))]), (.v .str (y5.fst)), (.v .str (y5.snd.fst)), (.v .bool (y5.snd.snd.fst)), (.v .bool (y5.snd.snd.fst)), .bad, .bad, .bad, .bad, .bad, (.tup [(.v (.int .i64) (y6.fst)), (.v .bool (y6.snd.fst))]), (.v .str (y5.snd.fst)), (.tup [(.v (.int .i64) (y6.fst)), (.v .bool (y6.snd.fst))]), (.v (.int .i64) (y6.fst)), (.v .bool (y6.snd.fst)), (.v .bool (y5.snd.snd.fst)), (.v .bool (!y5.snd.snd.fst)), (.v .bool (!false)), (.raw undef), (.raw undef), (.v .bool (true)), .bad, .bad, .bad], bx := [none, none, none, none, none, none, none, none, none, none, none, none, none, none, none, none, none, none, none, none, none, none, none, none, none, none, none, none, none, none, none, none, none, none, none, none, none, none, none, none, none, none, none, none, none, none, none, none, none, none, none, none, none, none], live := 0, g := [] }
def s9_27x60 (y0 : ByteArray) (y1 : Int) (y2 : ByteArray) (y3 : (ByteArray × Bool × Unit)) (y4 : ByteArray) (y5 : (Int × Bool × Unit)) : St := { t := [(.v .str (y0)), (.raw undef), .bad, .bad, .bad, (.v (.int .i64) (y1)), (.v .str (y3.fst)), (.v .bool (y5.snd.fst)), (.v (.int .i64) ((0 : Int))), (.v .bool (true)), .bad, (.v (.int .i64) (y5.fst)), (.v (.int .i64) (y1)), (.v .bool (decide (y1 ≤ (8 : Int)))), .bad, .bad, (.v .str (y0)), (.v .bool (!ByteArray.toList y0 == (ByteArray.mk #[]).toList)), (.v .bool (!true)), (.raw undef), (.raw undef), (.raw undef), (.raw undef), (.v .bool (false)), .bad, (.tup [(.v .str (y3.fst)), (.v .bool (y3.snd.fst))]), (.v .str (y0)), (.v (.int .i64) (y1)), (.v .str (y2)), (.tup [(.v .str (y3.fst)), (.v .bool (y3.snd.fst))]), (.v .str (y3.fst)), (.v .bool (y3.snd.fst)), (.v .bool (y3.snd.fst)), (.v .bool (!y3.snd.fst)), (.v .bool (false)), (.v (.int .i64) (y1)), (.v .str (y4)), (.v .bool (ByteArray.toList y4 == (ByteArray.mk #[]).toList)), (.v .bool (ByteArray.toList y4 == (ByteArray.mk #[]).toList)), (.v (.int .i64) (y1)), (.v .bool (y1 == (7 : Int))), .bad, .bad, .bad, .bad, .bad, .bad, .bad, .bad, .bad, .bad, .bad, .bad, (.tup [(.v (.int .i64) (y5.fst)), (.v .bool (y5.snd.fst))]), (.v .str (y3.fst)), (.tup [(.v (.int .i64) (y5.fst)), (.v .bool (y5.snd.fst))]), (.v (.int .i64) (y5.fst)), (.v .bool (y5.snd.fst)), (.v .bool (true)), (.v .bool (!true)), (.v .bool (false)), (.v .bool (y5.snd.fst)), (.v .bool (!y5.snd.fst)), (.v .bool (!y5.snd.fst)), .bad, .bad, .bad], bx := [none, none, none, none, none, none, none, none, none, none, none, none, none, none, none, none, none, none, none, none, none, none, none, none, none, none, none, none, none, none, none, none, none, none, none, none, none, none, none, none, none, none, none], live := 0, g := [] }
def s9_27x61 (y0 : ByteArray) (y1 : Int) (y2 : ByteArray) (y3 : (ByteArray × Bool × Unit)) (y4 : ByteArray) (y5 : (Int × Bool × Unit)) : St := { t := [(.v .str (y0)), (.raw undef), (.v (.int .i64) (y1)), (.v (.int .i64) ((0 : Int))), (.v (.int .i64) (y5.fst)), (.v (.int .i64) (y1)), (.v .str (y3.fst)), (.v .bool (y5.snd.fst)), (.v (.int .i64) ((0 : Int))), (.v .bool (true)), .bad, (.v (.int .i64) (y5.fst)), (.v (.int .i64) (y1)), (.v .bool (decide (y1 ≤ (8 : Int)))), .bad, .bad, (.v .str (y0)), (.v .bool (!ByteArray.toList y0 == (ByteArray.mk #[]).toList)), (.v .bool (!true)), (.raw undef), (.raw undef), (.raw undef), (.raw undef), (.v .bool (false)), .bad, (.tup [(.v .str (y3.fst)), (.v .bool (y3.snd.fst))]), (.v .str (y0)), (.v (.int .i64) (y1)), (.v .str (y2)), (.tup [(.v .str (y3.fst)), (.v .bool (y3.snd.fst))]), (.v .str (y3.fst)), (.v .bool (y3.snd.fst)), (.v .bool (y3.snd.fst)), (.v .bool (!y3.snd.fst)), (.v .bool (false)), (.v (.int .i64) (y1)), (.v .str (y4)), (.v .bool (ByteArray.toList y4 == (ByteArray.mk #[]).toList)), (.v .bool (ByteArray.toList y4 == (ByteArray.mk #[]).toList)), (.v (.int .i64) (y1)), (.v .bool (y1 == (7 : Int))), .bad, .bad, .bad, .bad, .bad, .bad, .bad, .bad, .bad, .bad, .bad, .bad, (.tup [(.v (.int .i64) (y5.fst)), (.v .bool (y5.snd.fst))]), (.v .str (y3.fst)), (.tup [(.v (.int .i64) (y5.fst)), (.v .bool (y5.snd.fst))]), (.v (.int .i64) (y5.fst)), (.v .bool (y5.snd.fst)), (.v .bool (true)), (.v .bool (!true)), (.v .bool (false)), (.v .bool (y5.snd.fst)), (.v .bool (!y5.snd.fst)), (.v .bool (!y5.snd.fst)), (.v (.int .i64) (y1)), (.v (.int .i64) ((0 : Int))), (.v (.int .i64) (y5.fst))], bx := [none, none, none, none, none, none, none, none, none, none, none, none, none, none, none, none, none, none, none, none, none, none, none, none, none, none, none, none, none, none, none, none, none, none, none, none, none, none, none, none, none, none, none, none, none, none, none, none, none], live := 0, g := [] }
def s9_27x62 (y0 : ByteArray) (y1 : Int) : St := { t := [(.v .str (y0)), (.raw undef), .bad, .bad, .bad, (.v (.int .i64) (y1)), .bad, .bad, .bad, .bad, .bad, .bad, (.v (.int .i64) (y1)), (.v .bool (decide (y1 ≤ (8 : Int)))), .bad, .bad, .bad, .bad, .bad, .bad, .bad, .bad, .bad, .bad, .bad, .bad, .bad, .bad, .bad, .bad, .bad, .bad, .bad, .bad, .bad, .bad, .bad, .bad, .bad, .bad, .bad, .bad, .bad, .bad, .bad, .bad, .bad, .bad, .bad, .bad, .bad, .bad, .bad, .bad, .bad, .bad, .bad, .bad, .bad, .bad, .bad, .bad, .bad, .bad, .bad, .bad, .bad], bx := [none, none], live := 0, g := [] }
theorem s9_27_l {R : Type} (K : AEx → St → Option R) (a0 : ByteArray) (x9 : Int) : LP B call inl 9 (m + 1) [1, 1, 0, 1] (s9_27 a0 x9) K = (bif decide (x9 ≤ (8 : Int)) then (bif (!ByteArray.toList a0 == (ByteArray.mk #[]).toList) == true then ((call 22 [(.v (.int .i64) (x9))]).bind fun (v28 : ByteArray) => bif ByteArray.toList a0 == ByteArray.toList v28 then (K .ret (s9_27x29 a0 x9 v28)) else ((call 24 [(.v (.int .i64) (x9))]).bind fun (v30 : ByteArray) => (call 23 [(.v .str (a0)), (.v .str (v30))]).bind fun (v31 : (ByteArray × Bool × Unit)) => bif (!v31.snd.fst) == false then ((call 24 [(.v (.int .i64) (x9))]).bind fun (v32 : ByteArray) => bif ByteArray.toList v32 == (ByteArray.mk #[]).toList then (LP B call inl 9 m [1, 1, 0, 1] (s9_27 a0 (IntKind.i64.wrap (x9 + (1 : Int)))) K) else (bif x9 == (7 : Int) then ((call 25 [(.v .str (v31.fst)), (.v .str ((ByteArray.mk #[(45 : UInt8)])))]).bind fun (v33 : (ByteArray × ByteArray × Bool × Unit)) => bif v33.snd.snd.fst then ((call 26 [(.v .str (v33.fst))]).bind fun (v34 : (Int × Bool × Unit)) => (call 26 [(.v .str (v33.snd.fst))]).bind fun (v35 : (Int × Bool × Unit)) => bif (!v34.snd.fst) == false then (bif !v35.snd.fst then (K (.exit 0) (s9_27x36 a0 x9 v28 v30 v31 v32 v33 v34 v35)) else (K .ret (s9_27x37 a0 x9 v28 v30 v31 v32 v33 v34 v35))) else (K (.exit 0) (s9_27x38 a0 x9 v28 v30 v31 v32 v33 v34 v35))) else ((call 26 [(.v .str (v33.snd.fst))]).bind fun (v39 : (Int × Bool × Unit)) => bif (!v33.snd.snd.fst) == false then (bif !v39.snd.fst then (K (.exit 0) (s9_27x40 a0 x9 v28 v30 v31 v32 v33 v39)) else (K .ret (s9_27x41 a0 x9 v28 v30 v31 v32 v33 v39))) else (K (.exit 0) (s9_27x42 a0 x9 v28 v30 v31 v32 v33 v39)))) else ((call 26 [(.v .str (v31.fst))]).bind fun (v43 : (Int × Bool × Unit)) => bif !v43.snd.fst then (K (.exit 0) (s9_27x44 a0 x9 v28 v30 v31 v32 v43)) else (K .ret (s9_27x45 a0 x9 v28 v30 v31 v32 v43))))) else (LP B call inl 9 m [1, 1, 0, 1] (s9_27 a0 (IntKind.i64.wrap (x9 + (1 : Int)))) K))) else ((call 24 [(.v (.int .i64) (x9))]).bind fun (v46 : ByteArray) => (call 23 [(.v .str (a0)), (.v .str (v46))]).bind fun (v47 : (ByteArray × Bool × Unit)) => bif (!v47.snd.fst) == false then ((call 24 [(.v (.int .i64) (x9))]).bind fun (v48 : ByteArray) => bif ByteArray.toList v48 == (ByteArray.mk #[]).toList then (LP B call inl 9 m [1, 1, 0, 1] (s9_27 a0 (IntKind.i64.wrap (x9 + (1 : Int)))) K) else (bif x9 == (7 : Int) then ((call 25 [(.v .str (v47.fst)), (.v .str ((ByteArray.mk #[(45 : UInt8)])))]).bind fun (v49 : (ByteArray × ByteArray × Bool × Unit)) => bif v49.snd.snd.fst then ((call 26 [(.v .str (v49.fst))]).bind fun (v50 : (Int × Bool × Unit)) => (call 26 [(.v .str (v49.snd.fst))]).bind fun (v51 : (Int × Bool × Unit)) => bif (!v50.snd.fst) == false then (bif !v51.snd.fst then (K (.exit 0) (s9_27x52 a0 x9 v46 v47 v48 v49 v50 v51)) else (K .ret (s9_27x53 a0 x9 v46 v47 v48 v49 v50 v51))) else (K (.exit 0) (s9_27x54 a0 x9 v46 v47 v48 v49 v50 v51))) else ((call 26 [(.v .str (v49.snd.fst))]).bind fun (v55 : (Int × Bool × Unit)) => bif (!v49.snd.snd.fst) == false then (bif !v55.snd.fst then (K (.exit 0) (s9_27x56 a0 x9 v46 v47 v48 v49 v55)) else (K .ret (s9_27x57 a0 x9 v46 v47 v48 v49 v55))) else (K (.exit 0) (s9_27x58 a0 x9 v46 v47 v48 v49 v55)))) else ((call 26 [(.v .str (v47.fst))]).bind fun (v59 : (Int × Bool × Unit)) => bif !v59.snd.fst then (K (.exit 0) (s9_27x60 a0 x9 v46 v47 v48 v59)) else (K .ret (s9_27x61 a0 x9 v46 v47 v48 v59))))) else (LP B call inl 9 m [1, 1, 0, 1] (s9_27 a0 (IntKind.i64.wrap (x9 + (1 : Int)))) K))) else (K (.exit 0) (s9_27x62 a0 x9))) := by kernel_rfl
theorem s9_27x29_k (a0 : ByteArray) (x9 : Int) (v63 : ByteArray) : (KA B call inl 9 m [1, 1, 0, 1] (FI B call inl 9)) .ret (s9_27x29 a0 x9 v63) = (some ((x9, (0 : Int), (0 : Int), ()))) := by kernel_rfl
theorem s9_27x36_k (a0 : ByteArray) (x9 : Int) (v63 : ByteArray) (v64 : ByteArray) (v65 : (ByteArray × Bool × Unit)) (v66 : ByteArray) (v67 : (ByteArray × ByteArray × Bool × Unit)) (v68 : (Int × Bool × Unit)) (v69 : (Int × Bool × Unit)) : (KA B call inl 9 m [1, 1, 0, 1] (FI B call inl 9)) (.exit 0) (s9_27x36 a0 x9 v63 v64 v65 v66 v67 v68 v69) = (some (((0 : Int), (0 : Int), (0 : Int), ()))) := by kernel_rfl
theorem s9_27x37_k (a0 : ByteArray) (x9 : Int) (v63 : ByteArray) (v64 : ByteArray) (v65 : (ByteArray × Bool × Unit)) (v66 : ByteArray) (v67 : (ByteArray × ByteArray × Bool × Unit)) (v68 : (Int × Bool × Unit)) (v69 : (Int × Bool × Unit)) : (KA B call inl 9 m [1, 1, 0, 1] (FI B call inl 9)) .ret (s9_27x37 a0 x9 v63 v64 v65 v66 v67 v68 v69) = (some ((x9, v68.fst, v69.fst, ()))) := by kernel_rfl
theorem s9_27x38_k (a0 : ByteArray) (x9 : Int) (v63 : ByteArray) (v64 : ByteArray) (v65 : (ByteArray × Bool × Unit)) (v66 : ByteArray) (v67 : (ByteArray × ByteArray × Bool × Unit)) (v68 : (Int × Bool × Unit)) (v69 : (Int × Bool × Unit)) : (KA B call inl 9 m [1, 1, 0, 1] (FI B call inl 9)) (.exit 0) (s9_27x38 a0 x9 v63 v64 v65 v66 v67 v68 v69) = (some (((0 : Int), (0 : Int), (0 : Int), ()))) := by kernel_rfl
theorem s9_27x40_k (a0 : ByteArray) (x9 : Int) (v63 : ByteArray) (v64 : ByteArray) (v65 : (ByteArray × Bool × Unit)) (v66 : ByteArray) (v67 : (ByteArray × ByteArray × Bool × Unit)) (v70 : (Int × Bool × Unit)) : (KA B call inl 9 m [1, 1, 0, 1] (FI B call inl 9)) (.exit 0) (s9_27x40 a0 x9 v63 v64 v65 v66 v67 v70) = (some (((0 : Int), (0 : Int), (0 : Int), ()))) := by kernel_rfl
theorem s9_27x41_k (a0 : ByteArray) (x9 : Int) (v63 : ByteArray) (v64 : ByteArray) (v65 : (ByteArray × Bool × Unit)) (v66 : ByteArray) (v67 : (ByteArray × ByteArray × Bool × Unit)) (v70 : (Int × Bool × Unit)) : (KA B call inl 9 m [1, 1, 0, 1] (FI B call inl 9)) .ret (s9_27x41 a0 x9 v63 v64 v65 v66 v67 v70) = (some ((x9, (0 : Int), v70.fst, ()))) := by kernel_rfl
theorem s9_27x42_k (a0 : ByteArray) (x9 : Int) (v63 : ByteArray) (v64 : ByteArray) (v65 : (ByteArray × Bool × Unit)) (v66 : ByteArray) (v67 : (ByteArray × ByteArray × Bool × Unit)) (v70 : (Int × Bool × Unit)) : (KA B call inl 9 m [1, 1, 0, 1] (FI B call inl 9)) (.exit 0) (s9_27x42 a0 x9 v63 v64 v65 v66 v67 v70) = (some (((0 : Int), (0 : Int), (0 : Int), ()))) := by kernel_rfl
theorem s9_27x44_k (a0 : ByteArray) (x9 : Int) (v63 : ByteArray) (v64 : ByteArray) (v65 : (ByteArray × Bool × Unit)) (v66 : ByteArray) (v71 : (Int × Bool × Unit)) : (KA B call inl 9 m [1, 1, 0, 1] (FI B call inl 9)) (.exit 0) (s9_27x44 a0 x9 v63 v64 v65 v66 v71) = (some (((0 : Int), (0 : Int), (0 : Int), ()))) := by kernel_rfl
theorem s9_27x45_k (a0 : ByteArray) (x9 : Int) (v63 : ByteArray) (v64 : ByteArray) (v65 : (ByteArray × Bool × Unit)) (v66 : ByteArray) (v71 : (Int × Bool × Unit)) : (KA B call inl 9 m [1, 1, 0, 1] (FI B call inl 9)) .ret (s9_27x45 a0 x9 v63 v64 v65 v66 v71) = (some ((x9, (0 : Int), v71.fst, ()))) := by kernel_rfl
theorem s9_27x52_k (a0 : ByteArray) (x9 : Int) (v72 : ByteArray) (v73 : (ByteArray × Bool × Unit)) (v74 : ByteArray) (v75 : (ByteArray × ByteArray × Bool × Unit)) (v76 : (Int × Bool × Unit)) (v77 : (Int × Bool × Unit)) : (KA B call inl 9 m [1, 1, 0, 1] (FI B call inl 9)) (.exit 0) (s9_27x52 a0 x9 v72 v73 v74 v75 v76 v77) = (some (((0 : Int), (0 : Int), (0 : Int), ()))) := by kernel_rfl
theorem s9_27x53_k (a0 : ByteArray) (x9 : Int) (v72 : ByteArray) (v73 : (ByteArray × Bool × Unit)) (v74 : ByteArray) (v75 : (ByteArray × ByteArray × Bool × Unit)) (v76 : (Int × Bool × Unit)) (v77 : (Int × Bool × Unit)) : (KA B call inl 9 m [1, 1, 0, 1] (FI B call inl 9)) .ret (s9_27x53 a0 x9 v72 v73 v74 v75 v76 v77) = (some ((x9, v76.fst, v77.fst, ()))) := by kernel_rfl
theorem s9_27x54_k (a0 : ByteArray) (x9 : Int) (v72 : ByteArray) (v73 : (ByteArray × Bool × Unit)) (v74 : ByteArray) (v75 : (ByteArray × ByteArray × Bool × Unit)) (v76 : (Int × Bool × Unit)) (v77 : (Int × Bool × Unit)) : (KA B call inl 9 m [1, 1, 0, 1] (FI B call inl 9)) (.exit 0) (s9_27x54 a0 x9 v72 v73 v74 v75 v76 v77) = (some (((0 : Int), (0 : Int), (0 : Int), ()))) := by kernel_rfl
theorem s9_27x56_k (a0 : ByteArray) (x9 : Int) (v72 : ByteArray) (v73 : (ByteArray × Bool × Unit)) (v74 : ByteArray) (v75 : (ByteArray × ByteArray × Bool × Unit)) (v78 : (Int × Bool × Unit)) : (KA B call inl 9 m [1, 1, 0, 1] (FI B call inl 9)) (.exit 0) (s9_27x56 a0 x9 v72 v73 v74 v75 v78) = (some (((0 : Int), (0 : Int), (0 : Int), ()))) := by kernel_rfl
theorem s9_27x57_k (a0 : ByteArray) (x9 : Int) (v72 : ByteArray) (v73 : (ByteArray × Bool × Unit)) (v74 : ByteArray) (v75 : (ByteArray × ByteArray × Bool × Unit)) (v78 : (Int × Bool × Unit)) : (KA B call inl 9 m [1, 1, 0, 1] (FI B call inl 9)) .ret (s9_27x57 a0 x9 v72 v73 v74 v75 v78) = (some ((x9, (0 : Int), v78.fst, ()))) := by kernel_rfl
theorem s9_27x58_k (a0 : ByteArray) (x9 : Int) (v72 : ByteArray) (v73 : (ByteArray × Bool × Unit)) (v74 : ByteArray) (v75 : (ByteArray × ByteArray × Bool × Unit)) (v78 : (Int × Bool × Unit)) : (KA B call inl 9 m [1, 1, 0, 1] (FI B call inl 9)) (.exit 0) (s9_27x58 a0 x9 v72 v73 v74 v75 v78) = (some (((0 : Int), (0 : Int), (0 : Int), ()))) := by kernel_rfl
theorem s9_27x60_k (a0 : ByteArray) (x9 : Int) (v72 : ByteArray) (v73 : (ByteArray × Bool × Unit)) (v74 : ByteArray) (v79 : (Int × Bool × Unit)) : (KA B call inl 9 m [1, 1, 0, 1] (FI B call inl 9)) (.exit 0) (s9_27x60 a0 x9 v72 v73 v74 v79) = (some (((0 : Int), (0 : Int), (0 : Int), ()))) := by kernel_rfl
theorem s9_27x61_k (a0 : ByteArray) (x9 : Int) (v72 : ByteArray) (v73 : (ByteArray × Bool × Unit)) (v74 : ByteArray) (v79 : (Int × Bool × Unit)) : (KA B call inl 9 m [1, 1, 0, 1] (FI B call inl 9)) .ret (s9_27x61 a0 x9 v72 v73 v74 v79) = (some ((x9, (0 : Int), v79.fst, ()))) := by kernel_rfl
theorem s9_27x62_k (a0 : ByteArray) (x9 : Int) : (KA B call inl 9 m [1, 1, 0, 1] (FI B call inl 9)) (.exit 0) (s9_27x62 a0 x9) = (some (((0 : Int), (0 : Int), (0 : Int), ()))) := by kernel_rfl
theorem t9 (a0 : ByteArray) : stepN B call inl m 9 [argAV .str a0] = (LP B call inl 9 m [1, 1, 0, 1] (s9_27 a0 ((1 : Int))) (KA B call inl 9 m [1, 1, 0, 1] (FI B call inl 9)) : Option (Int × Int × Int × Unit)) := by kernel_rfl
/-! function 10 -/
def s10_16 (a0 : ByteArray) (x4 : Int) : St := { t := [(.v .str (a0)), (.raw undef), .bad, .bad, .bad, (.v (.int .i64) (x4)), .bad, .bad, .bad, .bad, .bad, .bad, .bad, .bad, .bad, .bad, .bad, .bad, .bad, .bad, .bad, .bad, .bad, .bad, .bad, .bad, .bad, .bad, .bad, .bad, .bad, .bad, .bad, .bad, .bad, .bad, .bad, .bad, .bad, .bad, .bad, .bad, .bad, .bad, .bad, .bad, .bad, .bad, .bad, .bad, .bad, .bad, .bad, .bad, .bad, .bad, .bad, .bad, .bad, .bad, .bad, .bad, .bad, .bad, .bad, .bad, .bad, .bad], bx := [], live := 0, g := [] }
def s10_19 (a0 : ByteArray) (x4 : Int) (v17 : ByteArray) (x18 : Int) : St := { t := [(.v .str (a0)), (.raw undef), .bad, .bad, .bad, (.v (.int .i64) (x4)), (.v .str (v17)), (.v (.int .i64) ((0 : Int))), (.v (.int .i64) ((0 : Int))), (.v (.int .i64) (x18)), (.v (.int .i64) (x4)), (.v .bool (decide (x4 ≤ (8 : Int)))), .bad, .bad, (.v (.int .i64) (x4)), (.v .str (v17)), (.v (.int .i64) (x4)), (.v .bool (x4 == (7 : Int))), .bad, .bad, .bad, .bad, .bad, .bad, .bad, .bad, .bad, .bad, .bad, .bad, .bad, .bad, .bad, .bad, .bad, .bad, .bad, .bad, .bad, .bad, .bad, .bad, .bad, .bad, .bad, .bad, .bad, .bad, .bad, .bad, .bad, .bad, .bad, .bad, .bad, .bad, .bad, .bad, .bad, .bad, .bad, .bad, .bad, .bad, .bad, .bad, .bad, .bad], bx := [], live := 0, g := [] }
def s10_19x20 (y0 : ByteArray) (y1 : Int) (y2 : ByteArray) (y3 : Int) : St := { t := [(.v .str (y0)), (.raw undef), .bad, .bad, .bad, (.v (.int .i64) (y1)), (.v .str (y2)), (.v (.int .i64) ((0 : Int))), (.v (.int .i64) ((0 : Int))), (.v (.int .i64) (y3)), (.v (.int .i64) (y1)), (.v .bool (decide (y1 ≤ (8 : Int)))), .bad, .bad, (.v (.int .i64) (y1)), (.v .str (y2)), (.v (.int .i64) (y1)), (.v .bool (y1 == (7 : Int))), (.v (.int .i64) (y3)), (.v .str (y0)), (.v (.int .i64) ((↑(ByteArray.size y0) : Int))), (.v .bool (decide (y3 < (↑(ByteArray.size y0) : Int)))), (.v .bool (true)), (.v .str (y0)), (.v (.int .i64) (y3)), (.v (.int .u8) (byteAt y0 y3)), (.v .bool (byteAt y0 y3 != (45 : Int))), (.v .bool (byteAt y0 y3 != (45 : Int))), .bad, .bad, .bad, .bad, .bad, .bad, .bad, .bad, .bad, .bad, .bad, .bad, .bad, .bad, .bad, .bad, .bad, .bad, .bad, .bad, .bad, .bad, .bad, .bad, .bad, .bad, .bad, .bad, .bad, .bad, .bad, .bad, .bad, .bad, .bad, .bad, .bad, .bad, .bad, .bad], bx := [none, none, none, none, none, none, none, none, none, none], live := 0, g := [] }
def s10_19x21 (y0 : ByteArray) (y1 : Int) (y2 : ByteArray) (y3 : Int) : St := { t := [(.v .str (y0)), (.raw undef), .bad, .bad, .bad, (.v (.int .i64) (y1)), (.v .str (y2)), (.v (.int .i64) ((0 : Int))), (.v (.int .i64) ((0 : Int))), (.v (.int .i64) (y3)), (.v (.int .i64) (y1)), (.v .bool (decide (y1 ≤ (8 : Int)))), .bad, .bad, (.v (.int .i64) (y1)), (.v .str (y2)), (.v (.int .i64) (y1)), (.v .bool (y1 == (7 : Int))), (.v (.int .i64) (y3)), (.v .str (y0)), (.v (.int .i64) ((↑(ByteArray.size y0) : Int))), (.v .bool (decide (y3 < (↑(ByteArray.size y0) : Int)))), (.v .bool (!true)), (.raw undef), (.raw undef), (.raw undef), (.raw undef), (.v .bool (false)), .bad, .bad, .bad, .bad, .bad, .bad, .bad, .bad, .bad, .bad, .bad, .bad, .bad, .bad, .bad, .bad, .bad, .bad, .bad, .bad, .bad, .bad, .bad, .bad, .bad, .bad, .bad, .bad, .bad, .bad, .bad, .bad, .bad, .bad, .bad, .bad, .bad, .bad, .bad, .bad], bx := [none, none, none, none, none, none, none, none, none, none], live := 0, g := [] }
theorem s10_19_l {R : Type} (K : AEx → St → Option R) (a0 : ByteArray) (x4 : Int) (v17 : ByteArray) (x18 : Int) : LP B call inl 10 (m + 1) [1, 0, 1, 0, 1, 0, 1, 1, 0, 1, 0, 1, 0] (s10_19 a0 x4 v17 x18) K = (bif decide (x18 < (↑(ByteArray.size a0) : Int)) == true then (if (0 : Int) ≤ x18 ∧ x18 < (↑(ByteArray.size a0) : Int) then (bif byteAt a0 x18 != (45 : Int) then (LP B call inl 10 m [1, 0, 1, 0, 1, 0, 1, 1, 0, 1, 0, 1, 0] (s10_19 a0 x4 v17 (IntKind.i64.wrap (x18 + (1 : Int)))) K) else (K (.exit 2) (s10_19x20 a0 x4 v17 x18))) else (none)) else (K (.exit 2) (s10_19x21 a0 x4 v17 x18))) := by kernel_rfl
def s10_16x25 (y0 : ByteArray) (y1 : Int) (y2 : ByteArray) (y3 : Int) (y4 : Int) (y5 : Int) (y6 : ByteArray) : St := { t := [(.v .str (y0)), (.raw undef), (.v (.int .i64) (y1)), (.v (.int .i64) (y4)), (.v (.int .i64) (y5)), (.v (.int .i64) (y1)), (.v .str (y2)), (.v (.int .i64) (y4)), (.v (.int .i64) (y5)), (.v (.int .i64) (y3)), (.v (.int .i64) (y1)), (.v .bool (decide (y1 ≤ (8 : Int)))), .bad, .bad, (.v (.int .i64) (y1)), (.v .str (y2)), (.v (.int .i64) (y1)), (.v .bool (y1 == (7 : Int))), (.v (.int .i64) (y3)), (.v .str (y0)), (.v (.int .i64) ((↑(ByteArray.size y0) : Int))), (.v .bool (decide (y3 < (↑(ByteArray.size y0) : Int)))), (.v .bool (true)), (.v .str (y0)), (.v (.int .i64) (y3)), (.v (.int .u8) (byteAt y0 y3)), (.v .bool (byteAt y0 y3 != (45 : Int))), (.v .bool (byteAt y0 y3 != (45 : Int))), .bad, .bad, (.v .str (y0)), (.v (.int .i64) (y3)), (.v (.int .i64) (y4)), (.v .str (y0)), (.v (.int .i64) (y3)), (.v (.int .i64) (IntKind.i64.wrap (y3 + (1 : Int)))), (.v .str (y0)), (.v (.int .i64) ((↑(ByteArray.size y0) : Int))), (.v (.int .i64) (y5)), .bad, .bad, .bad, .bad, .bad, .bad, .bad, .bad, (.v .str (y0)), (.v .bool (!ByteArray.toList y0 == (ByteArray.mk #[]).toList)), (.v .bool (true)), (.v (.int .i64) (y4)), (.v .bool (decide (y4 ≥ (0 : Int)))), (.v .bool (decide (y4 ≥ (0 : Int)))), (.v .bool (true)), (.v (.int .i64) (y5)), (.v .bool (decide (y5 ≥ (0 : Int)))), (.v .bool (decide (y5 ≥ (0 : Int)))), (.v .bool (true)), (.v (.int .i64) (y1)), (.v (.int .i64) (y4)), (.v (.int .i64) (y5)), (.v .str (y6)), (.v .str (y0)), (.v .bool (ByteArray.toList y6 == ByteArray.toList y0)), (.v .bool (ByteArray.toList y6 == ByteArray.toList y0)), (.v (.int .i64) (y1)), (.v (.int .i64) (y4)), (.v (.int .i64) (y5))], bx := [none, none, none, none, none, none, none, none, none, none, none, none, none, none, none, none, none, none, none, none, none, none, none, none, none, none, none, none, none, none, none, none, none, none, none, none, none, none, none, none, none, none, none, none, none], live := 0, g := [] }
theorem s10_19x20_k {R : Type} (K : AEx → St → Option R) (a0 : ByteArray) (x4 : Int) (v17 : ByteArray) (x18 : Int) : (KN B call inl 10 m [1, 0, 1] [1, 0, 1, 1, 0, 1, 0, 1, 0] K) (.exit 2) (s10_19x20 a0 x4 v17 x18) = ((call 28 [(.v .str (a0)), (.v (.int .i64) ((4 : Int))), (.v (.int .i64) (x18))]).bind fun (v22 : Int) => (call 28 [(.v .str (a0)), (.v (.int .i64) (IntKind.i64.wrap (x18 + (1 : Int)))), (.v (.int .i64) ((↑(ByteArray.size a0) : Int)))]).bind fun (v23 : Int) => bif (!ByteArray.toList a0 == (ByteArray.mk #[]).toList) == true then (bif decide (v22 ≥ (0 : Int)) == true then (bif decide (v23 ≥ (0 : Int)) == true then ((call 12 [(.v (.int .i64) (x4)), (.v (.int .i64) (v22)), (.v (.int .i64) (v23))]).bind fun (v24 : ByteArray) => bif ByteArray.toList v24 == ByteArray.toList a0 then (K .ret (s10_16x25 a0 x4 v17 x18 v22 v23 v24)) else (LP B call inl 10 m [1, 0, 1] (s10_16 a0 (IntKind.i64.wrap (x4 + (1 : Int)))) K)) else (LP B call inl 10 m [1, 0, 1] (s10_16 a0 (IntKind.i64.wrap (x4 + (1 : Int)))) K)) else (LP B call inl 10 m [1, 0, 1] (s10_16 a0 (IntKind.i64.wrap (x4 + (1 : Int)))) K)) else (LP B call inl 10 m [1, 0, 1] (s10_16 a0 (IntKind.i64.wrap (x4 + (1 : Int)))) K)) := by kernel_rfl
def s10_16x29 (y0 : ByteArray) (y1 : Int) (y2 : ByteArray) (y3 : Int) (y4 : Int) (y5 : Int) (y6 : ByteArray) : St := { t := [(.v .str (y0)), (.raw undef), (.v (.int .i64) (y1)), (.v (.int .i64) (y4)), (.v (.int .i64) (y5)), (.v (.int .i64) (y1)), (.v .str (y2)), (.v (.int .i64) (y4)), (.v (.int .i64) (y5)), (.v (.int .i64) (y3)), (.v (.int .i64) (y1)), (.v .bool (decide (y1 ≤ (8 : Int)))), .bad, .bad, (.v (.int .i64) (y1)), (.v .str (y2)), (.v (.int .i64) (y1)), (.v .bool (y1 == (7 : Int))), (.v (.int .i64) (y3)), (.v .str (y0)), (.v (.int .i64) ((↑(ByteArray.size y0) : Int))), (.v .bool (decide (y3 < (↑(ByteArray.size y0) : Int)))), (.v .bool (!true)), (.raw undef), (.raw undef), (.raw undef), (.raw undef), (.v .bool (false)), .bad, .bad, (.v .str (y0)), (.v (.int .i64) (y3)), (.v (.int .i64) (y4)), (.v .str (y0)), (.v (.int .i64) (y3)), (.v (.int .i64) (IntKind.i64.wrap (y3 + (1 : Int)))), (.v .str (y0)), (.v (.int .i64) ((↑(ByteArray.size y0) : Int))), (.v (.int .i64) (y5)), .bad, .bad, .bad, .bad, .bad, .bad, .bad, .bad, (.v .str (y0)), (.v .bool (!ByteArray.toList y0 == (ByteArray.mk #[]).toList)), (.v .bool (true)), (.v (.int .i64) (y4)), (.v .bool (decide (y4 ≥ (0 : Int)))), (.v .bool (decide (y4 ≥ (0 : Int)))), (.v .bool (true)), (.v (.int .i64) (y5)), (.v .bool (decide (y5 ≥ (0 : Int)))), (.v .bool (decide (y5 ≥ (0 : Int)))), (.v .bool (true)), (.v (.int .i64) (y1)), (.v (.int .i64) (y4)), (.v (.int .i64) (y5)), (.v .str (y6)), (.v .str (y0)), (.v .bool (ByteArray.toList y6 == ByteArray.toList y0)), (.v .bool (ByteArray.toList y6 == ByteArray.toList y0)), (.v (.int .i64) (y1)), (.v (.int .i64) (y4)), (.v (.int .i64) (y5))], bx := [none, none, none, none, none, none, none, none, none, none, none, none, none, none, none, none, none, none, none, none, none, none, none, none, none, none, none, none, none, none, none, none, none, none, none, none, none, none, none, none, none, none, none, none, none], live := 0, g := [] }
theorem s10_19x21_k {R : Type} (K : AEx → St → Option R) (a0 : ByteArray) (x4 : Int) (v17 : ByteArray) (x18 : Int) : (KN B call inl 10 m [1, 0, 1] [1, 0, 1, 1, 0, 1, 0, 1, 0] K) (.exit 2) (s10_19x21 a0 x4 v17 x18) = ((call 28 [(.v .str (a0)), (.v (.int .i64) ((4 : Int))), (.v (.int .i64) (x18))]).bind fun (v26 : Int) => (call 28 [(.v .str (a0)), (.v (.int .i64) (IntKind.i64.wrap (x18 + (1 : Int)))), (.v (.int .i64) ((↑(ByteArray.size a0) : Int)))]).bind fun (v27 : Int) => bif (!ByteArray.toList a0 == (ByteArray.mk #[]).toList) == true then (bif decide (v26 ≥ (0 : Int)) == true then (bif decide (v27 ≥ (0 : Int)) == true then ((call 12 [(.v (.int .i64) (x4)), (.v (.int .i64) (v26)), (.v (.int .i64) (v27))]).bind fun (v28 : ByteArray) => bif ByteArray.toList v28 == ByteArray.toList a0 then (K .ret (s10_16x29 a0 x4 v17 x18 v26 v27 v28)) else (LP B call inl 10 m [1, 0, 1] (s10_16 a0 (IntKind.i64.wrap (x4 + (1 : Int)))) K)) else (LP B call inl 10 m [1, 0, 1] (s10_16 a0 (IntKind.i64.wrap (x4 + (1 : Int)))) K)) else (LP B call inl 10 m [1, 0, 1] (s10_16 a0 (IntKind.i64.wrap (x4 + (1 : Int)))) K)) else (LP B call inl 10 m [1, 0, 1] (s10_16 a0 (IntKind.i64.wrap (x4 + (1 : Int)))) K)) := by kernel_rfl
def s10_16x32 (y0 : ByteArray) (y1 : Int) (y2 : ByteArray) (y3 : Int) (y4 : ByteArray) : St := { t := [(.v .str (y0)), (.raw undef), (.v (.int .i64) (y1)), (.v (.int .i64) ((0 : Int))), (.v (.int .i64) (y3)), (.v (.int .i64) (y1)), (.v .str (y2)), (.v (.int .i64) ((0 : Int))), (.v (.int .i64) (y3)), .bad, (.v (.int .i64) (y1)), (.v .bool (decide (y1 ≤ (8 : Int)))), .bad, .bad, (.v (.int .i64) (y1)), (.v .str (y2)), (.v (.int .i64) (y1)), (.v .bool (y1 == (7 : Int))), .bad, .bad, .bad, .bad, .bad, .bad, .bad, .bad, .bad, .bad, .bad, .bad, .bad, .bad, .bad, .bad, .bad, .bad, .bad, .bad, .bad, (.v .str (y2)), (.v .bool (!ByteArray.toList y2 == (ByteArray.mk #[]).toList)), (.v .str (y0)), (.v .str (y2)), (.v (.int .i64) ((↑(ByteArray.size y2) : Int))), (.v .str (y0)), (.v (.int .i64) ((↑(ByteArray.size y0) : Int))), (.v (.int .i64) (y3)), (.v .str (y0)), (.v .bool (!ByteArray.toList y0 == (ByteArray.mk #[]).toList)), (.v .bool (true)), (.v (.int .i64) ((0 : Int))), (.v .bool (decide ((0 : Int) ≥ (0 : Int)))), (.v .bool (decide ((0 : Int) ≥ (0 : Int)))), (.v .bool (true)), (.v (.int .i64) (y3)), (.v .bool (decide (y3 ≥ (0 : Int)))), (.v .bool (decide (y3 ≥ (0 : Int)))), (.v .bool (true)), (.v (.int .i64) (y1)), (.v (.int .i64) ((0 : Int))), (.v (.int .i64) (y3)), (.v .str (y4)), (.v .str (y0)), (.v .bool (ByteArray.toList y4 == ByteArray.toList y0)), (.v .bool (ByteArray.toList y4 == ByteArray.toList y0)), (.v (.int .i64) (y1)), (.v (.int .i64) ((0 : Int))), (.v (.int .i64) (y3))], bx := [none, none, none, none, none, none, none, none, none, none, none, none, none, none, none, none, none, none, none, none, none, none, none, none, none, none, none, none, none, none, none, none, none, none, none, none, none, none, none, none, none, none], live := 0, g := [] }
def s10_16x34 (y0 : ByteArray) (y1 : Int) (y2 : ByteArray) (y3 : ByteArray) : St := { t := [(.v .str (y0)), (.raw undef), (.v (.int .i64) (y1)), (.v (.int .i64) ((0 : Int))), (.v (.int .i64) ((0 : Int))), (.v (.int .i64) (y1)), (.v .str (y2)), (.v (.int .i64) ((0 : Int))), (.v (.int .i64) ((0 : Int))), .bad, (.v (.int .i64) (y1)), (.v .bool (decide (y1 ≤ (8 : Int)))), .bad, .bad, (.v (.int .i64) (y1)), (.v .str (y2)), (.v (.int .i64) (y1)), (.v .bool (y1 == (7 : Int))), .bad, .bad, .bad, .bad, .bad, .bad, .bad, .bad, .bad, .bad, .bad, .bad, .bad, .bad, .bad, .bad, .bad, .bad, .bad, .bad, .bad, (.v .str (y2)), (.v .bool (!ByteArray.toList y2 == (ByteArray.mk #[]).toList)), .bad, .bad, .bad, .bad, .bad, .bad, (.v .str (y0)), (.v .bool (!ByteArray.toList y0 == (ByteArray.mk #[]).toList)), (.v .bool (true)), (.v (.int .i64) ((0 : Int))), (.v .bool (decide ((0 : Int) ≥ (0 : Int)))), (.v .bool (decide ((0 : Int) ≥ (0 : Int)))), (.v .bool (true)), (.v (.int .i64) ((0 : Int))), (.v .bool (decide ((0 : Int) ≥ (0 : Int)))), (.v .bool (decide ((0 : Int) ≥ (0 : Int)))), (.v .bool (true)), (.v (.int .i64) (y1)), (.v (.int .i64) ((0 : Int))), (.v (.int .i64) ((0 : Int))), (.v .str (y3)), (.v .str (y0)), (.v .bool (ByteArray.toList y3 == ByteArray.toList y0)), (.v .bool (ByteArray.toList y3 == ByteArray.toList y0)), (.v (.int .i64) (y1)), (.v (.int .i64) ((0 : Int))), (.v (.int .i64) ((0 : Int)))], bx := [none, none, none, none, none, none, none, none, none, none, none, none, none, none, none, none, none, none, none, none, none, none, none, none, none, none, none, none, none, none, none, none, none, none, none], live := 0, g := [] }
def s10_16x35 (y0 : ByteArray) (y1 : Int) : St := { t := [(.v .str (y0)), (.raw undef), .bad, .bad, .bad, (.v (.int .i64) (y1)), .bad, .bad, .bad, .bad, (.v (.int .i64) (y1)), (.v .bool (decide (y1 ≤ (8 : Int)))), .bad, .bad, .bad, .bad, .bad, .bad, .bad, .bad, .bad, .bad, .bad, .bad, .bad, .bad, .bad, .bad, .bad, .bad, .bad, .bad, .bad, .bad, .bad, .bad, .bad, .bad, .bad, .bad, .bad, .bad, .bad, .bad, .bad, .bad, .bad, .bad, .bad, .bad, .bad, .bad, .bad, .bad, .bad, .bad, .bad, .bad, .bad, .bad, .bad, .bad, .bad, .bad, .bad, .bad, .bad, .bad], bx := [none, none], live := 0, g := [] }
theorem s10_16_l {R : Type} (K : AEx → St → Option R) (a0 : ByteArray) (x4 : Int) : LP B call inl 10 (m + 1) [1, 0, 1] (s10_16 a0 x4) K = (bif decide (x4 ≤ (8 : Int)) then ((call 27 [(.v (.int .i64) (x4))]).bind fun (v17 : ByteArray) => bif x4 == (7 : Int) then (LP B call inl 10 m [1, 0, 1, 0, 1, 0, 1, 1, 0, 1, 0, 1, 0] (s10_19 a0 x4 v17 ((4 : Int))) (KN B call inl 10 m [1, 0, 1] [1, 0, 1, 1, 0, 1, 0, 1, 0] K)) else (bif !ByteArray.toList v17 == (ByteArray.mk #[]).toList then ((call 28 [(.v .str (a0)), (.v (.int .i64) ((↑(ByteArray.size v17) : Int))), (.v (.int .i64) ((↑(ByteArray.size a0) : Int)))]).bind fun (v30 : Int) => bif (!ByteArray.toList a0 == (ByteArray.mk #[]).toList) == true then (bif decide (v30 ≥ (0 : Int)) == true then ((call 12 [(.v (.int .i64) (x4)), (.v (.int .i64) ((0 : Int))), (.v (.int .i64) (v30))]).bind fun (v31 : ByteArray) => bif ByteArray.toList v31 == ByteArray.toList a0 then (K .ret (s10_16x32 a0 x4 v17 v30 v31)) else (LP B call inl 10 m [1, 0, 1] (s10_16 a0 (IntKind.i64.wrap (x4 + (1 : Int)))) K)) else (LP B call inl 10 m [1, 0, 1] (s10_16 a0 (IntKind.i64.wrap (x4 + (1 : Int)))) K)) else (LP B call inl 10 m [1, 0, 1] (s10_16 a0 (IntKind.i64.wrap (x4 + (1 : Int)))) K)) else (bif (!ByteArray.toList a0 == (ByteArray.mk #[]).toList) == true then ((call 12 [(.v (.int .i64) (x4)), (.v (.int .i64) ((0 : Int))), (.v (.int .i64) ((0 : Int)))]).bind fun (v33 : ByteArray) => bif ByteArray.toList v33 == ByteArray.toList a0 then (K .ret (s10_16x34 a0 x4 v17 v33)) else (LP B call inl 10 m [1, 0, 1] (s10_16 a0 (IntKind.i64.wrap (x4 + (1 : Int)))) K)) else (LP B call inl 10 m [1, 0, 1] (s10_16 a0 (IntKind.i64.wrap (x4 + (1 : Int)))) K)))) else (K (.exit 0) (s10_16x35 a0 x4))) := by kernel_rfl
theorem s10_16x25_k (a0 : ByteArray) (x4 : Int) (v36 : ByteArray) (x37 : Int) (v38 : Int) (v39 : Int) (v40 : ByteArray) : (KA B call inl 10 m [1, 0, 1] (FI B call inl 10)) .ret (s10_16x25 a0 x4 v36 x37 v38 v39 v40) = (some ((x4, v38, v39, ()))) := by kernel_rfl
theorem s10_16x29_k (a0 : ByteArray) (x4 : Int) (v36 : ByteArray) (x37 : Int) (v41 : Int) (v42 : Int) (v43 : ByteArray) : (KA B call inl 10 m [1, 0, 1] (FI B call inl 10)) .ret (s10_16x29 a0 x4 v36 x37 v41 v42 v43) = (some ((x4, v41, v42, ()))) := by kernel_rfl
theorem s10_16x32_k (a0 : ByteArray) (x4 : Int) (v36 : ByteArray) (v44 : Int) (v45 : ByteArray) : (KA B call inl 10 m [1, 0, 1] (FI B call inl 10)) .ret (s10_16x32 a0 x4 v36 v44 v45) = (some ((x4, (0 : Int), v44, ()))) := by kernel_rfl
theorem s10_16x34_k (a0 : ByteArray) (x4 : Int) (v36 : ByteArray) (v46 : ByteArray) : (KA B call inl 10 m [1, 0, 1] (FI B call inl 10)) .ret (s10_16x34 a0 x4 v36 v46) = (some ((x4, (0 : Int), (0 : Int), ()))) := by kernel_rfl
theorem s10_16x35_k (a0 : ByteArray) (x4 : Int) : (KA B call inl 10 m [1, 0, 1] (FI B call inl 10)) (.exit 0) (s10_16x35 a0 x4) = (some (((0 : Int), (0 : Int), (0 : Int), ()))) := by kernel_rfl
theorem t10 (a0 : ByteArray) : stepN B call inl m 10 [argAV .str a0] = (LP B call inl 10 m [1, 0, 1] (s10_16 a0 ((1 : Int))) (KA B call inl 10 m [1, 0, 1] (FI B call inl 10)) : Option (Int × Int × Int × Unit)) := by kernel_rfl
/-! function 11 -/
theorem t11 (a0 : Int) (a1 : Int) (a2 : Int) : stepN B call inl m 11 [argAV (.int .i64) a0, argAV (.int .i64) a1, argAV (.int .i64) a2] = ((call 24 [(.v (.int .i64) (a0))]).bind fun (v0 : ByteArray) => bif ByteArray.toList v0 == (ByteArray.mk #[]).toList then ((call 22 [(.v (.int .i64) (a0))]).bind fun (v1 : ByteArray) => some (v1)) else ((call 29 [(.v (.int .i64) (a2))]).bind fun (v2 : Bool) => bif !v2 then (some ((ByteArray.mk #[]))) else (bif a0 != (7 : Int) then ((call 30 [(.v (.int .i64) (a2))]).bind fun (v3 : ByteArray) => if (↑(ByteArray.size v0 + ByteArray.size v3) : Int) > IntKind.i64.max then (none) else (some (v0 ++ v3))) else ((call 29 [(.v (.int .i64) (a1))]).bind fun (v4 : Bool) => bif !v4 then (some ((ByteArray.mk #[]))) else ((call 30 [(.v (.int .i64) (a1))]).bind fun (v5 : ByteArray) => if (↑(ByteArray.size v0 + ByteArray.size v5) : Int) > IntKind.i64.max then (none) else (if (↑(ByteArray.size (v0 ++ v5) + (ByteArray.mk #[(45 : UInt8)]).size) : Int) > IntKind.i64.max then (none) else ((call 30 [(.v (.int .i64) (a2))]).bind fun (v6 : ByteArray) => if (↑(ByteArray.size (v0 ++ v5 ++ (ByteArray.mk #[(45 : UInt8)])) + ByteArray.size v6) : Int) > IntKind.i64.max then (none) else (some (v0 ++ v5 ++ (ByteArray.mk #[(45 : UInt8)]) ++ v6)))))))) : Option ByteArray) := by kernel_rfl
/-! function 12 -/
theorem t12 (a0 : Int) (a1 : Int) (a2 : Int) : stepN B call inl m 12 [argAV (.int .i64) a0, argAV (.int .i64) a1, argAV (.int .i64) a2] = (bif a0 == (4 : Int) then (some ((ByteArray.mk #[(99 : UInt8), (117 : UInt8), (114 : UInt8), (114 : UInt8), (101 : UInt8), (110 : UInt8), (116 : UInt8)]))) else (bif a0 == (5 : Int) then (some ((ByteArray.mk #[(116 : UInt8), (101 : UInt8), (109 : UInt8), (112 : UInt8)]))) else (bif a0 == (6 : Int) then (some ((ByteArray.mk #[(99 : UInt8), (97 : UInt8), (99 : UInt8), (104 : UInt8), (101 : UInt8)]))) else (bif (a0 == (7 : Int)) == true then ((call 31 [(.v (.int .i64) (a1))]).bind fun (v0 : Bool) => bif v0 == true then ((call 31 [(.v (.int .i64) (a2))]).bind fun (v1 : Bool) => bif v1 then ((call 32 [(.v (.int .i64) (a1))]).bind fun (v2 : ByteArray) => if (↑((ByteArray.mk #[(102 : UInt8), (97 : UInt8), (114 : UInt8), (45 : UInt8)]).size + ByteArray.size v2) : Int) > IntKind.i64.max then (none) else (if (↑(ByteArray.size ((ByteArray.mk #[(102 : UInt8), (97 : UInt8), (114 : UInt8), (45 : UInt8)]) ++ v2) + (ByteArray.mk #[(45 : UInt8)]).size) : Int) > IntKind.i64.max then (none) else ((call 32 [(.v (.int .i64) (a2))]).bind fun (v3 : ByteArray) => if (↑(ByteArray.size ((ByteArray.mk #[(102 : UInt8), (97 : UInt8), (114 : UInt8), (45 : UInt8)]) ++ v2 ++ (ByteArray.mk #[(45 : UInt8)])) + ByteArray.size v3) : Int) > IntKind.i64.max then (none) else (some ((ByteArray.mk #[(102 : UInt8), (97 : UInt8), (114 : UInt8), (45 : UInt8)]) ++ v2 ++ (ByteArray.mk #[(45 : UInt8)]) ++ v3))))) else ((call 27 [(.v (.int .i64) (a0))]).bind fun (v4 : ByteArray) => bif (!ByteArray.toList v4 == (ByteArray.mk #[]).toList) == true then ((call 31 [(.v (.int .i64) (a2))]).bind fun (v5 : Bool) => bif v5 then ((call 27 [(.v (.int .i64) (a0))]).bind fun (v6 : ByteArray) => (call 32 [(.v (.int .i64) (a2))]).bind fun (v7 : ByteArray) => if (↑(ByteArray.size v6 + ByteArray.size v7) : Int) > IntKind.i64.max then (none) else (some (v6 ++ v7))) else (some ((ByteArray.mk #[])))) else (some ((ByteArray.mk #[]))))) else ((call 27 [(.v (.int .i64) (a0))]).bind fun (v8 : ByteArray) => bif (!ByteArray.toList v8 == (ByteArray.mk #[]).toList) == true then ((call 31 [(.v (.int .i64) (a2))]).bind fun (v9 : Bool) => bif v9 then ((call 27 [(.v (.int .i64) (a0))]).bind fun (v10 : ByteArray) => (call 32 [(.v (.int .i64) (a2))]).bind fun (v11 : ByteArray) => if (↑(ByteArray.size v10 + ByteArray.size v11) : Int) > IntKind.i64.max then (none) else (some (v10 ++ v11))) else (some ((ByteArray.mk #[])))) else (some ((ByteArray.mk #[]))))) else ((call 27 [(.v (.int .i64) (a0))]).bind fun (v12 : ByteArray) => bif (!ByteArray.toList v12 == (ByteArray.mk #[]).toList) == true then ((call 31 [(.v (.int .i64) (a2))]).bind fun (v13 : Bool) => bif v13 then ((call 27 [(.v (.int .i64) (a0))]).bind fun (v14 : ByteArray) => (call 32 [(.v (.int .i64) (a2))]).bind fun (v15 : ByteArray) => if (↑(ByteArray.size v14 + ByteArray.size v15) : Int) > IntKind.i64.max then (none) else (some (v14 ++ v15))) else (some ((ByteArray.mk #[])))) else (some ((ByteArray.mk #[]))))))) : Option ByteArray) := by kernel_rfl
/-! function 22 -/
theorem t22 (a0 : Int) : stepN B call inl m 22 [argAV (.int .i64) a0] = (bif a0 == (4 : Int) then (some ((ByteArray.mk #[(99 : UInt8), (117 : UInt8), (114 : UInt8), (114 : UInt8), (101 : UInt8), (110 : UInt8), (116 : UInt8)]))) else (bif a0 == (5 : Int) then (some ((ByteArray.mk #[(116 : UInt8), (101 : UInt8), (109 : UInt8), (112 : UInt8)]))) else (bif a0 == (6 : Int) then (some ((ByteArray.mk #[(99 : UInt8), (97 : UInt8), (99 : UInt8), (104 : UInt8), (101 : UInt8)]))) else (some ((ByteArray.mk #[]))))) : Option ByteArray) := by kernel_rfl
/-! function 23 -/
theorem t23 (a0 : ByteArray) (a1 : ByteArray) : stepN B call inl m 23 [argAV .str a0, argAV .str a1] = ((call 38 [(.v .str (a0)), (.v .str (a1))]).bind fun (v0 : (ByteArray × Bool × Unit)) => some ((v0.fst, v0.snd.fst, ())) : Option (ByteArray × Bool × Unit)) := by kernel_rfl
/-! function 24 -/
theorem t24 (a0 : Int) : stepN B call inl m 24 [argAV (.int .i64) a0] = (bif a0 == (1 : Int) then (some ((ByteArray.mk #[(108 : UInt8), (111 : UInt8), (103 : UInt8), (45 : UInt8)]))) else (bif a0 == (2 : Int) then (some ((ByteArray.mk #[(116 : UInt8), (97 : UInt8), (98 : UInt8), (108 : UInt8), (101 : UInt8), (45 : UInt8)]))) else (bif a0 == (3 : Int) then (some ((ByteArray.mk #[(108 : UInt8), (105 : UInt8), (115 : UInt8), (116 : UInt8), (45 : UInt8)]))) else (bif a0 == (8 : Int) then (some ((ByteArray.mk #[(109 : UInt8), (97 : UInt8), (114 : UInt8), (107 : UInt8), (45 : UInt8)]))) else (bif a0 == (7 : Int) then (some ((ByteArray.mk #[(102 : UInt8), (97 : UInt8), (114 : UInt8), (45 : UInt8)]))) else (some ((ByteArray.mk #[]))))))) : Option ByteArray) := by kernel_rfl
/-! function 27 -/
theorem t27 (a0 : Int) : stepN B call inl m 27 [argAV (.int .i64) a0] = (bif a0 == (1 : Int) then (some ((ByteArray.mk #[(108 : UInt8), (111 : UInt8), (103 : UInt8), (45 : UInt8)]))) else (bif a0 == (2 : Int) then (some ((ByteArray.mk #[(116 : UInt8), (97 : UInt8), (98 : UInt8), (108 : UInt8), (101 : UInt8), (45 : UInt8)]))) else (bif a0 == (3 : Int) then (some ((ByteArray.mk #[(108 : UInt8), (105 : UInt8), (115 : UInt8), (116 : UInt8), (45 : UInt8)]))) else (bif a0 == (8 : Int) then (some ((ByteArray.mk #[(109 : UInt8), (97 : UInt8), (114 : UInt8), (107 : UInt8), (45 : UInt8)]))) else (some ((ByteArray.mk #[])))))) : Option ByteArray) := by kernel_rfl
/-! function 28 -/
def s28_2 (a0 : ByteArray) (a1 : Int) (a2 : Int) (x0 : Int) (x1 : Int) : St := { t := [(.v .str (a0)), (.v (.int .i64) (a1)), (.v (.int .i64) (a2)), (.raw undef), (.raw undef), (.raw undef), .bad, (.v (.int .i64) (x0)), (.v (.int .i64) (x1)), (.v (.int .i64) (a1)), (.v (.int .i64) (a2)), (.v .bool (decide (a1 ≥ a2))), (.v .bool (false)), (.v (.int .i64) (a2)), (.v (.int .i64) (a1)), (.v (.int .i64) (IntKind.i64.wrap (a2 - a1))), (.v .bool (decide (IntKind.i64.wrap (a2 - a1) > (16 : Int)))), (.v .bool (decide (IntKind.i64.wrap (a2 - a1) > (16 : Int)))), (.v (.int .i64) (a1)), .bad, .bad, .bad, .bad, .bad, .bad, .bad, .bad, .bad, .bad, .bad, .bad, .bad, .bad, .bad, .bad, .bad, .bad, .bad, .bad, .bad, .bad, .bad, (.raw undef)], bx := [], live := 0, g := [] }
def s28_2x3 (y0 : ByteArray) (y1 : Int) (y2 : Int) (y3 : Int) (y4 : Int) : St := { t := [(.v .str (y0)), (.v (.int .i64) (y1)), (.v (.int .i64) (y2)), (.raw undef), (.raw undef), (.raw undef), (.v (.int .i64) ((-1 : Int))), (.v (.int .i64) (y3)), (.v (.int .i64) (y4)), (.v (.int .i64) (y1)), (.v (.int .i64) (y2)), (.v .bool (decide (y1 ≥ y2))), (.v .bool (false)), (.v (.int .i64) (y2)), (.v (.int .i64) (y1)), (.v (.int .i64) (IntKind.i64.wrap (y2 - y1))), (.v .bool (decide (IntKind.i64.wrap (y2 - y1) > (16 : Int)))), (.v .bool (decide (IntKind.i64.wrap (y2 - y1) > (16 : Int)))), (.v (.int .i64) (y1)), (.v (.int .i64) (y4)), (.v (.int .i64) (y2)), (.v .bool (decide (y4 < y2))), .bad, .bad, (.v .str (y0)), (.v (.int .i64) (y4)), (.v (.int .u8) (byteAt y0 y4)), (.v .bool (decide (byteAt y0 y4 < (48 : Int)))), (.v .bool (false)), (.v .str (y0)), (.v (.int .i64) (y4)), (.v (.int .u8) (byteAt y0 y4)), (.v .bool (decide (byteAt y0 y4 > (57 : Int)))), (.v .bool (decide (byteAt y0 y4 > (57 : Int)))), .bad, .bad, .bad, .bad, .bad, .bad, .bad, .bad, (.raw undef)], bx := [none, none, none, none, none, none, none, none, none, none, none, none, none, none], live := 0, g := [] }
def s28_2x4 (y0 : ByteArray) (y1 : Int) (y2 : Int) (y3 : Int) (y4 : Int) : St := { t := [(.v .str (y0)), (.v (.int .i64) (y1)), (.v (.int .i64) (y2)), (.raw undef), (.raw undef), (.raw undef), (.v (.int .i64) ((-1 : Int))), (.v (.int .i64) (y3)), (.v (.int .i64) (y4)), (.v (.int .i64) (y1)), (.v (.int .i64) (y2)), (.v .bool (decide (y1 ≥ y2))), (.v .bool (false)), (.v (.int .i64) (y2)), (.v (.int .i64) (y1)), (.v (.int .i64) (IntKind.i64.wrap (y2 - y1))), (.v .bool (decide (IntKind.i64.wrap (y2 - y1) > (16 : Int)))), (.v .bool (decide (IntKind.i64.wrap (y2 - y1) > (16 : Int)))), (.v (.int .i64) (y1)), (.v (.int .i64) (y4)), (.v (.int .i64) (y2)), (.v .bool (decide (y4 < y2))), .bad, .bad, (.v .str (y0)), (.v (.int .i64) (y4)), (.v (.int .u8) (byteAt y0 y4)), (.v .bool (decide (byteAt y0 y4 < (48 : Int)))), (.v .bool (!false)), (.raw undef), (.raw undef), (.raw undef), (.raw undef), (.v .bool (true)), .bad, .bad, .bad, .bad, .bad, .bad, .bad, .bad, (.raw undef)], bx := [none, none, none, none, none, none, none, none, none, none, none, none, none, none], live := 0, g := [] }
def s28_2x5 (y0 : ByteArray) (y1 : Int) (y2 : Int) (y3 : Int) (y4 : Int) : St := { t := [(.v .str (y0)), (.v (.int .i64) (y1)), (.v (.int .i64) (y2)), (.raw undef), (.raw undef), (.raw undef), .bad, (.v (.int .i64) (y3)), (.v (.int .i64) (y4)), (.v (.int .i64) (y1)), (.v (.int .i64) (y2)), (.v .bool (decide (y1 ≥ y2))), (.v .bool (false)), (.v (.int .i64) (y2)), (.v (.int .i64) (y1)), (.v (.int .i64) (IntKind.i64.wrap (y2 - y1))), (.v .bool (decide (IntKind.i64.wrap (y2 - y1) > (16 : Int)))), (.v .bool (decide (IntKind.i64.wrap (y2 - y1) > (16 : Int)))), (.v (.int .i64) (y1)), (.v (.int .i64) (y4)), (.v (.int .i64) (y2)), (.v .bool (decide (y4 < y2))), .bad, .bad, .bad, .bad, .bad, .bad, .bad, .bad, .bad, .bad, .bad, .bad, .bad, .bad, .bad, .bad, .bad, .bad, .bad, .bad, (.raw undef)], bx := [none, none, none], live := 0, g := [] }
theorem s28_2_l {R : Type} (K : AEx → St → Option R) (a0 : ByteArray) (a1 : Int) (a2 : Int) (x0 : Int) (x1 : Int) : LP B call inl 28 (m + 1) [1, 1, 1, 0, 1] (s28_2 a0 a1 a2 x0 x1) K = (bif decide (x1 < a2) then (if (0 : Int) ≤ x1 ∧ x1 < (↑(ByteArray.size a0) : Int) then (bif decide (byteAt a0 x1 < (48 : Int)) == false then (if (0 : Int) ≤ x1 ∧ x1 < (↑(ByteArray.size a0) : Int) then (bif decide (byteAt a0 x1 > (57 : Int)) then (K .ret (s28_2x3 a0 a1 a2 x0 x1)) else (if (0 : Int) ≤ x1 ∧ x1 < (↑(ByteArray.size a0) : Int) then (LP B call inl 28 m [1, 1, 1, 0, 1] (s28_2 a0 a1 a2 (IntKind.i64.wrap (IntKind.i64.wrap ((10 : Int) * x0) + IntKind.i64.wrap (IntKind.u8.wrap (byteAt a0 x1 - (48 : Int))))) (IntKind.i64.wrap (x1 + (1 : Int)))) K) else (none))) else (none)) else (K .ret (s28_2x4 a0 a1 a2 x0 x1))) else (none)) else (K (.exit 0) (s28_2x5 a0 a1 a2 x0 x1))) := by kernel_rfl
theorem s28_2x3_k (a0 : ByteArray) (a1 : Int) (a2 : Int) (x0 : Int) (x1 : Int) : (KA B call inl 28 m [1, 1, 1, 0, 1] (FI B call inl 28)) .ret (s28_2x3 a0 a1 a2 x0 x1) = (some ((-1 : Int))) := by kernel_rfl
theorem s28_2x4_k (a0 : ByteArray) (a1 : Int) (a2 : Int) (x0 : Int) (x1 : Int) : (KA B call inl 28 m [1, 1, 1, 0, 1] (FI B call inl 28)) .ret (s28_2x4 a0 a1 a2 x0 x1) = (some ((-1 : Int))) := by kernel_rfl
theorem s28_2x5_k (a0 : ByteArray) (a1 : Int) (a2 : Int) (x0 : Int) (x1 : Int) : (KA B call inl 28 m [1, 1, 1, 0, 1] (FI B call inl 28)) (.exit 0) (s28_2x5 a0 a1 a2 x0 x1) = (some (x0)) := by kernel_rfl
theorem t28 (a0 : ByteArray) (a1 : Int) (a2 : Int) : stepN B call inl m 28 [argAV .str a0, argAV (.int .i64) a1, argAV (.int .i64) a2] = (bif decide (a1 ≥ a2) == false then (bif decide (IntKind.i64.wrap (a2 - a1) > (16 : Int)) then (some ((-1 : Int))) else (LP B call inl 28 m [1, 1, 1, 0, 1] (s28_2 a0 a1 a2 ((0 : Int)) (a1)) (KA B call inl 28 m [1, 1, 1, 0, 1] (FI B call inl 28)))) else (some ((-1 : Int))) : Option Int) := by kernel_rfl
/-! function 29 -/
theorem t29 (a0 : Int) : stepN B call inl m 29 [argAV (.int .i64) a0] = (bif decide (a0 ≥ (0 : Int)) == true then (some (decide (a0 ≤ (9007199254740992 : Int)))) else (some (false)) : Option Bool) := by kernel_rfl
/-! function 31 -/
theorem t31 (a0 : Int) : stepN B call inl m 31 [argAV (.int .i64) a0] = (bif decide (a0 ≥ (0 : Int)) == true then (some (decide (a0 ≤ (9007199254740992 : Int)))) else (some (false)) : Option Bool) := by kernel_rfl
/-! function 32 -/
def s32_2 (x0 : Int) (x1 : ByteArray) : St := { t := [(.v (.int .i64) (x0)), (.raw undef), (.v .str ((ByteArray.mk #[]))), (.v .str (x1)), .bad, .bad, .bad, .bad, .bad, .bad, .bad, .bad, .bad, .bad, .bad, .bad, (.raw undef), (.raw undef), (.raw undef), (.raw undef), (.raw undef), (.raw undef), (.raw undef)], bx := [], live := 0, g := [] }
def s32_2x3 (y0 : Int) (y1 : ByteArray) : St := { t := [(.v (.int .i64) (y0)), (.raw undef), (.v .str ((ByteArray.mk #[]))), (.v .str (y1)), (.v (.int .i64) (y0)), (.v .bool (decide (y0 ≥ (10 : Int)))), .bad, .bad, .bad, .bad, .bad, .bad, .bad, .bad, .bad, .bad, (.raw undef), (.raw undef), (.raw undef), (.raw undef), (.raw undef), (.raw undef), (.raw undef)], bx := [none, none], live := 0, g := [] }
theorem s32_2_l {R : Type} (K : AEx → St → Option R) (x0 : Int) (x1 : ByteArray) : LP B call inl 32 (m + 1) [1, 1, 0] (s32_2 x0 x1) K = (bif decide (x0 ≥ (10 : Int)) then (if (↑((strOf [IntKind.u8.wrap (IntKind.i64.wrap ((48 : Int) + Int.tmod x0 (10 : Int)))]).size + x1.size) : Int) > IntKind.i64.max then (none) else (LP B call inl 32 m [1, 1, 0] (s32_2 (IntKind.i64.wrap (Int.tdiv x0 (10 : Int))) (strOf [IntKind.u8.wrap (IntKind.i64.wrap ((48 : Int) + Int.tmod x0 (10 : Int)))] ++ x1)) K)) else (K (.exit 0) (s32_2x3 x0 x1))) := by kernel_rfl
theorem s32_2x3_k (x0 : Int) (x1 : ByteArray) : (KA B call inl 32 m [1, 1, 0] (FI B call inl 32)) (.exit 0) (s32_2x3 x0 x1) = (if (↑((strOf [IntKind.u8.wrap (IntKind.i64.wrap ((48 : Int) + x0))]).size + x1.size) : Int) > IntKind.i64.max then (none) else (some (strOf [IntKind.u8.wrap (IntKind.i64.wrap ((48 : Int) + x0))] ++ x1))) := by kernel_rfl
theorem t32 (a0 : Int) : stepN B call inl m 32 [argAV (.int .i64) a0] = (LP B call inl 32 m [1, 1, 0] (s32_2 (a0) ((ByteArray.mk #[]))) (KA B call inl 32 m [1, 1, 0] (FI B call inl 32)) : Option ByteArray) := by kernel_rfl
/-! function 38 -/
theorem t38 (a0 : ByteArray) (a1 : ByteArray) : stepN B call inl m 38 [argAV .str a0, argAV .str a1] = ((call 51 [(.v .str (a0)), (.v .str (a1))]).bind fun (v0 : Bool) => bif !v0 then (some ((a0, false, ()))) else (if (0 : Int) ≤ (↑(ByteArray.size a1) : Int) ∧ (↑(ByteArray.size a1) : Int) ≤ (↑(ByteArray.size a0) : Int) then (some ((ByteArray.extract a0 (↑(ByteArray.size a1) : Int).toNat (ByteArray.size a0), true, ()))) else (none)) : Option (ByteArray × Bool × Unit)) := by kernel_rfl
/-! function 51 -/
theorem t51 (a0 : ByteArray) (a1 : ByteArray) : stepN B call inl m 51 [argAV .str a0, argAV .str a1] = (bif decide ((↑(ByteArray.size a0) : Int) ≥ (↑(ByteArray.size a1) : Int)) == true then (if (0 : Int) ≤ (↑(ByteArray.size a1) : Int) ∧ (↑(ByteArray.size a1) : Int) ≤ (↑(ByteArray.size a0) : Int) then (some ((ByteArray.extract a0 (0 : Nat) (↑(ByteArray.size a1) : Int).toNat).toList == ByteArray.toList a1)) else (none)) else (some (false)) : Option Bool) := by kernel_rfl
end
end Go.Eng.Bk
/- Names: what the small functions answer. -/
namespace Go.Eng.Bk
open Go Go.Proofs Go.Eng
set_option linter.unusedVariables false
set_option linter.unusedSimpArgs false
set_option maxRecDepth 100000
abbrev curS : ByteArray := { data := #[(99 : UInt8), (117 : UInt8), (114 : UInt8), (114 : UInt8), (101 : UInt8), (110 : UInt8), (116 : UInt8)] }
abbrev tmpS : ByteArray := { data := #[(116 : UInt8), (101 : UInt8), (109 : UInt8), (112 : UInt8)] }
abbrev cacS : ByteArray := { data := #[(99 : UInt8), (97 : UInt8), (99 : UInt8), (104 : UInt8), (101 : UInt8)] }
abbrev logS : ByteArray := { data := #[(108 : UInt8), (111 : UInt8), (103 : UInt8), (45 : UInt8)] }
abbrev tabS : ByteArray := { data := #[(116 : UInt8), (97 : UInt8), (98 : UInt8), (108 : UInt8), (101 : UInt8), (45 : UInt8)] }
abbrev lisS : ByteArray := { data := #[(108 : UInt8), (105 : UInt8), (115 : UInt8), (116 : UInt8), (45 : UInt8)] }
abbrev marS : ByteArray := { data := #[(109 : UInt8), (97 : UInt8), (114 : UInt8), (107 : UInt8), (45 : UInt8)] }
abbrev farS : ByteArray := { data := #[(102 : UInt8), (97 : UInt8), (114 : UInt8), (45 : UInt8)] }
abbrev dash : ByteArray := { data := #[(45 : UInt8)] }
abbrev noS : ByteArray := { data := #[] }
def wholeB (a0 : Int) : ByteArray := bif a0 == (4 : Int) then curS else bif a0 == (5 : Int) then tmpS else bif a0 == (6 : Int) then cacS else noS
def headB (a0 : Int) : ByteArray := bif a0 == (1 : Int) then logS else bif a0 == (2 : Int) then tabS else bif a0 == (3 : Int) then lisS else bif a0 == (8 : Int) then marS else bif a0 == (7 : Int) then farS else noS
def wordB (a0 : Int) : ByteArray := bif a0 == (1 : Int) then logS else bif a0 == (2 : Int) then tabS else bif a0 == (3 : Int) then lisS else bif a0 == (8 : Int) then marS else noS
def mayI (n : Int) : Bool := decide (0 ≤ n ∧ n ≤ 9007199254740992)
theorem seq_dec (a b : ByteArray) : (ByteArray.toList a == ByteArray.toList b) = decide (a = b) := by
  by_cases h : a = b
  · rw [decide_eq_true h, h]; exact beq_self_eq_true _
  · rw [decide_eq_false h]
    exact beq_eq_false_iff_ne.2 fun e => h (ba_ext e)
theorem s22 {k : Nat} (hk : 1 ≤ k) (x : Int) : callN B k 22 [.v i64 x] = (some (wholeB x) : Option ByteArray) := by
  obtain ⟨k, rfl⟩ := Nat.exists_eq_add_of_le' hk
  refine (callS k 22 _).trans ((t22 (callN B k) (lvl B k).2 k x).trans ?_)
  unfold wholeB
  cases x == (4 : Int) <;> cases x == (5 : Int) <;> cases x == (6 : Int) <;> rfl
theorem s24 {k : Nat} (hk : 1 ≤ k) (x : Int) : callN B k 24 [.v i64 x] = (some (headB x) : Option ByteArray) := by
  obtain ⟨k, rfl⟩ := Nat.exists_eq_add_of_le' hk
  refine (callS k 24 _).trans ((t24 (callN B k) (lvl B k).2 k x).trans ?_)
  unfold headB
  cases x == (1 : Int) <;> cases x == (2 : Int) <;> cases x == (3 : Int) <;> cases x == (8 : Int) <;> cases x == (7 : Int) <;> rfl
theorem s27 {k : Nat} (hk : 1 ≤ k) (x : Int) : callN B k 27 [.v i64 x] = (some (wordB x) : Option ByteArray) := by
  obtain ⟨k, rfl⟩ := Nat.exists_eq_add_of_le' hk
  refine (callS k 27 _).trans ((t27 (callN B k) (lvl B k).2 k x).trans ?_)
  unfold wordB
  cases x == (1 : Int) <;> cases x == (2 : Int) <;> cases x == (3 : Int) <;> cases x == (8 : Int) <;> rfl
theorem may_tree (n : Int) : (bif Decidable.decide (n ≥ (0 : Int)) == Bool.true then (some (Decidable.decide (n ≤ (9007199254740992 : Int)))) else (some (Bool.false)) : Option Bool) = some (mayI n) := by
  unfold mayI
  by_cases h : (0 : Int) ≤ n
  · by_cases h2 : n ≤ 9007199254740992
    · rw [decide_eq_true (show n ≥ 0 from h), decide_eq_true h2, decide_eq_true (⟨h, h2⟩ : 0 ≤ n ∧ n ≤ 9007199254740992)]; rfl
    · rw [decide_eq_true (show n ≥ 0 from h), decide_eq_false h2, decide_eq_false (fun hh : 0 ≤ n ∧ n ≤ 9007199254740992 => h2 hh.2)]; rfl
  · rw [decide_eq_false (show ¬ n ≥ 0 from h), decide_eq_false (fun hh : 0 ≤ n ∧ n ≤ 9007199254740992 => h hh.1)]; rfl
theorem s29 {k : Nat} (hk : 1 ≤ k) (n : Int) : callN B k 29 [.v i64 n] = (some (mayI n) : Option Bool) := by
  obtain ⟨k, rfl⟩ := Nat.exists_eq_add_of_le' hk
  exact (callS k 29 _).trans ((t29 (callN B k) (lvl B k).2 k n).trans (may_tree n))
theorem s31 {k : Nat} (hk : 1 ≤ k) (n : Int) : callN B k 31 [.v i64 n] = (some (mayI n) : Option Bool) := by
  obtain ⟨k, rfl⟩ := Nat.exists_eq_add_of_le' hk
  exact (callS k 31 _).trans ((t31 (callN B k) (lvl B k).2 k n).trans (may_tree n))
theorem s30 {k : Nat} (hk : 1 ≤ k) {n : Int} (h0 : -9223372036854775808 ≤ n) (h1 : n ≤ 9223372036854775807) : callN B k 30 [.v i64 n] = (some (itoaB n) : Option ByteArray) := by
  obtain ⟨k, rfl⟩ := Nat.exists_eq_add_of_le' hk
  refine (callS k 30 _).trans ?_
  show (if (-9223372036854775808 : Int) ≤ n ∧ (n : Int) ≤ 9223372036854775807 then some (itoaB n) else none) = _
  rw [if_pos ⟨h0, h1⟩]
theorem s26 {k : Nat} (hk : 1 ≤ k) {s : ByteArray} (hs : s.size ≤ 281474976710656) : callN B k 26 [.v .str s] = (some (numB s) : Option (Int × (Bool × Unit))) := by
  obtain ⟨k, rfl⟩ := Nat.exists_eq_add_of_le' hk
  refine (callS k 26 _).trans ?_
  show (if s.size ≤ 281474976710656 then some (numB s) else none) = _
  rw [if_pos hs]
theorem s25 {k : Nat} (hk : 1 ≤ k) {s p : ByteArray} (hs : s.size < 4294967281) : callN B k 25 [.v .str s, .v .str p] = (some (cutB s p) : Option (ByteArray × (ByteArray × (Bool × Unit)))) := by
  obtain ⟨k, rfl⟩ := Nat.exists_eq_add_of_le' hk
  refine (callS k 25 _).trans ?_
  show (if s.size < 4294967281 then some (cutB s p) else none) = _
  rw [if_pos hs]
/-! digits -/
theorem l32 {call : CallT B} {inl : InlT} (m0 : Nat) (d : Nat) : ∀ (n m : Nat) (acc : ByteArray), n < 10 ^ (d + 1) → n < 9223372036854775808 → acc.size + d < 1000 → d < m → d < 20 →
    LP B call inl 32 m [1, 1, 0] (s32_2 (n : Int) acc) (KA B call inl 32 m0 [1, 1, 0] (FI B call inl 32)) = (some (dgA (d + 1) n acc) : Option ByteArray) := by
  have hmax : IntKind.i64.max = 9223372036854775807 := by decide
  have last : ∀ (d n m : Nat) (acc : ByteArray), n < 10 → acc.size < 1000 → LP B call inl 32 (m + 1) [1, 1, 0] (s32_2 (n : Int) acc) (KA B call inl 32 m0 [1, 1, 0] (FI B call inl 32)) = (some (dgA (d + 1) n acc) : Option ByteArray) := by
    intro d n m acc h ho
    have e1 : IntKind.u8.wrap (IntKind.i64.wrap ((48 : Int) + (n : Int))) = ((48 + n : Nat) : Int) := by rw [w64 (by omega) (by omega), wu8]; omega
    have e2 : (strOf [((48 + n : Nat) : Int)]).size = 1 := by rw [strOf_len]; rfl
    rw [s32_2_l, bF (by omega), s32_2x3_k, e1, if_neg (by rw [hmax, e2]; omega)]
    simp only [dgA]
    rw [if_neg (by omega)]
  induction d with
  | zero =>
    intro n m acc h hn ho hm hd
    obtain ⟨m, rfl⟩ : ∃ k, m = k + 1 := ⟨m - 1, by omega⟩
    exact last 0 n m acc (by simpa using h) (by omega)
  | succ d ih =>
    intro n m acc h hn ho hm hd
    obtain ⟨m, rfl⟩ : ∃ k, m = k + 1 := ⟨m - 1, by omega⟩
    by_cases h1 : n < 10
    · exact last (d + 1) n m acc h1 (by omega)
    · have e0 : Int.tmod (n : Int) (10 : Int) = ((n % 10 : Nat) : Int) := rfl
      have e3 : Int.tdiv (n : Int) (10 : Int) = ((n / 10 : Nat) : Int) := rfl
      have e1 : IntKind.u8.wrap (IntKind.i64.wrap ((48 : Int) + ((n % 10 : Nat) : Int))) = ((48 + n % 10 : Nat) : Int) := by rw [w64 (by omega) (by omega), wu8]; omega
      have e2 : (strOf [((48 + n % 10 : Nat) : Int)]).size = 1 := by rw [strOf_len]; rfl
      rw [s32_2_l, bT (by omega), e0, e3, e1, if_neg (by rw [hmax, e2]; omega), w64 (x := ((n / 10 : Nat) : Int)) (by omega) (by omega)]
      refine (ih (n / 10) m _ (by rw [Nat.pow_succ] at h; omega) (by omega) (by rw [ByteArray.size_append, e2]; omega) (by omega) (by omega)).trans ?_
      have : dgA (d + 1 + 1) n acc = dgA (d + 1) (n / 10) (strOf [((48 + n % 10 : Nat) : Int)] ++ acc) := by
        conv => lhs; unfold dgA
        rw [if_pos (by omega)]
      rw [this]
theorem s32 {k : Nat} (hk : 24 ≤ k) (n : Nat) (hn : n < 9223372036854775808) : callN B k 32 [.v i64 (n : Int)] = (some (itoaB (n : Int)) : Option ByteArray) := by
  obtain ⟨k, rfl⟩ := Nat.exists_eq_add_of_le' (show 1 ≤ k by omega)
  refine (callS k 32 _).trans ((t32 (callN B k) (lvl B k).2 k (n : Int)).trans ?_)
  rw [← dg_itoa (by omega)]
  exact l32 k 19 n k ⟨#[]⟩ (by rw [show (10 : Nat) ^ (19 + 1) = 100000000000000000000 from by decide]; omega) hn (by decide) (by omega) (by omega)
end Go.Eng.Bk
/- Names: a name's text. -/
namespace Go.Eng.Bk
open Go Go.Proofs Go.Eng
set_option linter.unusedVariables false
set_option linter.unusedSimpArgs false
set_option maxRecDepth 100000
def nameB (k e n : Int) : ByteArray := if headB k = noS then wholeB k else if mayI n = false then noS else if k = 7 then (if mayI e = false then noS else headB k ++ itoaB e ++ dash ++ itoaB n) else headB k ++ itoaB n
theorem head_cases (k : Int) : (k = 1 ∧ headB k = logS) ∨ (k = 2 ∧ headB k = tabS) ∨ (k = 3 ∧ headB k = lisS) ∨ (k = 8 ∧ headB k = marS) ∨ (k = 7 ∧ headB k = farS) ∨ ((k ≠ 1 ∧ k ≠ 2 ∧ k ≠ 3 ∧ k ≠ 8 ∧ k ≠ 7) ∧ headB k = noS) := by
  by_cases h1 : k = 1
  · exact .inl ⟨h1, by rw [h1]; rfl⟩
  by_cases h2 : k = 2
  · exact .inr (.inl ⟨h2, by rw [h2]; rfl⟩)
  by_cases h3 : k = 3
  · exact .inr (.inr (.inl ⟨h3, by rw [h3]; rfl⟩))
  by_cases h8 : k = 8
  · exact .inr (.inr (.inr (.inl ⟨h8, by rw [h8]; rfl⟩)))
  by_cases h7 : k = 7
  · exact .inr (.inr (.inr (.inr (.inl ⟨h7, by rw [h7]; rfl⟩))))
  · refine .inr (.inr (.inr (.inr (.inr ⟨⟨h1, h2, h3, h8, h7⟩, ?_⟩))))
    unfold headB
    rw [beq_false_of_ne h1, beq_false_of_ne h2, beq_false_of_ne h3, beq_false_of_ne h8, beq_false_of_ne h7]
    rfl
theorem head_size (k : Int) : (headB k).size ≤ 6 := by
  rcases head_cases k with ⟨_, h⟩ | ⟨_, h⟩ | ⟨_, h⟩ | ⟨_, h⟩ | ⟨_, h⟩ | ⟨_, h⟩ <;> rw [h] <;> decide
theorem word_eq {k : Int} (h : k ≠ 7) : wordB k = headB k := by
  unfold wordB headB
  rw [beq_false_of_ne h]
  rfl
theorem mayI_t {n : Int} (h : mayI n = true) : 0 ≤ n ∧ n ≤ 9007199254740992 := of_decide_eq_true h
theorem max64 : IntKind.i64.max = 9223372036854775807 := by decide
theorem s11 {k : Nat} (hk : 2 ≤ k) (a0 a1 a2 : Int) : callN B k 11 [.v i64 a0, .v i64 a1, .v i64 a2] = (some (nameB a0 a1 a2) : Option ByteArray) := by
  obtain ⟨k, rfl⟩ := Nat.exists_eq_add_of_le' (show 1 ≤ k by omega)
  refine (callS k 11 _).trans ((t11 (callN B k) (lvl B k).2 k a0 a1 a2).trans ?_)
  refine bnd (s24 (by omega) a0) ?_
  rw [seq_dec]
  have hs := head_size a0
  have hd : ({ data := #[(45 : UInt8)] } : ByteArray).size = 1 := rfl
  unfold nameB
  by_cases hh : headB a0 = noS
  · rw [bT hh, if_pos hh]
    exact bnd (s22 (by omega) a0) rfl
  · rw [bF hh, if_neg hh]
    refine bnd (s29 (by omega) a2) ?_
    cases hm : mayI a2 with
    | false => rfl
    | true =>
      obtain ⟨m0, m1⟩ := mayI_t hm
      have z2 := itoaB_size m0 m1
      rw [if_neg (by decide)]
      show (bif a0 != (7 : Int) then _ else _) = _
      by_cases h7 : a0 = 7
      · rw [if_pos h7, show (a0 != (7 : Int)) = false by rw [h7]; rfl]
        refine bnd (s29 (by omega) a1) ?_
        cases hm1 : mayI a1 with
        | false => rfl
        | true =>
          obtain ⟨n0, n1⟩ := mayI_t hm1
          have z1 := itoaB_size n0 n1
          rw [if_neg (by decide)]
          refine bnd (s30 (by omega) (by omega) (by omega)) ?_
          rw [max64, if_neg (by omega), if_neg (by rw [ByteArray.size_append]; omega)]
          refine bnd (s30 (by omega) (by omega) (by omega)) ?_
          rw [if_neg (by rw [ByteArray.size_append, ByteArray.size_append]; omega)]
      · rw [if_neg h7, show (a0 != (7 : Int)) = true from bne_iff_ne.2 h7]
        refine bnd (s30 (by omega) (by omega) (by omega)) ?_
        rw [max64, if_neg (by omega)]
theorem s12 {k : Nat} (hk : 25 ≤ k) (a0 a1 a2 : Int) : callN B k 12 [.v i64 a0, .v i64 a1, .v i64 a2] = (some (nameB a0 a1 a2) : Option ByteArray) := by
  obtain ⟨k, rfl⟩ := Nat.exists_eq_add_of_le' (show 1 ≤ k by omega)
  refine (callS k 12 _).trans ((t12 (callN B k) (lvl B k).2 k a0 a1 a2).trans ?_)
  have digs : ∀ {n : Int}, 0 ≤ n → n ≤ 9007199254740992 → callN B k 32 [.v i64 n] = (some (itoaB n) : Option ByteArray) := fun {n} h0 h1 => by
    obtain ⟨m, rfl⟩ := Int.eq_ofNat_of_zero_le h0
    exact s32 (by omega) m (by omega)
  by_cases h4 : a0 = 4
  · subst h4; rfl
  by_cases h5 : a0 = 5
  · subst h5; rfl
  by_cases h6 : a0 = 6
  · subst h6; rfl
  rw [beq_false_of_ne h4, beq_false_of_ne h5, beq_false_of_ne h6]
  have hd : ({ data := #[(45 : UInt8)] } : ByteArray).size = 1 := rfl
  have hf : ({ data := #[(102 : UInt8), (97 : UInt8), (114 : UInt8), (45 : UInt8)] } : ByteArray).size = 4 := rfl
  have hw : wholeB a0 = noS := by unfold wholeB; rw [beq_false_of_ne h4, beq_false_of_ne h5, beq_false_of_ne h6]; rfl
  by_cases h7 : a0 = 7
  · subst h7
    have hn : wordB 7 = noS := rfl
    have tail : ((callN B k 27 [(.v (.int .i64) ((7 : Int)))] : Option ByteArray).bind fun (v4 : ByteArray) => bif (!ByteArray.toList v4 == noS.toList) == Bool.true then ((callN B k 31 [(.v (.int .i64) (a2))] : Option Bool).bind fun (v5 : Bool) => bif v5 then ((callN B k 27 [(.v (.int .i64) ((7 : Int)))] : Option ByteArray).bind fun (v6 : ByteArray) => (callN B k 32 [(.v (.int .i64) (a2))] : Option ByteArray).bind fun (v7 : ByteArray) => if (↑(ByteArray.size v6 + ByteArray.size v7) : Int) > Go.IntKind.i64.max then (none) else (some (v6 ++ v7))) else (some noS)) else (some noS)) = some noS := by
      refine bnd (s27 (by omega) 7) ?_
      rw [hn, seq_dec, decide_eq_true rfl]
      rfl
    have hh : headB 7 = farS := rfl
    unfold nameB
    rw [if_neg (by rw [hh]; decide), hh]
    refine bnd (s31 (by omega) a1) ?_
    cases hm1 : mayI a1 with
    | false =>
      refine tail.trans ?_
      rw [if_pos rfl]
      cases mayI a2 <;> rfl
    | true =>
      refine bnd (s31 (by omega) a2) ?_
      cases hm : mayI a2 with
      | false => exact tail
      | true =>
        obtain ⟨m0, m1⟩ := mayI_t hm
        obtain ⟨n0, n1⟩ := mayI_t hm1
        have z2 := itoaB_size m0 m1
        have z1 := itoaB_size n0 n1
        refine bnd (digs n0 n1) ?_
        rw [max64, if_neg (by omega), if_neg (by rw [ByteArray.size_append]; omega)]
        refine bnd (digs m0 m1) ?_
        rw [if_neg (by rw [ByteArray.size_append, ByteArray.size_append]; omega)]
        rfl
  · rw [beq_false_of_ne h7]
    have hwd := word_eq h7
    have hs := head_size a0
    refine bnd (s27 (by omega) a0) ?_
    rw [hwd, seq_dec]
    unfold nameB
    by_cases hh : headB a0 = noS
    · rw [if_pos hh, hw, decide_eq_true hh]; rfl
    · rw [if_neg hh, decide_eq_false hh]
      refine bnd (s31 (by omega) a2) ?_
      cases hm : mayI a2 with
      | false => rfl
      | true =>
        obtain ⟨m0, m1⟩ := mayI_t hm
        have z2 := itoaB_size m0 m1
        refine bnd (s27 (by omega) a0) ?_
        rw [hwd]
        refine bnd (digs m0 m1) ?_
        rw [max64, if_neg (by omega), if_neg h7, if_neg (by decide)]
theorem name_awake : nameB 7 3 12 = { data := #[(102 : UInt8), (97 : UInt8), (114 : UInt8), (45 : UInt8), (51 : UInt8), (45 : UInt8), (49 : UInt8), (50 : UInt8)] } := by
  have h3 : itoaB 3 = { data := #[(51 : UInt8)] } := by
    refine ba_ext ?_
    rw [ba_toList, ba_toList]
    show Lib.itoa ((3 : Nat) : Int) = _
    rw [itoa_nat, Lib.decDigits_one (by decide)]; rfl
  have h12 : itoaB 12 = { data := #[(49 : UInt8), (50 : UInt8)] } := by
    refine ba_ext ?_
    rw [ba_toList, ba_toList]
    show Lib.itoa ((12 : Nat) : Int) = _
    rw [itoa_nat, Lib.decDigits_two (by decide) (by decide)]; rfl
  unfold nameB
  rw [h3, h12]
  rfl
theorem s8 {k : Nat} (hk : 3 ≤ k) : callN B k 8 [] = (some true : Option Bool) := by
  obtain ⟨k, rfl⟩ := Nat.exists_eq_add_of_le' (show 1 ≤ k by omega)
  refine (callS k 8 _).trans ((t8 (callN B k) (lvl B k).2 k).trans ?_)
  refine bnd (s11 (by omega) 7 3 12) ?_
  rw [name_awake, seq_dec, decide_eq_true rfl]
end Go.Eng.Bk
/- Names: prefixes; what digits of a text are. -/
namespace Go.Eng.Bk
open Go Go.Proofs Go.Eng
set_option linter.unusedVariables false
set_option linter.unusedSimpArgs false
set_option maxRecDepth 100000
def prefB (s p : ByteArray) : Bool := decide (p.size ≤ s.size) && decide (s.extract 0 p.size = p)
def restB (s p : ByteArray) : ByteArray := bif prefB s p then s.extract p.size s.size else s
theorem s51 {k : Nat} (hk : 1 ≤ k) (s p : ByteArray) : callN B k 51 [.v .str s, .v .str p] = (some (prefB s p) : Option Bool) := by
  obtain ⟨k, rfl⟩ := Nat.exists_eq_add_of_le' hk
  refine (callS k 51 _).trans ((t51 (callN B k) (lvl B k).2 k s p).trans ?_)
  unfold prefB
  by_cases h : p.size ≤ s.size
  · rw [decide_eq_true (show ((s.size : Int)) ≥ ((p.size : Int)) by omega), decide_eq_true h, if_pos (by omega), seq_dec, Int.toNat_natCast]
    rfl
  · rw [decide_eq_false (show ¬ ((s.size : Int)) ≥ ((p.size : Int)) by omega), decide_eq_false h]
    rfl
theorem s38 {k : Nat} (hk : 2 ≤ k) (s p : ByteArray) : callN B k 38 [.v .str s, .v .str p] = (some (restB s p, prefB s p, ()) : Option (ByteArray × (Bool × Unit))) := by
  obtain ⟨k, rfl⟩ := Nat.exists_eq_add_of_le' (show 1 ≤ k by omega)
  refine (callS k 38 _).trans ((t38 (callN B k) (lvl B k).2 k s p).trans ?_)
  refine bnd (s51 (by omega) s p) ?_
  unfold restB
  cases h : prefB s p with
  | false => rfl
  | true =>
    have h1 : p.size ≤ s.size := by
      unfold prefB at h
      rw [Bool.and_eq_true] at h
      exact of_decide_eq_true h.1
    show (if _ then _ else _) = _
    rw [if_pos (by omega), Int.toNat_natCast]
    rfl
theorem s23 {k : Nat} (hk : 3 ≤ k) (s p : ByteArray) : callN B k 23 [.v .str s, .v .str p] = (some (restB s p, prefB s p, ()) : Option (ByteArray × (Bool × Unit))) := by
  obtain ⟨k, rfl⟩ := Nat.exists_eq_add_of_le' (show 1 ≤ k by omega)
  refine (callS k 23 _).trans ((t23 (callN B k) (lvl B k).2 k s p).trans ?_)
  exact bnd (s38 (by omega) s p) rfl
theorem ext_l (a b : ByteArray) : (a ++ b).extract 0 a.size = a := by
  rw [ByteArray.extract_append]
  simp
theorem ext_r (a b : ByteArray) : (a ++ b).extract a.size (a ++ b).size = b := by
  apply ByteArray.ext
  rw [ByteArray.data_extract, ByteArray.data_append]
  have e1 : a.size = a.data.size := rfl
  have e2 : (a ++ b).size = a.data.size + b.data.size := by rw [ByteArray.size_append]; rfl
  rw [e1, e2]
  rw [← Array.toList_inj]
  simp only [Array.toList_extract, Array.toList_append, List.extract_eq_take_drop]
  rw [List.drop_append_of_le_length (by rw [Array.length_toList]; exact Nat.le_refl _), List.drop_of_length_le (by rw [Array.length_toList]; exact Nat.le_refl _), List.nil_append, List.take_of_length_le (by rw [Array.length_toList]; omega)]
theorem pref_app (p t : ByteArray) : prefB (p ++ t) p = true := by
  unfold prefB
  rw [decide_eq_true (show p.size ≤ (p ++ t).size by rw [ByteArray.size_append]; omega), decide_eq_true (ext_l p t)]
  rfl
theorem rest_app (p t : ByteArray) : restB (p ++ t) p = t := by
  unfold restB
  rw [pref_app, cond_true, ext_r]
theorem pref_split {s p : ByteArray} (h : prefB s p = true) : s = p ++ restB s p := by
  unfold restB
  rw [h, cond_true]
  unfold prefB at h
  rw [Bool.and_eq_true] at h
  have h1 := of_decide_eq_true h.1
  have h2 := of_decide_eq_true h.2
  conv => rhs; arg 1; rw [← h2]
  rw [ByteArray.extract_append_extract]
  simp [Nat.max_eq_right h1]
/-! what digits of a text are -/
theorem byteAt_nat {s : ByteArray} {i : Nat} (h : i < s.data.toList.length) : byteAt s (i : Int) = ((s.data.toList[i]).toNat : Int) := by
  have h' : i < s.size := by
    have e : s.data.toList.length = s.size := Array.length_toList
    omega
  unfold byteAt
  rw [dif_pos (by rw [Int.toNat_natCast]; exact h')]
  simp only [Int.toNat_natCast, Array.getElem_toList]
  rfl
theorem list_size (s : ByteArray) : s.data.toList.length = s.size := Array.length_toList
theorem l28 {call : CallT B} {inl : InlT} (m0 : Nat) (s : ByteArray) (a b : Nat) (hb : b ≤ s.size) (d : Nat) : ∀ (i acc c m : Nat), i + d = b → acc < 10 ^ c → c + d ≤ 16 → d < m → s.size < 4611686018427387904 →
    LP B call inl 28 m [1, 1, 1, 0, 1] (s28_2 s (a : Int) (b : Int) (acc : Int) (i : Int)) (KA B call inl 28 m0 [1, 1, 1, 0, 1] (FI B call inl 28)) =
      (some (match decV acc ((s.data.toList.drop i).take d) with | some n => (n : Int) | none => -1) : Option Int) := by
  induction d with
  | zero =>
    intro i acc c m hd ha hc hm hs
    obtain ⟨m, rfl⟩ : ∃ k, m = k + 1 := ⟨m - 1, by omega⟩
    rw [s28_2_l, bF (by omega), s28_2x5_k]
    rfl
  | succ d ih =>
    intro i acc c m hd ha hc hm hs
    obtain ⟨m, rfl⟩ : ∃ k, m = k + 1 := ⟨m - 1, by omega⟩
    have hi : i < s.data.toList.length := by rw [list_size]; omega
    have hbt := byteAt_nat hi
    have htk : (s.data.toList.drop i).take (d + 1) = s.data.toList[i] :: (s.data.toList.drop (i + 1)).take d := by
      rw [List.drop_eq_getElem_cons hi, List.take_succ_cons]
    have hlt := UInt8.toNat_lt (s.data.toList[i])
    have hpow : (10 : Nat) ^ c ≤ 10 ^ 15 := Nat.pow_le_pow_right (by decide) (by omega)
    have hpow' : (10 : Nat) ^ 15 = 1000000000000000 := by decide
    rw [htk, s28_2_l, bT (by omega), if_pos (by omega), hbt]
    simp only [decV]
    by_cases h1 : (s.data.toList[i]).toNat < 48
    · have hR : (if 48 ≤ (s.data.toList[i]).toNat ∧ (s.data.toList[i]).toNat ≤ 57 then decV (acc * 10 + ((s.data.toList[i]).toNat - 48)) ((s.data.toList.drop (i + 1)).take d) else none) = none := if_neg (by omega)
      rw [hR, decide_eq_true (show ((s.data.toList[i]).toNat : Int) < 48 by omega), show ((true : Bool) == false) = false from rfl, cond_false, s28_2x4_k]
    · rw [decide_eq_false (show ¬ ((s.data.toList[i]).toNat : Int) < 48 by omega)]
      rw [show ((false : Bool) == false) = true from rfl, cond_true, if_pos (by omega)]
      by_cases h2 : (s.data.toList[i]).toNat > 57
      · have hR : (if 48 ≤ (s.data.toList[i]).toNat ∧ (s.data.toList[i]).toNat ≤ 57 then decV (acc * 10 + ((s.data.toList[i]).toNat - 48)) ((s.data.toList.drop (i + 1)).take d) else none) = none := if_neg (by omega)
        rw [hR, decide_eq_true (show ((s.data.toList[i]).toNat : Int) > 57 by omega), cond_true, s28_2x3_k]
      · have hR : (if 48 ≤ (s.data.toList[i]).toNat ∧ (s.data.toList[i]).toNat ≤ 57 then decV (acc * 10 + ((s.data.toList[i]).toNat - 48)) ((s.data.toList.drop (i + 1)).take d) else none) = decV (acc * 10 + ((s.data.toList[i]).toNat - 48)) ((s.data.toList.drop (i + 1)).take d) := if_pos (by omega)
        rw [hR, decide_eq_false (show ¬ ((s.data.toList[i]).toNat : Int) > 57 by omega), cond_false, if_pos (by omega)]
        have e1 : IntKind.u8.wrap (((s.data.toList[i]).toNat : Int) - 48) = (((s.data.toList[i]).toNat - 48 : Nat) : Int) := by rw [wu8]; omega
        rw [e1, w64 (x := (((s.data.toList[i]).toNat - 48 : Nat) : Int)) (by omega) (by omega), w64 (x := (10 : Int) * (acc : Int)) (by omega) (by omega), w64 (x := (10 : Int) * (acc : Int) + (((s.data.toList[i]).toNat - 48 : Nat) : Int)) (by omega) (by omega),
          w64 (x := (i : Int) + 1) (by omega) (by omega)]
        have e2 : (10 : Int) * (acc : Int) + (((s.data.toList[i]).toNat - 48 : Nat) : Int) = ((acc * 10 + ((s.data.toList[i]).toNat - 48) : Nat) : Int) := by omega
        rw [e2, show (i : Int) + 1 = ((i + 1 : Nat) : Int) by omega]
        exact ih (i + 1) _ (c + 1) m (by omega) (by rw [Nat.pow_succ]; omega) (by omega) (by omega) hs
theorem s28 {k : Nat} (hk : 20 ≤ k) (s : ByteArray) (a b : Nat) (hb : b ≤ s.size ∨ b ≤ a) (ha : a < 9223372036854775808) (hs : s.size < 4611686018427387904) : callN B k 28 [.v .str s, .v i64 (a : Int), .v i64 (b : Int)] = (some (numD ((s.data.toList.drop a).take (b - a))) : Option Int) := by
  obtain ⟨k, rfl⟩ := Nat.exists_eq_add_of_le' (show 1 ≤ k by omega)
  refine (callS k 28 _).trans ((t28 (callN B k) (lvl B k).2 k s a b).trans ?_)
  unfold numD
  by_cases h : b ≤ a
  · rw [decide_eq_true (show ((a : Int)) ≥ ((b : Int)) by omega), show b - a = 0 by omega, List.take_zero, if_pos (.inl rfl)]
    rfl
  · have hl : ((s.data.toList.drop a).take (b - a)).length = b - a := by
      rw [List.length_take, List.length_drop, list_size]; omega
    rw [decide_eq_false (show ¬ ((a : Int)) ≥ ((b : Int)) by omega), w64 (x := (b : Int) - (a : Int)) (by omega) (by omega)]
    change @Eq (Option Int) (bif decide ((b : Int) - (a : Int) > 16) then _ else _) _
    by_cases h16 : b - a > 16
    · rw [bT (by omega), if_pos (.inr (by omega))]
    · rw [bF (by omega), if_neg (by
        intro hh
        rcases hh with hh | hh
        · rw [hh] at hl; simp at hl; omega
        · omega)]
      exact l28 k s a b (by omega) (b - a) a 0 0 k (by omega) (by decide) (by omega) (by omega) hs
end Go.Eng.Bk
/- Names: what a name says (the program's reading). -/
namespace Go.Eng.Bk
open Go Go.Proofs Go.Eng
set_option linter.unusedVariables false
set_option linter.unusedSimpArgs false
set_option maxRecDepth 100000
abbrev R3 : Type := Int × (Int × (Int × Unit))
def inner (s : ByteArray) (k : Int) : Option R3 :=
  if prefB s (headB k) = false then none else
  if headB k = noS then none else
  if k = 7 then (if (cutB (restB s (headB k)) dash).2.2.1 = true ∧ (numB (cutB (restB s (headB k)) dash).1).2.1 = true ∧ (numB (cutB (restB s (headB k)) dash).2.1).2.1 = true
    then some (k, (numB (cutB (restB s (headB k)) dash).1).1, (numB (cutB (restB s (headB k)) dash).2.1).1, ()) else some (0, 0, 0, ()))
  else (if (numB (restB s (headB k))).2.1 = true then some (k, 0, (numB (restB s (headB k))).1, ()) else some (0, 0, 0, ()))
def stepR (s : ByteArray) (k : Int) : Option R3 := if s = noS then none else if s = wholeB k then some (k, 0, 0, ()) else inner s k
def readL (s : ByteArray) : Nat → Int → R3
  | 0, _ => (0, 0, 0, ())
  | d + 1, k => match stepR s k with
    | some r => r
    | none => readL s d (k + 1)
theorem mk_size (l : List UInt8) : (ByteArray.mk l.toArray).size = l.length := by simp [ByteArray.size]
theorem cut_sizes (s p : ByteArray) : (cutB s p).1.size ≤ s.size ∧ (cutB s p).2.1.size ≤ s.size := by
  have e := list_size s
  unfold cutB
  simp only [mk_size]
  unfold Lib.cut
  split
  · simp only [List.length_take, List.length_drop]; omega
  · simp only [List.length_nil]; omega
theorem rest_size (s p : ByteArray) : (restB s p).size ≤ s.size := by
  unfold restB
  cases prefB s p with
  | false => exact Nat.le_refl _
  | true => rw [cond_true, ByteArray.size_extract]; omega
theorem pref_no {k : Int} (h : prefB noS (headB k) = true) : headB k = noS := by
  unfold prefB at h
  rw [Bool.and_eq_true] at h
  have h1 := of_decide_eq_true h.1
  have e : noS.size = 0 := rfl
  apply ByteArray.ext
  exact Array.eq_empty_of_size_eq_zero (by have : (headB k).size = (headB k).data.size := rfl; omega)
theorem l9_in {q : Nat} {inl : InlT} (hq : 4 ≤ q) (m0 m : Nat) (s : ByteArray) (k : Int) (v28 : ByteArray) (hs : s.size < 4294967281) (o : Option R3) (ho : LP B (callN B q) inl 9 m [1, 1, 0, 1] (s9_27 s (IntKind.i64.wrap (k + (1 : Int)))) (KA B (callN B q) inl 9 m0 [1, 1, 0, 1] (FI B (callN B q) inl 9)) = o) :
    ((callN B q 24 [(.v (.int .i64) (k))] : Option ByteArray).bind fun (v30 : ByteArray) => (callN B q 23 [(.v .str (s)), (.v .str (v30))] : Option (ByteArray × Bool × Unit)).bind fun (v31 : (ByteArray × Bool × Unit)) => bif (!v31.snd.fst) == Bool.false then ((callN B q 24 [(.v (.int .i64) (k))] : Option ByteArray).bind fun (v32 : ByteArray) => bif ByteArray.toList v32 == noS.toList then (LP B (callN B q) inl 9 m [1, 1, 0, 1] (s9_27 s (IntKind.i64.wrap (k + (1 : Int)))) (KA B (callN B q) inl 9 m0 [1, 1, 0, 1] (FI B (callN B q) inl 9))) else (bif k == (7 : Int) then ((callN B q 25 [(.v .str (v31.fst)), (.v .str (dash))] : Option (ByteArray × ByteArray × Bool × Unit)).bind fun (v33 : (ByteArray × ByteArray × Bool × Unit)) => bif v33.snd.snd.fst then ((callN B q 26 [(.v .str (v33.fst))] : Option (Int × Bool × Unit)).bind fun (v34 : (Int × Bool × Unit)) => (callN B q 26 [(.v .str (v33.snd.fst))] : Option (Int × Bool × Unit)).bind fun (v35 : (Int × Bool × Unit)) => bif (!v34.snd.fst) == Bool.false then (bif !v35.snd.fst then (KA B (callN B q) inl 9 m0 [1, 1, 0, 1] (FI B (callN B q) inl 9) (.exit 0) (s9_27x36 s k v28 v30 v31 v32 v33 v34 v35)) else (KA B (callN B q) inl 9 m0 [1, 1, 0, 1] (FI B (callN B q) inl 9) .ret (s9_27x37 s k v28 v30 v31 v32 v33 v34 v35))) else (KA B (callN B q) inl 9 m0 [1, 1, 0, 1] (FI B (callN B q) inl 9) (.exit 0) (s9_27x38 s k v28 v30 v31 v32 v33 v34 v35))) else ((callN B q 26 [(.v .str (v33.snd.fst))] : Option (Int × Bool × Unit)).bind fun (v39 : (Int × Bool × Unit)) => bif (!v33.snd.snd.fst) == Bool.false then (bif !v39.snd.fst then (KA B (callN B q) inl 9 m0 [1, 1, 0, 1] (FI B (callN B q) inl 9) (.exit 0) (s9_27x40 s k v28 v30 v31 v32 v33 v39)) else (KA B (callN B q) inl 9 m0 [1, 1, 0, 1] (FI B (callN B q) inl 9) .ret (s9_27x41 s k v28 v30 v31 v32 v33 v39))) else (KA B (callN B q) inl 9 m0 [1, 1, 0, 1] (FI B (callN B q) inl 9) (.exit 0) (s9_27x42 s k v28 v30 v31 v32 v33 v39)))) else ((callN B q 26 [(.v .str (v31.fst))] : Option (Int × Bool × Unit)).bind fun (v43 : (Int × Bool × Unit)) => bif !v43.snd.fst then (KA B (callN B q) inl 9 m0 [1, 1, 0, 1] (FI B (callN B q) inl 9) (.exit 0) (s9_27x44 s k v28 v30 v31 v32 v43)) else (KA B (callN B q) inl 9 m0 [1, 1, 0, 1] (FI B (callN B q) inl 9) .ret (s9_27x45 s k v28 v30 v31 v32 v43))))) else (LP B (callN B q) inl 9 m [1, 1, 0, 1] (s9_27 s (IntKind.i64.wrap (k + (1 : Int)))) (KA B (callN B q) inl 9 m0 [1, 1, 0, 1] (FI B (callN B q) inl 9)))) =
      (match inner s k with | some r => some r | none => o : Option R3) := by
  have hr := rest_size s (headB k)
  have hc := cut_sizes (restB s (headB k)) dash
  have z25 : (restB s (headB k)).size < 4294967281 := by omega
  have z26 : (restB s (headB k)).size ≤ 281474976710656 := by omega
  have za : (cutB (restB s (headB k)) dash).1.size ≤ 281474976710656 := by omega
  have zb : (cutB (restB s (headB k)) dash).2.1.size ≤ 281474976710656 := by omega
  refine bnd (s24 (by omega) k) ?_
  refine bnd (s23 (by omega) s (headB k)) ?_
  unfold inner
  cases hp : prefB s (headB k) with
  | false =>
    rw [if_pos rfl]
    exact ho
  | true =>
    rw [if_neg (by decide)]
    change @Eq (Option R3) (Option.bind (callN B q 24 [(.v (.int .i64) (k))] : Option ByteArray) _) _
    refine bnd (s24 (by omega) k) ?_
    rw [seq_dec]
    by_cases hh : headB k = noS
    · rw [bT hh, if_pos hh]
      exact ho
    · rw [bF hh, if_neg hh]
      by_cases h7 : k = 7
      · rw [if_pos h7, show (k == (7 : Int)) = true from beq_iff_eq.2 h7, cond_true]
        refine bnd (s25 (by omega) z25) ?_
        cases hf : (cutB (restB s (headB k)) dash).2.2.1 with
        | false =>
          change @Eq (Option R3) (Option.bind (callN B q 26 [(.v .str (cutB (restB s (headB k)) dash).2.1)] : Option (Int × (Bool × Unit))) _) _
          refine bnd (s26 (by omega) zb) ?_
          rw [if_neg (fun h => by cases h.1)]
          exact s9_27x42_k (callN B q) inl m0 s k v28 (headB k) (restB s (headB k), true, ()) (headB k) (cutB (restB s (headB k)) dash) (numB (cutB (restB s (headB k)) dash).2.1)
        | true =>
          change @Eq (Option R3) (Option.bind (callN B q 26 [(.v .str (cutB (restB s (headB k)) dash).1)] : Option (Int × (Bool × Unit))) _) _
          refine bnd (s26 (by omega) za) ?_
          refine bnd (s26 (by omega) zb) ?_
          cases h1 : (numB (cutB (restB s (headB k)) dash).1).2.1 with
          | false =>
            rw [if_neg (fun h => by cases h.2.1)]
            exact s9_27x38_k (callN B q) inl m0 s k v28 (headB k) (restB s (headB k), true, ()) (headB k) (cutB (restB s (headB k)) dash) (numB (cutB (restB s (headB k)) dash).1) (numB (cutB (restB s (headB k)) dash).2.1)
          | true =>
            cases h2 : (numB (cutB (restB s (headB k)) dash).2.1).2.1 with
            | false =>
              rw [if_neg (fun h => by cases h.2.2)]
              exact s9_27x36_k (callN B q) inl m0 s k v28 (headB k) (restB s (headB k), true, ()) (headB k) (cutB (restB s (headB k)) dash) (numB (cutB (restB s (headB k)) dash).1) (numB (cutB (restB s (headB k)) dash).2.1)
            | true =>
              rw [if_pos ⟨rfl, rfl, rfl⟩]
              exact s9_27x37_k (callN B q) inl m0 s k v28 (headB k) (restB s (headB k), true, ()) (headB k) (cutB (restB s (headB k)) dash) (numB (cutB (restB s (headB k)) dash).1) (numB (cutB (restB s (headB k)) dash).2.1)
      · rw [if_neg h7, show (k == (7 : Int)) = false from beq_false_of_ne h7, cond_false]
        refine bnd (s26 (by omega) z26) ?_
        cases h1 : (numB (restB s (headB k))).2.1 with
        | false =>
          rw [if_neg (by decide)]
          exact s9_27x44_k (callN B q) inl m0 s k v28 (headB k) (restB s (headB k), true, ()) (headB k) (numB (restB s (headB k)))
        | true =>
          rw [if_pos rfl]
          exact s9_27x45_k (callN B q) inl m0 s k v28 (headB k) (restB s (headB k), true, ()) (headB k) (numB (restB s (headB k)))
theorem l9 {q : Nat} {inl : InlT} (hq : 4 ≤ q) (m0 : Nat) (s : ByteArray) (hs : s.size < 4294967281) (d : Nat) : ∀ (k : Int) (m : Nat), 1 ≤ k → k + d = 9 → d < m →
    LP B (callN B q) inl 9 m [1, 1, 0, 1] (s9_27 s k) (KA B (callN B q) inl 9 m0 [1, 1, 0, 1] (FI B (callN B q) inl 9)) = (some (readL s d k) : Option R3) := by
  induction d with
  | zero =>
    intro k m h1 hd hm
    obtain ⟨m, rfl⟩ : ∃ k, m = k + 1 := ⟨m - 1, by omega⟩
    rw [s9_27_l, bF (by omega), s9_27x62_k]
    rfl
  | succ d ih =>
    intro k m h1 hd hm
    obtain ⟨m, rfl⟩ : ∃ k, m = k + 1 := ⟨m - 1, by omega⟩
    have hi := ih (k + 1) m (by omega) (by omega) (by omega)
    rw [← w64 (x := k + 1) (by omega) (by omega)] at hi
    have hin := fun v => l9_in (q := q) (inl := inl) hq m0 m s k v hs _ hi
    have e : (some (readL s (d + 1) k) : Option R3) = match stepR s k with | some r => some r | none => some (readL s d (IntKind.i64.wrap (k + 1))) := by
      rw [w64 (x := k + 1) (by omega) (by omega)]
      simp only [readL]
      cases stepR s k <;> rfl
    rw [e, s9_27_l, bT (by omega)]
    unfold stepR
    by_cases h0 : s = noS
    · rw [if_pos h0]
      have hb : (!ByteArray.toList s == noS.toList) = false := by rw [seq_dec, decide_eq_true h0]; rfl
      rw [hb, show ((false : Bool) == true) = false from rfl, cond_false]
      refine bnd (s24 (by omega) k) ?_
      refine bnd (s23 (by omega) s (headB k)) ?_
      cases hp : prefB s (headB k) with
      | false => exact hi
      | true =>
        change @Eq (Option R3) (Option.bind (callN B q 24 [(.v (.int .i64) (k))] : Option ByteArray) _) _
        refine bnd (s24 (by omega) k) ?_
        rw [seq_dec, bT (pref_no (h0 ▸ hp))]
        exact hi
    · rw [if_neg h0]
      have hb : (!ByteArray.toList s == noS.toList) = true := by rw [seq_dec, decide_eq_false h0]; rfl
      rw [hb, show ((true : Bool) == true) = true from rfl, cond_true]
      refine bnd (s22 (by omega) k) ?_
      rw [seq_dec]
      by_cases hw : s = wholeB k
      · rw [bT hw, if_pos hw]
        exact s9_27x29_k (callN B q) inl m0 s k _
      · rw [bF hw, if_neg hw]
        exact hin _
def readF (s : ByteArray) : R3 := readL s 8 1
theorem s9 {k : Nat} (hk : 20 ≤ k) (s : ByteArray) (hs : s.size < 4294967281) : callN B k 9 [.v .str s] = (some (readF s) : Option R3) := by
  obtain ⟨k, rfl⟩ := Nat.exists_eq_add_of_le' (show 1 ≤ k by omega)
  refine (callS k 9 _).trans ((t9 (callN B k) (lvl B k).2 k s).trans ?_)
  exact l9 (by omega) k s hs 8 1 k (by omega) (by omega) (by omega)
end Go.Eng.Bk
/- Names: what a name says (the document's reading). -/
namespace Go.Eng.Bk
open Go Go.Proofs Go.Eng
set_option linter.unusedVariables false
set_option linter.unusedSimpArgs false
set_option maxRecDepth 100000
/-- Digits of a text from a place to another one. -/
def numP (s : ByteArray) (a b : Nat) : Int := numD ((s.data.toList.drop a).take (b - a))
def dashF (s : ByteArray) : Nat → Nat → Nat
  | 0, i => i
  | d + 1, i => if i < s.size ∧ byteAt s (i : Int) ≠ 45 then dashF s d (i + 1) else i
def try3 (s : ByteArray) (k e n : Int) : Option R3 := if s = noS then none else if e < 0 then none else if n < 0 then none else if nameB k e n = s then some (k, e, n, ()) else none
def stepD (s : ByteArray) (k : Int) : Option R3 :=
  if k = 7 then try3 s k (numP s 4 (dashF s s.size 4)) (numP s (dashF s s.size 4 + 1) s.size)
  else if wordB k = noS then try3 s k 0 0 else try3 s k 0 (numP s (wordB k).size s.size)
def docL (s : ByteArray) : Nat → Int → R3
  | 0, _ => (0, 0, 0, ())
  | d + 1, k => match stepD s k with
    | some r => r
    | none => docL s d (k + 1)
def orE (o : Option R3) (x : Option R3) : Option R3 := match o with
  | some r => some r
  | none => x
/-- The end of a round: is it that name? -/
theorem tail10 {s : ByteArray} {k e n : Int} {q : Nat} (hq : 25 ≤ q) {o : Option R3} {X : ByteArray → Option R3} (hX : ∀ v, X v = some (k, e, n, ())) :
    (bif (!ByteArray.toList s == noS.toList) == Bool.true then (bif Decidable.decide (e ≥ (0 : Int)) == Bool.true then (bif Decidable.decide (n ≥ (0 : Int)) == Bool.true then ((callN B q 12 [(.v (.int .i64) (k)), (.v (.int .i64) (e)), (.v (.int .i64) (n))] : Option ByteArray).bind fun (v24 : ByteArray) => bif ByteArray.toList v24 == ByteArray.toList s then (X v24) else o) else o) else o) else o) = orE (try3 s k e n) o := by
  unfold try3
  rw [seq_dec]
  by_cases h0 : s = noS
  · rw [decide_eq_true h0, if_pos h0]; rfl
  rw [decide_eq_false h0, if_neg h0]
  by_cases h1 : e < 0
  · rw [decide_eq_false (show ¬ e ≥ 0 by omega), if_pos h1]; rfl
  rw [decide_eq_true (show e ≥ 0 by omega), if_neg h1]
  by_cases h2 : n < 0
  · rw [decide_eq_false (show ¬ n ≥ 0 by omega), if_pos h2]; rfl
  rw [decide_eq_true (show n ≥ 0 by omega), if_neg h2]
  change @Eq (Option R3) (Option.bind _ _) _
  refine bnd (s12 hq k e n) ?_
  rw [seq_dec]
  by_cases h3 : nameB k e n = s
  · rw [bT h3, if_pos h3, hX]; rfl
  · rw [bF h3, if_neg h3]; rfl
theorem l10d {q : Nat} {inl : InlT} (hq : 25 ≤ q) (m0 m : Nat) (s : ByteArray) (v17 : ByteArray) (hs : s.size < 4611686018427387900) (o : Option R3)
    (ho : LP B (callN B q) inl 10 m [1, 0, 1] (s10_16 s (IntKind.i64.wrap ((7 : Int) + (1 : Int)))) (KA B (callN B q) inl 10 m0 [1, 0, 1] (FI B (callN B q) inl 10)) = o) (d : Nat) :
    ∀ (i mm : Nat), 4 ≤ i → s.size ≤ i + d → d < mm → (i ≤ s.size ∨ i = 4) →
    LP B (callN B q) inl 10 mm [1, 0, 1, 0, 1, 0, 1, 1, 0, 1, 0, 1, 0] (s10_19 s 7 v17 (i : Int)) (KN B (callN B q) inl 10 m [1, 0, 1] [1, 0, 1, 1, 0, 1, 0, 1, 0] (KA B (callN B q) inl 10 m0 [1, 0, 1] (FI B (callN B q) inl 10))) =
      orE (try3 s 7 (numP s 4 (dashF s d i)) (numP s (dashF s d i + 1) s.size)) o := by
  have fin : ∀ i : Nat, 4 ≤ i → (i ≤ s.size ∨ i = 4) → ∀ X : Int → Int → ByteArray → Option R3, (∀ a b v, X a b v = some (7, a, b, ())) →
      ((callN B q 28 [(.v .str (s)), (.v (.int .i64) ((4 : Int))), (.v (.int .i64) ((i : Int)))] : Option Int).bind fun (v22 : Int) => (callN B q 28 [(.v .str (s)), (.v (.int .i64) (IntKind.i64.wrap ((i : Int) + (1 : Int)))), (.v (.int .i64) ((↑(ByteArray.size s) : Int)))] : Option Int).bind fun (v23 : Int) => bif (!ByteArray.toList s == noS.toList) == Bool.true then (bif Decidable.decide (v22 ≥ (0 : Int)) == Bool.true then (bif Decidable.decide (v23 ≥ (0 : Int)) == Bool.true then ((callN B q 12 [(.v (.int .i64) ((7 : Int))), (.v (.int .i64) (v22)), (.v (.int .i64) (v23))] : Option ByteArray).bind fun (v24 : ByteArray) => bif ByteArray.toList v24 == ByteArray.toList s then (X v22 v23 v24) else o) else o) else o) else o) =
      orE (try3 s 7 (numP s 4 i) (numP s (i + 1) s.size)) o := by
    intro i h4 hi X hX
    rw [w64 (x := (i : Int) + 1) (by omega) (by omega)]
    refine bnd (s28 (by omega) s 4 i (by omega) (by omega) (by omega)) ?_
    refine bnd (s28 (by omega) s (i + 1) s.size (by omega) (by omega) (by omega)) ?_
    exact tail10 hq (hX _ _)
  induction d with
  | zero =>
    intro i mm h4 hd hm hi
    obtain ⟨mm, rfl⟩ : ∃ k, mm = k + 1 := ⟨mm - 1, by omega⟩
    rw [s10_19_l, decide_eq_false (show ¬ ((i : Int)) < (s.size : Int) by omega)]
    refine (s10_19x21_k (callN B q) inl m _ s 7 v17 (i : Int)).trans ?_
    rw [ho]
    exact fin i h4 hi (fun a b v => KA B (callN B q) inl 10 m0 [1, 0, 1] (FI B (callN B q) inl 10) .ret (s10_16x29 s 7 v17 i a b v)) (fun a b v => s10_16x29_k (callN B q) inl m0 s 7 v17 i a b v)
  | succ d ih =>
    intro i mm h4 hd hm hi
    obtain ⟨mm, rfl⟩ : ∃ k, mm = k + 1 := ⟨mm - 1, by omega⟩
    rw [s10_19_l]
    simp only [dashF]
    by_cases h1 : i < s.size
    · rw [decide_eq_true (show ((i : Int)) < (s.size : Int) by omega), show ((true : Bool) == true) = true from rfl, cond_true]
      refine (if_pos (⟨by omega, by omega⟩ : (0 : Int) ≤ (i : Int) ∧ (i : Int) < (s.size : Int))).trans ?_
      by_cases h2 : byteAt s (i : Int) = 45
      · rw [if_neg (fun h => h.2 h2), show (byteAt s (i : Int) != (45 : Int)) = false by rw [h2]; rfl, cond_false]
        refine (s10_19x20_k (callN B q) inl m _ s 7 v17 (i : Int)).trans ?_
        rw [ho]
        exact fin i h4 hi (fun a b v => KA B (callN B q) inl 10 m0 [1, 0, 1] (FI B (callN B q) inl 10) .ret (s10_16x25 s 7 v17 i a b v)) (fun a b v => s10_16x25_k (callN B q) inl m0 s 7 v17 i a b v)
      · rw [if_pos ⟨h1, h2⟩, show (byteAt s (i : Int) != (45 : Int)) = true from bne_iff_ne.2 h2, cond_true, w64 (x := (i : Int) + 1) (by omega) (by omega), show (i : Int) + 1 = ((i + 1 : Nat) : Int) by omega]
        exact ih (i + 1) mm (by omega) (by omega) (by omega) (by omega)
    · have hR : (if i < s.size ∧ byteAt s (i : Int) ≠ 45 then dashF s d (i + 1) else i) = i := if_neg fun h => h1 h.1
      rw [hR, decide_eq_false (show ¬ ((i : Int)) < (s.size : Int) by omega)]
      refine (s10_19x21_k (callN B q) inl m _ s 7 v17 (i : Int)).trans ?_
      rw [ho]
      exact fin i h4 hi (fun a b v => KA B (callN B q) inl 10 m0 [1, 0, 1] (FI B (callN B q) inl 10) .ret (s10_16x29 s 7 v17 i a b v)) (fun a b v => s10_16x29_k (callN B q) inl m0 s 7 v17 i a b v)
theorem l10 {q : Nat} {inl : InlT} (hq : 25 ≤ q) (m0 : Nat) (s : ByteArray) (hs : s.size < 4611686018427387900) (d : Nat) : ∀ (k : Int) (m : Nat), 1 ≤ k → k + d = 9 → d + s.size < m →
    LP B (callN B q) inl 10 m [1, 0, 1] (s10_16 s k) (KA B (callN B q) inl 10 m0 [1, 0, 1] (FI B (callN B q) inl 10)) = (some (docL s d k) : Option R3) := by
  induction d with
  | zero =>
    intro k m h1 hd hm
    obtain ⟨m, rfl⟩ : ∃ k, m = k + 1 := ⟨m - 1, by omega⟩
    rw [s10_16_l, bF (by omega), s10_16x35_k]
    rfl
  | succ d ih =>
    intro k m h1 hd hm
    obtain ⟨m, rfl⟩ : ∃ k, m = k + 1 := ⟨m - 1, by omega⟩
    have hi := ih (k + 1) m (by omega) (by omega) (by omega)
    rw [← w64 (x := k + 1) (by omega) (by omega)] at hi
    have e : (some (docL s (d + 1) k) : Option R3) = orE (stepD s k) (some (docL s d (IntKind.i64.wrap (k + 1)))) := by
      rw [w64 (x := k + 1) (by omega) (by omega)]
      simp only [docL]
      cases stepD s k <;> rfl
    rw [e, s10_16_l, bT (by omega)]
    unfold stepD
    refine bnd (s27 (by omega) k) ?_
    by_cases h7 : k = 7
    · subst h7
      rw [if_pos rfl, show ((7 : Int) == (7 : Int)) = true from rfl, cond_true]
      exact l10d hq m0 m s _ hs _ hi s.size 4 m (by omega) (by omega) (by omega) (by omega)
    · rw [if_neg h7, show (k == (7 : Int)) = false from beq_false_of_ne h7, cond_false, seq_dec]
      by_cases hw : wordB k = noS
      · rw [decide_eq_true hw, if_pos hw, hi]
        change @Eq (Option R3) _ _
        exact tail10 (e := 0) (n := 0) hq (X := fun v => KA B (callN B q) inl 10 m0 [1, 0, 1] (FI B (callN B q) inl 10) .ret (s10_16x34 s k (wordB k) v)) (fun v => s10_16x34_k (callN B q) inl m0 s k (wordB k) v)
      · rw [decide_eq_false hw, if_neg hw, hi]
        change @Eq (Option R3) (Option.bind (callN B q 28 _ : Option Int) _) _
        have hsz : (wordB k).size ≤ 6 := by rw [word_eq h7]; exact head_size k
        refine bnd (s28 (by omega) s (wordB k).size s.size (by omega) (by omega) (by omega)) ?_
        exact tail10 (e := 0) hq (X := fun v => KA B (callN B q) inl 10 m0 [1, 0, 1] (FI B (callN B q) inl 10) .ret (s10_16x32 s k (wordB k) _ v)) (fun v => s10_16x32_k (callN B q) inl m0 s k (wordB k) _ v)
def docF (s : ByteArray) : R3 := docL s 8 1
theorem s10 {k : Nat} (hk : 1000 ≤ k) (s : ByteArray) (hs : s.size < 400) : callN B k 10 [.v .str s] = (some (docF s) : Option R3) := by
  obtain ⟨k, rfl⟩ := Nat.exists_eq_add_of_le' (show 1 ≤ k by omega)
  refine (callS k 10 _).trans ((t10 (callN B k) (lvl B k).2 k s).trans ?_)
  exact l10 (by omega) k s (by omega) 8 1 k (by omega) (by omega) (by omega)
end Go.Eng.Bk
/- Names: both readings are one. -/
namespace Go.Eng.Bk
open Go Go.Proofs Go.Eng
set_option linter.unusedVariables false
set_option linter.unusedSimpArgs false
set_option maxRecDepth 100000
theorem readL_none {s : ByteArray} : ∀ (d : Nat) (k : Int), (∀ j, k ≤ j → j < k + d → stepR s j = none) → readL s d k = (0, 0, 0, ())
  | 0, _, _ => rfl
  | d + 1, k, h => by
    simp only [readL]
    rw [h k (by omega) (by omega)]
    exact readL_none d (k + 1) fun j h1 h2 => h j (by omega) (by omega)
theorem docL_none {s : ByteArray} : ∀ (d : Nat) (k : Int), (∀ j, k ≤ j → j < k + d → stepD s j = none) → docL s d k = (0, 0, 0, ())
  | 0, _, _ => rfl
  | d + 1, k, h => by
    simp only [docL]
    rw [h k (by omega) (by omega)]
    exact docL_none d (k + 1) fun j h1 h2 => h j (by omega) (by omega)
theorem readL_at {s : ByteArray} {k0 : Int} (h : ∀ j, j ≠ k0 → 1 ≤ j → j ≤ 8 → stepR s j = none) : ∀ (d : Nat) (k : Int), 1 ≤ k → k ≤ k0 → k0 < k + d → k + d = 9 → readL s d k = (match stepR s k0 with | some r => r | none => (0, 0, 0, ()))
  | 0, k, h1, h2, h3, h4 => by omega
  | d + 1, k, h1, h2, h3, h4 => by
    simp only [readL]
    by_cases hk : k = k0
    · subst hk
      cases stepR s k with
      | some r => rfl
      | none => exact readL_none d (k + 1) fun j h5 h6 => h j (by omega) (by omega) (by omega)
    · rw [h k hk (by omega) (by omega)]
      exact readL_at h d (k + 1) (by omega) (by omega) (by omega) (by omega)
theorem docL_at {s : ByteArray} {k0 : Int} (h : ∀ j, j ≠ k0 → 1 ≤ j → j ≤ 8 → stepD s j = none) : ∀ (d : Nat) (k : Int), 1 ≤ k → k ≤ k0 → k0 < k + d → k + d = 9 → docL s d k = (match stepD s k0 with | some r => r | none => (0, 0, 0, ()))
  | 0, k, h1, h2, h3, h4 => by omega
  | d + 1, k, h1, h2, h3, h4 => by
    simp only [docL]
    by_cases hk : k = k0
    · subst hk
      cases stepD s k with
      | some r => rfl
      | none => exact docL_none d (k + 1) fun j h5 h6 => h j (by omega) (by omega) (by omega)
    · rw [h k hk (by omega) (by omega)]
      exact docL_at h d (k + 1) (by omega) (by omega) (by omega) (by omega)
theorem try3_none {s : ByteArray} {k e n : Int} (h : s ≠ noS → 0 ≤ e → 0 ≤ n → nameB k e n ≠ s) : try3 s k e n = none := by
  unfold try3
  by_cases h0 : s = noS
  · rw [if_pos h0]
  rw [if_neg h0]
  by_cases h1 : e < 0
  · rw [if_pos h1]
  rw [if_neg h1]
  by_cases h2 : n < 0
  · rw [if_pos h2]
  rw [if_neg h2, if_neg (h h0 (by omega) (by omega))]
theorem try3_some {s : ByteArray} {k e n : Int} (h0 : s ≠ noS) (h1 : 0 ≤ e) (h2 : 0 ≤ n) (h3 : nameB k e n = s) : try3 s k e n = some (k, e, n, ()) := by
  unfold try3
  rw [if_neg h0, if_neg (by omega), if_neg (by omega), if_pos h3]
/-- A name that says something begins as its kind's do. -/
theorem name_pref {s : ByteArray} {k e n : Int} (hs : s ≠ noS) (h : nameB k e n = s) : (headB k = noS ∧ wholeB k = s) ∨ (headB k ≠ noS ∧ mayI n = true ∧ ((k = 7 ∧ mayI e = true ∧ headB k ++ (itoaB e ++ (dash ++ itoaB n)) = s) ∨ (k ≠ 7 ∧ headB k ++ itoaB n = s))) := by
  unfold nameB at h
  by_cases hh : headB k = noS
  · rw [if_pos hh] at h; exact .inl ⟨hh, h⟩
  · rw [if_neg hh] at h
    cases hm : mayI n with
    | false => rw [hm, if_pos rfl] at h; exact absurd h.symm hs
    | true =>
      rw [hm, if_neg (by decide)] at h
      refine .inr ⟨hh, rfl, ?_⟩
      by_cases h7 : k = 7
      · rw [if_pos h7] at h
        cases hm1 : mayI e with
        | false => rw [hm1, if_pos rfl] at h; exact absurd h.symm hs
        | true => 
          rw [hm1, if_neg (by decide)] at h
          refine .inl ⟨h7, rfl, ?_⟩
          rw [← h, ByteArray.append_assoc, ByteArray.append_assoc]
      · rw [if_neg h7] at h; exact .inr ⟨h7, h⟩
theorem stepR_none {s : ByteArray} {k : Int} (hw : s ≠ noS → s ≠ wholeB k) (hp : headB k ≠ noS → prefB s (headB k) = false) : stepR s k = none := by
  unfold stepR
  by_cases h0 : s = noS
  · rw [if_pos h0]
  rw [if_neg h0, if_neg (hw h0)]
  unfold inner
  by_cases hh : headB k = noS
  · cases prefB s (headB k) with
    | false => rw [if_pos rfl]
    | true => rw [if_neg (by decide), if_pos hh]
  · rw [if_pos (hp hh)]
theorem stepD_none {s : ByteArray} {k : Int} (hw : s ≠ noS → s ≠ wholeB k) (hp : headB k ≠ noS → prefB s (headB k) = false) : stepD s k = none := by
  have key : ∀ e n, try3 s k e n = none := fun e n => try3_none fun hs _ _ h => by
    rcases name_pref hs h with ⟨_, h1⟩ | ⟨hh, _, ⟨_, _, h1⟩ | ⟨_, h1⟩⟩
    · exact hw hs h1.symm
    · have := hp hh; rw [← h1, pref_app] at this; cases this
    · have := hp hh; rw [← h1, pref_app] at this; cases this
  unfold stepD
  split
  · exact key _ _
  · split
    · exact key _ _
    · exact key _ _
theorem app_inj {a b c : ByteArray} (h : a ++ b = a ++ c) : b = c := by
  refine ba_ext ?_
  have := congrArg (fun x : ByteArray => x.data.toList) h
  simp only [ba_app] at this
  rw [ba_toList, ba_toList]
  exact List.append_cancel_left this
theorem drop_app (p t : ByteArray) : ((p ++ t).data.toList.drop p.size).take ((p ++ t).size - p.size) = t.data.toList := by
  rw [ba_app, List.drop_append_of_le_length (by rw [list_size]; exact Nat.le_refl _), List.drop_of_length_le (by rw [list_size]; exact Nat.le_refl _), List.nil_append, List.take_of_length_le (by rw [list_size, ByteArray.size_append]; omega)]
theorem at_plain {k0 : Int} {t : ByteArray} (h7 : k0 ≠ 7) (hh : headB k0 ≠ noS) (hw : headB k0 ++ t ≠ wholeB k0) (hne : headB k0 ++ t ≠ noS) :
    (match stepR (headB k0 ++ t) k0 with | some r => r | none => (0, 0, 0, ())) = (match stepD (headB k0 ++ t) k0 with | some r => r | none => ((0, 0, 0, ()) : R3)) := by
  have hR : stepR (headB k0 ++ t) k0 = (if (numB t).2.1 = true then some (k0, 0, (numB t).1, ()) else some (0, 0, 0, ())) := by
    unfold stepR inner
    rw [if_neg hne, if_neg hw, pref_app, if_neg (by decide), if_neg hh, if_neg h7, rest_app]
  have hD : stepD (headB k0 ++ t) k0 = try3 (headB k0 ++ t) k0 0 (numD t.data.toList) := by
    unfold stepD numP
    rw [if_neg h7, word_eq h7, if_neg hh, drop_app]
  rw [hR, hD]
  by_cases hc : (numB t).2.1 = true
  · have hcan := canon_numB hc
    rw [if_pos hc, numD_canon hcan, try3_some hne (Int.le_refl _) hcan.1 ?_]
    unfold nameB
    rw [if_neg hh, show mayI (numB t).1 = true from decide_eq_true ⟨hcan.1, hcan.2.1⟩, if_neg (by decide), if_neg h7, hcan.2.2]
  · rw [if_neg hc, try3_none]
    intro hs _ hn h
    rcases name_pref hs h with ⟨h1, _⟩ | ⟨_, hm, ⟨h1, _⟩ | ⟨_, h1⟩⟩
    · exact hh h1
    · exact h7 h1
    · obtain ⟨m0, m1⟩ := mayI_t hm
      have hcan : Canon t (numD t.data.toList) := ⟨m0, m1, app_inj h1⟩
      exact hc (by rw [numB_canon hcan])
end Go.Eng.Bk
/- Names: both readings are one (far names; the end). -/
namespace Go.Eng.Bk
open Go Go.Proofs Go.Eng
set_option linter.unusedVariables false
set_option linter.unusedSimpArgs false
set_option maxRecDepth 100000
theorem occ45 (t : List UInt8) (j : Nat) : Lib.occAt t [45] j = true ↔ t[j]? = some 45 := by
  unfold Lib.occAt
  have : t[j]? = (t.drop j)[0]? := by rw [List.getElem?_drop]; simp
  rw [this]
  cases t.drop j with
  | nil => simp
  | cons c r =>
    have e : List.isPrefixOf [45] (c :: r) = ((45 : UInt8) == c) := by simp [List.isPrefixOf]
    rw [e]
    exact ⟨fun h => by rw [← beq_iff_eq.1 h]; rfl, fun h => by rw [Option.some.inj h]; rfl⟩
theorem mk_list (l : List UInt8) : (ByteArray.mk l.toArray).data.toList = l := rfl
theorem mk_ba (t : ByteArray) : ByteArray.mk t.data.toList.toArray = t := by cases t; rfl
theorem cut_dash (t : ByteArray) : (∃ a b : List UInt8, t.data.toList = a ++ 45 :: b ∧ (45 : UInt8) ∉ a ∧ cutB t dash = (⟨a.toArray⟩, ⟨b.toArray⟩, true, ())) ∨ ((45 : UInt8) ∉ t.data.toList ∧ (cutB t dash).2.2.1 = false) := by
  have hd : dash.data.toList = [45] := rfl
  rcases Lib.index_spec t.data.toList [45] with ⟨h1, h2⟩ | ⟨i, h1, h2, h3, h4⟩
  · refine .inr ⟨fun hm => ?_, ?_⟩
    · obtain ⟨j, hj⟩ := List.mem_iff_getElem?.1 hm
      have := h2 j (Nat.le_of_lt (List.getElem?_eq_some_iff.1 hj).1)
      rw [(occ45 _ _).2 hj] at this
      cases this
    · unfold cutB Lib.cut
      rw [hd, h1, if_neg (by decide)]
  · have hi := (occ45 _ _).1 h3
    obtain ⟨hlt, hget⟩ := List.getElem?_eq_some_iff.1 hi
    have hsplit : t.data.toList = t.data.toList.take i ++ 45 :: t.data.toList.drop (i + 1) := by
      rw [← hget, ← List.drop_eq_getElem_cons hlt, List.take_append_drop]
    refine .inl ⟨t.data.toList.take i, t.data.toList.drop (i + 1), hsplit, fun hm => ?_, ?_⟩
    · obtain ⟨j, hj⟩ := List.mem_iff_getElem?.1 hm
      rw [List.getElem?_take] at hj
      split at hj
      · rename_i hji
        have := h4 j hji
        rw [(occ45 _ _).2 hj] at this
        cases this
      · cases hj
    · unfold cutB Lib.cut
      rw [hd, h1, if_pos (by omega), Int.toNat_natCast]
      rfl
theorem byteAt_get {s : ByteArray} {i : Nat} {c : UInt8} (h : s.data.toList[i]? = some c) : i < s.size ∧ byteAt s (i : Int) = (c.toNat : Int) := by
  obtain ⟨h1, h2⟩ := List.getElem?_eq_some_iff.1 h
  exact ⟨by rw [← list_size]; exact h1, by rw [byteAt_nat h1, h2]⟩
theorem dashF_hit {s : ByteArray} : ∀ (a pre b : List UInt8) (d : Nat), s.data.toList = pre ++ (a ++ 45 :: b) → (45 : UInt8) ∉ a → a.length < d → dashF s d pre.length = pre.length + a.length
  | [], pre, b, d + 1, h, _, _ => by
    have hg : s.data.toList[pre.length]? = some 45 := by rw [h, List.getElem?_append_right (Nat.le_refl _)]; simp
    obtain ⟨h1, h2⟩ := byteAt_get hg
    simp only [dashF]
    rw [if_neg (fun hh => hh.2 (by rw [h2]; rfl))]
    rfl
  | c :: a, pre, b, d + 1, h, hn, hd => by
    have hg : s.data.toList[pre.length]? = some c := by rw [h, List.getElem?_append_right (Nat.le_refl _)]; simp
    obtain ⟨h1, h2⟩ := byteAt_get hg
    have hc : c ≠ 45 := fun e => hn (by rw [e]; exact List.mem_cons_self)
    simp only [dashF]
    rw [if_pos ⟨h1, by
      rw [h2]
      intro e
      have e' : c.toNat = 45 := by omega
      exact hc (UInt8.toNat_inj.1 (by rw [e']; rfl))⟩]
    have := dashF_hit a (pre ++ [c]) b d (by rw [h]; simp) (fun hm => hn (List.mem_cons_of_mem _ hm)) (by simp at hd; omega)
    rw [List.length_append, List.length_singleton] at this
    rw [this, List.length_cons]; omega
theorem dashF_miss {s : ByteArray} : ∀ (a pre : List UInt8) (d : Nat), s.data.toList = pre ++ a → (45 : UInt8) ∉ a → a.length ≤ d → dashF s d pre.length = pre.length + a.length
  | [], pre, d, h, _, _ => by
    have hsz : s.size = pre.length := by rw [← list_size, h]; simp
    cases d with
    | zero => rfl
    | succ d => simp only [dashF]; rw [if_neg (fun hh => by omega)]; rfl
  | c :: a, pre, d + 1, h, hn, hd => by
    have hg : s.data.toList[pre.length]? = some c := by rw [h, List.getElem?_append_right (Nat.le_refl _)]; simp
    obtain ⟨h1, h2⟩ := byteAt_get hg
    have hc : c ≠ 45 := fun e => hn (by rw [e]; exact List.mem_cons_self)
    simp only [dashF]
    rw [if_pos ⟨h1, by
      rw [h2]
      intro e
      have e' : c.toNat = 45 := by omega
      exact hc (UInt8.toNat_inj.1 (by rw [e']; rfl))⟩]
    have := dashF_miss a (pre ++ [c]) d (by rw [h]; simp) (fun hm => hn (List.mem_cons_of_mem _ hm)) (by simp at hd; omega)
    rw [List.length_append, List.length_singleton] at this
    rw [this, List.length_cons]; omega
theorem split45 : ∀ (a a' b b' : List UInt8), (45 : UInt8) ∉ a → (45 : UInt8) ∉ a' → a ++ 45 :: b = a' ++ 45 :: b' → a = a' ∧ b = b'
  | [], [], b, b', _, _, h => ⟨rfl, (List.cons.inj h).2⟩
  | [], c :: a', b, b', _, h', h => absurd (by rw [(List.cons.inj h).1]; exact List.mem_cons_self) h'
  | c :: a, [], b, b', h', _, h => absurd (by rw [← (List.cons.inj h).1]; exact List.mem_cons_self) h'
  | c :: a, c' :: a', b, b', h1, h2, h => by
    obtain ⟨e1, e2⟩ := List.cons.inj h
    obtain ⟨e3, e4⟩ := split45 a a' b b' (fun hm => h1 (List.mem_cons_of_mem _ hm)) (fun hm => h2 (List.mem_cons_of_mem _ hm)) e2
    exact ⟨by rw [e1, e3], e4⟩
theorem Canon.no45 {t : ByteArray} {v : Int} (h : Canon t v) : (45 : UInt8) ∉ t.data.toList := fun hm => by
  have := h.dig 45 hm
  have e : (45 : UInt8).toNat = 45 := rfl
  omega
theorem canon_mayI {n : Int} (h : mayI n = true) : Canon (itoaB n) n := canon_may (mayI_t h).1 (mayI_t h).2
theorem at_far {t : ByteArray} (hw : farS ++ t ≠ wholeB 7) (hne : farS ++ t ≠ noS) :
    (match stepR (farS ++ t) 7 with | some r => r | none => (0, 0, 0, ())) = (match stepD (farS ++ t) 7 with | some r => r | none => ((0, 0, 0, ()) : R3)) := by
  have hh : headB 7 = farS := rfl
  have hL : (farS ++ t).data.toList = farS.data.toList ++ t.data.toList := ba_app _ _
  have hlen : farS.data.toList.length = 4 := rfl
  have hsz : (farS ++ t).size = 4 + t.data.toList.length := by rw [← list_size, hL, List.length_append, hlen]
  have hR : stepR (farS ++ t) 7 = (if (cutB t dash).2.2.1 = true ∧ (numB (cutB t dash).1).2.1 = true ∧ (numB (cutB t dash).2.1).2.1 = true then some (7, (numB (cutB t dash).1).1, (numB (cutB t dash).2.1).1, ()) else some (0, 0, 0, ())) := by
    unfold stepR inner
    rw [if_neg hne, if_neg hw, hh, pref_app, if_neg (by decide), if_neg (by decide), if_pos rfl, rest_app]
  have hD : stepD (farS ++ t) 7 = try3 (farS ++ t) 7 (numP (farS ++ t) 4 (dashF (farS ++ t) (farS ++ t).size 4)) (numP (farS ++ t) (dashF (farS ++ t) (farS ++ t).size 4 + 1) (farS ++ t).size) := by
    unfold stepD
    rw [if_pos rfl]
  rw [hR, hD]
  rcases cut_dash t with ⟨a, b, h1, h2, h3⟩ | ⟨h1, h2⟩
  · have hdash : dashF (farS ++ t) (farS ++ t).size 4 = 4 + a.length := by
      have := dashF_hit (s := farS ++ t) a farS.data.toList b (farS ++ t).size (by rw [hL, h1]) h2 (by rw [hsz, h1, List.length_append]; omega)
      rw [hlen] at this
      exact this
    have n1 : numP (farS ++ t) 4 (4 + a.length) = numD a := by
      unfold numP
      rw [hL, h1]
      show numD ((a ++ 45 :: b).take (4 + a.length - 4)) = _
      rw [show 4 + a.length - 4 = a.length by omega, List.take_left']
      rfl
    have n2 : numP (farS ++ t) (4 + a.length + 1) (farS ++ t).size = numD b := by
      unfold numP
      rw [hsz, hL, h1]
      have e : (farS.data.toList ++ (a ++ 45 :: b)).drop (4 + a.length + 1) = b := by
        have e1 : farS.data.toList ++ (a ++ 45 :: b) = (farS.data.toList ++ (a ++ [45])) ++ b := by simp
        rw [e1, List.drop_left']
        rw [List.length_append, List.length_append, hlen, List.length_singleton]; omega
      rw [e, List.take_of_length_le]
      rw [List.length_append, List.length_cons]; omega
    rw [h3, hdash, n1, n2]
    dsimp only
    by_cases hc : (numB ⟨a.toArray⟩).2.1 = true ∧ (numB ⟨b.toArray⟩).2.1 = true
    · rw [if_pos ⟨rfl, hc.1, hc.2⟩]
      have c1 := canon_numB hc.1
      have c2 := canon_numB hc.2
      have d1 := numD_canon c1
      have d2 := numD_canon c2
      rw [mk_list] at d1 d2
      rw [d1, d2, try3_some hne c1.1 c2.1 ?_]
      unfold nameB
      rw [hh, if_neg (by decide), show mayI (numB ⟨b.toArray⟩).1 = true from decide_eq_true ⟨c2.1, c2.2.1⟩, if_neg (by decide), if_pos rfl, show mayI (numB ⟨a.toArray⟩).1 = true from decide_eq_true ⟨c1.1, c1.2.1⟩, if_neg (by decide), c1.2.2, c2.2.2]
      refine ba_ext ?_
      rw [ba_toList, ba_toList, ba_app, ba_app, ba_app, hL, h1]
      show farS.data.toList ++ a ++ [45] ++ b = _
      simp
    · rw [if_neg (fun h => hc ⟨h.2.1, h.2.2⟩), try3_none]
      intro hs _ _ h
      rcases name_pref hs h with ⟨h4, _⟩ | ⟨_, hm, ⟨_, hm1, h4⟩ | ⟨h4, _⟩⟩
      · exact absurd h4 (by decide)
      · have e := app_inj h4
        have c1 := canon_mayI hm1
        have c2 := canon_mayI hm
        have e2 : (itoaB (numD a)).data.toList ++ 45 :: (itoaB (numD b)).data.toList = a ++ 45 :: b := by
          rw [← h1, ← e, ba_app, ba_app]; rfl
        obtain ⟨e3, e4⟩ := split45 _ _ _ _ c1.no45 h2 e2
        refine hc ⟨?_, ?_⟩
        · have : ByteArray.mk a.toArray = itoaB (numD a) := by have := mk_ba (itoaB (numD a)); rw [e3] at this; exact this
          rw [this, numB_canon c1]
        · have : ByteArray.mk b.toArray = itoaB (numD b) := by have := mk_ba (itoaB (numD b)); rw [e4] at this; exact this
          rw [this, numB_canon c2]
      · exact h4 rfl
  · rw [if_neg (fun h => by rw [h2] at h; cases h.1)]
    have hdash : dashF (farS ++ t) (farS ++ t).size 4 = 4 + t.data.toList.length := by
      have := dashF_miss (s := farS ++ t) t.data.toList farS.data.toList (farS ++ t).size hL h1 (by omega)
      rw [hlen] at this
      exact this
    have n2 : numP (farS ++ t) (4 + t.data.toList.length + 1) (farS ++ t).size = -1 := by
      unfold numP numD
      rw [hsz, if_pos]
      left
      rw [show 4 + t.data.toList.length - (4 + t.data.toList.length + 1) = 0 by omega, List.take_zero]
    rw [hdash, n2, try3_none]
    intro _ _ h
    omega
/-! one kind alone -/
def first2 (x : ByteArray) : Option UInt8 × Option UInt8 := (x.data.toList[0]?, x.data.toList[1]?)
theorem first2_app {p t : ByteArray} (h : 2 ≤ p.size) : first2 (p ++ t) = first2 p := by
  unfold first2
  have e := list_size p
  rw [ba_app, List.getElem?_append_left (by omega), List.getElem?_append_left (by omega)]
theorem head2 {k : Int} (h : headB k ≠ noS) : 2 ≤ (headB k).size := by
  rcases head_cases k with ⟨_, e⟩ | ⟨_, e⟩ | ⟨_, e⟩ | ⟨_, e⟩ | ⟨_, e⟩ | ⟨_, e⟩ <;> rw [e] <;> first | decide | exact absurd e h
theorem pref_excl {k j : Int} (hk : headB k ≠ noS) (hj : headB j ≠ noS) (hne : k ≠ j) (t : ByteArray) : prefB (headB k ++ t) (headB j) = false := by
  cases h : prefB (headB k ++ t) (headB j) with
  | false => rfl
  | true =>
    have e := congrArg first2 (pref_split h)
    rw [first2_app (head2 hk), first2_app (head2 hj)] at e
    exfalso
    rcases head_cases k with ⟨k1, e1⟩ | ⟨k1, e1⟩ | ⟨k1, e1⟩ | ⟨k1, e1⟩ | ⟨k1, e1⟩ | ⟨_, e1⟩ <;> rcases head_cases j with ⟨j1, e2⟩ | ⟨j1, e2⟩ | ⟨j1, e2⟩ | ⟨j1, e2⟩ | ⟨j1, e2⟩ | ⟨_, e2⟩ <;>
      first | exact hk e1 | exact hj e2 | (rw [e1, e2] at e; exact absurd e (by decide)) | exact hne (k1.trans j1.symm)
theorem whole_cases (k : Int) : wholeB k = curS ∨ wholeB k = tmpS ∨ wholeB k = cacS ∨ wholeB k = noS := by
  unfold wholeB
  cases k == (4 : Int) <;> cases k == (5 : Int) <;> cases k == (6 : Int) <;> simp
theorem head_not {k : Int} (hk : headB k ≠ noS) (t : ByteArray) (j : Int) : headB k ++ t ≠ wholeB j ∧ headB k ++ t ≠ noS := by
  have key : ∀ x, (x = curS ∨ x = tmpS ∨ x = cacS ∨ x = noS) → headB k ++ t ≠ x := by
    intro x hx h
    have e := congrArg first2 h
    rw [first2_app (head2 hk)] at e
    rcases head_cases k with ⟨_, e1⟩ | ⟨_, e1⟩ | ⟨_, e1⟩ | ⟨_, e1⟩ | ⟨_, e1⟩ | ⟨_, e1⟩ <;> first | exact hk e1 | (rw [e1] at e; rcases hx with e2 | e2 | e2 | e2 <;> (rw [e2] at e; exact absurd e (by decide)))
  exact ⟨key _ (whole_cases j), key _ (.inr (.inr (.inr rfl)))⟩
theorem read_head {k : Int} (h1 : 1 ≤ k) (h8 : k ≤ 8) (hk : headB k ≠ noS) (t : ByteArray) : readF (headB k ++ t) = docF (headB k ++ t) ∧ readF (headB k ++ t) = (match stepR (headB k ++ t) k with | some r => r | none => (0, 0, 0, ())) := by
  have hR : ∀ j, j ≠ k → 1 ≤ j → j ≤ 8 → stepR (headB k ++ t) j = none := fun j hj _ _ => stepR_none (fun _ => (head_not hk t j).1) (fun hh => pref_excl hk hh (fun e => hj e.symm) t)
  have hD : ∀ j, j ≠ k → 1 ≤ j → j ≤ 8 → stepD (headB k ++ t) j = none := fun j hj _ _ => stepD_none (fun _ => (head_not hk t j).1) (fun hh => pref_excl hk hh (fun e => hj e.symm) t)
  have r1 : readF (headB k ++ t) = _ := readL_at hR 8 1 (by omega) h1 (by omega) (by omega)
  have r2 : docF (headB k ++ t) = _ := docL_at hD 8 1 (by omega) h1 (by omega) (by omega)
  refine ⟨?_, r1⟩
  rw [r1, r2]
  by_cases h7 : k = 7
  · subst h7
    exact at_far (head_not hk t 7).1 (head_not hk t 7).2
  · exact at_plain h7 hk (head_not hk t k).1 (head_not hk t k).2
theorem read_doc (s : ByteArray) : readF s = docF s := by
  by_cases h0 : s = noS
  · subst h0
    have a : readF noS = (0, 0, 0, ()) := readL_none 8 1 fun j _ _ => stepR_none (fun h => absurd rfl h) (fun hh => by
      cases h : prefB noS (headB j) with
      | false => rfl
      | true => exact absurd (pref_no h) hh)
    have b : docF noS = (0, 0, 0, ()) := docL_none 8 1 fun j _ _ => stepD_none (fun h => absurd rfl h) (fun hh => by
      cases h : prefB noS (headB j) with
      | false => rfl
      | true => exact absurd (pref_no h) hh)
    rw [a, b]
  by_cases hp : ∃ k, 1 ≤ k ∧ k ≤ 8 ∧ headB k ≠ noS ∧ prefB s (headB k) = true
  · obtain ⟨k, h1, h8, hk, hpk⟩ := hp
    rw [pref_split hpk]
    exact (read_head h1 h8 hk _).1
  · have hnp : ∀ j, 1 ≤ j → j ≤ 8 → headB j ≠ noS → prefB s (headB j) = false := fun j h1 h8 hh => by
      cases h : prefB s (headB j) with
      | false => rfl
      | true => exact absurd ⟨j, h1, h8, hh, h⟩ hp
    by_cases hw : ∃ k, 1 ≤ k ∧ k ≤ 8 ∧ s = wholeB k
    · obtain ⟨k, h1, h8, hk⟩ := hw
      have hs : s = curS ∨ s = tmpS ∨ s = cacS ∨ s = noS := by rw [hk]; exact whole_cases k
      rcases hs with e | e | e | e
      · rw [e]; decide +kernel
      · rw [e]; decide +kernel
      · rw [e]; decide +kernel
      · exact absurd e h0
    · have a : readF s = (0, 0, 0, ()) := readL_none 8 1 fun j h1 h2 => stepR_none (fun _ e => hw ⟨j, h1, by omega, e⟩) (hnp j h1 (by omega))
      have b : docF s = (0, 0, 0, ()) := docL_none 8 1 fun j h1 h2 => stepD_none (fun _ e => hw ⟨j, h1, by omega, e⟩) (hnp j h1 (by omega))
      rw [a, b]
end Go.Eng.Bk
/- NameAll's function answers true. -/
namespace Go.Eng.Bk
open Go Go.Proofs Go.Eng
set_option linter.unusedVariables false
set_option linter.unusedSimpArgs false
set_option maxRecDepth 100000
theorem s3 {k : Nat} (hk : 1010 ≤ k) (a0 a1 a2 : Int) (a3 : ByteArray) : callN B k 3 [.v i64 a0, .v i64 a1, .v i64 a2, .v .str a3] = (some true : Option Bool) := by
  obtain ⟨k, rfl⟩ := Nat.exists_eq_add_of_le' (show 1 ≤ k by omega)
  refine (callS k 3 _).trans ((t3 (callN B k) (lvl B k).2 k a0 a1 a2 a3).trans ?_)
  by_cases h : a3.size > 200
  · rw [bT (by omega)]
    exact bnd (s8 (by omega)) rfl
  · rw [bF (by omega)]
    refine bnd (s9 (by omega) a3 (by omega)) ?_
    refine bnd (s10 (by omega) a3 (by omega)) ?_
    refine bnd (s11 (by omega) a0 a1 a2) ?_
    refine bnd (s12 (by omega) a0 a1 a2) ?_
    rw [← read_doc, seq_dec, decide_eq_true rfl]
    simp only [beq_self_eq_true, cond_true]
    change @Eq (Option Bool) (Option.bind (callN B k 8 [] : Option Bool) _) _
    exact bnd (s8 (by omega)) rfl
end Go.Eng.Bk
/- Names: malformed ones. -/
namespace Go.Eng.Bk
open Go Go.Proofs Go.Eng
set_option linter.unusedVariables false
set_option linter.unusedSimpArgs false
set_option maxRecDepth 100000
def L13 (D : ByteArray) : List ByteArray := [(ByteArray.mk #[(108 : UInt8), (111 : UInt8), (103 : UInt8), (45 : UInt8), (48 : UInt8)]) ++ D, (ByteArray.mk #[(108 : UInt8), (111 : UInt8), (103 : UInt8), (45 : UInt8), (32 : UInt8)]) ++ D, (ByteArray.mk #[(108 : UInt8), (111 : UInt8), (103 : UInt8), (45 : UInt8), (45 : UInt8)]) ++ D, (ByteArray.mk #[(108 : UInt8), (111 : UInt8), (103 : UInt8), (45 : UInt8)]) ++ D ++ (ByteArray.mk #[(45 : UInt8), (49 : UInt8)]), (ByteArray.mk #[(102 : UInt8), (97 : UInt8), (114 : UInt8), (45 : UInt8)]) ++ D, (ByteArray.mk #[(102 : UInt8), (97 : UInt8), (114 : UInt8), (45 : UInt8), (49 : UInt8), (45 : UInt8), (48 : UInt8)]) ++ D, (ByteArray.mk #[(102 : UInt8), (97 : UInt8), (114 : UInt8), (45 : UInt8)]) ++ D ++ (ByteArray.mk #[(45 : UInt8)]), (ByteArray.mk #[(76 : UInt8), (111 : UInt8), (103 : UInt8), (45 : UInt8)]) ++ D, (ByteArray.mk #[(108 : UInt8), (111 : UInt8), (103 : UInt8)]) ++ D, (ByteArray.mk #[(99 : UInt8), (117 : UInt8), (114 : UInt8), (114 : UInt8), (101 : UInt8), (110 : UInt8), (116 : UInt8), (45 : UInt8), (49 : UInt8)]), (ByteArray.mk #[(109 : UInt8), (97 : UInt8), (114 : UInt8), (107 : UInt8), (45 : UInt8)]), (ByteArray.mk #[(116 : UInt8), (97 : UInt8), (98 : UInt8), (108 : UInt8), (101 : UInt8), (45 : UInt8), (120 : UInt8)]), (ByteArray.mk #[])]
section
variable (call : CallT B) (inl : InlT) (m : Nat)
def body5 (a1 : Int) (D : ByteArray) : Option Bool := if (↑((ByteArray.mk #[(108 : UInt8), (111 : UInt8), (103 : UInt8), (45 : UInt8), (48 : UInt8)]).size + (D).size) : Int) > IntKind.i64.max then (none) else (if (↑((ByteArray.mk #[(108 : UInt8), (111 : UInt8), (103 : UInt8), (45 : UInt8), (32 : UInt8)]).size + (D).size) : Int) > IntKind.i64.max then (none) else (if (↑((ByteArray.mk #[(108 : UInt8), (111 : UInt8), (103 : UInt8), (45 : UInt8), (45 : UInt8)]).size + (D).size) : Int) > IntKind.i64.max then (none) else (if (↑((ByteArray.mk #[(108 : UInt8), (111 : UInt8), (103 : UInt8), (45 : UInt8)]).size + (D).size) : Int) > IntKind.i64.max then (none) else (if (↑(ByteArray.size ((ByteArray.mk #[(108 : UInt8), (111 : UInt8), (103 : UInt8), (45 : UInt8)]) ++ D) + (ByteArray.mk #[(45 : UInt8), (49 : UInt8)]).size) : Int) > IntKind.i64.max then (none) else (if (↑((ByteArray.mk #[(102 : UInt8), (97 : UInt8), (114 : UInt8), (45 : UInt8)]).size + (D).size) : Int) > IntKind.i64.max then (none) else (if (↑((ByteArray.mk #[(102 : UInt8), (97 : UInt8), (114 : UInt8), (45 : UInt8), (49 : UInt8), (45 : UInt8), (48 : UInt8)]).size + (D).size) : Int) > IntKind.i64.max then (none) else (if (↑((ByteArray.mk #[(102 : UInt8), (97 : UInt8), (114 : UInt8), (45 : UInt8)]).size + (D).size) : Int) > IntKind.i64.max then (none) else (if (↑(ByteArray.size ((ByteArray.mk #[(102 : UInt8), (97 : UInt8), (114 : UInt8), (45 : UInt8)]) ++ D) + (ByteArray.mk #[(45 : UInt8)]).size) : Int) > IntKind.i64.max then (none) else (if (↑((ByteArray.mk #[(76 : UInt8), (111 : UInt8), (103 : UInt8), (45 : UInt8)]).size + (D).size) : Int) > IntKind.i64.max then (none) else (if (↑((ByteArray.mk #[(108 : UInt8), (111 : UInt8), (103 : UInt8)]).size + (D).size) : Int) > IntKind.i64.max then (none) else (if (0 : Int) ≤ (IntKind.i64.wrap a1).tmod (↑(L13 D).length : Int) ∧ (IntKind.i64.wrap a1).tmod (↑(L13 D).length : Int) < (↑(L13 D).length : Int) then ((call 9 [(.v .str ((L13 D).getD ((IntKind.i64.wrap a1).tmod (↑(L13 D).length : Int)).toNat (ByteArray.mk #[])))]).bind fun (v1 : (Int × Int × Int × Unit)) => bif (v1.fst == (0 : Int)) == true then (bif (v1.snd.fst == (0 : Int)) == true then (bif (v1.snd.snd.fst == (0 : Int)) == true then ((call 8 []).bind fun (v2 : Bool) => some (v2)) else (some (false))) else (some (false))) else (some (false))) else (none))))))))))))
theorem t5' (a0 a1 : Int) : stepN B call inl m 5 [argAV (.int .u32) a0, argAV (.int .u8) a1] = ((call 12 [(.v (.int .i64) ((1 : Int))), (.v (.int .i64) ((0 : Int))), (.v (.int .i64) (IntKind.i64.wrap a0))] : Option ByteArray).bind fun (v0 : ByteArray) => bif decide ((↑(ByteArray.size v0) : Int) < (5 : Int)) then (some (false)) else (if (0 : Int) ≤ (4 : Int) ∧ (4 : Int) ≤ (↑(ByteArray.size v0) : Int) then body5 call a1 (ByteArray.extract v0 (Int.toNat (4 : Int)) (ByteArray.size v0)) else none) : Option Bool) := by kernel_rfl
end
theorem step_plain {k0 : Int} {t : ByteArray} (h7 : k0 ≠ 7) (hh : headB k0 ≠ noS) : stepR (headB k0 ++ t) k0 = (if (numB t).2.1 = true then some (k0, 0, (numB t).1, ()) else some (0, 0, 0, ())) := by
  unfold stepR inner
  rw [if_neg (head_not hh t k0).2, if_neg (head_not hh t k0).1, pref_app, if_neg (by decide), if_neg hh, if_neg h7, rest_app]
theorem step_far (t : ByteArray) : stepR (farS ++ t) 7 = (if (cutB t dash).2.2.1 = true ∧ (numB (cutB t dash).1).2.1 = true ∧ (numB (cutB t dash).2.1).2.1 = true then some (7, (numB (cutB t dash).1).1, (numB (cutB t dash).2.1).1, ()) else some (0, 0, 0, ())) := by
  have hh : headB 7 = farS := rfl
  have hn := head_not (k := 7) (by rw [hh]; decide) t 7
  rw [hh] at hn
  unfold stepR inner
  rw [if_neg hn.2, if_neg hn.1, hh, pref_app, if_neg (by decide), if_neg (by decide), if_pos rfl, rest_app]
theorem bad_plain {k : Int} (h1 : 1 ≤ k) (h8 : k ≤ 8) (h7 : k ≠ 7) (hk : headB k ≠ noS) {t : ByteArray} (h : ∀ v, ¬ Canon t v) : readF (headB k ++ t) = (0, 0, 0, ()) := by
  rw [(read_head h1 h8 hk t).2, step_plain h7 hk, if_neg (fun hc => h _ (canon_numB hc))]
theorem bad_far {t : ByteArray} (h : ∀ a b : List UInt8, t.data.toList = a ++ 45 :: b → (45 : UInt8) ∉ a → (∀ v, ¬ Canon ⟨b.toArray⟩ v)) : readF (farS ++ t) = (0, 0, 0, ()) := by
  have hh : headB 7 = farS := rfl
  have := (read_head (k := 7) (by omega) (by omega) (by rw [hh]; decide) t).2
  rw [hh] at this
  rw [this, step_far]
  rcases cut_dash t with ⟨a, b, h1, h2, h3⟩ | ⟨h1, h2⟩
  · rw [h3, if_neg (fun hc => h a b h1 h2 _ (canon_numB hc.2.2))]
  · rw [if_neg (fun hc => by rw [h2] at hc; cases hc.1)]
theorem bad_none {s : ByteArray} (hw : ∀ k, s ≠ wholeB k) (hp : ∀ k, headB k ≠ noS → prefB s (headB k) = false) : readF s = (0, 0, 0, ()) :=
  readL_none 8 1 fun j _ _ => stepR_none (fun _ => hw j) (hp j)
theorem no_pref {s : ByteArray} {k : Int} (hk : headB k ≠ noS) (h : first2 s ≠ first2 (headB k)) : prefB s (headB k) = false := by
  cases hh : prefB s (headB k) with
  | false => rfl
  | true =>
    have e := congrArg first2 (pref_split hh)
    rw [first2_app (head2 hk)] at e
    exact absurd e h
theorem canon_cons0 {D : ByteArray} {n : Int} (hD : Canon D n) (v : Int) : ¬ Canon ⟨(48 :: D.data.toList).toArray⟩ v := fun h => by
  obtain ⟨a, rfl, _, ha⟩ := hD.list
  obtain ⟨b, rfl, _, hb⟩ := h.list
  have hb' : 48 :: D.data.toList = Lib.decDigits b := hb
  have e : decV 0 (48 :: D.data.toList) = decV 0 D.data.toList := rfl
  rw [hb', ha, decV_dec, decV_dec] at e
  have : b = a := Option.some.inj e
  rw [ha, this] at hb'
  have := congrArg List.length hb'
  simp at this
theorem canon_bad {t : ByteArray} {c : UInt8} (hc : c ∈ t.data.toList) (h : ¬ (48 ≤ c.toNat ∧ c.toNat ≤ 57)) (v : Int) : ¬ Canon t v := fun hh => h (hh.dig c hc)
theorem bad13 {D : ByteArray} {n : Int} (hD : Canon D n) : ∀ x ∈ L13 D, readF x = (0, 0, 0, ()) := by
  have l1 : headB 1 = logS := rfl
  have sp : ∀ (p q t : ByteArray), p.data.toList = q.data.toList ++ t.data.toList → p = q ++ t := fun p q t h => ba_ext (by rw [ba_toList, ba_toList, ba_app, h])
  have hdD : ∀ c ∈ D.data.toList, 48 ≤ c.toNat ∧ c.toNat ≤ 57 := hD.dig
  have n45 : (45 : UInt8) ∉ D.data.toList := hD.no45
  have hneD : D.data.toList ≠ [] := by obtain ⟨a, rfl, _, ha⟩ := hD.list; rw [ha]; exact dec_ne a
  intro x hx
  unfold L13 at hx
  simp only [List.mem_cons, List.not_mem_nil, or_false] at hx
  rcases hx with rfl | rfl | rfl | rfl | rfl | rfl | rfl | rfl | rfl | rfl | rfl | rfl | rfl
  · refine (congrArg readF (sp _ logS ⟨(48 :: D.data.toList).toArray⟩ (by rw [ba_app]; rfl))).trans ?_
    rw [← l1]
    exact bad_plain (by omega) (by omega) (by omega) (by decide) (canon_cons0 hD)
  · refine (congrArg readF (sp _ logS ⟨(32 :: D.data.toList).toArray⟩ (by rw [ba_app]; rfl))).trans ?_
    rw [← l1]
    exact bad_plain (by omega) (by omega) (by omega) (by decide) (canon_bad (c := 32) List.mem_cons_self (by decide))
  · refine (congrArg readF (sp _ logS ⟨(45 :: D.data.toList).toArray⟩ (by rw [ba_app]; rfl))).trans ?_
    rw [← l1]
    exact bad_plain (by omega) (by omega) (by omega) (by decide) (canon_bad (c := 45) List.mem_cons_self (by decide))
  · refine (congrArg readF (sp _ logS ⟨(D.data.toList ++ [45, 49]).toArray⟩ (by rw [ba_app, ba_app, List.append_assoc]))).trans ?_
    rw [← l1]
    exact bad_plain (by omega) (by omega) (by omega) (by decide) (canon_bad (c := 45) (show (45 : UInt8) ∈ D.data.toList ++ [45, 49] by simp) (by decide))
  · exact bad_far fun a b h _ => absurd (show (45 : UInt8) ∈ D.data.toList by rw [h]; simp) n45
  · refine (congrArg readF (sp _ farS ⟨([49] ++ 45 :: 48 :: D.data.toList).toArray⟩ (by rw [ba_app]; rfl))).trans ?_
    refine bad_far fun a b h ha => ?_
    have h' : [49] ++ 45 :: (48 :: D.data.toList) = a ++ 45 :: b := h
    obtain ⟨_, e⟩ := split45 _ _ _ _ (by decide) ha h'
    rw [← e]
    exact canon_cons0 hD
  · refine (congrArg readF (sp _ farS ⟨(D.data.toList ++ [45]).toArray⟩ (by rw [ba_app, ba_app, List.append_assoc]))).trans ?_
    refine bad_far fun a b h ha v hv => ?_
    have h' : D.data.toList ++ 45 :: [] = a ++ 45 :: b := h
    obtain ⟨_, e⟩ := split45 _ _ _ _ n45 ha h'
    rw [← e] at hv
    obtain ⟨c, _, _, hc⟩ := hv.list
    exact dec_ne c hc.symm
  · have f2 : ∀ t, first2 (({ data := #[(76 : UInt8), (111 : UInt8), (103 : UInt8), (45 : UInt8)] } : ByteArray) ++ t) = (some 76, some 111) := fun t => first2_app (by decide)
    refine bad_none (fun k h => ?_) (fun k hk => no_pref hk (by
      rw [f2]
      rcases head_cases k with ⟨_, e⟩ | ⟨_, e⟩ | ⟨_, e⟩ | ⟨_, e⟩ | ⟨_, e⟩ | ⟨_, e⟩ <;> first | exact absurd e hk | (rw [e]; decide)))
    have e := congrArg first2 h
    rw [f2] at e
    rcases whole_cases k with e2 | e2 | e2 | e2 <;> (rw [e2] at e; exact absurd e (by decide))
  · have f2 : ∀ t, first2 (({ data := #[(108 : UInt8), (111 : UInt8), (103 : UInt8)] } : ByteArray) ++ t) = (some 108, some 111) := fun t => first2_app (by decide)
    refine bad_none (fun k h => ?_) (fun k hk => ?_)
    · have e := congrArg first2 h
      rw [f2] at e
      rcases whole_cases k with e2 | e2 | e2 | e2 <;> (rw [e2] at e; exact absurd e (by decide))
    · rcases head_cases k with ⟨_, e⟩ | ⟨_, e⟩ | ⟨_, e⟩ | ⟨_, e⟩ | ⟨_, e⟩ | ⟨_, e⟩
      · cases hh : prefB (({ data := #[(108 : UInt8), (111 : UInt8), (103 : UInt8)] } : ByteArray) ++ D) (headB k) with
        | false => rfl
        | true =>
          have e1 := congrArg (fun x : ByteArray => x.data.toList) (pref_split hh)
          simp only [e, ba_app] at e1
          have e2 : (108 : UInt8) :: 111 :: 103 :: D.data.toList = 108 :: 111 :: 103 :: 45 :: (restB (({ data := #[(108 : UInt8), (111 : UInt8), (103 : UInt8)] } : ByteArray) ++ D) logS).data.toList := e1
          have e3 : D.data.toList = 45 :: _ := (List.cons.inj (List.cons.inj (List.cons.inj e2).2).2).2
          exact absurd (show (45 : UInt8) ∈ D.data.toList by rw [e3]; simp) n45
      all_goals first | exact absurd e hk | exact no_pref hk (by rw [f2, e]; decide)
  · decide +kernel
  · decide +kernel
  · decide +kernel
  · decide +kernel
theorem small_neg {α : Type} {a b : Nat} {x y : Option α} (h : a + b ≤ 1000) : (if ((a + b : Nat) : Int) > IntKind.i64.max then x else y) = y := if_neg (by rw [max64]; omega)
theorem sz1 {p D : ByteArray} (hp : p.size ≤ 100) (hD : D.size ≤ 100) : p.size + D.size ≤ 1000 := by omega
theorem sz2 {p D q : ByteArray} (hp : p.size ≤ 100) (hD : D.size ≤ 100) (hq : q.size ≤ 100) : (p ++ D).size + q.size ≤ 1000 := by rw [ByteArray.size_append]; omega
theorem b5 {k : Nat} (hk : 100 ≤ k) {D : ByteArray} {n : Int} (hD : Canon D n) (hz : D.size ≤ 100) {w : Nat} (hw : w < 256) : body5 (callN B k) (w : Int) D = some true := by
  unfold body5
  iterate 11 (refine (small_neg (by first | exact sz1 (by decide) hz | exact sz2 (by decide) hz (by decide))).trans ?_)
  have hlen : (L13 D).length = 13 := rfl
  rw [hlen, w64 (x := (w : Int)) (by omega) (by omega)]
  have e : Int.tmod (w : Int) ((13 : Nat) : Int) = ((w % 13 : Nat) : Int) := rfl
  rw [e]
  refine (if_pos (by omega)).trans ?_
  rw [Int.toNat_natCast]
  have hm : (L13 D).getD (w % 13) (ByteArray.mk #[]) ∈ L13 D := getD_mem (by rw [hlen]; omega) _
  have hr := bad13 hD _ hm
  have hsz : ∀ x ∈ L13 D, x.size < 1000 := by
    intro x hx
    unfold L13 at hx
    simp only [List.mem_cons, List.not_mem_nil, or_false] at hx
    have z : ∀ p : ByteArray, p.size ≤ 100 → (p ++ D).size < 900 := fun p hp => by rw [ByteArray.size_append]; omega
    have z2 : ∀ p q : ByteArray, p.size ≤ 100 → q.size ≤ 10 → (p ++ D ++ q).size < 1000 := fun p q hp hq => by rw [ByteArray.size_append]; have := z p hp; omega
    rcases hx with rfl | rfl | rfl | rfl | rfl | rfl | rfl | rfl | rfl | rfl | rfl | rfl | rfl
    all_goals first | exact Nat.lt_of_lt_of_le (z _ (by decide)) (by decide) | exact z2 _ _ (by decide) (by decide) | decide
  have h9 := s9 (k := k) (by omega) _ (Nat.lt_trans (hsz _ hm) (by decide))
  rw [hr] at h9
  refine bnd h9 ?_
  exact bnd (s8 (k := k) (by omega)) rfl
theorem s5 {k : Nat} (hk : 200 ≤ k) {a0 : Int} (h0 : 0 ≤ a0) (h1 : a0 < 4294967296) {w : Nat} (hw : w < 256) : callN B k 5 [.v (.int .u32) a0, .v (.int .u8) (w : Int)] = (some true : Option Bool) := by
  obtain ⟨k, rfl⟩ := Nat.exists_eq_add_of_le' (show 1 ≤ k by omega)
  refine (callS k 5 _).trans ((t5' (callN B k) (lvl B k).2 k a0 w).trans ?_)
  rw [w64 (x := a0) (by omega) (by omega)]
  refine bnd (s12 (by omega) 1 0 a0) ?_
  have hcan := canon_may h0 (show a0 ≤ 9007199254740992 by omega)
  have hz := itoaB_size h0 (show a0 ≤ 9007199254740992 by omega)
  have hnm : nameB 1 0 a0 = logS ++ itoaB a0 := by
    unfold nameB
    rw [show headB 1 = logS from rfl, if_neg (by decide), show mayI a0 = true from decide_eq_true ⟨h0, by omega⟩, if_neg (by decide), if_neg (by decide)]
  have h4 : logS.size = 4 := rfl
  have hpos : 1 ≤ (itoaB a0).size := by
    obtain ⟨b, rfl, _, hb⟩ := hcan.list
    rw [← list_size, hb]
    have := dec_ne b
    cases hd : Lib.decDigits b with
    | nil => exact absurd hd this
    | cons _ _ => simp
  have hsz : (nameB 1 0 a0).size = 4 + (itoaB a0).size := by rw [hnm, ByteArray.size_append]; rfl
  rw [bF (by omega)]
  refine (if_pos (by omega)).trans ?_
  have hex : ByteArray.extract (nameB 1 0 a0) (Int.toNat (4 : Int)) (ByteArray.size (nameB 1 0 a0)) = itoaB a0 := by
    rw [hnm]; exact ext_r logS (itoaB a0)
  rw [hex]
  exact b5 (by omega) hcan (by omega) hw
end Go.Eng.Bk
/- Names: a name is read as what it was told of. -/
namespace Go.Eng.Bk
open Go Go.Proofs Go.Eng
set_option linter.unusedVariables false
set_option linter.unusedSimpArgs false
set_option maxRecDepth 100000
theorem name_whole {k e n : Int} (h : headB k = noS) : nameB k e n = wholeB k := by unfold nameB; rw [if_pos h]
theorem name_plain {k e n : Int} (h : headB k ≠ noS) (hn : mayI n = true) (h7 : k ≠ 7) : nameB k e n = headB k ++ itoaB n := by
  unfold nameB
  rw [if_neg h, if_neg (by rw [hn]; decide), if_neg h7]
theorem name_far {e n : Int} (he : mayI e = true) (hn : mayI n = true) : nameB 7 e n = farS ++ itoaB e ++ dash ++ itoaB n := by
  unfold nameB
  rw [if_neg (by decide), if_neg (by rw [hn]; decide), if_pos rfl, if_neg (by rw [he]; decide)]
  rfl
theorem cut_name {e n : Int} (he : mayI e = true) (hn : mayI n = true) : cutB (itoaB e ++ (dash ++ itoaB n)) dash = (itoaB e, itoaB n, true, ()) := by
  have hl : (itoaB e ++ (dash ++ itoaB n)).data.toList = (itoaB e).data.toList ++ 45 :: (itoaB n).data.toList := by rw [ba_app, ba_app]; rfl
  have n1 := (canon_mayI he).no45
  rcases cut_dash (itoaB e ++ (dash ++ itoaB n)) with ⟨a, b, h1, h2, h3⟩ | ⟨h1, h2⟩
  · obtain ⟨rfl, rfl⟩ := split45 _ _ _ _ n1 h2 (hl.symm.trans h1)
    rw [h3, mk_ba, mk_ba]
  · exact absurd (by rw [hl]; simp) h1
theorem read_name {k e n : Int} (h1 : 1 ≤ k) (h8 : k ≤ 8) (he : mayI e = true) (hn : mayI n = true) : readF (nameB k e n) = (k, (if k = 7 then e else 0), (if headB k = noS then 0 else n), ()) := by
  have plain : headB k ≠ noS → k ≠ 7 → readF (nameB k e n) = (k, (if k = 7 then e else 0), (if headB k = noS then 0 else n), ()) := by
    intro hh h7
    rw [name_plain hh hn h7, (read_head h1 h8 hh _).2, step_plain h7 hh, numB_canon (canon_mayI hn), if_pos rfl, if_neg h7, if_neg hh]
  have hc : k = 1 ∨ k = 2 ∨ k = 3 ∨ k = 4 ∨ k = 5 ∨ k = 6 ∨ k = 7 ∨ k = 8 := by omega
  rcases hc with rfl | rfl | rfl | rfl | rfl | rfl | rfl | rfl
  · exact plain (by decide) (by decide)
  · exact plain (by decide) (by decide)
  · exact plain (by decide) (by decide)
  · exact (congrArg readF (name_whole (by decide))).trans (show readF (wholeB 4) = ((4 : Int), (0 : Int), (0 : Int), ()) by kernel_rfl)
  · exact (congrArg readF (name_whole (by decide))).trans (show readF (wholeB 5) = ((5 : Int), (0 : Int), (0 : Int), ()) by kernel_rfl)
  · exact (congrArg readF (name_whole (by decide))).trans (show readF (wholeB 6) = ((6 : Int), (0 : Int), (0 : Int), ()) by kernel_rfl)
  · rw [name_far he hn, ByteArray.append_assoc, ByteArray.append_assoc]
    have hh : headB 7 = farS := rfl
    have := (read_head (k := 7) (by omega) (by omega) (by rw [hh]; decide) (itoaB e ++ (dash ++ itoaB n))).2
    rw [hh] at this
    rw [this, step_far, cut_name he hn, numB_canon (canon_mayI he), numB_canon (canon_mayI hn), if_pos ⟨rfl, rfl, rfl⟩, if_pos rfl, if_neg (by decide)]
  · exact plain (by decide) (by decide)
def okc (c : UInt8) : Prop := (97 ≤ c.toNat ∧ c.toNat ≤ 122) ∨ (48 ≤ c.toNat ∧ c.toNat ≤ 57) ∨ c.toNat = 45
instance (c : UInt8) : Decidable (okc c) := by unfold okc; infer_instance
theorem okc_itoa {n : Int} (hn : mayI n = true) : ∀ c ∈ (itoaB n).data.toList, okc c := fun c hc => .inr (.inl ((canon_mayI hn).dig c hc))
theorem okc_app {a b : ByteArray} (ha : ∀ c ∈ a.data.toList, okc c) (hb : ∀ c ∈ b.data.toList, okc c) : ∀ c ∈ (a ++ b).data.toList, okc c := by
  intro c hc
  rw [ba_app] at hc
  rcases List.mem_append.1 hc with h | h
  · exact ha c h
  · exact hb c h
theorem name_chars {k e n : Int} (h1 : 1 ≤ k) (h8 : k ≤ 8) (he : mayI e = true) (hn : mayI n = true) : (∀ c ∈ (nameB k e n).data.toList, okc c) ∧ (nameB k e n).size ≤ 40 ∧ nameB k e n ≠ noS := by
  have in1 := itoaB_size (mayI_t hn).1 (mayI_t hn).2
  have ie1 := itoaB_size (mayI_t he).1 (mayI_t he).2
  have plain : headB k ≠ noS → k ≠ 7 → (∀ c ∈ (headB k).data.toList, okc c) → (headB k).size ≤ 6 → (∀ c ∈ (nameB k e n).data.toList, okc c) ∧ (nameB k e n).size ≤ 40 ∧ nameB k e n ≠ noS := by
    intro hh h7 ho hs
    rw [name_plain hh hn h7]
    refine ⟨okc_app ho (okc_itoa hn), by rw [ByteArray.size_append]; omega, (head_not hh _ 0).2⟩
  have hc : k = 1 ∨ k = 2 ∨ k = 3 ∨ k = 4 ∨ k = 5 ∨ k = 6 ∨ k = 7 ∨ k = 8 := by omega
  rcases hc with rfl | rfl | rfl | rfl | rfl | rfl | rfl | rfl
  · exact plain (by decide) (by decide) (by decide) (by decide)
  · exact plain (by decide) (by decide) (by decide) (by decide)
  · exact plain (by decide) (by decide) (by decide) (by decide)
  · rw [name_whole (by decide)]; decide
  · rw [name_whole (by decide)]; decide
  · rw [name_whole (by decide)]; decide
  · rw [name_far he hn]
    refine ⟨okc_app (okc_app (okc_app (by decide) (okc_itoa he)) (by decide)) (okc_itoa hn), ?_, ?_⟩
    · have s1 : farS.size = 4 := by decide
      have s2 : dash.size = 1 := by decide
      rw [ByteArray.size_append, ByteArray.size_append, ByteArray.size_append]; omega
    · rw [ByteArray.append_assoc, ByteArray.append_assoc]
      have hh : headB 7 = farS := rfl
      rw [← hh]
      exact (head_not (by rw [hh]; decide) _ 0).2
  · exact plain (by decide) (by decide) (by decide) (by decide)
theorem name_inj {k o e n m : Int} (h1 : 1 ≤ k) (h8 : k ≤ 8) (o1 : 1 ≤ o) (o8 : o ≤ 8) (he : mayI e = true) (hn : mayI n = true) (hm : mayI m = true) : nameB k e n = nameB o e m ↔ k = o ∧ (headB k = noS ∨ n = m) := by
  constructor
  · intro h
    have h' := congrArg readF h
    rw [read_name h1 h8 he hn, read_name o1 o8 he hm] at h'
    obtain ⟨rfl, h2⟩ := Prod.mk.inj h'
    refine ⟨rfl, ?_⟩
    by_cases hh : headB k = noS
    · exact .inl hh
    · obtain ⟨_, h3⟩ := Prod.mk.inj h2
      obtain ⟨h3, _⟩ := Prod.mk.inj h3
      rw [if_neg hh, if_neg hh] at h3
      exact .inr h3
  · rintro ⟨rfl, h | rfl⟩
    · rw [name_whole h, name_whole h]
    · rfl
end Go.Eng.Bk
/- What the machine answers at some functions of the program: printed by the generator, each checked by the kernel. -/
namespace Go.Eng.Bk
open Go Go.Proofs Go.Eng
set_option linter.unusedVariables false
set_option maxRecDepth 100000
abbrev kk (a : Int) : Int := IntKind.i64.wrap ((1 : Int) + (IntKind.i64.wrap a).tmod (8 : Int))
abbrev ee (a : Int) : Int := IntKind.i64.wrap (Int.fdiv a ((2 : Int) ^ Min.min (Int.toNat (11 : Int)) IntKind.u64.bits))
section
variable (call : CallT B) (inl : InlT) (m : Nat)
/-! function 4 -/
def s4_3 (a0 : Int) (a1 : Int) (a2 : Int) (a3 : Int) (a4 : Int) (v0 : ByteArray) (x2 : Int) : St := { t := [.bad, .bad, .bad, .bad, .bad, .bad, .bad, .bad, .bad, .bad, .bad, (.v (.int .i64) ((kk a0))), (.v (.int .i64) ((kk a1))), (.v (.int .i64) ((ee a2))), (.v (.int .i64) ((ee a3))), (.v (.int .i64) ((ee a4))), (.v .str (v0)), .bad, .bad, .bad, (.v .bool ((kk a0) == (6 : Int))), (.v (.int .i64) (x2)), (.raw undef), .bad, .bad, .bad, .bad, .bad, .bad, .bad, .bad, .bad, .bad, .bad, .bad, .bad, .bad, .bad, .bad, .bad, .bad, .bad, .bad, .bad, .bad, .bad, .bad, .bad, .bad, .bad, .bad, .bad, .bad, .bad, .bad, .bad, .bad, .bad, .bad, .bad, .bad, .bad, .bad, .bad, .bad, .bad, .bad, .bad, .bad, .bad, .bad, .bad, .bad, .bad, .bad, .bad, .bad, .bad, .bad, .bad, .bad, .bad, .bad, .bad, .bad, .bad, .bad, .bad, .bad, .bad, .bad, .bad, .bad, .bad, .bad, .bad, .bad, .bad, .bad, .bad, .bad, .bad, .bad, .bad, .bad, .bad, .bad, .bad, .bad, .bad, .bad, .bad, .bad, .bad, .bad, .bad, .bad, .bad, .bad, .bad, .bad, .bad, .bad, .bad, .bad, (.raw undef), (.raw undef), (.raw undef), (.raw undef), (.raw undef), (.raw undef), (.raw undef), (.raw undef), (.raw undef), (.raw undef), (.raw undef), (.raw undef), (.raw undef), (.raw undef), (.raw undef), (.raw undef), (.raw undef), (.raw undef), (.raw undef), (.raw undef), (.raw undef), (.raw undef)], bx := [], live := 0, g := [] }
def s4_3x4 (y0 : Int) (y1 : Int) (y2 : Int) (y3 : Int) (y4 : Int) (y5 : ByteArray) : St := { t := [.bad, .bad, .bad, .bad, .bad, .bad, .bad, .bad, .bad, .bad, (.v .bool (false)), (.v (.int .i64) ((kk y0))), (.v (.int .i64) ((kk y1))), (.v (.int .i64) ((ee y2))), (.v (.int .i64) ((ee y3))), (.v (.int .i64) ((ee y4))), (.v .str (y5)), .bad, .bad, .bad, (.v .bool ((kk y0) == (6 : Int))), .bad, (.raw undef), .bad, .bad, .bad, .bad, .bad, .bad, .bad, .bad, .bad, .bad, .bad, .bad, .bad, .bad, .bad, .bad, .bad, .bad, .bad, .bad, .bad, .bad, .bad, .bad, .bad, .bad, .bad, .bad, .bad, .bad, .bad, .bad, .bad, .bad, .bad, .bad, .bad, .bad, .bad, .bad, .bad, .bad, .bad, .bad, .bad, .bad, .bad, .bad, .bad, .bad, .bad, .bad, .bad, .bad, .bad, .bad, .bad, .bad, .bad, .bad, .bad, .bad, .bad, .bad, .bad, .bad, .bad, .bad, .bad, .bad, .bad, .bad, .bad, .bad, .bad, .bad, .bad, .bad, .bad, .bad, .bad, .bad, .bad, .bad, .bad, .bad, .bad, .bad, .bad, .bad, .bad, .bad, .bad, .bad, .bad, .bad, .bad, .bad, .bad, .bad, .bad, .bad, (.raw undef), (.raw undef), (.raw undef), (.raw undef), (.raw undef), (.raw undef), (.raw undef), (.raw undef), (.raw undef), (.raw undef), (.raw undef), (.raw undef), (.raw undef), (.raw undef), (.raw undef), (.raw undef), (.raw undef), (.raw undef), (.raw undef), (.raw undef), (.raw undef), (.raw undef)], bx := [none, none, none, none, none, none, none, none, none, none, none, none, none, none, none, none, none, none, none, none, none, none, none, none, none, none, none, none, none, none, none, none, none, none], live := 0, g := [] }
def s4_3x5 (y0 : Int) (y1 : Int) (y2 : Int) (y3 : Int) (y4 : Int) (y5 : ByteArray) : St := { t := [.bad, .bad, .bad, .bad, .bad, .bad, .bad, .bad, .bad, .bad, .bad, (.v (.int .i64) ((kk y0))), (.v (.int .i64) ((kk y1))), (.v (.int .i64) ((ee y2))), (.v (.int .i64) ((ee y3))), (.v (.int .i64) ((ee y4))), (.v .str (y5)), .bad, .bad, .bad, (.v .bool ((kk y0) == (6 : Int))), .bad, (.raw undef), .bad, .bad, .bad, .bad, .bad, .bad, .bad, .bad, .bad, .bad, .bad, .bad, .bad, .bad, .bad, .bad, .bad, .bad, .bad, .bad, .bad, .bad, .bad, .bad, .bad, .bad, .bad, .bad, .bad, .bad, .bad, .bad, .bad, .bad, .bad, .bad, .bad, .bad, .bad, .bad, .bad, .bad, .bad, .bad, .bad, .bad, .bad, .bad, .bad, .bad, .bad, .bad, .bad, .bad, .bad, .bad, .bad, .bad, .bad, .bad, .bad, .bad, .bad, .bad, .bad, .bad, .bad, .bad, .bad, .bad, .bad, .bad, .bad, .bad, .bad, .bad, .bad, .bad, .bad, .bad, .bad, .bad, .bad, .bad, .bad, .bad, .bad, .bad, .bad, .bad, .bad, .bad, .bad, .bad, .bad, .bad, .bad, .bad, .bad, .bad, .bad, .bad, (.raw undef), (.raw undef), (.raw undef), (.raw undef), (.raw undef), (.raw undef), (.raw undef), (.raw undef), (.raw undef), (.raw undef), (.raw undef), (.raw undef), (.raw undef), (.raw undef), (.raw undef), (.raw undef), (.raw undef), (.raw undef), (.raw undef), (.raw undef), (.raw undef), (.raw undef)], bx := [none, none, none, none], live := 0, g := [] }
theorem s4_3_l {R : Type} (K : AEx → St → Option R) (a0 : Int) (a1 : Int) (a2 : Int) (a3 : Int) (a4 : Int) (v0 : ByteArray) (x2 : Int) : LP B call inl 4 (m + 1) [1, 1, 1, 1, 1, 1, 1, 0, 1] (s4_3 a0 a1 a2 a3 a4 v0 x2) K = (bif decide (x2 < (↑(ByteArray.size v0) : Int)) then (if (0 : Int) ≤ x2 ∧ x2 < (↑(ByteArray.size v0) : Int) then (bif decide (byteAt v0 x2 ≥ (97 : Int)) == true then (if (0 : Int) ≤ x2 ∧ x2 < (↑(ByteArray.size v0) : Int) then (bif decide (byteAt v0 x2 ≤ (122 : Int)) == false then (if (0 : Int) ≤ x2 ∧ x2 < (↑(ByteArray.size v0) : Int) then (bif decide (byteAt v0 x2 ≥ (48 : Int)) == true then (if (0 : Int) ≤ x2 ∧ x2 < (↑(ByteArray.size v0) : Int) then (bif decide (byteAt v0 x2 ≤ (57 : Int)) == false then (if (0 : Int) ≤ x2 ∧ x2 < (↑(ByteArray.size v0) : Int) then (bif !byteAt v0 x2 == (45 : Int) then (K .ret (s4_3x4 a0 a1 a2 a3 a4 v0)) else (LP B call inl 4 m [1, 1, 1, 1, 1, 1, 1, 0, 1] (s4_3 a0 a1 a2 a3 a4 v0 (IntKind.i64.wrap (x2 + (1 : Int)))) K)) else (none)) else (LP B call inl 4 m [1, 1, 1, 1, 1, 1, 1, 0, 1] (s4_3 a0 a1 a2 a3 a4 v0 (IntKind.i64.wrap (x2 + (1 : Int)))) K)) else (none)) else (if (0 : Int) ≤ x2 ∧ x2 < (↑(ByteArray.size v0) : Int) then (bif !byteAt v0 x2 == (45 : Int) then (K .ret (s4_3x4 a0 a1 a2 a3 a4 v0)) else (LP B call inl 4 m [1, 1, 1, 1, 1, 1, 1, 0, 1] (s4_3 a0 a1 a2 a3 a4 v0 (IntKind.i64.wrap (x2 + (1 : Int)))) K)) else (none))) else (none)) else (LP B call inl 4 m [1, 1, 1, 1, 1, 1, 1, 0, 1] (s4_3 a0 a1 a2 a3 a4 v0 (IntKind.i64.wrap (x2 + (1 : Int)))) K)) else (none)) else (if (0 : Int) ≤ x2 ∧ x2 < (↑(ByteArray.size v0) : Int) then (bif decide (byteAt v0 x2 ≥ (48 : Int)) == true then (if (0 : Int) ≤ x2 ∧ x2 < (↑(ByteArray.size v0) : Int) then (bif decide (byteAt v0 x2 ≤ (57 : Int)) == false then (if (0 : Int) ≤ x2 ∧ x2 < (↑(ByteArray.size v0) : Int) then (bif !byteAt v0 x2 == (45 : Int) then (K .ret (s4_3x4 a0 a1 a2 a3 a4 v0)) else (LP B call inl 4 m [1, 1, 1, 1, 1, 1, 1, 0, 1] (s4_3 a0 a1 a2 a3 a4 v0 (IntKind.i64.wrap (x2 + (1 : Int)))) K)) else (none)) else (LP B call inl 4 m [1, 1, 1, 1, 1, 1, 1, 0, 1] (s4_3 a0 a1 a2 a3 a4 v0 (IntKind.i64.wrap (x2 + (1 : Int)))) K)) else (none)) else (if (0 : Int) ≤ x2 ∧ x2 < (↑(ByteArray.size v0) : Int) then (bif !byteAt v0 x2 == (45 : Int) then (K .ret (s4_3x4 a0 a1 a2 a3 a4 v0)) else (LP B call inl 4 m [1, 1, 1, 1, 1, 1, 1, 0, 1] (s4_3 a0 a1 a2 a3 a4 v0 (IntKind.i64.wrap (x2 + (1 : Int)))) K)) else (none))) else (none))) else (none)) else (K (.exit 0) (s4_3x5 a0 a1 a2 a3 a4 v0))) := by kernel_rfl
theorem s4_3x4_k (a0 : Int) (a1 : Int) (a2 : Int) (a3 : Int) (a4 : Int) (v0 : ByteArray) : (KA B call inl 4 m [1, 1, 1, 1, 1, 1, 1, 0, 1] (FI B call inl 4)) .ret (s4_3x4 a0 a1 a2 a3 a4 v0) = (some (false)) := by kernel_rfl
theorem s4_3x5_k (a0 : Int) (a1 : Int) (a2 : Int) (a3 : Int) (a4 : Int) (v0 : ByteArray) : (KA B call inl 4 m [1, 1, 1, 1, 1, 1, 1, 0, 1] (FI B call inl 4)) (.exit 0) (s4_3x5 a0 a1 a2 a3 a4 v0) = ((call 11 [(.v (.int .i64) ((kk a1))), (.v (.int .i64) ((ee a2))), (.v (.int .i64) ((ee a4)))]).bind fun (v6 : ByteArray) => bif ((kk a0) == (kk a1)) == true then (bif ((kk a0) == (6 : Int)) == false then (bif ((ByteArray.toList v0 == ByteArray.toList v6) == ((ee a3) == (ee a4))) == true then ((call 8 []).bind fun (v7 : Bool) => some (v7)) else (some (false))) else (bif ((ByteArray.toList v0 == ByteArray.toList v6) == true) == true then ((call 8 []).bind fun (v8 : Bool) => some (v8)) else (some (false)))) else (bif ((ByteArray.toList v0 == ByteArray.toList v6) == false) == true then ((call 8 []).bind fun (v9 : Bool) => some (v9)) else (some (false)))) := by kernel_rfl
def s4_14 (a0 : Int) (a1 : Int) (a2 : Int) (a3 : Int) (a4 : Int) (v0 : ByteArray) (x13 : Int) : St := { t := [.bad, .bad, .bad, .bad, .bad, .bad, .bad, .bad, .bad, .bad, .bad, (.v (.int .i64) ((kk a0))), (.v (.int .i64) ((kk a1))), (.v (.int .i64) ((ee a2))), (.v (.int .i64) ((ee a3))), (.v (.int .i64) ((ee a4))), (.v .str (v0)), .bad, .bad, .bad, (.v .bool (true)), (.v (.int .i64) (x13)), (.raw undef), .bad, .bad, .bad, .bad, .bad, .bad, .bad, .bad, .bad, .bad, .bad, .bad, .bad, .bad, .bad, .bad, .bad, .bad, .bad, .bad, .bad, .bad, .bad, .bad, .bad, .bad, .bad, .bad, .bad, .bad, .bad, .bad, .bad, .bad, .bad, .bad, .bad, .bad, .bad, .bad, .bad, .bad, .bad, .bad, .bad, .bad, .bad, .bad, .bad, .bad, .bad, .bad, .bad, .bad, .bad, .bad, .bad, .bad, .bad, .bad, .bad, .bad, .bad, .bad, .bad, .bad, .bad, .bad, .bad, .bad, .bad, .bad, .bad, .bad, .bad, .bad, .bad, .bad, .bad, .bad, .bad, .bad, .bad, .bad, .bad, .bad, .bad, .bad, .bad, .bad, .bad, .bad, .bad, .bad, .bad, .bad, .bad, .bad, .bad, .bad, .bad, .bad, (.raw undef), (.raw undef), (.raw undef), (.raw undef), (.raw undef), (.raw undef), (.raw undef), (.raw undef), (.raw undef), (.raw undef), (.raw undef), (.raw undef), (.raw undef), (.raw undef), (.raw undef), (.raw undef), (.raw undef), (.raw undef), (.raw undef), (.raw undef), (.raw undef), (.raw undef)], bx := [], live := 0, g := [] }
def s4_14x15 (y0 : Int) (y1 : Int) (y2 : Int) (y3 : Int) (y4 : Int) (y5 : ByteArray) : St := { t := [.bad, .bad, .bad, .bad, .bad, .bad, .bad, .bad, .bad, .bad, (.v .bool (false)), (.v (.int .i64) ((kk y0))), (.v (.int .i64) ((kk y1))), (.v (.int .i64) ((ee y2))), (.v (.int .i64) ((ee y3))), (.v (.int .i64) ((ee y4))), (.v .str (y5)), .bad, .bad, .bad, (.v .bool (true)), .bad, (.raw undef), .bad, .bad, .bad, .bad, .bad, .bad, .bad, .bad, .bad, .bad, .bad, .bad, .bad, .bad, .bad, .bad, .bad, .bad, .bad, .bad, .bad, .bad, .bad, .bad, .bad, .bad, .bad, .bad, .bad, .bad, .bad, .bad, .bad, .bad, .bad, .bad, .bad, .bad, .bad, .bad, .bad, .bad, .bad, .bad, .bad, .bad, .bad, .bad, .bad, .bad, .bad, .bad, .bad, .bad, .bad, .bad, .bad, .bad, .bad, .bad, .bad, .bad, .bad, .bad, .bad, .bad, .bad, .bad, .bad, .bad, .bad, .bad, .bad, .bad, .bad, .bad, .bad, .bad, .bad, .bad, .bad, .bad, .bad, .bad, .bad, .bad, .bad, .bad, .bad, .bad, .bad, .bad, .bad, .bad, .bad, .bad, .bad, .bad, .bad, .bad, .bad, .bad, (.raw undef), (.raw undef), (.raw undef), (.raw undef), (.raw undef), (.raw undef), (.raw undef), (.raw undef), (.raw undef), (.raw undef), (.raw undef), (.raw undef), (.raw undef), (.raw undef), (.raw undef), (.raw undef), (.raw undef), (.raw undef), (.raw undef), (.raw undef), (.raw undef), (.raw undef)], bx := [none, none, none, none, none, none, none, none, none, none, none, none, none, none, none, none, none, none, none, none, none, none, none, none, none, none, none, none, none, none, none, none, none, none], live := 0, g := [] }
def s4_14x16 (y0 : Int) (y1 : Int) (y2 : Int) (y3 : Int) (y4 : Int) (y5 : ByteArray) : St := { t := [.bad, .bad, .bad, .bad, .bad, .bad, .bad, .bad, .bad, .bad, .bad, (.v (.int .i64) ((kk y0))), (.v (.int .i64) ((kk y1))), (.v (.int .i64) ((ee y2))), (.v (.int .i64) ((ee y3))), (.v (.int .i64) ((ee y4))), (.v .str (y5)), .bad, .bad, .bad, (.v .bool (true)), .bad, (.raw undef), .bad, .bad, .bad, .bad, .bad, .bad, .bad, .bad, .bad, .bad, .bad, .bad, .bad, .bad, .bad, .bad, .bad, .bad, .bad, .bad, .bad, .bad, .bad, .bad, .bad, .bad, .bad, .bad, .bad, .bad, .bad, .bad, .bad, .bad, .bad, .bad, .bad, .bad, .bad, .bad, .bad, .bad, .bad, .bad, .bad, .bad, .bad, .bad, .bad, .bad, .bad, .bad, .bad, .bad, .bad, .bad, .bad, .bad, .bad, .bad, .bad, .bad, .bad, .bad, .bad, .bad, .bad, .bad, .bad, .bad, .bad, .bad, .bad, .bad, .bad, .bad, .bad, .bad, .bad, .bad, .bad, .bad, .bad, .bad, .bad, .bad, .bad, .bad, .bad, .bad, .bad, .bad, .bad, .bad, .bad, .bad, .bad, .bad, .bad, .bad, .bad, .bad, (.raw undef), (.raw undef), (.raw undef), (.raw undef), (.raw undef), (.raw undef), (.raw undef), (.raw undef), (.raw undef), (.raw undef), (.raw undef), (.raw undef), (.raw undef), (.raw undef), (.raw undef), (.raw undef), (.raw undef), (.raw undef), (.raw undef), (.raw undef), (.raw undef), (.raw undef)], bx := [none, none, none, none], live := 0, g := [] }
theorem s4_14_l {R : Type} (K : AEx → St → Option R) (a0 : Int) (a1 : Int) (a2 : Int) (a3 : Int) (a4 : Int) (v0 : ByteArray) (x13 : Int) : LP B call inl 4 (m + 1) [1, 1, 1, 1, 1, 1, 1, 0, 1] (s4_14 a0 a1 a2 a3 a4 v0 x13) K = (bif decide (x13 < (↑(ByteArray.size v0) : Int)) then (if (0 : Int) ≤ x13 ∧ x13 < (↑(ByteArray.size v0) : Int) then (bif decide (byteAt v0 x13 ≥ (97 : Int)) == true then (if (0 : Int) ≤ x13 ∧ x13 < (↑(ByteArray.size v0) : Int) then (bif decide (byteAt v0 x13 ≤ (122 : Int)) == false then (if (0 : Int) ≤ x13 ∧ x13 < (↑(ByteArray.size v0) : Int) then (bif decide (byteAt v0 x13 ≥ (48 : Int)) == true then (if (0 : Int) ≤ x13 ∧ x13 < (↑(ByteArray.size v0) : Int) then (bif decide (byteAt v0 x13 ≤ (57 : Int)) == false then (if (0 : Int) ≤ x13 ∧ x13 < (↑(ByteArray.size v0) : Int) then (bif !byteAt v0 x13 == (45 : Int) then (K .ret (s4_14x15 a0 a1 a2 a3 a4 v0)) else (LP B call inl 4 m [1, 1, 1, 1, 1, 1, 1, 0, 1] (s4_14 a0 a1 a2 a3 a4 v0 (IntKind.i64.wrap (x13 + (1 : Int)))) K)) else (none)) else (LP B call inl 4 m [1, 1, 1, 1, 1, 1, 1, 0, 1] (s4_14 a0 a1 a2 a3 a4 v0 (IntKind.i64.wrap (x13 + (1 : Int)))) K)) else (none)) else (if (0 : Int) ≤ x13 ∧ x13 < (↑(ByteArray.size v0) : Int) then (bif !byteAt v0 x13 == (45 : Int) then (K .ret (s4_14x15 a0 a1 a2 a3 a4 v0)) else (LP B call inl 4 m [1, 1, 1, 1, 1, 1, 1, 0, 1] (s4_14 a0 a1 a2 a3 a4 v0 (IntKind.i64.wrap (x13 + (1 : Int)))) K)) else (none))) else (none)) else (LP B call inl 4 m [1, 1, 1, 1, 1, 1, 1, 0, 1] (s4_14 a0 a1 a2 a3 a4 v0 (IntKind.i64.wrap (x13 + (1 : Int)))) K)) else (none)) else (if (0 : Int) ≤ x13 ∧ x13 < (↑(ByteArray.size v0) : Int) then (bif decide (byteAt v0 x13 ≥ (48 : Int)) == true then (if (0 : Int) ≤ x13 ∧ x13 < (↑(ByteArray.size v0) : Int) then (bif decide (byteAt v0 x13 ≤ (57 : Int)) == false then (if (0 : Int) ≤ x13 ∧ x13 < (↑(ByteArray.size v0) : Int) then (bif !byteAt v0 x13 == (45 : Int) then (K .ret (s4_14x15 a0 a1 a2 a3 a4 v0)) else (LP B call inl 4 m [1, 1, 1, 1, 1, 1, 1, 0, 1] (s4_14 a0 a1 a2 a3 a4 v0 (IntKind.i64.wrap (x13 + (1 : Int)))) K)) else (none)) else (LP B call inl 4 m [1, 1, 1, 1, 1, 1, 1, 0, 1] (s4_14 a0 a1 a2 a3 a4 v0 (IntKind.i64.wrap (x13 + (1 : Int)))) K)) else (none)) else (if (0 : Int) ≤ x13 ∧ x13 < (↑(ByteArray.size v0) : Int) then (bif !byteAt v0 x13 == (45 : Int) then (K .ret (s4_14x15 a0 a1 a2 a3 a4 v0)) else (LP B call inl 4 m [1, 1, 1, 1, 1, 1, 1, 0, 1] (s4_14 a0 a1 a2 a3 a4 v0 (IntKind.i64.wrap (x13 + (1 : Int)))) K)) else (none))) else (none))) else (none)) else (K (.exit 0) (s4_14x16 a0 a1 a2 a3 a4 v0))) := by kernel_rfl
theorem s4_14x15_k (a0 : Int) (a1 : Int) (a2 : Int) (a3 : Int) (a4 : Int) (v0 : ByteArray) : (KA B call inl 4 m [1, 1, 1, 1, 1, 1, 1, 0, 1] (FI B call inl 4)) .ret (s4_14x15 a0 a1 a2 a3 a4 v0) = (some (false)) := by kernel_rfl
theorem s4_14x16_k (a0 : Int) (a1 : Int) (a2 : Int) (a3 : Int) (a4 : Int) (v0 : ByteArray) : (KA B call inl 4 m [1, 1, 1, 1, 1, 1, 1, 0, 1] (FI B call inl 4)) (.exit 0) (s4_14x16 a0 a1 a2 a3 a4 v0) = ((call 11 [(.v (.int .i64) ((kk a1))), (.v (.int .i64) ((ee a2))), (.v (.int .i64) ((ee a4)))]).bind fun (v17 : ByteArray) => bif ((kk a0) == (kk a1)) == true then (bif ((ByteArray.toList v0 == ByteArray.toList v17) == true) == true then ((call 8 []).bind fun (v18 : Bool) => some (v18)) else (some (false))) else (bif ((ByteArray.toList v0 == ByteArray.toList v17) == false) == true then ((call 8 []).bind fun (v19 : Bool) => some (v19)) else (some (false)))) := by kernel_rfl
theorem t4 (a0 : Int) (a1 : Int) (a2 : Int) (a3 : Int) (a4 : Int) : stepN B call inl m 4 [argAV (.int .u8) a0, argAV (.int .u8) a1, argAV (.int .u64) a2, argAV (.int .u64) a3, argAV (.int .u64) a4] = ((call 11 [(.v (.int .i64) ((kk a0))), (.v (.int .i64) ((ee a2))), (.v (.int .i64) ((ee a3)))]).bind fun (v0 : ByteArray) => (call 9 [(.v .str (v0))]).bind fun (v1 : (Int × Int × Int × Unit)) => bif ((kk a0) == (4 : Int)) == false then (bif ((kk a0) == (5 : Int)) == false then (bif (v1.fst != (kk a0)) == false then (bif (v1.snd.fst != (ee a2)) == true then (bif ((kk a0) == (7 : Int)) == false then (bif (v1.snd.snd.fst != (ee a3)) == true then (bif (!(kk a0) == (6 : Int)) == false then (bif decide ((↑(ByteArray.size v0) : Int) > (40 : Int)) == false then (bif ByteArray.toList v0 == (ByteArray.mk #[]).toList then (some (false)) else (LP B call inl 4 m [1, 1, 1, 1, 1, 1, 1, 0, 1] (s4_3 a0 a1 a2 a3 a4 v0 ((0 : Int))) (KA B call inl 4 m [1, 1, 1, 1, 1, 1, 1, 0, 1] (FI B call inl 4)))) else (some (false))) else (some (false))) else (bif decide ((↑(ByteArray.size v0) : Int) > (40 : Int)) == false then (bif ByteArray.toList v0 == (ByteArray.mk #[]).toList then (some (false)) else (LP B call inl 4 m [1, 1, 1, 1, 1, 1, 1, 0, 1] (s4_3 a0 a1 a2 a3 a4 v0 ((0 : Int))) (KA B call inl 4 m [1, 1, 1, 1, 1, 1, 1, 0, 1] (FI B call inl 4)))) else (some (false)))) else (some (false))) else (bif (v1.snd.snd.fst != (ee a3)) == true then (bif (!(kk a0) == (6 : Int)) == false then (bif decide ((↑(ByteArray.size v0) : Int) > (40 : Int)) == false then (bif ByteArray.toList v0 == (ByteArray.mk #[]).toList then (some (false)) else (LP B call inl 4 m [1, 1, 1, 1, 1, 1, 1, 0, 1] (s4_3 a0 a1 a2 a3 a4 v0 ((0 : Int))) (KA B call inl 4 m [1, 1, 1, 1, 1, 1, 1, 0, 1] (FI B call inl 4)))) else (some (false))) else (some (false))) else (bif decide ((↑(ByteArray.size v0) : Int) > (40 : Int)) == false then (bif ByteArray.toList v0 == (ByteArray.mk #[]).toList then (some (false)) else (LP B call inl 4 m [1, 1, 1, 1, 1, 1, 1, 0, 1] (s4_3 a0 a1 a2 a3 a4 v0 ((0 : Int))) (KA B call inl 4 m [1, 1, 1, 1, 1, 1, 1, 0, 1] (FI B call inl 4)))) else (some (false))))) else (some (false))) else (bif (v1.fst != (kk a0)) == false then (bif (v1.snd.fst != (ee a2)) == true then (bif ((kk a0) == (7 : Int)) == false then (bif (v1.snd.snd.fst != (ee a3)) == true then (bif decide ((↑(ByteArray.size v0) : Int) > (40 : Int)) == false then (bif ByteArray.toList v0 == (ByteArray.mk #[]).toList then (some (false)) else (LP B call inl 4 m [1, 1, 1, 1, 1, 1, 1, 0, 1] (s4_14 a0 a1 a2 a3 a4 v0 ((0 : Int))) (KA B call inl 4 m [1, 1, 1, 1, 1, 1, 1, 0, 1] (FI B call inl 4)))) else (some (false))) else (bif decide ((↑(ByteArray.size v0) : Int) > (40 : Int)) == false then (bif ByteArray.toList v0 == (ByteArray.mk #[]).toList then (some (false)) else (LP B call inl 4 m [1, 1, 1, 1, 1, 1, 1, 0, 1] (s4_14 a0 a1 a2 a3 a4 v0 ((0 : Int))) (KA B call inl 4 m [1, 1, 1, 1, 1, 1, 1, 0, 1] (FI B call inl 4)))) else (some (false)))) else (some (false))) else (bif (v1.snd.snd.fst != (ee a3)) == true then (bif decide ((↑(ByteArray.size v0) : Int) > (40 : Int)) == false then (bif ByteArray.toList v0 == (ByteArray.mk #[]).toList then (some (false)) else (LP B call inl 4 m [1, 1, 1, 1, 1, 1, 1, 0, 1] (s4_14 a0 a1 a2 a3 a4 v0 ((0 : Int))) (KA B call inl 4 m [1, 1, 1, 1, 1, 1, 1, 0, 1] (FI B call inl 4)))) else (some (false))) else (bif decide ((↑(ByteArray.size v0) : Int) > (40 : Int)) == false then (bif ByteArray.toList v0 == (ByteArray.mk #[]).toList then (some (false)) else (LP B call inl 4 m [1, 1, 1, 1, 1, 1, 1, 0, 1] (s4_14 a0 a1 a2 a3 a4 v0 ((0 : Int))) (KA B call inl 4 m [1, 1, 1, 1, 1, 1, 1, 0, 1] (FI B call inl 4)))) else (some (false))))) else (some (false)))) else (bif (v1.fst != (kk a0)) == false then (bif (v1.snd.fst != (ee a2)) == true then (bif ((kk a0) == (7 : Int)) == false then (bif (v1.snd.snd.fst != (ee a3)) == true then (bif decide ((↑(ByteArray.size v0) : Int) > (40 : Int)) == false then (bif ByteArray.toList v0 == (ByteArray.mk #[]).toList then (some (false)) else (LP B call inl 4 m [1, 1, 1, 1, 1, 1, 1, 0, 1] (s4_14 a0 a1 a2 a3 a4 v0 ((0 : Int))) (KA B call inl 4 m [1, 1, 1, 1, 1, 1, 1, 0, 1] (FI B call inl 4)))) else (some (false))) else (bif decide ((↑(ByteArray.size v0) : Int) > (40 : Int)) == false then (bif ByteArray.toList v0 == (ByteArray.mk #[]).toList then (some (false)) else (LP B call inl 4 m [1, 1, 1, 1, 1, 1, 1, 0, 1] (s4_14 a0 a1 a2 a3 a4 v0 ((0 : Int))) (KA B call inl 4 m [1, 1, 1, 1, 1, 1, 1, 0, 1] (FI B call inl 4)))) else (some (false)))) else (some (false))) else (bif (v1.snd.snd.fst != (ee a3)) == true then (bif decide ((↑(ByteArray.size v0) : Int) > (40 : Int)) == false then (bif ByteArray.toList v0 == (ByteArray.mk #[]).toList then (some (false)) else (LP B call inl 4 m [1, 1, 1, 1, 1, 1, 1, 0, 1] (s4_14 a0 a1 a2 a3 a4 v0 ((0 : Int))) (KA B call inl 4 m [1, 1, 1, 1, 1, 1, 1, 0, 1] (FI B call inl 4)))) else (some (false))) else (bif decide ((↑(ByteArray.size v0) : Int) > (40 : Int)) == false then (bif ByteArray.toList v0 == (ByteArray.mk #[]).toList then (some (false)) else (LP B call inl 4 m [1, 1, 1, 1, 1, 1, 1, 0, 1] (s4_14 a0 a1 a2 a3 a4 v0 ((0 : Int))) (KA B call inl 4 m [1, 1, 1, 1, 1, 1, 1, 0, 1] (FI B call inl 4)))) else (some (false))))) else (some (false))) : Option Bool) := by kernel_rfl
end
end Go.Eng.Bk
/- NameBack's function answers true. -/
namespace Go.Eng.Bk
open Go Go.Proofs Go.Eng
set_option linter.unusedVariables false
set_option linter.unusedSimpArgs false
set_option maxRecDepth 100000
theorem w1 {x : Int} (h0 : 0 ≤ x) (h1 : x ≤ 1000000) : IntKind.i64.wrap (x + 1) = x + 1 := w64 (by omega) (by omega)
theorem okc_int {s : ByteArray} (h : ∀ c ∈ s.data.toList, okc c) {i : Nat} (hi : i < s.size) : (97 ≤ byteAt s (i : Int) ∧ byteAt s (i : Int) ≤ 122) ∨ (48 ≤ byteAt s (i : Int) ∧ byteAt s (i : Int) ≤ 57) ∨ byteAt s (i : Int) = 45 := by
  have hi' : i < s.data.toList.length := by rw [list_size]; exact hi
  rw [byteAt_nat hi']
  have := h _ (List.getElem_mem hi')
  unfold okc at this
  omega
section
variable {call : CallT B} {inl : InlT}
theorem l4a {R : Type} (K : AEx → St → Option R) (a0 a1 a2 a3 a4 : Int) (s : ByteArray) (hs : s.size ≤ 40) (ho : ∀ c ∈ s.data.toList, okc c) (d : Nat) : ∀ (i m : Nat), i + d = s.size → d < m →
    LP B call inl 4 m [1, 1, 1, 1, 1, 1, 1, 0, 1] (s4_3 a0 a1 a2 a3 a4 s (i : Int)) K = K (.exit 0) (s4_3x5 a0 a1 a2 a3 a4 s) := by
  induction d with
  | zero =>
    intro i m hd hm
    obtain ⟨m, rfl⟩ : ∃ k, m = k + 1 := ⟨m - 1, by omega⟩
    rw [s4_3_l, bF (by omega)]
  | succ d ih =>
    intro i m hd hm
    obtain ⟨m, rfl⟩ : ∃ k, m = k + 1 := ⟨m - 1, by omega⟩
    have hin : (0 : Int) ≤ (i : Int) ∧ (i : Int) < (↑(ByteArray.size s) : Int) := by omega
    rw [s4_3_l, bT (by omega), w1 (by omega) (by omega)]
    have hnx := ih (i + 1) m (by omega) (by omega)
    have e : ((i + 1 : Nat) : Int) = (i : Int) + 1 := by omega
    rw [e] at hnx
    rw [hnx]
    have hc := okc_int ho (show i < s.size by omega)
    obtain ⟨c, hcc⟩ : ∃ c, byteAt s (i : Int) = c := ⟨_, rfl⟩
    rw [hcc] at hc ⊢
    simp only [if_pos hin]
    rcases hc with ⟨q1, q2⟩ | ⟨q1, q2⟩ | q1
    · rw [decide_eq_true (show c ≥ 97 from q1), decide_eq_true (show c ≤ 122 from q2)]; rfl
    · rw [decide_eq_false (show ¬ c ≥ 97 by omega), decide_eq_true (show c ≥ 48 from q1), decide_eq_true (show c ≤ 57 from q2)]; rfl
    · subst q1; rfl
theorem l4b {R : Type} (K : AEx → St → Option R) (a0 a1 a2 a3 a4 : Int) (s : ByteArray) (hs : s.size ≤ 40) (ho : ∀ c ∈ s.data.toList, okc c) (d : Nat) : ∀ (i m : Nat), i + d = s.size → d < m →
    LP B call inl 4 m [1, 1, 1, 1, 1, 1, 1, 0, 1] (s4_14 a0 a1 a2 a3 a4 s (i : Int)) K = K (.exit 0) (s4_14x16 a0 a1 a2 a3 a4 s) := by
  induction d with
  | zero =>
    intro i m hd hm
    obtain ⟨m, rfl⟩ : ∃ k, m = k + 1 := ⟨m - 1, by omega⟩
    rw [s4_14_l, bF (by omega)]
  | succ d ih =>
    intro i m hd hm
    obtain ⟨m, rfl⟩ : ∃ k, m = k + 1 := ⟨m - 1, by omega⟩
    have hin : (0 : Int) ≤ (i : Int) ∧ (i : Int) < (↑(ByteArray.size s) : Int) := by omega
    rw [s4_14_l, bT (by omega), w1 (by omega) (by omega)]
    have hnx := ih (i + 1) m (by omega) (by omega)
    have e : ((i + 1 : Nat) : Int) = (i : Int) + 1 := by omega
    rw [e] at hnx
    rw [hnx]
    have hc := okc_int ho (show i < s.size by omega)
    obtain ⟨c, hcc⟩ : ∃ c, byteAt s (i : Int) = c := ⟨_, rfl⟩
    rw [hcc] at hc ⊢
    simp only [if_pos hin]
    rcases hc with ⟨q1, q2⟩ | ⟨q1, q2⟩ | q1
    · rw [decide_eq_true (show c ≥ 97 from q1), decide_eq_true (show c ≤ 122 from q2)]; rfl
    · rw [decide_eq_false (show ¬ c ≥ 97 by omega), decide_eq_true (show c ≥ 48 from q1), decide_eq_true (show c ≤ 57 from q2)]; rfl
    · subst q1; rfl
end
theorem kk_u8 {a : Int} (h0 : 0 ≤ a) (h1 : a < 256) : 1 ≤ kk a ∧ kk a ≤ 8 := by
  have e1 : IntKind.i64.wrap a = a := w64 (by omega) (by omega)
  have e2 : a.tmod 8 = a % 8 := Int.tmod_eq_emod_of_nonneg h0
  unfold kk
  rw [e1, e2, w64 (by omega) (by omega)]
  omega
theorem ee_u64 {a : Int} (h0 : 0 ≤ a) (h1 : a < 18446744073709551616) : mayI (ee a) = true := by
  have hp : ((2 : Int) ^ Min.min (Int.toNat (11 : Int)) IntKind.u64.bits) = 2048 := by decide
  have e2 : Int.fdiv a 2048 = a / 2048 := Int.fdiv_eq_ediv_of_nonneg a (by omega)
  unfold ee
  rw [hp, e2, w64 (by omega) (by omega)]
  exact decide_eq_true (by omega)
end Go.Eng.Bk
/- NameBack's function answers true: the end. -/
namespace Go.Eng.Bk
open Go Go.Proofs Go.Eng
set_option linter.unusedVariables false
set_option linter.unusedSimpArgs false
set_option maxRecDepth 100000
theorem head_whole {k : Int} (h1 : 1 ≤ k) (h8 : k ≤ 8) : headB k = noS ↔ (k = 4 ∨ k = 5 ∨ k = 6) := by
  have hc : k = 1 ∨ k = 2 ∨ k = 3 ∨ k = 4 ∨ k = 5 ∨ k = 6 ∨ k = 7 ∨ k = 8 := by omega
  rcases hc with rfl | rfl | rfl | rfl | rfl | rfl | rfl | rfl <;> decide
theorem ibeq (a b : Int) : (a == b) = decide (a = b) := rfl
theorem bne_dec (a b : Int) : (a != b) = !decide (a = b) := rfl
section
variable {q : Nat} {inl : InlT}
theorem fin4a (hq : 4 ≤ q) (m : Nat) (a0 a1 a2 a3 a4 : Int) (s : ByteArray) {k o e n mm : Int} (hk : kk a0 = k) (ho : kk a1 = o) (hn : ee a3 = n) (hm : ee a4 = mm) (he : ee a2 = e) (h4 : k ≠ 4) (h5 : k ≠ 5) (hs : s = nameB o e mm ↔ k = o ∧ (k = 6 ∨ n = mm)) :
    (KA B (callN B q) inl 4 m [1, 1, 1, 1, 1, 1, 1, 0, 1] (FI B (callN B q) inl 4)) (.exit 0) (s4_3x5 a0 a1 a2 a3 a4 s) = some true := by
  rw [s4_3x5_k, hk, ho, hn, hm, he]
  refine bnd (s11 (by omega) o e mm) ?_
  rw [seq_dec, ibeq k o, ibeq k 6, ibeq n mm]
  have h8 : ((callN B q 8 []).bind fun (v7 : Bool) => some v7) = some true := bnd (s8 (by omega)) rfl
  by_cases c1 : k = o
  · by_cases c2 : k = 6
    · rw [decide_eq_true c1, decide_eq_true c2, decide_eq_true (hs.2 ⟨c1, .inl c2⟩)]
      exact h8
    · rw [decide_eq_true c1, decide_eq_false c2]
      by_cases c3 : n = mm
      · rw [decide_eq_true c3, decide_eq_true (hs.2 ⟨c1, .inr c3⟩)]
        exact h8
      · rw [decide_eq_false c3, decide_eq_false (fun h => ((hs.1 h).2.elim c2 c3))]
        exact h8
  · rw [decide_eq_false c1, decide_eq_false (fun h => c1 (hs.1 h).1)]
    exact h8
theorem fin4b (hq : 4 ≤ q) (m : Nat) (a0 a1 a2 a3 a4 : Int) (s : ByteArray) {k o e n mm : Int} (hk : kk a0 = k) (ho : kk a1 = o) (hn : ee a3 = n) (hm : ee a4 = mm) (he : ee a2 = e) (h4 : k = 4 ∨ k = 5) (hs : s = nameB o e mm ↔ k = o) :
    (KA B (callN B q) inl 4 m [1, 1, 1, 1, 1, 1, 1, 0, 1] (FI B (callN B q) inl 4)) (.exit 0) (s4_14x16 a0 a1 a2 a3 a4 s) = some true := by
  rw [s4_14x16_k, hk, ho, hm, he]
  refine bnd (s11 (by omega) o e mm) ?_
  rw [seq_dec, ibeq k o]
  have h8 : ((callN B q 8 []).bind fun (v7 : Bool) => some v7) = some true := bnd (s8 (by omega)) rfl
  by_cases c1 : k = o
  · rw [decide_eq_true c1, decide_eq_true (hs.2 c1)]
    exact h8
  · rw [decide_eq_false c1, decide_eq_false (fun h => c1 (hs.1 h))]
    exact h8
end
theorem s4 {k : Nat} (hk : 50 ≤ k) {a0 a1 a2 a3 a4 : Int} (p0 : 0 ≤ a0 ∧ a0 < 256) (p1 : 0 ≤ a1 ∧ a1 < 256) (p2 : 0 ≤ a2 ∧ a2 < 18446744073709551616) (p3 : 0 ≤ a3 ∧ a3 < 18446744073709551616) (p4 : 0 ≤ a4 ∧ a4 < 18446744073709551616) :
    callN B k 4 [argAV u8 a0, argAV u8 a1, argAV (.int .u64) a2, argAV (.int .u64) a3, argAV (.int .u64) a4] = (some true : Option Bool) := by
  obtain ⟨k, rfl⟩ := Nat.exists_eq_add_of_le' (show 1 ≤ k by omega)
  refine (callS k 4 _).trans ((t4 (callN B k) (lvl B k).2 k a0 a1 a2 a3 a4).trans ?_)
  obtain ⟨c, hc⟩ : ∃ c, kk a0 = c := ⟨_, rfl⟩
  obtain ⟨o, ho⟩ : ∃ c, kk a1 = c := ⟨_, rfl⟩
  obtain ⟨e, he⟩ : ∃ c, ee a2 = c := ⟨_, rfl⟩
  obtain ⟨n, hn⟩ : ∃ c, ee a3 = c := ⟨_, rfl⟩
  obtain ⟨mm, hm⟩ : ∃ c, ee a4 = c := ⟨_, rfl⟩
  have hc8 : 1 ≤ c ∧ c ≤ 8 := hc ▸ kk_u8 p0.1 p0.2
  have ho8 : 1 ≤ o ∧ o ≤ 8 := ho ▸ kk_u8 p1.1 p1.2
  have he' : mayI e = true := he ▸ ee_u64 p2.1 p2.2
  have hn' : mayI n = true := hn ▸ ee_u64 p3.1 p3.2
  have hm' : mayI mm = true := hm ▸ ee_u64 p4.1 p4.2
  rw [hc, he, hn]
  refine bnd (s11 (by omega) c e n) ?_
  obtain ⟨hch, hsz, hne⟩ := name_chars hc8.1 hc8.2 he' hn'
  have hrd := read_name hc8.1 hc8.2 he' hn'
  have hinj := name_inj hc8.1 hc8.2 ho8.1 ho8.2 he' hn' hm'
  rw [head_whole hc8.1 hc8.2] at hinj
  obtain ⟨s, hs⟩ : ∃ s, nameB c e n = s := ⟨_, rfl⟩
  rw [hs] at hch hsz hne hrd hinj ⊢
  refine bnd (s9 (by omega) s (by omega)) ?_
  rw [hrd]
  have z : (40 : Int) < (↑(ByteArray.size s) : Int) ↔ False := ⟨fun h => by omega, fun h => h.elim⟩
  rw [show (ByteArray.mk #[]) = noS from rfl, seq_dec, decide_eq_false hne, show decide ((↑(ByteArray.size s) : Int) > (40 : Int)) = false from decide_eq_false (by omega)]
  simp only [ibeq, bne_dec]
  by_cases h45 : c = 4 ∨ c = 5
  · have hX : (LP B (callN B k) (lvl B k).2 4 k [1, 1, 1, 1, 1, 1, 1, 0, 1] (s4_14 a0 a1 a2 a3 a4 s ((0 : Int))) (KA B (callN B k) (lvl B k).2 4 k [1, 1, 1, 1, 1, 1, 1, 0, 1] (FI B (callN B k) (lvl B k).2 4)) : Option Bool) = some true :=
      (l4b (call := callN B k) (inl := (lvl B k).2) _ a0 a1 a2 a3 a4 s hsz hch s.size 0 k (by omega) (by omega)).trans
        (fin4b (by omega) k a0 a1 a2 a3 a4 s hc ho hn hm he h45 (hinj.trans ⟨fun h => h.1, fun h => ⟨h, .inl (h45.elim .inl (fun h => .inr (.inl h)))⟩⟩))
    rw [hX]
    rcases h45 with rfl | rfl
    · by_cases he0 : (0 : Int) = e <;> by_cases hn0 : (0 : Int) = n <;> simp [he0, hn0, head_whole]
    · by_cases he0 : (0 : Int) = e <;> by_cases hn0 : (0 : Int) = n <;> simp [he0, hn0, head_whole]
  · have hX : (LP B (callN B k) (lvl B k).2 4 k [1, 1, 1, 1, 1, 1, 1, 0, 1] (s4_3 a0 a1 a2 a3 a4 s ((0 : Int))) (KA B (callN B k) (lvl B k).2 4 k [1, 1, 1, 1, 1, 1, 1, 0, 1] (FI B (callN B k) (lvl B k).2 4)) : Option Bool) = some true :=
      (l4a (call := callN B k) (inl := (lvl B k).2) _ a0 a1 a2 a3 a4 s hsz hch s.size 0 k (by omega) (by omega)).trans
        (fin4a (by omega) k a0 a1 a2 a3 a4 s hc ho hn hm he (fun h => h45 (.inl h)) (fun h => h45 (.inr h)) (hinj.trans ⟨fun h => ⟨h.1, h.2.elim (fun h => .inl (by omega)) .inr⟩, fun h => ⟨h.1, h.2.elim (fun h => .inl (.inr (.inr h))) .inr⟩⟩))
    rw [hX]
    have n4 : c ≠ 4 := fun h => h45 (.inl h)
    have n5 : c ≠ 5 := fun h => h45 (.inr h)
    by_cases h6 : c = 6
    · subst h6
      by_cases he0 : (0 : Int) = e <;> by_cases hn0 : (0 : Int) = n <;> simp [he0, hn0, head_whole]
    · have hh : ¬ headB c = noS := fun h => by rcases (head_whole hc8.1 hc8.2).1 h with h | h | h <;> omega
      by_cases h7 : c = 7
      · subst h7
        simp [hh]
      · by_cases he0 : (0 : Int) = e <;> simp [he0, hh, h7, h6, n4, n5]
end Go.Eng.Bk
/- What the machine answers at some functions of the program: printed by the generator, each checked by the kernel. -/
namespace Go.Eng.Bk
open Go Go.Proofs Go.Eng
set_option linter.unusedVariables false
set_option maxRecDepth 100000
section
variable (call : CallT B) (inl : InlT) (m : Nat)
/-! function 18 -/
def s18_4 (a0 : Ver) (a1 : Ver) (a2 : Int) (x1 : (List ByteArray)) (x2 : Int) : St := { t := [.bad, .bad, (.v (.int .i64) (a2)), .bad, (.ptr 0 0), .bad, .nilS, (.own 0 9 .str (x1)), .bad, .bad, .bad, (.raw undef), .bad, (.v (.sl TabT) (a0.snd.snd.snd.snd.fst)), (.v (.int .i64) ((↑(List.length a0.snd.snd.snd.snd.fst) : Int))), (.v (.int .i64) (x2)), .bad, .bad, .bad, .bad, .bad, .bad, .bad, .bad, .bad, .bad, .bad, .bad, .bad, .bad, (.raw undef), (.raw undef), (.raw undef), (.raw undef), (.raw undef), (.raw undef), (.raw undef), (.raw undef), (.raw undef), (.raw undef), (.raw undef), (.raw undef), (.raw undef), (.raw undef), (.raw undef), (.raw undef), (.raw undef), (.raw undef), (.raw undef), (.raw undef), (.raw undef), (.raw undef), (.raw undef), (.raw undef), (.raw undef)], bx := [(some (36, [(.v (.int .i64) (a1.fst)), (.v (.int .i64) (a1.snd.fst)), (.v (.int .i64) (a1.snd.snd.fst)), (.v (.int .i64) (a1.snd.snd.snd.fst)), (.v (.sl TabT) (a1.snd.snd.snd.snd.fst))])), none], live := 1, g := [] }
def s18_4x6 (y0 : Ver) (y1 : Int) (y2 : (List ByteArray)) : St := { t := [.bad, .bad, (.v (.int .i64) (y1)), .bad, (.ptr 0 0), .bad, .nilS, (.own 0 9 .str (y2)), .bad, .bad, .bad, (.raw undef), .bad, .bad, .bad, .bad, .bad, .bad, .bad, .bad, .bad, .bad, .bad, .bad, .bad, .bad, .bad, .bad, .bad, .bad, (.raw undef), (.raw undef), (.raw undef), (.raw undef), (.raw undef), (.raw undef), (.raw undef), (.raw undef), (.raw undef), (.raw undef), (.raw undef), (.raw undef), (.raw undef), (.raw undef), (.raw undef), (.raw undef), (.raw undef), (.raw undef), (.raw undef), (.raw undef), (.raw undef), (.raw undef), (.raw undef), (.raw undef), (.raw undef)], bx := [(some (36, [(.v (.int .i64) (y0.fst)), (.v (.int .i64) (y0.snd.fst)), (.v (.int .i64) (y0.snd.snd.fst)), (.v (.int .i64) (y0.snd.snd.snd.fst)), (.v (.sl TabT) (y0.snd.snd.snd.snd.fst))])), none, none], live := 1, g := [] }
theorem s18_4_l {R : Type} (K : AEx → St → Option R) (a0 : Ver) (a1 : Ver) (a2 : Int) (x1 : (List ByteArray)) (x2 : Int) : LP B call inl 18 (m + 1) [1, 1, 0, 1] (s18_4 a0 a1 a2 x1 x2) K = (bif decide (x2 < (↑(List.length a0.snd.snd.snd.snd.fst) : Int)) then (if (0 : Int) ≤ x2 ∧ x2 < (↑(List.length a0.snd.snd.snd.snd.fst) : Int) then (bif (List.getD a0.snd.snd.snd.snd.fst x2.toNat ((0 : Int), (0 : Int), (0 : Int), (ByteArray.mk #[]), (ByteArray.mk #[]), (0 : Int), (0 : Int), false, false, ())).snd.snd.snd.snd.snd.snd.snd.snd.fst then ((call 11 [(.v (.int .i64) ((7 : Int))), (.v (.int .i64) ((List.getD a0.snd.snd.snd.snd.fst x2.toNat ((0 : Int), (0 : Int), (0 : Int), (ByteArray.mk #[]), (ByteArray.mk #[]), (0 : Int), (0 : Int), false, false, ())).snd.fst)), (.v (.int .i64) ((List.getD a0.snd.snd.snd.snd.fst x2.toNat ((0 : Int), (0 : Int), (0 : Int), (ByteArray.mk #[]), (ByteArray.mk #[]), (0 : Int), (0 : Int), false, false, ())).fst))]).bind fun (v5 : ByteArray) => if (x1.length + [v5].length) * (16 : Nat) ≤ 140737488355328 then (LP B call inl 18 m [1, 1, 0, 1] (s18_4 a0 a1 a2 (x1 ++ [v5]) (IntKind.i64.wrap (x2 + (1 : Int)))) K) else (none)) else (LP B call inl 18 m [1, 1, 0, 1] (s18_4 a0 a1 a2 (x1) (IntKind.i64.wrap (x2 + (1 : Int)))) K)) else (none)) else (K (.exit 0) (s18_4x6 a1 a2 x1))) := by kernel_rfl
def s18_12 (a1 : Ver) (a2 : Int) (x9 : (List ByteArray)) (x10 : Int) : St := { t := [.bad, .bad, (.v (.int .i64) (a2)), .bad, .bad, .bad, .nilS, (.own 0 9 .str (x9)), .bad, .bad, .bad, .bad, .bad, .bad, .bad, .bad, .bad, .bad, .bad, .bad, .bad, .bad, .bad, .bad, .bad, .bad, .bad, .bad, .bad, .bad, .bad, (.v (.sl TabT) (a1.snd.snd.snd.snd.fst)), (.v (.int .i64) ((↑(List.length a1.snd.snd.snd.snd.fst) : Int))), (.v (.int .i64) (x10)), .bad, .bad, .bad, .bad, .bad, .bad, .bad, .bad, .bad, .bad, .bad, .bad, (.raw undef), (.raw undef), (.raw undef), (.raw undef), (.raw undef), (.raw undef), (.raw undef), (.raw undef), (.raw undef)], bx := [none], live := 1, g := [] }
def s18_12x14 (y0 : Int) (y1 : (List ByteArray)) : St := { t := [.bad, .bad, (.v (.int .i64) (y0)), .bad, .bad, .bad, .nilS, (.own 0 9 .str (y1)), .bad, .bad, .bad, .bad, .bad, .bad, .bad, .bad, .bad, .bad, .bad, .bad, .bad, .bad, .bad, .bad, .bad, .bad, .bad, .bad, .bad, .bad, .bad, .bad, .bad, .bad, .bad, .bad, .bad, .bad, .bad, .bad, .bad, .bad, .bad, .bad, .bad, .bad, (.raw undef), (.raw undef), (.raw undef), (.raw undef), (.raw undef), (.raw undef), (.raw undef), (.raw undef), (.raw undef)], bx := [none, none], live := 1, g := [] }
theorem s18_12_l {R : Type} (K : AEx → St → Option R) (a1 : Ver) (a2 : Int) (x9 : (List ByteArray)) (x10 : Int) : LP B call inl 18 (m + 1) [1, 1, 1, 0, 1] (s18_12 a1 a2 x9 x10) K = (bif decide (x10 < (↑(List.length a1.snd.snd.snd.snd.fst) : Int)) then (if (0 : Int) ≤ x10 ∧ x10 < (↑(List.length a1.snd.snd.snd.snd.fst) : Int) then ((call 11 [(.v (.int .i64) ((7 : Int))), (.v (.int .i64) ((List.getD a1.snd.snd.snd.snd.fst x10.toNat ((0 : Int), (0 : Int), (0 : Int), (ByteArray.mk #[]), (ByteArray.mk #[]), (0 : Int), (0 : Int), false, false, ())).snd.fst)), (.v (.int .i64) ((List.getD a1.snd.snd.snd.snd.fst x10.toNat ((0 : Int), (0 : Int), (0 : Int), (ByteArray.mk #[]), (ByteArray.mk #[]), (0 : Int), (0 : Int), false, false, ())).fst))]).bind fun (v13 : ByteArray) => if (x9.length + [v13].length) * (16 : Nat) ≤ 140737488355328 then (LP B call inl 18 m [1, 1, 1, 0, 1] (s18_12 a1 a2 (x9 ++ [v13]) (IntKind.i64.wrap (x10 + (1 : Int)))) K) else (none)) else (none)) else (K (.exit 2) (s18_12x14 a2 x9))) := by kernel_rfl
theorem s18_12x14_k (a2 : Int) (x9 : (List ByteArray)) : (KA B call inl 18 m [1, 1, 1, 0, 1] (FI B call inl 18)) (.exit 2) (s18_12x14 a2 x9) = (bif decide (a2 > (0 : Int)) then ((call 11 [(.v (.int .i64) ((8 : Int))), (.v (.int .i64) ((0 : Int))), (.v (.int .i64) (a2))]).bind fun (v16 : ByteArray) => if (x9.length + [v16].length) * (16 : Nat) ≤ 140737488355328 then ((call 35 [(.v (.sl .str) (x9 ++ [v16]))]).bind fun (v17 : (List ByteArray)) => some (v17)) else (none)) else ((call 35 [(.v (.sl .str) (x9))]).bind fun (v18 : (List ByteArray)) => some (v18))) := by kernel_rfl
theorem s18_4x6_k (a1 : Ver) (a2 : Int) (x1 : (List ByteArray)) : (KA B call inl 18 m [1, 1, 0, 1] (FI B call inl 18)) (.exit 0) (s18_4x6 a1 a2 x1) = (LP B call inl 18 m [1, 1, 1, 0, 1] (s18_12 a1 a2 (x1) ((0 : Int))) (KA B call inl 18 m [1, 1, 1, 0, 1] (FI B call inl 18))) := by kernel_rfl
/-! function 15 -/
def s15_6 (a0 : Ver) (x3 : (List ByteArray)) (x4 : Int) : St := { t := [.bad, .bad, (.ptr 0 0), .bad, .nilS, (.v (.int .i64) ((0 : Int))), (.own 0 9 .str (x3)), .bad, .bad, .bad, .bad, .bad, .bad, .bad, (.v (.sl TabT) (a0.snd.snd.snd.snd.fst)), (.v (.int .i64) ((↑(List.length a0.snd.snd.snd.snd.fst) : Int))), (.v (.int .i64) (x4)), .bad, .bad, .bad, .bad, .bad, .bad, .bad, .bad, .bad, .bad, .bad, .bad, (.raw undef), (.raw undef), (.raw undef), (.raw undef)], bx := [(some (36, [(.v (.int .i64) (a0.fst)), (.v (.int .i64) (a0.snd.fst)), (.v (.int .i64) (a0.snd.snd.fst)), (.v (.int .i64) (a0.snd.snd.snd.fst)), (.v (.sl TabT) (a0.snd.snd.snd.snd.fst))])), none], live := 1, g := [] }
def s15_6x8 (y0 : Ver) (y1 : (List ByteArray)) : St := { t := [.bad, .bad, (.ptr 0 0), .bad, .nilS, (.v (.int .i64) ((0 : Int))), (.own 0 9 .str (y1)), .bad, .bad, .bad, .bad, .bad, .bad, .bad, .bad, .bad, .bad, .bad, .bad, .bad, .bad, .bad, .bad, .bad, .bad, .bad, .bad, .bad, .bad, (.raw undef), (.raw undef), (.raw undef), (.raw undef)], bx := [(some (36, [(.v (.int .i64) (y0.fst)), (.v (.int .i64) (y0.snd.fst)), (.v (.int .i64) (y0.snd.snd.fst)), (.v (.int .i64) (y0.snd.snd.snd.fst)), (.v (.sl TabT) (y0.snd.snd.snd.snd.fst))])), none, none], live := 1, g := [] }
theorem s15_6_l {R : Type} (K : AEx → St → Option R) (a0 : Ver) (x3 : (List ByteArray)) (x4 : Int) : LP B call inl 15 (m + 1) [1, 1, 0, 1] (s15_6 a0 x3 x4) K = (bif decide (x4 < (↑(List.length a0.snd.snd.snd.snd.fst) : Int)) then (if (0 : Int) ≤ x4 ∧ x4 < (↑(List.length a0.snd.snd.snd.snd.fst) : Int) then (bif (List.getD a0.snd.snd.snd.snd.fst x4.toNat ((0 : Int), (0 : Int), (0 : Int), (ByteArray.mk #[]), (ByteArray.mk #[]), (0 : Int), (0 : Int), false, false, ())).snd.snd.snd.snd.snd.snd.snd.fst then ((call 11 [(.v (.int .i64) ((2 : Int))), (.v (.int .i64) ((0 : Int))), (.v (.int .i64) ((List.getD a0.snd.snd.snd.snd.fst x4.toNat ((0 : Int), (0 : Int), (0 : Int), (ByteArray.mk #[]), (ByteArray.mk #[]), (0 : Int), (0 : Int), false, false, ())).fst))]).bind fun (v7 : ByteArray) => if (x3.length + [v7].length) * (16 : Nat) ≤ 140737488355328 then (LP B call inl 15 m [1, 1, 0, 1] (s15_6 a0 (x3 ++ [v7]) (IntKind.i64.wrap (x4 + (1 : Int)))) K) else (none)) else (LP B call inl 15 m [1, 1, 0, 1] (s15_6 a0 (x3) (IntKind.i64.wrap (x4 + (1 : Int)))) K)) else (none)) else (K (.exit 0) (s15_6x8 a0 x3))) := by kernel_rfl
theorem s15_6x8_k (a0 : Ver) (x3 : (List ByteArray)) : (KA B call inl 15 m [1, 1, 0, 1] (FI B call inl 15)) (.exit 0) (s15_6x8 a0 x3) = ((call 35 [(.v (.sl .str) (x3))]).bind fun (v10 : (List ByteArray)) => some ((v10, a0.snd.snd.snd.fst, ()))) := by kernel_rfl
/-! function 16 -/
def s16_9 (a0 : Ver) (x5 : (List ByteArray)) (x6 : Int) : St := { t := [.bad, .bad, (.ptr 0 0), .bad, .nilS, (.v (.int .i64) ((0 : Int))), (.v (.sl .str) (x5)), (.v (.int .i64) (x6)), .bad, .bad, .bad, .bad, .bad, .bad, .bad, .bad, .bad, .bad, .bad, .bad, .bad, .bad, .bad, .bad, .bad, .bad, .bad, .bad, .bad, .bad, .bad, .bad, .bad, .bad, .bad, .bad, .bad, (.raw undef), (.raw undef), (.raw undef)], bx := [(some (36, [(.v (.int .i64) (a0.fst)), (.v (.int .i64) (a0.snd.fst)), (.v (.int .i64) (a0.snd.snd.fst)), (.v (.int .i64) (a0.snd.snd.snd.fst)), (.v (.sl TabT) (a0.snd.snd.snd.snd.fst))]))], live := 0, g := [] }
def s16_9x12 (y0 : Ver) (y1 : (List ByteArray)) : St := { t := [.bad, .bad, (.ptr 0 0), .bad, .nilS, (.v (.int .i64) ((0 : Int))), (.v (.sl .str) (y1)), .bad, .bad, .bad, .bad, .bad, .bad, .bad, .bad, .bad, .bad, .bad, .bad, .bad, .bad, .bad, .bad, .bad, .bad, .bad, .bad, .bad, .bad, .bad, .bad, .bad, .bad, .bad, .bad, .bad, .bad, (.raw undef), (.raw undef), (.raw undef)], bx := [(some (36, [(.v (.int .i64) (y0.fst)), (.v (.int .i64) (y0.snd.fst)), (.v (.int .i64) (y0.snd.snd.fst)), (.v (.int .i64) (y0.snd.snd.snd.fst)), (.v (.sl TabT) (y0.snd.snd.snd.snd.fst))])), none, none, none, none, none], live := 0, g := [] }
theorem s16_9_l {R : Type} (K : AEx → St → Option R) (a0 : Ver) (x5 : (List ByteArray)) (x6 : Int) : LP B call inl 16 (m + 1) [1, 1, 1, 1, 1, 0, 1] (s16_9 a0 x5 x6) K = (bif decide (x6 < (↑(List.length a0.snd.snd.snd.snd.fst) : Int)) then (if (0 : Int) ≤ x6 ∧ x6 < (↑(List.length a0.snd.snd.snd.snd.fst) : Int) then (bif (List.getD a0.snd.snd.snd.snd.fst x6.toNat ((0 : Int), (0 : Int), (0 : Int), (ByteArray.mk #[]), (ByteArray.mk #[]), (0 : Int), (0 : Int), false, false, ())).snd.snd.snd.snd.snd.snd.snd.fst then (if (0 : Int) ≤ x6 ∧ x6 < (↑(List.length a0.snd.snd.snd.snd.fst) : Int) then ((call 12 [(.v (.int .i64) ((2 : Int))), (.v (.int .i64) ((0 : Int))), (.v (.int .i64) ((List.getD a0.snd.snd.snd.snd.fst x6.toNat ((0 : Int), (0 : Int), (0 : Int), (ByteArray.mk #[]), (ByteArray.mk #[]), (0 : Int), (0 : Int), false, false, ())).fst))]).bind fun (v10 : ByteArray) => (call 36 [(.v (.sl .str) (x5)), (.v .str (v10))]).bind fun (v11 : (List ByteArray)) => LP B call inl 16 m [1, 1, 1, 1, 1, 0, 1] (s16_9 a0 (v11) (IntKind.i64.wrap (x6 + (1 : Int)))) K) else (none)) else (LP B call inl 16 m [1, 1, 1, 1, 1, 0, 1] (s16_9 a0 (x5) (IntKind.i64.wrap (x6 + (1 : Int)))) K)) else (none)) else (K (.exit 0) (s16_9x12 a0 x5))) := by kernel_rfl
theorem s16_9x12_k (a0 : Ver) (x5 : (List ByteArray)) : (KA B call inl 16 m [1, 1, 1, 1, 1, 0, 1] (FI B call inl 16)) (.exit 0) (s16_9x12 a0 x5) = (some ((x5, a0.snd.snd.snd.fst, ()))) := by kernel_rfl
theorem t16 (a0 : Ver) (a1 : ByteArray) : stepN B call inl m 16 [argAV VerT a0, argAV .str a1] = ((call 36 [(.v (.sl .str) ([])), (.v .str ((ByteArray.mk #[(99 : UInt8), (97 : UInt8), (99 : UInt8), (104 : UInt8), (101 : UInt8)])))]).bind fun (v0 : (List ByteArray)) => (call 36 [(.v (.sl .str) (v0)), (.v .str ((ByteArray.mk #[(99 : UInt8), (117 : UInt8), (114 : UInt8), (114 : UInt8), (101 : UInt8), (110 : UInt8), (116 : UInt8)])))]).bind fun (v1 : (List ByteArray)) => (call 36 [(.v (.sl .str) (v1)), (.v .str (a1))]).bind fun (v2 : (List ByteArray)) => LP B call inl 16 m [1, 1, 1, 1, 1, 0, 1] (s16_9 a0 (v2) ((0 : Int))) (KA B call inl 16 m [1, 1, 1, 1, 1, 0, 1] (FI B call inl 16)) : Option ((List ByteArray) × Int × Unit)) := by kernel_rfl
end
end Go.Eng.Bk
