/- Plain laws about texts and keys as bytes: what the printed num.PutText, num.GetText, key.* come to. -/
import Derived.Test.YtcglkacplbeakaaQNum
import Derived.Test.YtcglkacplbeakaaPAx3
import Derived.Test.YtcglkacplbeakaaPAx5
import Derived.Test.YtcglkacplbeakaaPAx7
import Derived.Test.YtcglkacplbeakaaPAx4
namespace Go.Proofs.Ytcglkacplbeakaa.PA
open Go.RowKit Go.Proofs.YtcglkacplbeakaaW.PrintWords Go.Proofs.YtcglkacplbeakaaW.PrintLast Go.Proofs.YtcglkacplbeakaaW.PrintMore
set_option linter.unusedVariables false
set_option linter.unusedSimpArgs false

theorem ba_toList (s : ByteArray) : s.toList = s.data.toList := ByteArray.toList_eq s
theorem ba_ext {a b : ByteArray} (h : a.toList = b.toList) : a = b := by
  rw [ba_toList, ba_toList] at h
  cases a; cases b
  congr
  exact Array.toList_inj.1 h
theorem strOfNums_toList (l : List Int) : (strOfNums l).toList = l.map fun n => UInt8.ofNat n.toNat := by rw [ba_toList]; rfl
theorem bytesOf_bytes (s : ByteArray) : Bytes (bytesOf s) := by
  intro x hx
  unfold bytesOf at hx
  obtain ⟨b, _, rfl⟩ := List.mem_map.1 hx
  have := b.toNat_lt
  omega
theorem strOfNums_bytesOf (s : ByteArray) : strOfNums (bytesOf s) = s := by
  apply ba_ext
  rw [strOfNums_toList, ba_toList]
  unfold bytesOf
  rw [List.map_map]
  conv => rhs; rw [← List.map_id s.data.toList]
  apply List.map_congr_left
  intro b _
  simp
theorem bytesOf_strOfNums {l : List Int} (h : Bytes l) : bytesOf (strOfNums l) = l := by
  unfold bytesOf
  rw [← ba_toList, strOfNums_toList, List.map_map]
  conv => rhs; rw [← List.map_id l]
  apply List.map_congr_left
  intro x hx
  have := h x hx
  simp only [Function.comp_apply, UInt8.toNat_ofNat', id]
  omega
theorem bytesOf_inj {a b : ByteArray} (h : bytesOf a = bytesOf b) : a = b := by
  rw [← strOfNums_bytesOf a, ← strOfNums_bytesOf b, h]
theorem strOfNums_inj {a b : List Int} (ha : Bytes a) (hb : Bytes b) (h : strOfNums a = strOfNums b) : a = b := by
  rw [← bytesOf_strOfNums ha, ← bytesOf_strOfNums hb, h]
theorem strOfNums_len (l : List Int) : (strOfNums l).size = l.length := by simp [strOfNums, ByteArray.size]
theorem bytesOf_nil : bytesOf ⟨#[]⟩ = [] := rfl
theorem strOfNums_nil : strOfNums [] = ⟨#[]⟩ := rfl

theorem num_PutText_eq {k : Nat} (hk : 9 ≤ k) {s : ByteArray} (hs : s.size ≤ 70368744177664) : num_PutText.f k s = some (enc s.size ++ bytesOf s) := by
  unfold num_PutText.f
  have := enc_length9 (n := s.size) (by omega)
  rw [num_Put_eq hk (by omega)]
  simp only [Option.bind_some]
  rw [if_pos (by omega)]

theorem dec_bound : ∀ (l : List Int) (i acc v j : Nat), dec i acc l = some (v, j) → acc < 128 ^ i → Bytes l → v < 128 ^ j ∧ i < j ∧ j ≤ 9 ∧ j ≤ i + l.length
  | [], i, acc, v, j, h, _, _ => by simp [dec] at h
  | c :: t, i, acc, v, j, h, ha, hb => by
    have hc := hb c (by simp)
    simp only [dec] at h
    split at h
    case isFalse => cases h
    rename_i hi
    split at h
    · have hm : (c.toNat % 128) * 128 ^ i ≤ 127 * 128 ^ i := Nat.mul_le_mul_right _ (by omega)
      have := dec_bound t (i + 1) _ v j h (by rw [Nat.pow_succ]; omega) (fun x hx => hb x (by simp [hx]))
      simp only [List.length_cons]
      omega
    · split at h
      · cases h
      · simp only [Option.some.injEq, Prod.mk.injEq] at h
        obtain ⟨rfl, rfl⟩ := h
        have hm : c.toNat * 128 ^ i ≤ 127 * 128 ^ i := Nat.mul_le_mul_right _ (by omega)
        simp only [List.length_cons]
        refine ⟨?_, by omega, by omega, by omega⟩
        rw [Nat.pow_succ]; omega
theorem getN_cases {l : List Int} (hl : Bytes l) (at_ : Int) : (getN l at_ = (0, 0, false)) ∨ ∃ (p n j : Nat), at_ = p ∧ dec 0 0 (l.drop p) = some (n, j) ∧ getN l at_ = ((n : Int), ((p + j : Nat) : Int), true) ∧ n < 9223372036854775808 ∧ 1 ≤ j ∧ j ≤ 9 ∧ p + j ≤ l.length := by
  unfold getN
  by_cases h : at_ < 0
  · left; rw [if_pos h]
  · rw [if_neg h]
    cases hd : dec 0 0 (l.drop at_.toNat) with
    | none => left; rfl
    | some q =>
      obtain ⟨n, j⟩ := q
      right
      have hb := dec_bound _ 0 0 n j hd (by simp) (hl.drop _)
      have h9 : (128 : Nat) ^ j ≤ 128 ^ 9 := Nat.pow_le_pow_right (by omega) (by omega)
      have : (128 : Nat) ^ 9 = 9223372036854775808 := by decide
      rw [List.length_drop] at hb
      refine ⟨at_.toNat, n, j, by omega, hd, ?_, by omega, by omega, by omega, by omega⟩
      have : at_ + (j : Int) = ((at_.toNat + j : Nat) : Int) := by omega
      show ((n : Int), at_ + (j : Int), true) = _
      rw [this]

/-- A text that stands at a place. -/
def getT (l : List Int) (at_ : Int) : ByteArray × Int × Bool :=
  if (getN l at_).2.2 = true then (if (getN l at_).1 > (l.length : Int) - (getN l at_).2.1 then (⟨#[]⟩, 0, false) else
    (strOfNums ((l.take ((getN l at_).2.1 + (getN l at_).1).toNat).drop (getN l at_).2.1.toNat), (getN l at_).2.1 + (getN l at_).1, true)) else (⟨#[]⟩, 0, false)
theorem num_GetText_eq {k : Nat} (hk : 10 ≤ k) {l : List Int} (hl : Bytes l) (hlen : l.length ≤ 140737488351232) (at_ : Int) : num_GetText.f k l at_ = some (getT l at_) := by
  unfold num_GetText.f getT
  rw [num_Get_eq hk hl hlen]
  simp only [Option.bind_some]
  rcases getN_cases hl at_ with h | ⟨p, n, j, rfl, hd, h, hn, h1, h9, hp⟩
  · rw [h]; rfl
  · rw [h]
    simp only [if_true]
    rw [w64 (x := (l.length : Int) - ((p + j : Nat) : Int)) (by omega) (by omega)]
    by_cases hc : (n : Int) > (l.length : Int) - ((p + j : Nat) : Int)
    · rw [if_pos hc, if_pos hc]
    · rw [if_neg hc, if_neg hc, w64 (x := ((p + j : Nat) : Int) + (n : Int)) (by omega) (by omega), if_pos (by omega), if_pos (by omega), if_pos (by omega)]
theorem getT_cases {l : List Int} (hl : Bytes l) (at_ : Int) : (getT l at_ = (⟨#[]⟩, 0, false)) ∨ ∃ (p n j : Nat), at_ = p ∧ dec 0 0 (l.drop p) = some (n, j) ∧ getT l at_ = (strOfNums ((l.take (p + j + n)).drop (p + j)), ((p + j + n : Nat) : Int), true) ∧ 1 ≤ j ∧ j ≤ 9 ∧ p + j + n ≤ l.length := by
  unfold getT
  rcases getN_cases hl at_ with h | ⟨p, n, j, rfl, hd, h, hn, h1, h9, hp⟩
  · left; rw [h]; rfl
  · rw [h]
    simp only [if_true]
    by_cases hc : (n : Int) > (l.length : Int) - ((p + j : Nat) : Int)
    · left; rw [if_pos hc]
    · right
      rw [if_neg hc]
      refine ⟨p, n, j, rfl, hd, ?_, h1, h9, by omega⟩
      have e : ((p + j : Nat) : Int) + (n : Int) = ((p + j + n : Nat) : Int) := by omega
      rw [e]
      simp only [Int.toNat_natCast]
theorem getT_enc {s : ByteArray} (hs : s.size ≤ 70368744177664) (pre rest : List Int) : getT (pre ++ (enc s.size ++ (bytesOf s ++ rest))) (pre.length : Int) = (s, ((pre.length + (enc s.size).length + s.size : Nat) : Int), true) := by
  unfold getT
  rw [getN_enc (by omega)]
  simp only [if_true]
  have hb : (bytesOf s).length = s.size := bytesOf_length s
  rw [if_neg (by simp only [List.length_append, hb]; omega)]
  have e : (pre.length : Int) + ((enc s.size).length : Int) + (s.size : Int) = ((pre.length + (enc s.size).length + s.size : Nat) : Int) := by omega
  have e2 : (pre.length : Int) + ((enc s.size).length : Int) = ((pre.length + (enc s.size).length : Nat) : Int) := by omega
  rw [e, e2]
  simp only [Int.toNat_natCast]
  have e3 : pre ++ (enc s.size ++ (bytesOf s ++ rest)) = (pre ++ enc s.size) ++ (bytesOf s ++ rest) := by rw [List.append_assoc]
  rw [e3, List.drop_take, List.drop_left' (by simp)]
  have e4 : pre.length + (enc s.size).length + s.size - (pre.length + (enc s.size).length) = (bytesOf s).length := by rw [hb]; omega
  rw [e4, List.take_left, strOfNums_bytesOf]

/-- Whether a key may be. -/
def mayB (u : ByteArray) (s k : Int) : Bool := decide ((u.size : Int) ≤ 64 ∧ 0 ≤ s ∧ s ≤ 9007199254740992 ∧ (k = 1 ∨ k = 2))
theorem key_May_eq (u : ByteArray) (s k : Int) : key_May.f u s k = some (mayB u s k) := by
  unfold key_May.f mayB
  by_cases h1 : (u.size : Int) ≤ 64
  · by_cases h2 : 0 ≤ s
    · by_cases h3 : s ≤ 9007199254740992
      · by_cases h4 : k = 1
        · rw [if_pos h1, if_pos h2, if_pos h3, if_pos h4, decide_eq_true ⟨h1, h2, h3, Or.inl h4⟩]
        · rw [if_pos h1, if_pos h2, if_pos h3, if_neg h4]
          by_cases h5 : k = 2
          · rw [decide_eq_true ⟨h1, h2, h3, Or.inr h5⟩, beq_iff_eq.2 h5]
          · rw [decide_eq_false (fun h => h.2.2.2.elim h4 h5), beq_eq_false_iff_ne.2 h5]
      · rw [if_pos h1, if_pos h2, if_neg h3, decide_eq_false (fun h => h3 h.2.2.1)]
    · rw [if_pos h1, if_neg h2, decide_eq_false (fun h => h2 h.2.1)]
  · rw [if_neg h1, decide_eq_false (fun h => h1 h.1)]
theorem mayB_true {u : ByteArray} {s k : Int} (h : mayB u s k = true) : (u.size : Int) ≤ 64 ∧ 0 ≤ s ∧ s ≤ 9007199254740992 ∧ (k = 1 ∨ k = 2) := of_decide_eq_true h

theorem key_Tail_eq {u : ByteArray} {s k : Int} (h : mayB u s k = true) : key_Tail.f u s k = some (2 * s + k - 1) := by
  obtain ⟨_, h2, h3, h4⟩ := mayB_true h
  unfold key_Tail.f
  rw [w64 (x := 2 * s) (by omega) (by omega), w64 (x := 2 * s + k) (by omega) (by omega), w64 (x := 2 * s + k - 1) (by omega) (by omega)]
theorem key_Cut_eq (n : Nat) (hn : n < 9223372036854775808) : key_Cut.f (n : Int) = some (((n / 2 : Nat) : Int), ((n % 2 + 1 : Nat) : Int)) := by
  unfold key_Cut.f
  have e1 : Int.tdiv (n : Int) 2 = ((n / 2 : Nat) : Int) := rfl
  have e2 : Int.tmod (n : Int) 2 = ((n % 2 : Nat) : Int) := rfl
  rw [e1, e2, w64 (x := ((n / 2 : Nat) : Int)) (by omega) (by omega), w64 (x := ((n % 2 : Nat) : Int) + 1) (by omega) (by omega)]
  rfl
/-- A key's bytes. -/
def putK (u : ByteArray) (s k : Int) : List Int := if mayB u s k = true then enc u.size ++ (bytesOf u ++ enc (2 * s + k - 1).toNat) else []
theorem key_Put_eq {k : Nat} (hk : 9 ≤ k) (u : ByteArray) (s d : Int) : key_Put.f k u s d = some (putK u s d) := by
  unfold key_Put.f putK
  rw [key_May_eq]
  simp only [Option.bind_some]
  by_cases h : mayB u s d = true
  · rw [if_pos h, if_pos h]
    obtain ⟨h1, h2, h3, h4⟩ := mayB_true h
    have e1 := enc_length9 (n := u.size) (by omega)
    have e2 := enc_length9 (n := (2 * s + d - 1).toNat) (by omega)
    have e3 := bytesOf_length u
    have e4 : 2 * s + d - 1 = (((2 * s + d - 1).toNat : Nat) : Int) := by omega
    rw [num_PutText_eq hk (by omega), key_Tail_eq h]
    simp only [Option.bind_some]
    rw [e4, num_Put_eq hk (by omega)]
    simp only [Option.bind_some, Int.toNat_natCast]
    rw [if_pos (by simp only [List.length_append]; omega), List.append_assoc]
  · rw [if_neg h, if_neg h]
theorem putK_bytes (u : ByteArray) (s k : Int) : Bytes (putK u s k) := by
  unfold putK
  split
  · exact (enc_bytes _).append ((bytesOf_bytes u).append (enc_bytes _))
  · exact Bytes.nil
theorem putK_length (u : ByteArray) (s k : Int) : (putK u s k).length ≤ 82 := by
  unfold putK
  split
  · rename_i h
    obtain ⟨h1, h2, h3, h4⟩ := mayB_true h
    have e1 := enc_length9 (n := u.size) (by omega)
    have e2 := enc_length9 (n := (2 * s + k - 1).toNat) (by omega)
    simp only [List.length_append, bytesOf_length]
    omega
  · simp
/-- The key that stands at a place. -/
def getK (l : List Int) (at_ : Int) : ByteArray × Int × Int × Int × Bool :=
  if (getT l at_).2.2 = true ∧ (getN l (getT l at_).2.1).2.2 = true ∧ mayB (getT l at_).1 (((getN l (getT l at_).2.1).1.toNat / 2 : Nat) : Int) (((getN l (getT l at_).2.1).1.toNat % 2 + 1 : Nat) : Int) = true then
    ((getT l at_).1, (((getN l (getT l at_).2.1).1.toNat / 2 : Nat) : Int), (((getN l (getT l at_).2.1).1.toNat % 2 + 1 : Nat) : Int), (getN l (getT l at_).2.1).2.1, true)
  else (⟨#[]⟩, 0, 0, 0, false)
theorem getN_num {l : List Int} (hl : Bytes l) (at_ : Int) : ∃ n : Nat, (getN l at_).1 = n ∧ n < 9223372036854775808 := by
  rcases getN_cases hl at_ with h | ⟨p, n, j, _, _, h, hn, _⟩
  · exact ⟨0, by rw [h]; rfl, by omega⟩
  · exact ⟨n, by rw [h], hn⟩
theorem key_Get_eq {k : Nat} (hk : 10 ≤ k) {l : List Int} (hl : Bytes l) (hlen : l.length ≤ 140737488351232) (at_ : Int) : key_Get.f k l at_ = some (getK l at_) := by
  unfold key_Get.f getK
  rw [num_GetText_eq hk hl hlen]
  simp only [Option.bind_some]
  by_cases h1 : (getT l at_).2.2 = true
  · rw [if_pos h1, num_Get_eq hk hl hlen]
    simp only [Option.bind_some]
    obtain ⟨n, hn, hn2⟩ := getN_num hl (getT l at_).2.1
    rw [hn, key_Cut_eq n hn2]
    simp only [Option.bind_some, Int.toNat_natCast]
    by_cases h2 : (getN l (getT l at_).2.1).2.2 = true
    · rw [if_pos h2, key_May_eq]
      simp only [Option.bind_some]
      by_cases h3 : mayB (getT l at_).1 ((n / 2 : Nat) : Int) ((n % 2 + 1 : Nat) : Int) = true
      · rw [if_pos h3, if_pos ⟨h1, h2, h3⟩]
      · rw [if_neg h3, if_neg (fun h => h3 h.2.2)]
    · rw [if_neg h2, if_neg (fun h => h2 h.2.1)]
  · rw [if_neg h1, if_neg (fun h => h1 h.1)]
theorem getK_put {u : ByteArray} {s d : Int} (h : mayB u s d = true) (rest : List Int) : getK (putK u s d ++ rest) 0 = (u, s, d, ((putK u s d).length : Int), true) := by
  obtain ⟨h1, h2, h3, h4⟩ := mayB_true h
  unfold getK putK
  rw [if_pos h]
  have e0 := getT_enc (s := u) (by omega) [] (enc (2 * s + d - 1).toNat ++ rest)
  have e1 : [] ++ (enc u.size ++ (bytesOf u ++ (enc (2 * s + d - 1).toNat ++ rest))) = enc u.size ++ (bytesOf u ++ enc (2 * s + d - 1).toNat) ++ rest := by simp
  have e2 : (([] : List Int).length : Int) = 0 := rfl
  rw [e1, e2] at e0
  rw [e0]
  simp only
  have f0 := getN_enc (n := (2 * s + d - 1).toNat) (by omega) (enc u.size ++ bytesOf u) rest
  have f1 : (enc u.size ++ bytesOf u) ++ (enc (2 * s + d - 1).toNat ++ rest) = enc u.size ++ (bytesOf u ++ enc (2 * s + d - 1).toNat) ++ rest := by simp
  have f2 : (((enc u.size ++ bytesOf u).length : Nat) : Int) = (((([] : List Int).length + (enc u.size).length + u.size) : Nat) : Int) := by simp [bytesOf_length]
  rw [f1, f2] at f0
  rw [f0]
  simp only [Int.toNat_natCast]
  have g1 : (((2 * s + d - 1).toNat / 2 : Nat) : Int) = s := by omega
  have g2 : (((2 * s + d - 1).toNat % 2 + 1 : Nat) : Int) = d := by omega
  rw [g1, g2, if_pos ⟨trivial, trivial, h⟩]
  have g3 : ((([] : List Int).length + (enc u.size).length + u.size : Nat) : Int) + ((enc (2 * s + d - 1).toNat).length : Int) = (((enc u.size ++ (bytesOf u ++ enc (2 * s + d - 1).toNat)).length : Nat) : Int) := by
    simp [bytesOf_length]; omega
  rw [g3]
theorem putK_inj {u v : ByteArray} {s d : Int} (hu : mayB u s d = true) (hv : mayB v s d = true) (h : putK u s d = putK v s d) : u = v := by
  have h1 := getK_put hu []
  have h2 := getK_put hv []
  rw [h] at h1
  rw [h1] at h2
  simp only [Prod.mk.injEq] at h2
  exact h2.1

/-! Comparing. -/
def cmpS (a b : ByteArray) : Int := if Op.bytesLess a.toList b.toList = true then -1 else if a.toList = b.toList then 0 else 1
def cmpI (a b : Int) : Int := if a < b then -1 else if a > b then 1 else 0
def or3 (x y z : Int) : Int := if x = 0 then (if y = 0 then z else y) else x
theorem isNaN_string (a : ByteArray) : cmp_isNaN_string.f a = some false := by unfold cmp_isNaN_string.f; simp
theorem isNaN_int (a : Int) : cmp_isNaN_int.f a = some false := by unfold cmp_isNaN_int.f; simp
theorem cmp_string_eq (a b : ByteArray) : cmp_Compare_string.f a b = some (cmpS a b) := by
  unfold cmp_Compare_string.f cmpS
  rw [isNaN_string, isNaN_string]
  simp only [Option.bind_some, Bool.false_eq_true, if_false]
  split
  · rfl
  · split <;> rfl
theorem cmp_int_eq (a b : Int) : cmp_Compare_int.f a b = some (cmpI a b) := by
  unfold cmp_Compare_int.f cmpI
  rw [isNaN_int, isNaN_int]
  simp only [Option.bind_some, Bool.false_eq_true, if_false]
  split
  · rfl
  · split <;> rfl
theorem cmp_Or3 {k : Nat} (hk : 4 ≤ k) (x y z : Int) : cmp_Or_int.f k [x, y, z] = some (or3 x y z) := by
  obtain ⟨k, rfl⟩ : ∃ m, k = m + 4 := ⟨k - 4, by omega⟩
  unfold cmp_Or_int.f or3
  have r0 : rd [x, y, z] 0 = x := rfl
  have r1 : rd [x, y, z] 1 = y := rfl
  have r2 : rd [x, y, z] 2 = z := rfl
  have e1 : wrap64 (0 + 1) = 1 := w64 (by omega) (by omega)
  have e2 : wrap64 (1 + 1) = 2 := w64 (by omega) (by omega)
  have e3 : wrap64 (2 + 1) = 3 := w64 (by omega) (by omega)
  simp only [cmp_Or_int.l0, List.length_cons, List.length_nil, r0, r1, r2, e1, e2, e3]
  by_cases h1 : x = 0
  · by_cases h2 : y = 0
    · by_cases h3 : z = 0
      · simp [h1, h2, h3]
      · simp [h1, h2, h3]
    · simp [h1, h2]
  · simp [h1]
def cmpK (u : ByteArray) (s d : Int) (v : ByteArray) (t e : Int) : Int := or3 (cmpS u v) (cmpI t s) (cmpI e d)
theorem key_Cmp_eq {k : Nat} (hk : 4 ≤ k) (u : ByteArray) (s d : Int) (v : ByteArray) (t e : Int) : key_Cmp.f k u s d v t e = some (cmpK u s d v t e) := by
  unfold key_Cmp.f cmpK
  rw [cmp_string_eq, cmp_int_eq, cmp_int_eq]
  simp only [Option.bind_some]
  rw [cmp_Or3 hk]
  rfl
theorem awake2_eq {k : Nat} (hk : 4 ≤ k) : iceboxlaw2_awake.f k = some true := by
  unfold iceboxlaw2_awake.f
  rw [key_Cmp_eq hk, key_May_eq]
  have : cmpK ⟨#[97]⟩ 2 1 ⟨#[97]⟩ 1 1 = -1 := by
    unfold cmpK or3 cmpS cmpI
    simp [Op.bytesLess, ba_toList]
  rw [this]
  simp [mayB, ByteArray.size]
end Go.Proofs.Ytcglkacplbeakaa.PA
