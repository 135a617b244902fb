/- Plain laws: the reference's num and key come to what the program's come to; entries and rising lists. -/
import Derived.Test.YtcglkacplbeakaaQKey
import Derived.Test.YtcglkacplbeakaaPAx21
import Derived.Test.YtcglkacplbeakaaPAx22
import Derived.Test.YtcglkacplbeakaaPAx28
import Derived.Test.YtcglkacplbeakaaPAx27
import Derived.Test.YtcglkacplbeakaaPAx29
import Derived.Test.YtcglkacplbeakaaPAx25
import Derived.Test.YtcglkacplbeakaaPAx26
import Derived.Test.YtcglkacplbeakaaPAx30
namespace Go.Proofs.Ytcglkacplbeakaa.PA
open Go.RowKit Go.Proofs.YtcglkacplbeakaaW.PrintWords Go.Proofs.YtcglkacplbeakaaW.PrintLast Go.Proofs.YtcglkacplbeakaaW.PrintMore
set_option linter.unusedVariables false
set_option linter.unusedSimpArgs false

theorem tmod_nat (n m : Nat) : Int.tmod (n : Int) (m : Int) = ((n % m : Nat) : Int) := rfl
theorem tdiv_nat (n m : Nat) : Int.tdiv (n : Int) (m : Int) = ((n / m : Nat) : Int) := rfl
theorem ref_Put_loop (d : Nat) : ∀ (n : Nat) (out : List Int) (k : Nat), n < 128 ^ (d + 1) → n < 9223372036854775808 → out.length + d < 140737488355328 → d < k → iceboxref1_Put.l0 k (n : Int) out = some (out ++ enc n) := by
  induction d with
  | zero =>
    intro n out k h _ ho hk
    obtain ⟨k, rfl⟩ : ∃ m, k = m + 1 := ⟨k - 1, by omega⟩
    have h1 : n < 128 := by simpa using h
    simp only [iceboxref1_Put.l0]
    rw [if_neg (by omega), if_pos (by omega), enc_lt h1]
    have : (n : Int) % 256 = n := by omega
    rw [this]
  | succ d ih =>
    intro n out k h hb ho hk
    obtain ⟨k, rfl⟩ : ∃ m, k = m + 1 := ⟨k - 1, by omega⟩
    simp only [iceboxref1_Put.l0]
    by_cases h1 : n < 128
    · rw [if_neg (by omega), if_pos (by omega), enc_lt h1]
      have : (n : Int) % 256 = n := by omega
      rw [this]
    · rw [if_pos (by omega), if_pos (by omega), enc_ge h1]
      have e1 : Int.tmod (n : Int) 128 = ((n % 128 : Nat) : Int) := rfl
      have e2 : Int.tdiv (n : Int) 128 = ((n / 128 : Nat) : Int) := rfl
      rw [e1, e2, w64 (x := ((n / 128 : Nat) : Int)) (by omega) (by omega), w64 (x := 128 + ((n % 128 : Nat) : Int)) (by omega) (by omega)]
      have e3 : (128 + ((n % 128 : Nat) : Int)) % 256 = ((n % 128 + 128 : Nat) : Int) := by omega
      rw [e3, ih (n / 128) _ k (by rw [Nat.pow_succ] at h; omega) (by omega) (by simp only [List.length_append, List.length_cons, List.length_nil]; omega) (by omega)]
      simp
theorem ref_Put_eq {k : Nat} (hk : 9 ≤ k) {n : Nat} (hn : n < 9223372036854775808) : iceboxref1_Put.f k (n : Int) = some (enc n) := by
  unfold iceboxref1_Put.f
  rw [if_neg (by omega), ref_Put_loop 8 n [] k (by simpa using hn) hn (by simp) (by omega)]
  simp
theorem ref_Get_loop {l : List Int} (hl : Bytes l) (hlen : l.length ≤ 140737488351232) (p : Nat) (hpl : p ≤ l.length) (d : Nat) : ∀ (i n k : Nat), i + d = 9 → n < 128 ^ i → 2 * d + 1 < k →
    iceboxref1_Get.l0 k l (p : Int) (n : Int) (i : Int) = some (match dec i n (l.drop (p + i)) with | some (v, j) => ((v : Int), (p : Int) + j, true) | none => (0, 0, false)) := by
  induction d with
  | zero =>
    intro i n k hd hn hk
    obtain ⟨k, rfl⟩ : ∃ m, k = m + 2 := ⟨k - 2, by omega⟩
    obtain rfl : i = 9 := by omega
    simp only [iceboxref1_Get.l0]
    rw [if_neg (by omega)]
    simp only [iceboxref1_Get.j2, Bool.false_eq_true, if_false]
    cases l.drop (p + 9) <;> simp [dec]
  | succ d ih =>
    intro i n k hd hn hk
    obtain ⟨k, rfl⟩ : ∃ m, k = m + 2 := ⟨k - 2, by omega⟩
    simp only [iceboxref1_Get.l0]
    rw [if_pos (by omega), w64 (x := (l.length : Int) - p) (by omega) (by omega)]
    simp only [iceboxref1_Get.j2]
    cases hd0 : l.drop (p + i) with
    | nil =>
      have : l.length ≤ p + i := by simpa using hd0
      rw [decide_eq_false (by omega), if_neg (by decide)]
      simp [dec]
    | cons c t =>
      have hlt := drop_lt hd0
      have hc := hl c (by have : c ∈ l.drop (p + i) := by rw [hd0]; simp
                          exact List.mem_of_mem_drop this)
      obtain ⟨cn, rfl⟩ : ∃ m : Nat, c = m := ⟨c.toNat, by omega⟩
      have hpi : (p : Int) + (i : Int) = ((p + i : Nat) : Int) := by omega
      have h7i : (7 : Int) * (i : Int) = ((7 * i : Nat) : Int) := by omega
      have hu : IntKind.u64.wrap ((7 * i : Nat) : Int) = ((7 * i : Nat) : Int) := by
        unfold IntKind.wrap
        show (if (false && _) = true then _ else ((7 * i : Nat) : Int) % 2 ^ 64) = _
        simp only [Bool.false_and, Bool.false_eq_true, if_false]
        omega
      have e1 : Int.tmod (cn : Int) 128 = ((cn % 128 : Nat) : Int) := rfl
      rw [decide_eq_true (by omega), if_pos rfl, hpi, w64 (x := ((p + i : Nat) : Int)) (by omega) (by omega), rd_drop hd0, if_pos (by omega), if_pos (by omega), h7i, w64 (x := ((7 * i : Nat) : Int)) (by omega) (by omega), hu, if_pos (by omega), w64 (x := (cn : Int)) (by omega) (by omega), e1]
      have hpw : 128 ^ i ≤ 128 ^ 8 := Nat.pow_le_pow_right (by omega) (by omega)
      have hm : (cn % 128) * 128 ^ i ≤ 127 * 128 ^ i := Nat.mul_le_mul_right _ (by omega)
      have hsum : n + (cn % 128) * 2 ^ (7 * i) < 128 ^ (i + 1) := by
        rw [← pow7, Nat.pow_succ]; omega
      have h8 : (128 : Nat) ^ 8 = 72057594037927936 := by decide
      have hs2 : n + (cn % 128) * 2 ^ (7 * i) < 9223372036854775808 := by
        rw [← pow7]; omega
      rw [shl_nat _ _ (by omega) (by omega), or_shift _ _ _ (by rw [← pow7]; exact hn) hs2, ← pow7, w64 (x := (i : Int) + 1) (by omega) (by omega), w64 (x := ((p + i : Nat) : Int) + 1) (by omega) (by omega)]
      simp only [dec, Int.toNat_natCast]
      rw [if_pos (by omega : i < 9)]
      by_cases h1 : cn > 127
      · rw [if_pos (by omega), if_pos (by omega)]
        have := ih (i + 1) (n + cn % 128 * 128 ^ i) k (by omega) (by rw [pow7 i]; exact hsum) (by omega)
        rw [show ((i + 1 : Nat) : Int) = (i : Int) + 1 from by omega] at this
        rw [this, show p + (i + 1) = p + i + 1 from by omega, drop_succ hd0]
      · have hcm : cn % 128 = cn := by omega
        have h127 : ¬ ((cn : Int) > 127) := by omega
        have h128 : ¬ ((cn : Int) ≥ 128) := by omega
        have hpos : ((p + i : Nat) : Int) + 1 = (p : Int) + ((i + 1 : Nat) : Int) := by omega
        simp only [if_neg h127, if_neg h128]
        rw [hcm, hpos]
        by_cases h2 : (cn : Int) = 0
        · simp only [if_pos h2]
          by_cases h3 : 0 < i
          · rw [if_pos (by omega), if_pos ⟨h2, h3⟩]
          · rw [if_neg (by omega), if_neg (fun h => h3 h.2)]
        · rw [if_neg h2, if_neg (fun h => h2 h.1)]
theorem ref_Get_eq {k : Nat} (hk : 22 ≤ k) {l : List Int} (hl : Bytes l) (hlen : l.length ≤ 140737488351232) (at_ : Int) : iceboxref1_Get.f k l at_ = some (getN l at_) := by
  unfold iceboxref1_Get.f getN
  obtain ⟨k, rfl⟩ : ∃ m, k = m + 1 := ⟨k - 1, by omega⟩
  by_cases h : at_ < 0
  · rw [if_pos h, if_pos h]; simp [iceboxref1_Get.j0]
  · rw [if_neg h, if_neg h]
    obtain ⟨p, rfl⟩ : ∃ m : Nat, at_ = m := ⟨at_.toNat, by omega⟩
    by_cases h1 : (p : Int) ≥ (l.length : Int)
    · rw [decide_eq_true h1, Int.toNat_natCast, List.drop_of_length_le (by omega)]
      simp [iceboxref1_Get.j0, dec]
    · rw [decide_eq_false h1]
      simp only [iceboxref1_Get.j0, Bool.false_eq_true, if_false]
      have := ref_Get_loop hl hlen p (by omega) 9 0 0 k (by omega) (by simp) (by omega)
      rw [show ((0 : Nat) : Int) = 0 from rfl] at this
      rw [Nat.add_zero] at this
      rw [Int.toNat_natCast]
      exact this
theorem ref_PutText_eq {k : Nat} (hk : 9 ≤ k) {s : ByteArray} (hs : s.size ≤ 70368744177664) : iceboxref1_PutText.f k s = some (enc s.size ++ bytesOf s) := by
  unfold iceboxref1_PutText.f
  have := enc_length9 (n := s.size) (by omega)
  rw [ref_Put_eq hk (by omega), Option.bind_some, if_pos (by omega)]
theorem ref_GetText_eq {k : Nat} (hk : 22 ≤ k) {l : List Int} (hl : Bytes l) (hlen : l.length ≤ 140737488351232) (at_ : Int) : iceboxref1_GetText.f k l at_ = some (getT l at_) := by
  unfold iceboxref1_GetText.f getT
  rw [ref_Get_eq hk hl hlen, Option.bind_some]
  rcases getN_cases hl at_ with h | ⟨p, n, j, rfl, hd, h, hn, h1, h9, hp⟩
  · rw [h]; rfl
  · rw [h]
    simp only [if_true]
    rw [w64 (x := (l.length : Int) - ((p + j : Nat) : Int)) (by omega) (by omega)]
    by_cases hc : (n : Int) > (l.length : Int) - ((p + j : Nat) : Int)
    · rw [if_pos hc, if_pos hc]
    · rw [if_neg hc, if_neg hc, w64 (x := ((p + j : Nat) : Int) + (n : Int)) (by omega) (by omega), if_pos (by omega), if_pos (by omega), if_pos (by omega)]
theorem ref_MayKey_eq (u : ByteArray) (s k : Int) : iceboxref1_MayKey.f u s k = some (mayB u s k) := by
  rw [← key_May_eq]
  unfold iceboxref1_MayKey.f key_May.f iceboxref1_Number.f
  by_cases h1 : (u.size : Int) ≤ 64
  · rw [if_pos h1, if_pos h1]
    by_cases h2 : s ≥ 0
    · rw [if_pos h2, if_pos h2, Option.bind_some]
      by_cases h3 : s ≤ 9007199254740992
      · rw [decide_eq_true h3, if_pos rfl, if_pos h3]
      · rw [decide_eq_false h3, if_neg (by decide), if_neg h3]
    · rw [if_neg h2, if_neg h2, Option.bind_some, if_neg (by decide)]
  · rw [if_neg h1, if_neg h1]
theorem ref_PutKey_eq {k : Nat} (hk : 9 ≤ k) (u : ByteArray) (s d : Int) : iceboxref1_PutKey.f k u s d = some (putK u s d) := by
  unfold iceboxref1_PutKey.f putK
  rw [ref_MayKey_eq, Option.bind_some]
  by_cases h : mayB u s d = true
  · rw [if_pos h, if_pos h]
    obtain ⟨h1, h2, h3, h4⟩ := mayB_true h
    have e1 := enc_length9 (n := u.size) (by omega)
    have e2 := enc_length9 (n := (2 * s + d - 1).toNat) (by omega)
    have e3 := bytesOf_length u
    have e4 : 2 * s + d - 1 = (((2 * s + d - 1).toNat : Nat) : Int) := by omega
    rw [ref_PutText_eq hk (by omega), Option.bind_some, w64 (x := 2 * s) (by omega) (by omega), w64 (x := 2 * s + d) (by omega) (by omega), w64 (x := 2 * s + d - 1) (by omega) (by omega), e4, ref_Put_eq hk (by omega), Option.bind_some, Int.toNat_natCast, if_pos (by simp only [List.length_append]; omega), List.append_assoc]
  · rw [if_neg h, if_neg h]
theorem ref_GetKey_eq {k : Nat} (hk : 22 ≤ k) {l : List Int} (hl : Bytes l) (hlen : l.length ≤ 140737488351232) (at_ : Int) : iceboxref1_GetKey.f k l at_ = some (getK l at_) := by
  unfold iceboxref1_GetKey.f getK
  rw [ref_GetText_eq hk hl hlen, Option.bind_some, ref_Get_eq hk hl hlen, Option.bind_some]
  obtain ⟨n, hn, hn2⟩ := getN_num hl (getT l at_).2.1
  rw [hn, Int.toNat_natCast]
  by_cases h1 : (getT l at_).2.2 = true
  · rw [if_pos h1]
    by_cases h2 : (getN l (getT l at_).2.1).2.2 = true
    · have e1 : Int.tmod (n : Int) 2 = ((n % 2 : Nat) : Int) := rfl
      have e2 : Int.tdiv (n : Int) 2 = ((n / 2 : Nat) : Int) := rfl
      rw [if_pos h2, e1, e2, w64 (x := ((n / 2 : Nat) : Int)) (by omega) (by omega), w64 (x := 1 + ((n % 2 : Nat) : Int)) (by omega) (by omega)]
      have e3 : 1 + ((n % 2 : Nat) : Int) = ((n % 2 + 1 : Nat) : Int) := by omega
      rw [e3, ref_MayKey_eq, Option.bind_some]
      by_cases h3 : mayB (getT l at_).1 ((n / 2 : Nat) : Int) ((n % 2 + 1 : Nat) : Int) = true
      · rw [if_pos h3, if_pos ⟨h1, h2, h3⟩]
      · rw [if_neg h3, if_neg (fun h => h3 h.2.2)]
    · rw [if_neg h2, if_neg (fun h => h2 h.2.1)]
  · rw [if_neg h1, if_neg (fun h => h1 h.1)]

theorem bytesLess_irrefl : ∀ x : List UInt8, Op.bytesLess x x = false
  | [] => rfl
  | a :: x => by
    have := bytesLess_irrefl x
    simp [Op.bytesLess, this]
theorem ref_Cmp_eq (u : ByteArray) (s d : Int) (v : ByteArray) (t e : Int) : iceboxref1_Cmp.f u s d v t e = some (cmpK u s d v t e) := by
  unfold iceboxref1_Cmp.f cmpK or3 cmpS cmpI
  by_cases h1 : u.toList = v.toList
  · rw [if_pos h1, h1, bytesLess_irrefl]
    simp only [Bool.false_eq_true, if_false, if_true]
    rcases Int.lt_trichotomy s t with h | h | h
    · rw [if_neg (show ¬ (s = t) by omega), if_neg (show ¬ (s > t) by omega), if_neg (show ¬ (t < s) by omega), if_pos (show t > s by omega)]
      rfl
    · subst h
      have a1 : ¬ (s < s) := by omega
      have a2 : ¬ (s > s) := by omega
      rw [if_pos rfl]
      simp only [if_neg a1, if_neg a2, if_true]
      rcases Int.lt_trichotomy d e with h | h | h
      · rw [if_neg (show ¬ (d = e) by omega), if_neg (show ¬ (d > e) by omega), if_neg (show ¬ (e < d) by omega), if_pos (show e > d by omega)]
      · subst h; simp
      · rw [if_neg (show ¬ (d = e) by omega), if_pos (show d > e by omega), if_pos (show e < d by omega)]
    · rw [if_neg (show ¬ (s = t) by omega), if_pos (show s > t by omega), if_pos (show t < s by omega)]
      rfl
  · rw [if_neg h1]
    by_cases h2 : Op.bytesLess u.toList v.toList = true
    · rw [if_pos h2, if_pos h2]; simp
    · rw [if_neg h2, if_neg h2, if_neg h1]; simp

/-! Entries. -/
abbrev Ent := S48
def mayE (x : Ent) : Bool := mayB x.f0.f0 x.f0.f1 x.f0.f2 && (decide (x.f1.size ≤ 512) && (x.f0.f2 == 1 || x.f1.toList == []))
theorem key_MayEntry_eq (x : Ent) : key_MayEntry.f x.f0.f0 x.f0.f1 x.f0.f2 x.f1 = some (mayE x) := by
  unfold key_MayEntry.f mayE
  rw [key_May_eq, Option.bind_some]
  by_cases h : mayB x.f0.f0 x.f0.f1 x.f0.f2 = true
  · rw [if_pos h, h]
    by_cases h2 : (x.f1.size : Int) ≤ 512
    · rw [if_pos h2, decide_eq_true (by omega)]
      by_cases h3 : x.f0.f2 = 1
      · rw [if_pos h3, beq_iff_eq.2 h3]; rfl
      · rw [if_neg h3, beq_eq_false_iff_ne.2 h3]; simp
    · rw [if_neg h2, decide_eq_false (by omega)]; rfl
  · rw [if_neg h]
    have : mayB x.f0.f0 x.f0.f1 x.f0.f2 = false := by simpa using h
    rw [this]; rfl
theorem ref_MayEntry_eq (x : Ent) : iceboxref1_MayEntry.f x.f0.f0 x.f0.f1 x.f0.f2 x.f1 = some (mayE x) := by
  rw [← key_MayEntry_eq]
  unfold iceboxref1_MayEntry.f key_MayEntry.f
  rw [ref_MayKey_eq, key_May_eq]
def cmpE (x y : Ent) : Int := cmpK x.f0.f0 x.f0.f1 x.f0.f2 y.f0.f0 y.f0.f1 y.f0.f2
def risP : Option Ent → List Ent → Bool
  | _, [] => true
  | p, x :: t => mayE x && ((match p with | none => true | some q => decide (cmpE q x < 0)) && risP (some x) t)
def rising (l : List Ent) : Bool := risP none l
theorem rdE_drop {l : List Ent} {i : Nat} {c : Ent} {t : List Ent} (h : l.drop i = c :: t) : rd_T48 l (i : Int) = c := by
  unfold rd_T48
  have : l[i]? = some c := by
    have := congrArg (fun x => x[0]?) h
    simpa using this
  simp [List.getD, this]
theorem dropE_lt {l : List Ent} {i : Nat} {c : Ent} {t : List Ent} (h : l.drop i = c :: t) : i < l.length := by
  rcases Nat.lt_or_ge i l.length with h1 | h1
  · exact h1
  · rw [List.drop_of_length_le h1] at h; cases h
theorem dropE_succ {l : List Ent} {i : Nat} {c : Ent} {t : List Ent} (h : l.drop i = c :: t) : l.drop (i + 1) = t := by
  have : l.drop (i + 1) = (l.drop i).drop 1 := by rw [List.drop_drop]
  rw [this, h]; rfl
/-- The entry ahead of place i. -/
def aheadE (l : List Ent) (i : Nat) : Option Ent := if i = 0 then none else some (rd_T48 l ((i - 1 : Nat) : Int))
theorem key_Rising_l0 {l : List Ent} (hlen : l.length ≤ 140737488351232) (d : Nat) : ∀ (i k : Nat), i + d = l.length → d + 5 < k → key_Rising.l0 k l l (l.length : Int) (i : Int) = some (risP (aheadE l i) (l.drop i)) := by
  induction d with
  | zero =>
    intro i k hi hk
    obtain ⟨k, rfl⟩ : ∃ m, k = m + 1 := ⟨k - 1, by omega⟩
    simp only [key_Rising.l0]
    rw [if_neg (by omega), List.drop_of_length_le (by omega)]
    simp [risP]
  | succ d ih =>
    intro i k hi hk
    obtain ⟨k, rfl⟩ : ∃ m, k = m + 1 := ⟨k - 1, by omega⟩
    simp only [key_Rising.l0]
    cases hd : l.drop i with
    | nil => have := congrArg List.length hd; simp at this; omega
    | cons x t =>
      have e1 : wrap64 ((i : Int) + 1) = ((i + 1 : Nat) : Int) := by rw [w64 (by omega) (by omega)]; omega
      have hn : aheadE l (i + 1) = some x := by unfold aheadE; rw [if_neg (by omega), Nat.add_sub_cancel, rdE_drop hd]
      have hrec := ih (i + 1) k (by omega) (by omega)
      rw [dropE_succ hd, hn] at hrec
      rw [if_pos (by omega), if_pos (by omega), if_pos (by omega), rdE_drop hd, key_MayEntry_eq, Option.bind_some, e1, hrec]
      simp only [risP]
      by_cases hm : mayE x = true
      · rw [if_pos hm, hm]
        by_cases h0 : i = 0
        · subst h0
          rw [if_pos (by rfl)]
          simp [aheadE]
        · have e2 : wrap64 ((i : Int) - 1) = ((i - 1 : Nat) : Int) := by rw [w64 (by omega) (by omega)]; omega
          rw [if_neg (by omega), e2, if_pos (by omega), if_pos (by omega), key_Cmp_eq (by omega), Option.bind_some]
          have ha : aheadE l i = some (rd_T48 l ((i - 1 : Nat) : Int)) := by unfold aheadE; rw [if_neg h0]
          rw [ha]
          by_cases hc : cmpE (rd_T48 l ((i - 1 : Nat) : Int)) x < 0
          · rw [if_neg (by unfold cmpE at hc; omega)]; simp [hc]
          · rw [if_pos (by unfold cmpE at hc; omega)]; simp [hc]
      · rw [if_neg hm]
        have : mayE x = false := by simpa using hm
        rw [this]; rfl
theorem key_Rising_eq {k : Nat} {l : List Ent} (hlen : l.length ≤ 140737488351232) (hk : l.length + 5 < k) : key_Rising.f k l = some (rising l) := by
  unfold key_Rising.f rising
  exact key_Rising_l0 hlen l.length 0 k (by omega) hk
theorem ref_Rising_l0 {l : List Ent} (hlen : l.length ≤ 140737488351232) (d : Nat) : ∀ (i k : Nat), i + d = l.length → d < k → iceboxref1_Rising.l0 k l (i : Int) = some (risP (aheadE l i) (l.drop i)) := by
  induction d with
  | zero =>
    intro i k hi hk
    obtain ⟨k, rfl⟩ : ∃ m, k = m + 1 := ⟨k - 1, by omega⟩
    simp only [iceboxref1_Rising.l0]
    rw [if_neg (by omega), List.drop_of_length_le (by omega)]
    simp [risP]
  | succ d ih =>
    intro i k hi hk
    obtain ⟨k, rfl⟩ : ∃ m, k = m + 1 := ⟨k - 1, by omega⟩
    simp only [iceboxref1_Rising.l0]
    cases hd : l.drop i with
    | nil => have := congrArg List.length hd; simp at this; omega
    | cons x t =>
      have e1 : wrap64 ((i : Int) + 1) = ((i + 1 : Nat) : Int) := by rw [w64 (by omega) (by omega)]; omega
      have hn : aheadE l (i + 1) = some x := by unfold aheadE; rw [if_neg (by omega), Nat.add_sub_cancel, rdE_drop hd]
      have hrec := ih (i + 1) k (by omega) (by omega)
      rw [dropE_succ hd, hn] at hrec
      rw [if_pos (by omega), if_pos (by omega), rdE_drop hd, ref_MayEntry_eq, Option.bind_some, e1, hrec]
      simp only [risP]
      by_cases hm : mayE x = true
      · rw [if_pos hm, hm]
        by_cases h0 : i = 0
        · subst h0
          rw [if_neg (by decide)]
          simp [aheadE]
        · have e2 : wrap64 ((i : Int) - 1) = ((i - 1 : Nat) : Int) := by rw [w64 (by omega) (by omega)]; omega
          rw [if_pos (by omega), e2, if_pos (by omega), if_pos (by omega), ref_Cmp_eq, Option.bind_some]
          have ha : aheadE l i = some (rd_T48 l ((i - 1 : Nat) : Int)) := by unfold aheadE; rw [if_neg h0]
          rw [ha]
          by_cases hc : cmpE (rd_T48 l ((i - 1 : Nat) : Int)) x < 0
          · rw [if_neg (by unfold cmpE at hc; omega)]; simp [hc]
          · rw [if_pos (by unfold cmpE at hc; omega)]; simp [hc]
      · rw [if_neg hm]
        have : mayE x = false := by simpa using hm
        rw [this]; rfl
theorem ref_Rising_eq {k : Nat} {l : List Ent} (hlen : l.length ≤ 140737488351232) (hk : l.length < k) : iceboxref1_Rising.f k l = some (rising l) := by
  unfold iceboxref1_Rising.f rising
  exact ref_Rising_l0 hlen l.length 0 k (by omega) hk
end Go.Proofs.Ytcglkacplbeakaa.PA
