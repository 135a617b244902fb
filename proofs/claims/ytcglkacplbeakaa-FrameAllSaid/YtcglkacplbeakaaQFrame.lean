/- Plain laws about fixed numbers and records: what the printed num.Fixed, num.GetFixed, frame.* come to. -/
import Derived.Test.YtcglkacplbeakaaQSum
import Derived.Test.YtcglkacplbeakaaPAx9
import Derived.Test.YtcglkacplbeakaaPAx13
import Derived.Test.YtcglkacplbeakaaPAx12
import Derived.Test.YtcglkacplbeakaaPAx11
import Derived.Test.YtcglkacplbeakaaPAx14
namespace Go.Proofs.Ytcglkacplbeakaa.PA
open Go.RowKit Go.Proofs.YtcglkacplbeakaaW.PrintWords Go.Proofs.YtcglkacplbeakaaW.PrintLast Go.Proofs.YtcglkacplbeakaaW.PrintMore
set_option linter.unusedVariables false
set_option linter.unusedSimpArgs false

/-- The number that bytes are, the highest one first. -/
def beN : List Int → Nat → Nat
  | [], a => a
  | c :: t, a => beN t (a * 256 + c.toNat)
theorem beN_lt : ∀ (l : List Int) (a p : Nat), Bytes l → a < 256 ^ p → beN l a < 256 ^ (p + l.length)
  | [], a, p, _, h => by simpa [beN] using h
  | c :: t, a, p, hl, h => by
    have hc := hl c (by simp)
    have := beN_lt t (a * 256 + c.toNat) (p + 1) (fun x hx => hl x (by simp [hx])) (by rw [Nat.pow_succ]; omega)
    simp only [beN, List.length_cons]
    rw [show p + (t.length + 1) = p + 1 + t.length from by omega]
    exact this
theorem GetFixed_l0 {y : List Int} (hy : Bytes y) (hlen : y.length ≤ 7) (d : Nat) : ∀ (a p k : Nat), a < 256 ^ p → p + d = y.length → d < k →
    num_GetFixed.l0 k (a : Int) y (y.length : Int) (p : Int) = some (((beN (y.drop p) a : Nat) : Int), true) := by
  induction d with
  | zero =>
    intro a p k ha hp hk
    obtain ⟨k, rfl⟩ : ∃ m, k = m + 1 := ⟨k - 1, by omega⟩
    simp only [num_GetFixed.l0]
    rw [if_neg (by omega), List.drop_of_length_le (by omega)]
    rfl
  | succ d ih =>
    intro a p k ha hp hk
    obtain ⟨k, rfl⟩ : ∃ m, k = m + 1 := ⟨k - 1, by omega⟩
    simp only [num_GetFixed.l0]
    cases hd : y.drop p with
    | nil => have := congrArg List.length hd; simp at this; omega
    | cons c t =>
      have hc := hy c (by have : c ∈ y.drop p := by rw [hd]; simp
                          exact List.mem_of_mem_drop this)
      obtain ⟨cn, rfl⟩ : ∃ m : Nat, c = m := ⟨c.toNat, by omega⟩
      have hp6 : (256 : Nat) ^ p ≤ 256 ^ 6 := Nat.pow_le_pow_right (by omega) (by omega)
      have h6 : (256 : Nat) ^ 6 = 281474976710656 := by decide
      rw [if_pos (by omega), if_pos (by omega), if_pos (by omega), rd_drop hd, w64 (x := (a : Int) * 256) (by omega) (by omega), w64 (x := (cn : Int)) (by omega) (by omega)]
      have e : Go.bits .or .i64 ((a : Int) * 256) (cn : Int) = ((a * 256 + cn : Nat) : Int) := by
        have := or_nat (a * 256) cn (by omega) (by omega)
        have h2 : a * 256 ||| cn = a * 256 + cn := by
          have := Nat.two_pow_add_eq_or_of_lt (i := 8) (b := cn) (by omega) a
          rw [show (2 : Nat) ^ 8 * a = a * 256 from by omega] at this
          exact this.symm
        rw [h2] at this
        have h3 := this (by omega)
        rw [← h3]
        have : ((a * 256 : Nat) : Int) = (a : Int) * 256 := by omega
        rw [this]
      rw [e, w64 (x := (p : Int) + 1) (by omega) (by omega)]
      have := ih (a * 256 + cn) (p + 1) k (by rw [Nat.pow_succ]; omega) (by omega) (by omega)
      rw [show ((p + 1 : Nat) : Int) = (p : Int) + 1 from by omega] at this
      rw [this, drop_succ hd]
      rfl
/-- The number that stands at a place, in so many bytes. -/
def getFx (l : List Int) (at_ : Int) (s : Nat) : Int × Bool := if 0 ≤ at_ ∧ at_ ≤ (l.length : Int) - (s : Int) then (((beN ((l.drop at_.toNat).take s) 0 : Nat) : Int), true) else (0, false)
theorem num_GetFixed_eq {k : Nat} (hk : 10 ≤ k) {l : List Int} (hl : Bytes l) (hlen : l.length ≤ 140737488351232) (at_ : Int) (hat : at_ ≤ 9223372036854775807) {s : Nat} (h1 : 1 ≤ s) (h7 : s ≤ 7) : num_GetFixed.f k l at_ (s : Int) = some (getFx l at_ s) := by
  unfold num_GetFixed.f getFx
  obtain ⟨k, rfl⟩ : ∃ m, k = m + 1 := ⟨k - 1, by omega⟩
  rw [if_neg (by omega), if_neg (by omega)]
  by_cases h : 0 ≤ at_ ∧ at_ ≤ (l.length : Int) - (s : Int)
  · rw [if_pos h, if_neg (by omega), if_neg (by omega), w64 (x := (l.length : Int) - at_) (by omega) (by omega), decide_eq_false (by omega)]
    obtain ⟨p, rfl⟩ : ∃ m : Nat, at_ = m := ⟨at_.toNat, by omega⟩
    simp only [num_GetFixed.j0, Bool.false_eq_true, if_false]
    have e : (p : Int) + (s : Int) = ((p + s : Nat) : Int) := by omega
    rw [e, w64 (x := ((p + s : Nat) : Int)) (by omega) (by omega), if_pos (by omega), if_pos (by omega), if_pos (by omega)]
    simp only [Option.bind_some, Int.toNat_natCast]
    have hy : ((l.take (p + s)).drop p).length = s := by simp; omega
    have := GetFixed_l0 (y := (l.take (p + s)).drop p) ((hl.take _).drop _) (by omega) s 0 0 k (by simp) (by omega) (by omega)
    rw [show ((0 : Nat) : Int) = 0 from rfl] at this
    rw [this, List.drop_zero, List.drop_take, Nat.add_sub_cancel_left]
  · rw [if_neg h]
    have hj : ∀ x0 x1 x2, num_GetFixed.j0 (k + 1) x0 x1 x2 true = some (0, false) := by intro x0 x1 x2; simp [num_GetFixed.j0]
    by_cases h2 : at_ < 0
    · rw [if_pos h2]; exact hj _ _ _
    · rw [if_neg h2]
      by_cases h3 : at_ > (l.length : Int)
      · rw [if_pos h3]; exact hj _ _ _
      · rw [if_neg h3, w64 (x := (l.length : Int) - at_) (by omega) (by omega), decide_eq_true (by omega)]
        exact hj _ _ _
def fix4 (n : Nat) : List Int := [((n / 16777216 % 256 : Nat) : Int), ((n / 65536 % 256 : Nat) : Int), ((n / 256 % 256 : Nat) : Int), ((n % 256 : Nat) : Int)]
def fix2 (n : Nat) : List Int := [((n / 256 % 256 : Nat) : Int), ((n % 256 : Nat) : Int)]
theorem fix4_bytes (n : Nat) : Bytes (fix4 n) := by
  intro x hx
  simp only [fix4, List.mem_cons, List.not_mem_nil, or_false] at hx
  omega
theorem fix2_bytes (n : Nat) : Bytes (fix2 n) := by
  intro x hx
  simp only [fix2, List.mem_cons, List.not_mem_nil, or_false] at hx
  omega
theorem beN_fix4 {n : Nat} (h : n < 4294967296) : beN (fix4 n) 0 = n := by
  simp only [fix4, beN, Int.toNat_natCast]
  omega
theorem beN_fix2 {n : Nat} (h : n < 65536) : beN (fix2 n) 0 = n := by
  simp only [fix2, beN, Int.toNat_natCast]
  omega
theorem shr_nat (n i : Nat) (hi : i ≤ 64) : shr .i64 (n : Int) (i : Int) = ((n / 2 ^ i : Nat) : Int) := by
  unfold shr
  rw [show IntKind.i64.bits = 64 from rfl, show ((i : Int)).toNat = i from rfl, Nat.min_eq_left hi]
  norm_cast
theorem num_Fixed4 {k : Nat} (hk : 8 ≤ k) {n : Nat} (hn : n < 9223372036854775808) : num_Fixed.f k (n : Int) 4 = some (fix4 n) := by
  obtain ⟨k, rfl⟩ : ∃ m, k = m + 6 := ⟨k - 6, by omega⟩
  unfold num_Fixed.f
  rw [if_neg (by omega), decide_eq_false (by omega)]
  simp only [num_Fixed.j0, Bool.false_eq_true, if_false]
  rw [if_pos (by omega), if_pos (by omega)]
  have e0 : wrap64 (4 - 1) = 3 := w64 (by omega) (by omega)
  have a0 : wrap64 (8 * wrap64 (3 - 0)) = 24 := by rw [w64 (x := 3 - 0) (by omega) (by omega)]; exact w64 (by omega) (by omega)
  have a1 : wrap64 (8 * wrap64 (3 - 1)) = 16 := by rw [w64 (x := 3 - 1) (by omega) (by omega)]; exact w64 (by omega) (by omega)
  have a2 : wrap64 (8 * wrap64 (3 - 2)) = 8 := by rw [w64 (x := 3 - 2) (by omega) (by omega)]; exact w64 (by omega) (by omega)
  have a3 : wrap64 (8 * wrap64 (3 - 3)) = 0 := by rw [w64 (x := 3 - 3) (by omega) (by omega)]; exact w64 (by omega) (by omega)
  have i1 : wrap64 (0 + 1) = 1 := w64 (by omega) (by omega)
  have i2 : wrap64 (1 + 1) = 2 := w64 (by omega) (by omega)
  have i3 : wrap64 (2 + 1) = 3 := w64 (by omega) (by omega)
  have i4 : wrap64 (3 + 1) = 4 := w64 (by omega) (by omega)
  have s0 := shr_nat n 24 (by omega)
  have s1 := shr_nat n 16 (by omega)
  have s2 := shr_nat n 8 (by omega)
  have s3 := shr_nat n 0 (by omega)
  simp only [Int.cast_ofNat_Int, Int.ofNat_zero] at s0 s1 s2
  rw [show ((0 : Nat) : Int) = 0 from rfl] at s3
  simp only [num_Fixed.l0, e0, a0, a1, a2, a3, i1, i2, i3, i4, s0, s1, s2, s3, show (4 : Int).toNat = 4 from rfl, show (0 : Int).toNat = 0 from rfl, show (1 : Int).toNat = 1 from rfl, show (2 : Int).toNat = 2 from rfl, show (3 : Int).toNat = 3 from rfl, List.length_set, List.length_replicate]
  simp only [fix4]
  simp [List.replicate]
theorem num_Fixed2 {k : Nat} (hk : 8 ≤ k) {n : Nat} (hn : n < 9223372036854775808) : num_Fixed.f k (n : Int) 2 = some (fix2 n) := by
  obtain ⟨k, rfl⟩ : ∃ m, k = m + 4 := ⟨k - 4, by omega⟩
  unfold num_Fixed.f
  rw [if_neg (by omega), decide_eq_false (by omega)]
  simp only [num_Fixed.j0, Bool.false_eq_true, if_false]
  rw [if_pos (by omega), if_pos (by omega)]
  have e0 : wrap64 (2 - 1) = 1 := w64 (by omega) (by omega)
  have a0 : wrap64 (8 * wrap64 (1 - 0)) = 8 := by rw [w64 (x := 1 - 0) (by omega) (by omega)]; exact w64 (by omega) (by omega)
  have a1 : wrap64 (8 * wrap64 (1 - 1)) = 0 := by rw [w64 (x := 1 - 1) (by omega) (by omega)]; exact w64 (by omega) (by omega)
  have i1 : wrap64 (0 + 1) = 1 := w64 (by omega) (by omega)
  have i2 : wrap64 (1 + 1) = 2 := w64 (by omega) (by omega)
  have s2 := shr_nat n 8 (by omega)
  have s3 := shr_nat n 0 (by omega)
  simp only [Int.cast_ofNat_Int, Int.ofNat_zero] at s2
  rw [show ((0 : Nat) : Int) = 0 from rfl] at s3
  simp only [num_Fixed.l0, e0, a0, a1, i1, i2, s2, s3, show (2 : Int).toNat = 2 from rfl, show (0 : Int).toNat = 0 from rfl, show (1 : Int).toNat = 1 from rfl, List.length_set, List.length_replicate]
  simp only [fix2]
  simp [List.replicate]

theorem rdL2_drop {l : List (List Int)} {i : Nat} {c : List Int} {t : List (List Int)} (h : l.drop i = c :: t) : rd_L2 l (i : Int) = c := by
  unfold rd_L2
  have : l[i]? = some c := by
    have := congrArg (fun x => x[0]?) h
    simpa using this
  simp [List.getD, this]
theorem dropG_lt {α : Type} {l : List α} {i : Nat} {c : α} {t : List α} (h : l.drop i = c :: t) : i < l.length := by
  rcases Nat.lt_or_ge i l.length with h1 | h1
  · exact h1
  · rw [List.drop_of_length_le h1] at h; cases h
theorem dropG_succ {α : Type} {l : List α} {i : Nat} {c : α} {t : List α} (h : l.drop i = c :: t) : l.drop (i + 1) = t := by
  have : l.drop (i + 1) = (l.drop i).drop 1 := by rw [List.drop_drop]
  rw [this, h]; rfl
theorem Concat_l1 {l : List (List Int)} (hlen : l.length ≤ 140737488351232) (d : Nat) : ∀ (out : List Int) (p k : Nat), out.length + (l.drop p).flatten.length < 140737488355328 → p + d = l.length → d < k →
    slices_Concat_byte_byte.l1 k out l (l.length : Int) (p : Int) = some (out ++ (l.drop p).flatten) := by
  induction d with
  | zero =>
    intro out p k ho hp hk
    obtain ⟨k, rfl⟩ : ∃ m, k = m + 1 := ⟨k - 1, by omega⟩
    simp only [slices_Concat_byte_byte.l1]
    rw [if_neg (by omega), List.drop_of_length_le (by omega)]
    simp
  | succ d ih =>
    intro out p k ho hp hk
    obtain ⟨k, rfl⟩ : ∃ m, k = m + 1 := ⟨k - 1, by omega⟩
    simp only [slices_Concat_byte_byte.l1]
    cases hd : l.drop p with
    | nil => have := congrArg List.length hd; simp at this; omega
    | cons c t =>
      rw [hd] at ho
      simp only [List.flatten_cons, List.length_append] at ho
      rw [if_pos (by omega), if_pos (by omega), if_pos (by omega), rdL2_drop hd, if_pos (by omega), w64 (x := (p : Int) + 1) (by omega) (by omega)]
      have := ih (out ++ c) (p + 1) k (by rw [dropG_succ hd, List.length_append]; omega) (by omega) (by omega)
      rw [show ((p + 1 : Nat) : Int) = (p : Int) + 1 from by omega] at this
      rw [this, dropG_succ hd, List.flatten_cons, List.append_assoc]
theorem Concat_l0 {l : List (List Int)} (hlen : l.length ≤ 140737488351232) (d : Nat) : ∀ (a p k : Nat), a + (l.drop p).flatten.length = l.flatten.length → l.flatten.length < 140737488355328 → p + d = l.length → d + l.length + 1 < k →
    slices_Concat_byte_byte.l0 k l (a : Int) l (l.length : Int) (p : Int) = some l.flatten := by
  induction d with
  | zero =>
    intro a p k ha ho hp hk
    obtain ⟨k, rfl⟩ : ∃ m, k = m + 1 := ⟨k - 1, by omega⟩
    simp only [slices_Concat_byte_byte.l0]
    rw [List.drop_of_length_le (by omega)] at ha
    simp only [List.flatten_nil, List.length_nil, Nat.add_zero] at ha
    rw [if_neg (by omega)]
    unfold slices_Grow_byte_byte.f
    rw [if_pos (show ([] : List Int).length = 0 from rfl), if_pos (by omega), if_pos (by omega)]
    simp only [Option.bind_some]
    have := Concat_l1 hlen l.length [] 0 k (by rw [List.drop_zero, List.length_nil]; omega) (by omega) (by omega)
    rw [show ((0 : Nat) : Int) = 0 from rfl] at this
    rw [this]
    simp
  | succ d ih =>
    intro a p k ha ho hp hk
    obtain ⟨k, rfl⟩ : ∃ m, k = m + 1 := ⟨k - 1, by omega⟩
    simp only [slices_Concat_byte_byte.l0]
    cases hd : l.drop p with
    | nil => have := congrArg List.length hd; simp at this; omega
    | cons c t =>
      rw [hd] at ha
      simp only [List.flatten_cons, List.length_append] at ha
      have e : (a : Int) + (c.length : Int) = ((a + c.length : Nat) : Int) := by omega
      rw [if_pos (by omega), if_pos (by omega), if_pos (by omega), rdL2_drop hd, e, w64 (x := ((a + c.length : Nat) : Int)) (by omega) (by omega), if_neg (by omega), w64 (x := (p : Int) + 1) (by omega) (by omega)]
      have := ih (a + c.length) (p + 1) k (by rw [dropG_succ hd]; omega) ho (by omega) (by omega)
      rw [show ((p + 1 : Nat) : Int) = (p : Int) + 1 from by omega] at this
      exact this
theorem Concat_eq {k : Nat} {l : List (List Int)} (hlen : l.length ≤ 140737488351232) (ho : l.flatten.length < 140737488355328) (hk : 2 * l.length + 1 < k) : slices_Concat_byte_byte.f k l = some l.flatten := by
  unfold slices_Concat_byte_byte.f
  have := Concat_l0 hlen l.length 0 0 k (by simp) ho (by omega) (by omega)
  exact this

/-- A record. -/
def putF (p : List Int) : List Int := if p.length > 1048576 then [] else fix4 p.length ++ (fix4 (sumS p) ++ p)
theorem putF_bytes {p : List Int} (h : Bytes p) : Bytes (putF p) := by
  unfold putF
  split
  · exact Bytes.nil
  · exact (fix4_bytes _).append ((fix4_bytes _).append h)
theorem putF_length {p : List Int} (h : p.length ≤ 1048576) : (putF p).length = p.length + 8 := by
  unfold putF
  rw [if_neg (by omega)]
  simp [fix4]
theorem frame_Put_eq {k : Nat} {p : List Int} (hp : Bytes p) (hk : 20 + 10 * p.length < k) : frame_Put.f k p = some (putF p) := by
  unfold frame_Put.f putF
  by_cases h : (p.length : Int) > 1048576
  · rw [if_pos h, if_pos (by omega)]
  · rw [if_neg h, if_neg (by omega)]
    have hs := sumS_lt hp
    rw [num_Fixed4 (by omega) (by omega), sum_Sum_eq hp (by omega) (by omega)]
    simp only [Option.bind_some]
    rw [num_Fixed4 (by omega) (by omega)]
    simp only [Option.bind_some]
    rw [Concat_eq (by simp) (by simp [fix4]; omega) (by simp; omega)]
    simp
/-- The record that stands at a place. -/
def getF (l : List Int) (at_ : Int) : List Int × Int × Bool :=
  if (getFx l at_ 4).2 = true ∧ (getFx l at_ 4).1 ≤ 1048576 ∧ (getFx l at_ 4).1 ≤ (l.length : Int) - at_ - 8 ∧ (getFx l (at_ + 4) 4).1 = ((sumS ((l.drop (at_ + 8).toNat).take (getFx l at_ 4).1.toNat) : Nat) : Int) then
    ((l.drop (at_ + 8).toNat).take (getFx l at_ 4).1.toNat, at_ + 8 + (getFx l at_ 4).1, true) else ([], 0, false)
theorem getFx_nonneg (l : List Int) (at_ : Int) (s : Nat) : 0 ≤ (getFx l at_ s).1 := by
  unfold getFx
  split
  · exact Int.natCast_nonneg _
  · exact Int.le_refl 0
theorem getFx_ok {l : List Int} {at_ : Int} {s : Nat} : (getFx l at_ s).2 = true ↔ 0 ≤ at_ ∧ at_ ≤ (l.length : Int) - (s : Int) := by
  unfold getFx
  split <;> simp_all
theorem frame_Get_eq {k : Nat} {l : List Int} (hl : Bytes l) (hlen : l.length ≤ 140737488351232) (at_ : Int) (h0 : -9223372036854775808 ≤ at_) (hat : at_ ≤ 9223372036854775807) (hk : 20 + 10 * l.length < k) : frame_Get.f k l at_ = some (getF l at_) := by
  unfold frame_Get.f getF
  obtain ⟨k, rfl⟩ : ∃ m, k = m + 1 := ⟨k - 1, by omega⟩
  have e4 : ((4 : Nat) : Int) = 4 := rfl
  have g := num_GetFixed_eq (k := k + 1) (by omega) hl hlen at_ hat (s := 4) (by omega) (by omega)
  rw [e4] at g
  rw [g, Option.bind_some]
  have hj : ∀ x0 x1 x2, frame_Get.j0 (k + 1) x0 x1 x2 true = some ([], 0, false) := by intro x0 x1 x2; simp [frame_Get.j0]
  have hn := getFx_nonneg l at_ 4
  by_cases h1 : (getFx l at_ 4).2 = true
  · rw [if_pos h1]
    obtain ⟨a0, a1⟩ := getFx_ok.1 h1
    rw [e4] at a1
    by_cases h2 : (getFx l at_ 4).1 > 1048576
    · rw [if_pos h2, hj, if_neg (by omega)]
    · rw [if_neg h2, w64 (x := (l.length : Int) - at_) (by omega) (by omega), w64 (x := (l.length : Int) - at_ - 8) (by omega) (by omega)]
      by_cases h3 : (getFx l at_ 4).1 > (l.length : Int) - at_ - 8
      · rw [decide_eq_true h3, hj, if_neg (by omega)]
      · rw [decide_eq_false h3]
        obtain ⟨p, rfl⟩ : ∃ m : Nat, at_ = m := ⟨at_.toNat, by omega⟩
        obtain ⟨n, hnn⟩ : ∃ m : Nat, (getFx l (p : Int) 4).1 = m := ⟨(getFx l (p : Int) 4).1.toNat, by omega⟩
        rw [hnn] at h2 h3 ⊢
        simp only [frame_Get.j0, Bool.false_eq_true, if_false]
        rw [w64 (x := (p : Int) + 4) (by omega) (by omega)]
        have g2 := num_GetFixed_eq (k := k) (by omega) hl hlen ((p : Int) + 4) (by omega) (s := 4) (by omega) (by omega)
        rw [e4] at g2
        rw [g2, Option.bind_some]
        have e8 : (p : Int) + 8 = ((p + 8 : Nat) : Int) := by omega
        have e9 : ((p + 8 : Nat) : Int) + (n : Int) = ((p + 8 + n : Nat) : Int) := by omega
        rw [e8, w64 (x := ((p + 8 : Nat) : Int)) (by omega) (by omega), e9, w64 (x := ((p + 8 + n : Nat) : Int)) (by omega) (by omega), if_pos (by omega), if_pos (by omega), if_pos (by omega)]
        simp only [Int.toNat_natCast]
        have hy : (l.take (p + 8 + n)).drop (p + 8) = (l.drop (p + 8)).take n := by rw [List.drop_take, Nat.add_sub_cancel_left]
        have hyl : ((l.drop (p + 8)).take n).length ≤ l.length := by simp; omega
        rw [hy]
        unfold slices_Clone_byte_byte.f
        rw [if_pos (by omega), Option.bind_some]
        have h4 : (getFx l ((p : Int) + 4) 4).2 = true := getFx_ok.2 (by omega)
        rw [if_pos h4, sum_Sum_eq ((hl.drop _).take _) (by omega) (by omega), Option.bind_some]
        have b1 : (n : Int) ≤ 1048576 := by omega
        have b2 : (n : Int) ≤ (l.length : Int) - (p : Int) - 8 := by omega
        generalize ((sumS ((l.drop (p + 8)).take n) : Nat) : Int) = z
        by_cases h5 : (getFx l ((p : Int) + 4) 4).1 = z
        · rw [if_pos h5, if_pos ⟨h1, b1, b2, h5⟩]
        · rw [if_neg h5, if_neg (fun h => h5 h.2.2.2)]
  · rw [if_neg h1, hj, if_neg (fun h => h1 h.1)]
theorem getF_cases {l : List Int} (hl : Bytes l) (at_ : Int) : getF l at_ = ([], 0, false) ∨ ∃ p n : Nat, at_ = p ∧ p + 8 + n ≤ l.length ∧ n ≤ 1048576 ∧ getF l at_ = ((l.drop (p + 8)).take n, ((p + 8 + n : Nat) : Int), true) := by
  unfold getF
  split
  · rename_i h
    right
    obtain ⟨h1, h2, h3, _⟩ := h
    obtain ⟨a0, a1⟩ := getFx_ok.1 h1
    have hn := getFx_nonneg l at_ 4
    refine ⟨at_.toNat, (getFx l at_ 4).1.toNat, by omega, by omega, by omega, ?_⟩
    have e : (at_ + 8).toNat = at_.toNat + 8 := by omega
    have e2 : at_ + 8 + (getFx l at_ 4).1 = ((at_.toNat + 8 + (getFx l at_ 4).1.toNat : Nat) : Int) := by omega
    rw [e, e2]
  · exact .inl rfl
theorem getFx_at {pre s rest : List Int} {n : Nat} (hn : s.length = n) : getFx (pre ++ (s ++ rest)) (pre.length : Int) n = (((beN s 0 : Nat) : Int), true) := by
  unfold getFx
  rw [if_pos (by simp only [List.length_append]; omega)]
  simp only [Int.toNat_natCast, List.drop_left]
  rw [← hn, List.take_left]
theorem getF_put {p : List Int} (hp : Bytes p) (hlen : p.length ≤ 1048576) (pre rest : List Int) : getF (pre ++ (putF p ++ rest)) (pre.length : Int) = (p, ((pre.length + 8 + p.length : Nat) : Int), true) := by
  unfold putF
  rw [if_neg (by omega)]
  have e1 : pre ++ (fix4 p.length ++ (fix4 (sumS p) ++ p) ++ rest) = pre ++ (fix4 p.length ++ (fix4 (sumS p) ++ (p ++ rest))) := by simp
  have e2 : pre ++ (fix4 p.length ++ (fix4 (sumS p) ++ (p ++ rest))) = (pre ++ fix4 p.length) ++ (fix4 (sumS p) ++ (p ++ rest)) := by simp
  rw [e1]
  have hs := sumS_lt hp
  have g1 := getFx_at (pre := pre) (s := fix4 p.length) (rest := fix4 (sumS p) ++ (p ++ rest)) (n := 4) rfl
  rw [beN_fix4 (by omega)] at g1
  have g2 := getFx_at (pre := pre ++ fix4 p.length) (s := fix4 (sumS p)) (rest := p ++ rest) (n := 4) rfl
  rw [beN_fix4 hs, ← e2] at g2
  have e3 : (((pre ++ fix4 p.length).length : Nat) : Int) = (pre.length : Int) + 4 := by simp [fix4]
  rw [e3] at g2
  unfold getF
  rw [g1, g2]
  have e4 : ((pre.length : Int) + 8).toNat = pre.length + 8 := by omega
  have e5 : (pre ++ (fix4 p.length ++ (fix4 (sumS p) ++ (p ++ rest)))).drop (pre.length + 8) = p ++ rest := by
    have : pre ++ (fix4 p.length ++ (fix4 (sumS p) ++ (p ++ rest))) = (pre ++ fix4 p.length ++ fix4 (sumS p)) ++ (p ++ rest) := by simp
    rw [this]
    exact List.drop_left' (by simp [fix4])
  simp only [Int.toNat_natCast]
  rw [e4, e5, List.take_left]
  rw [if_pos ⟨trivial, by omega, by simp [fix4]; omega, rfl⟩]
  simp only [Prod.mk.injEq, true_and, and_true]
  omega

/-- Records from a place on, and where the last one ends. -/
def scanF : Nat → List Int → List (List Int) → Int → List (List Int) × Int
  | 0, _, acc, at_ => (acc, at_)
  | d + 1, l, acc, at_ => if (getF l at_).2.2 = true then scanF d l (acc ++ [(getF l at_).1]) (getF l at_).2.1 else (acc, at_)
theorem frame_Scan_l0 {l : List Int} (hl : Bytes l) (hlen : l.length ≤ 1073741824) (d : Nat) : ∀ (acc : List (List Int)) (p k : Nat), p ≤ l.length → l.length - p ≤ d → acc.length ≤ p → d + 21 + 10 * l.length < k →
    frame_Scan.l0 k l acc (p : Int) = some (scanF (d + 1) l acc (p : Int)) := by
  induction d with
  | zero =>
    intro acc p k hp hd ha hk
    obtain ⟨k, rfl⟩ : ∃ m, k = m + 1 := ⟨k - 1, by omega⟩
    simp only [frame_Scan.l0]
    rw [frame_Get_eq hl (by omega) (p : Int) (by omega) (by omega) (by omega)]
    simp only [Option.bind_some, scanF]
    rcases getF_cases hl (p : Int) with h | ⟨q, n, hq, hle, _, h⟩
    · rw [h]; rfl
    · omega
  | succ d ih =>
    intro acc p k hp hd ha hk
    obtain ⟨k, rfl⟩ : ∃ m, k = m + 1 := ⟨k - 1, by omega⟩
    simp only [frame_Scan.l0]
    rw [frame_Get_eq hl (by omega) (p : Int) (by omega) (by omega) (by omega)]
    simp only [Option.bind_some]
    rw [scanF]
    rcases getF_cases hl (p : Int) with h | ⟨q, n, hq, hle, _, h⟩
    · rw [h]; rfl
    · rw [h]
      simp only [if_true]
      rw [if_pos (by omega)]
      exact ih _ (q + 8 + n) k (by omega) (by omega) (by simp only [List.length_append, List.length_cons, List.length_nil]; omega) (by omega)
theorem frame_Scan_eq {k : Nat} {l : List Int} (hl : Bytes l) (hlen : l.length ≤ 1073741824) (hk : 30 + 11 * l.length < k) : frame_Scan.f k l = some (scanF (l.length + 1) l [] 0) := by
  unfold frame_Scan.f
  exact frame_Scan_l0 hl hlen l.length [] 0 k (by omega) (by omega) (by simp) (by omega)
theorem awake7_eq {k : Nat} (hk : 100 ≤ k) : iceboxlaw7_awake.f k = some true := by
  unfold iceboxlaw7_awake.f
  rw [frame_Scan_eq Bytes.nil (by simp) (by simp; omega)]
  have h : getF [] 0 = ([], 0, false) := by
    rcases getF_cases Bytes.nil 0 with h | ⟨p, n, _, h, _⟩
    · exact h
    · simp at h
  have hs : scanF (([] : List Int).length + 1) [] [] 0 = ([], 0) := by simp [scanF, h]
  rw [hs]
  simp only [Option.bind_some, List.length_nil]
  have hb : Bytes [97, 98] := by
    intro x hx
    simp only [List.mem_cons, List.not_mem_nil, or_false] at hx
    omega
  rw [if_pos (show ((0 : Nat) : Int) = 0 from rfl), if_pos trivial, frame_Put_eq hb (by simp; omega)]
  simp only [Option.bind_some]
  rw [putF_length (by simp)]
  rfl
end Go.Proofs.Ytcglkacplbeakaa.PA
