/- Plain laws about the reference's sums, fixed numbers and records (iceboxref1): they are frame's. -/
import Derived.Test.YtcglkacplbeakaaQFrame
import Derived.Test.YtcglkacplbeakaaPAx15
import Derived.Test.YtcglkacplbeakaaPAx17
import Derived.Test.YtcglkacplbeakaaPAx14
import Derived.Test.YtcglkacplbeakaaPAx16
namespace Go.Proofs.Ytcglkacplbeakaa.PA
open Go.RowKit Go.Proofs.YtcglkacplbeakaaW.PrintWords Go.Proofs.YtcglkacplbeakaaW.PrintLast Go.Proofs.YtcglkacplbeakaaW.PrintMore
set_option linter.unusedVariables false
set_option linter.unusedSimpArgs false

theorem ref_step {r : Nat} (h : r < 4294967296) : (if Go.bits .and .u32 (r : Int) 1 > 0 then Go.bits .xor .u32 ((r : Int) / 2) 2197175160 else (r : Int) / 2) = ((stepN r : Nat) : Int) := by
  rw [← step_eq r h, and1_32 r h]
  by_cases h1 : r % 2 = 0
  · rw [if_neg (by omega), if_pos (by omega)]
  · rw [if_pos (by omega), if_neg (by omega)]
theorem ref_Sum_l1 (d : Nat) : ∀ (r i k : Nat) (l : List Int) (p : Int), r < 4294967296 → i + d = 8 → d < k →
    iceboxref1_Sum.l1 k l (r : Int) p (i : Int) = iceboxref1_Sum.l0 (k - d - 1) l ((stepsN d r : Nat) : Int) (wrap64 (p + 1)) := by
  induction d with
  | zero =>
    intro r i k l p hr hi hk
    obtain ⟨k, rfl⟩ : ∃ m, k = m + 1 := ⟨k - 1, by omega⟩
    obtain rfl : i = 8 := by omega
    simp only [iceboxref1_Sum.l1]
    rw [if_neg (by omega)]
    rfl
  | succ d ih =>
    intro r i k l p hr hi hk
    obtain ⟨k, rfl⟩ : ∃ m, k = m + 1 := ⟨k - 1, by omega⟩
    simp only [iceboxref1_Sum.l1]
    rw [if_pos (by omega), w64 (x := (i : Int) + 1) (by omega) (by omega)]
    have e : k + 1 - (d + 1) - 1 = k - d - 1 := by omega
    have hs := ref_step hr
    have := ih (stepN r) (i + 1) k l p (stepN_lt hr) (by omega) (by omega)
    rw [show ((i + 1 : Nat) : Int) = (i : Int) + 1 from by omega] at this
    rw [e]
    by_cases h1 : Go.bits .and .u32 (r : Int) 1 > 0
    · rw [if_pos h1] at hs ⊢
      rw [hs]; exact this
    · rw [if_neg h1] at hs ⊢
      rw [hs]; exact this
theorem ref_Sum_l0 {l : List Int} (hl : Bytes l) (hlen : l.length ≤ 140737488351232) (d : Nat) : ∀ (r p k : Nat), r < 4294967296 → p + d = l.length → 10 * d < k →
    iceboxref1_Sum.l0 k l (r : Int) (p : Int) = some (((4294967295 ^^^ sumR (l.drop p) r : Nat) : Int)) := by
  induction d with
  | zero =>
    intro r p k hr hp hk
    obtain ⟨k, rfl⟩ : ∃ m, k = m + 1 := ⟨k - 1, by omega⟩
    simp only [iceboxref1_Sum.l0]
    have hd : l.drop p = [] := List.drop_of_length_le (by omega)
    have hx : 4294967295 ^^^ r < 4294967296 := xor_lt32 (by omega) hr
    have e := xor32 4294967295 r (by omega) hr
    simp only [Int.cast_ofNat_Int] at e
    rw [if_neg (by omega), hd, e, w64 (by omega) (by omega)]
    rfl
  | succ d ih =>
    intro r p k hr hp hk
    obtain ⟨k, rfl⟩ : ∃ m, k = m + 1 := ⟨k - 1, by omega⟩
    simp only [iceboxref1_Sum.l0]
    cases hd : l.drop p with
    | nil => have := congrArg List.length hd; simp at this; omega
    | cons c t =>
      have hc := hl c (by have : c ∈ l.drop p := by rw [hd]; simp
                          exact List.mem_of_mem_drop this)
      obtain ⟨cn, rfl⟩ : ∃ m : Nat, c = m := ⟨c.toNat, by omega⟩
      have e1 : (cn : Int) % 4294967296 = ((cn : Nat) : Int) := by omega
      rw [if_pos (by omega), if_pos (by omega), rd_drop hd, e1, xor32 r cn hr (by omega)]
      have hx := xor_lt32 hr (by omega : cn < 4294967296)
      have := ref_Sum_l1 8 (r ^^^ cn) 0 k l (p : Int) hx (by omega) (by omega)
      rw [show ((0 : Nat) : Int) = 0 from rfl] at this
      rw [this]
      rw [w64 (x := (p : Int) + 1) (by omega) (by omega)]
      have h3 := ih (stepsN 8 (r ^^^ cn)) (p + 1) (k - 8 - 1) (stepsN_lt 8 hx) (by omega) (by omega)
      rw [show ((p + 1 : Nat) : Int) = (p : Int) + 1 from by omega] at h3
      rw [h3, drop_succ hd]
      rfl
theorem ref_Sum_eq {k : Nat} {l : List Int} (hl : Bytes l) (hlen : l.length ≤ 140737488351232) (hk : 10 * l.length < k) : iceboxref1_Sum.f k l = some ((sumS l : Nat) : Int) := by
  unfold iceboxref1_Sum.f sumS
  have := ref_Sum_l0 hl hlen l.length 4294967295 0 k (by omega) (by omega) hk
  exact this

theorem wrap_u64 {n : Nat} (h : n < 9223372036854775808) : IntKind.u64.wrap (n : Int) = (n : Int) := by
  unfold IntKind.wrap
  simp [IntKind.signed, IntKind.bits]
  omega
theorem ref_Fixed4 {k : Nat} (hk : 8 ≤ k) {n : Nat} (hn : n < 9223372036854775808) : iceboxref1_Fixed.f k (n : Int) 4 = some (fix4 n) := by
  obtain ⟨k, rfl⟩ : ∃ m, k = m + 6 := ⟨k - 6, by omega⟩
  unfold iceboxref1_Fixed.f
  rw [if_neg (by omega), decide_eq_false (by omega)]
  simp only [iceboxref1_Fixed.j0, Bool.false_eq_true, if_false]
  rw [if_pos (by omega), if_pos (by omega), wrap_u64 hn]
  have e0 : wrap64 (4 - 1) = 3 := w64 (by omega) (by omega)
  have i3 : wrap64 (3 - 1) = 2 := w64 (by omega) (by omega)
  have i2 : wrap64 (2 - 1) = 1 := w64 (by omega) (by omega)
  have i1 : wrap64 (1 - 1) = 0 := w64 (by omega) (by omega)
  have i0 : wrap64 (0 - 1) = -1 := w64 (by omega) (by omega)
  simp only [iceboxref1_Fixed.l0, e0, i0, i1, i2, i3, show (4 : Int).toNat = 4 from rfl, show (0 : Int).toNat = 0 from rfl, show (1 : Int).toNat = 1 from rfl, show (2 : Int).toNat = 2 from rfl, show (3 : Int).toNat = 3 from rfl, List.length_set, List.length_replicate]
  simp only [fix4]
  simp [List.replicate]
  omega
theorem ref_GetFixed_l0 {l : List Int} (hl : Bytes l) (hlen : l.length ≤ 140737488351232) (q s : Nat) (hs : s ≤ 7) (hq : q + s ≤ l.length) (d : Nat) : ∀ (a p k : Nat), a < 256 ^ p → p + d = s → d < k →
    iceboxref1_GetFixed.l0 k l (q : Int) (s : Int) (a : Int) (p : Int) = some (((beN ((l.drop (q + p)).take d) a : Nat) : Int), true) := by
  induction d with
  | zero =>
    intro a p k ha hp hk
    obtain ⟨k, rfl⟩ : ∃ m, k = m + 1 := ⟨k - 1, by omega⟩
    simp only [iceboxref1_GetFixed.l0]
    rw [if_neg (by omega), List.take_zero]
    rfl
  | succ d ih =>
    intro a p k ha hp hk
    obtain ⟨k, rfl⟩ : ∃ m, k = m + 1 := ⟨k - 1, by omega⟩
    simp only [iceboxref1_GetFixed.l0]
    cases hd : l.drop (q + p) with
    | nil => have := congrArg List.length hd; simp at this; omega
    | cons c t =>
      have hc := hl c (by have : c ∈ l.drop (q + p) := by rw [hd]; simp
                          exact List.mem_of_mem_drop this)
      obtain ⟨cn, rfl⟩ : ∃ m : Nat, c = m := ⟨c.toNat, by omega⟩
      have hp6 : (256 : Nat) ^ p ≤ 256 ^ 6 := Nat.pow_le_pow_right (by omega) (by omega)
      have h6 : (256 : Nat) ^ 6 = 281474976710656 := by decide
      have eq : (q : Int) + (p : Int) = ((q + p : Nat) : Int) := by omega
      rw [if_pos (by omega), eq, w64 (x := ((q + p : Nat) : Int)) (by omega) (by omega), if_pos (Int.natCast_nonneg _), if_pos (by omega), rd_drop hd, w64 (x := 256 * (a : Int)) (by omega) (by omega), w64 (x := (cn : Int)) (by omega) (by omega), w64 (x := 256 * (a : Int) + (cn : Int)) (by omega) (by omega), w64 (x := (p : Int) + 1) (by omega) (by omega)]
      have := ih (a * 256 + cn) (p + 1) k (by rw [Nat.pow_succ]; omega) (by omega) (by omega)
      rw [show ((p + 1 : Nat) : Int) = (p : Int) + 1 from by omega, show ((a * 256 + cn : Nat) : Int) = 256 * (a : Int) + (cn : Int) from by omega, show q + (p + 1) = q + p + 1 from by omega, drop_succ hd] at this
      rw [this, List.take_succ_cons]
      rfl
theorem ref_GetFixed_eq {k : Nat} (hk : 10 ≤ k) {l : List Int} (hl : Bytes l) (hlen : l.length ≤ 140737488351232) (at_ : Int) {s : Nat} (h1 : 1 ≤ s) (h7 : s ≤ 7) : iceboxref1_GetFixed.f k l at_ (s : Int) = some (getFx l at_ s) := by
  unfold iceboxref1_GetFixed.f getFx
  obtain ⟨k, rfl⟩ : ∃ m, k = m + 1 := ⟨k - 1, by omega⟩
  have hj : ∀ x0 x1 x2, iceboxref1_GetFixed.j0 (k + 1) x0 x1 x2 true = some (0, false) := by intro x0 x1 x2; simp [iceboxref1_GetFixed.j0]
  rw [if_neg (by omega), if_neg (by omega)]
  by_cases h : 0 ≤ at_ ∧ at_ ≤ (l.length : Int) - (s : Int)
  · rw [if_pos h, if_neg (by omega), w64 (x := (l.length : Int) - (s : Int)) (by omega) (by omega), decide_eq_false (by omega)]
    obtain ⟨p, rfl⟩ : ∃ m : Nat, at_ = m := ⟨at_.toNat, by omega⟩
    simp only [iceboxref1_GetFixed.j0, Bool.false_eq_true, if_false]
    have := ref_GetFixed_l0 hl hlen p s h7 (by omega) s 0 0 k (by simp) (by omega) (by omega)
    rw [show ((0 : Nat) : Int) = 0 from rfl] at this
    rw [this]
    rfl
  · rw [if_neg h]
    by_cases h2 : at_ < 0
    · rw [if_pos h2]; exact hj _ _ _
    · rw [if_neg h2, w64 (x := (l.length : Int) - (s : Int)) (by omega) (by omega), decide_eq_true (by omega)]
      exact hj _ _ _
theorem ref_Frame_eq {k : Nat} {p : List Int} (hp : Bytes p) (hk : 20 + 10 * p.length < k) : iceboxref1_Frame.f k p = some (putF p) := by
  unfold iceboxref1_Frame.f putF
  by_cases h : (p.length : Int) > 1048576
  · rw [if_pos h, if_pos (by omega)]
  · rw [if_neg h, if_neg (by omega)]
    have hs := sumS_lt hp
    rw [ref_Fixed4 (by omega) (by omega), Option.bind_some, ref_Sum_eq hp (by omega) (by omega), Option.bind_some, ref_Fixed4 (by omega) (by omega), Option.bind_some, if_pos (by simp [fix4]), Option.bind_some, if_pos (by simp [fix4]; omega), List.append_assoc]
theorem ref_Unframe_eq {k : Nat} {l : List Int} (hl : Bytes l) (hlen : l.length ≤ 140737488351232) (at_ : Int) (h0 : -9223372036854775808 ≤ at_) (hat : at_ ≤ 9223372036854775807) (hk : 20 + 10 * l.length < k) : iceboxref1_Unframe.f k l at_ = some (getF l at_) := by
  unfold iceboxref1_Unframe.f getF
  obtain ⟨k, rfl⟩ : ∃ m, k = m + 1 := ⟨k - 1, by omega⟩
  have e4 : ((4 : Nat) : Int) = 4 := rfl
  have g := ref_GetFixed_eq (k := k + 1) (by omega) hl hlen at_ (s := 4) (by omega) (by omega)
  have g2 := ref_GetFixed_eq (k := k + 1) (by omega) hl hlen (wrap64 (at_ + 4)) (s := 4) (by omega) (by omega)
  rw [e4] at g g2
  rw [g, Option.bind_some, g2, Option.bind_some]
  have hj : ∀ x0 x1 x2 x3, iceboxref1_Unframe.j0 (k + 1) x0 x1 x2 x3 true = some ([], 0, false) := by intro x0 x1 x2 x3; simp [iceboxref1_Unframe.j0]
  have hn := getFx_nonneg l at_ 4
  by_cases h1 : (getFx l at_ 4).2 = true
  · rw [if_pos h1]
    obtain ⟨a0, a1⟩ := getFx_ok.1 h1
    rw [e4] at a1
    rw [w64 (x := at_ + 4) (by omega) (by omega)]
    by_cases h4 : (getFx l (at_ + 4) 4).2 = true
    · rw [if_pos h4]
      obtain ⟨b0, b1⟩ := getFx_ok.1 h4
      rw [e4] at b1
      by_cases h2 : (getFx l at_ 4).1 > 1048576
      · rw [if_pos h2, hj, if_neg (by omega)]
      · rw [if_neg h2, w64 (x := (l.length : Int) - at_) (by omega) (by omega), w64 (x := (l.length : Int) - at_ - 8) (by omega) (by omega)]
        by_cases h3 : (getFx l at_ 4).1 > (l.length : Int) - at_ - 8
        · rw [decide_eq_true h3, hj, if_neg (by omega)]
        · rw [decide_eq_false h3]
          obtain ⟨p, rfl⟩ : ∃ m : Nat, at_ = m := ⟨at_.toNat, by omega⟩
          obtain ⟨n, hnn⟩ : ∃ m : Nat, (getFx l (p : Int) 4).1 = m := ⟨(getFx l (p : Int) 4).1.toNat, by omega⟩
          rw [hnn] at h2 h3 ⊢
          simp only [iceboxref1_Unframe.j0, Bool.false_eq_true, if_false]
          have e8 : (p : Int) + 8 = ((p + 8 : Nat) : Int) := by omega
          have e9 : ((p + 8 : Nat) : Int) + (n : Int) = ((p + 8 + n : Nat) : Int) := by omega
          rw [Option.bind_some, e8, w64 (x := ((p + 8 : Nat) : Int)) (by omega) (by omega), e9, w64 (x := ((p + 8 + n : Nat) : Int)) (by omega) (by omega), if_pos (Int.natCast_nonneg _), if_pos (by omega), if_pos (by omega)]
          simp only [Int.toNat_natCast]
          have hy : (l.take (p + 8 + n)).drop (p + 8) = (l.drop (p + 8)).take n := by rw [List.drop_take, Nat.add_sub_cancel_left]
          have hyl : ((l.drop (p + 8)).take n).length ≤ l.length := by simp; omega
          rw [hy, Option.bind_some, if_pos (by simp only [List.length_nil]; omega), Option.bind_some, List.nil_append, ref_Sum_eq ((hl.drop _).take _) (by omega) (by omega), Option.bind_some]
          have b1 : (n : Int) ≤ 1048576 := by omega
          have b2 : (n : Int) ≤ (l.length : Int) - (p : Int) - 8 := by omega
          generalize ((sumS ((l.drop (p + 8)).take n) : Nat) : Int) = z
          by_cases h5 : z = (getFx l ((p : Int) + 4) 4).1
          · rw [if_pos h5, if_pos ⟨h1, b1, b2, h5.symm⟩]
          · rw [if_neg h5, if_neg (fun h => h5 h.2.2.2.symm)]
    · rw [if_neg h4, hj]
      have : ¬ at_ + 4 ≤ (l.length : Int) - 4 := fun h => h4 (getFx_ok.2 ⟨by omega, by rw [e4]; omega⟩)
      rw [if_neg (by omega)]
  · rw [if_neg h1, hj, if_neg (fun h => h1 h.1)]
theorem ref_Scan_l0 {l : List Int} (hl : Bytes l) (hlen : l.length ≤ 1073741824) (d : Nat) : ∀ (acc : List (List Int)) (p k : Nat), p ≤ l.length → l.length - p ≤ d → acc.length ≤ p → d + 21 + 10 * l.length < k →
    iceboxref1_Scan.l0 k l acc (p : Int) = some (scanF (d + 1) l acc (p : Int)) := by
  induction d with
  | zero =>
    intro acc p k hp hd ha hk
    obtain ⟨k, rfl⟩ : ∃ m, k = m + 1 := ⟨k - 1, by omega⟩
    simp only [iceboxref1_Scan.l0]
    rw [ref_Unframe_eq hl (by omega) (p : Int) (by omega) (by omega) (by omega)]
    simp only [Option.bind_some, scanF]
    rcases getF_cases hl (p : Int) with h | ⟨q, n, hq, hle, _, h⟩
    · rw [h]; rfl
    · omega
  | succ d ih =>
    intro acc p k hp hd ha hk
    obtain ⟨k, rfl⟩ : ∃ m, k = m + 1 := ⟨k - 1, by omega⟩
    simp only [iceboxref1_Scan.l0]
    rw [ref_Unframe_eq hl (by omega) (p : Int) (by omega) (by omega) (by omega)]
    simp only [Option.bind_some]
    rw [scanF]
    rcases getF_cases hl (p : Int) with h | ⟨q, n, hq, hle, _, h⟩
    · rw [h]; rfl
    · rw [h]
      simp only [if_true]
      rw [if_pos (by omega)]
      exact ih _ (q + 8 + n) k (by omega) (by omega) (by simp only [List.length_append, List.length_cons, List.length_nil]; omega) (by omega)
theorem ref_Scan_eq {k : Nat} {l : List Int} (hl : Bytes l) (hlen : l.length ≤ 1073741824) (hk : 30 + 11 * l.length < k) : iceboxref1_Scan.f k l = some (scanF (l.length + 1) l [] 0) := by
  unfold iceboxref1_Scan.f
  exact ref_Scan_l0 hl hlen l.length [] 0 k (by omega) (by omega) (by simp) (by omega)
end Go.Proofs.Ytcglkacplbeakaa.PA
