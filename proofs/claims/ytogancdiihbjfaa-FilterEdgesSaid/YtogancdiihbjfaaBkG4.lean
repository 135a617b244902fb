/- What a filter's bytes say of a key, the program's and the document's. -/
import Derived.Test.YtogancdiihbjfaaBkG3
namespace Go.Eng.Bk
open Go Go.Proofs Go.Eng
set_option linter.unusedVariables false
set_option linter.unusedSimpArgs false
/-- The place of a key's j-th bit. -/
def posI (h : Int) (j M : Nat) : Nat := (IntKind.u32.wrap (IntKind.u32.wrap h + IntKind.u32.wrap (IntKind.u32.wrap (j : Int) * turnD h))).toNat % M
theorem posI_lt (h : Int) (j : Nat) {M : Nat} (hM : 0 < M) : posI h j M < M := Nat.mod_lt _ hM
theorem posI_eq (h : Int) (j : Nat) {M : Nat} (hM : 0 < M) (hM2 : M < 4294967296) : IntKind.i64.wrap ((IntKind.u32.wrap (IntKind.u32.wrap h + IntKind.u32.wrap (IntKind.u32.wrap (j : Int) * turnD h))).tmod (IntKind.u32.wrap (M : Int))) = (posI h j M : Int) := by
  have hlt := posI_lt h j hM
  have hM3 : IntKind.u32.wrap (M : Int) = (M : Int) := by rw [wu32]; omega
  rw [hM3]
  unfold posI at hlt ⊢
  have h0 : 0 ≤ IntKind.u32.wrap (IntKind.u32.wrap h + IntKind.u32.wrap (IntKind.u32.wrap (j : Int) * turnD h)) := by rw [wu32]; omega
  generalize IntKind.u32.wrap (IntKind.u32.wrap h + IntKind.u32.wrap (IntKind.u32.wrap (j : Int) * turnD h)) = y at h0 hlt ⊢
  obtain ⟨y, rfl⟩ := Int.eq_ofNat_of_zero_le h0
  rw [Int.toNat_natCast] at hlt ⊢
  have : Int.tmod (y : Int) (M : Int) = ((y % M : Nat) : Int) := rfl
  rw [this, w64 (by omega) (by omega)]
def bitI (f : List Int) (p : Nat) : Int := IntKind.u8.wrap (((BitVec.ofInt IntKind.u8.bits (Int.fdiv (f.getD (p / 8) 0) ((2 : Int) ^ Min.min (p % 8) IntKind.u8.bits)) &&& BitVec.ofInt IntKind.u8.bits (1 : Int)).toNat : Nat) : Int)
theorem bitI_cases (f : List Int) (p : Nat) : bitI f p = 0 ∨ bitI f p = 1 := by
  unfold bitI
  have e : (BitVec.ofInt IntKind.u8.bits (Int.fdiv (f.getD (p / 8) 0) ((2 : Int) ^ Min.min (p % 8) IntKind.u8.bits)) &&& BitVec.ofInt IntKind.u8.bits (1 : Int)).toNat = (BitVec.ofInt IntKind.u8.bits (Int.fdiv (f.getD (p / 8) 0) ((2 : Int) ^ Min.min (p % 8) IntKind.u8.bits))).toNat % 2 := by
    rw [BitVec.toNat_and]
    exact Nat.and_one_is_mod _
  rw [e, wu8]
  omega
def mayA (f : List Int) (h : Int) (M : Nat) : Nat → Nat → Bool
  | 0, _ => true
  | d + 1, j => bitI f (posI h j M) == 1 && mayA f h M d (j + 1)
theorem t8d (p : Nat) (h : p < 4294967296) : IntKind.i64.wrap (Int.tdiv (p : Int) 8) = ((p / 8 : Nat) : Int) := by
  have : Int.tdiv (p : Int) 8 = ((p / 8 : Nat) : Int) := rfl
  rw [this, w64 (by omega) (by omega)]
theorem t8m (p : Nat) : Int.tmod (p : Int) 8 = ((p % 8 : Nat) : Int) := rfl
theorem l60_4 {q : Nat} {inl : InlT} {mq : Nat} {R : Type} (m0 : Nat) (K : AV → St → Option R) (f : List Int) (key : ByteArray) (h : Int) (n N : Nat) (hn : 0 < n) (hlen : f.length = n + 1) (hn2 : n < 100000000) (hN : N < 256) (hlast : f.getD n 0 = (N : Int))
    (r : Bool → Option R) (hK0 : K (.v .bool false) (c26_60_0r10 f key) = r false) (hK1 : K (.v .bool true) (c26_60_0r11 f key) = r true) (d : Nat) : ∀ (j m : Nat), j + d = N → d < m →
    LP B (callN B (q + 1)) (inlN B (callN B q) inl mq) 60 m [1, 1, 1, 1, 0, 1] (s60_4 f key h (turnD h) (j : Int)) (KA B (callN B (q + 1)) (inlN B (callN B q) inl mq) 60 m0 [1, 1, 1, 1, 0, 1] (FN B (callN B (q + 1)) (inlN B (callN B q) inl mq) 60 35 K)) = r (mayA f h (8 * n) d j) := by
  have hL : IntKind.i64.wrap ((f.length : Int) - 1) = (n : Int) := by rw [w64 (by omega) (by omega)]; omega
  have h8 : IntKind.i64.wrap ((8 : Int) * (n : Int)) = ((8 * n : Nat) : Int) := by rw [w64 (by omega) (by omega)]; omega
  have hNw : IntKind.i64.wrap (N : Int) = (N : Int) := w64 (by omega) (by omega)
  induction d with
  | zero =>
    intro j m hd hm
    obtain ⟨m, rfl⟩ : ∃ k, m = k + 1 := ⟨m - 1, by omega⟩
    rw [s60_4_l, hL, Int.toNat_natCast, hlast, hNw, bF (by omega), s60_4x9_k, hK1]
    rfl
  | succ d ih =>
    intro j m hd hm
    obtain ⟨m, rfl⟩ : ∃ k, m = k + 1 := ⟨m - 1, by omega⟩
    have hp := posI_lt h j (M := 8 * n) (by omega)
    rw [s60_4_l, c60_63_5_i, c60_63_5r6_k8, hL, Int.toNat_natCast, hlast, hNw, bT (by omega), h8, posI_eq h j (by omega) (by omega), t8d _ (by omega), t8m, if_neg (by rw [wu32]; omega), if_pos (by omega), if_neg (by omega), Int.toNat_natCast, Int.toNat_natCast, w64 (x := (j : Int) + 1) (by omega) (by omega), s60_4x7_k, hK0]
    have hnext := ih (j + 1) m (by omega) (by omega)
    have hm1 : mayA f h (8 * n) (d + 1) j = (bitI f (posI h j (8 * n)) == 1 && mayA f h (8 * n) d (j + 1)) := rfl
    rw [hm1]
    change (bif bitI f (posI h j (8 * n)) == 1 then _ else _) = _
    rcases bitI_cases f (posI h j (8 * n)) with hb | hb
    · rw [hb]; rfl
    · rw [hb]
      exact hnext
theorem l27 {call : CallT B} {inl : InlT} (m0 : Nat) (f : List Int) (h : Int) (n N : Nat) (hn : 0 < n) (hlen : f.length = n + 1) (hn2 : n < 100000000) (hN : N < 256) (hlast : f.getD n 0 = (N : Int)) (d : Nat) : ∀ (j m : Nat), j + d = N → d < m →
    LP B call inl 27 m [1, 1, 1, 1, 1, 1, 1, 0, 1] (s27_2 f h (j : Int)) (KA B call inl 27 m0 [1, 1, 1, 1, 1, 1, 1, 0, 1] (FI B call inl 27)) = (some (mayA f h (8 * n) d j) : Option Bool) := by
  have hL : IntKind.i64.wrap ((f.length : Int) - 1) = (n : Int) := by rw [w64 (by omega) (by omega)]; omega
  have h8 : IntKind.i64.wrap ((8 : Int) * (n : Int)) = ((8 * n : Nat) : Int) := by rw [w64 (by omega) (by omega)]; omega
  have hNw : IntKind.i64.wrap (N : Int) = (N : Int) := w64 (by omega) (by omega)
  induction d with
  | zero =>
    intro j m hd hm
    obtain ⟨m, rfl⟩ : ∃ k, m = k + 1 := ⟨m - 1, by omega⟩
    rw [s27_2_l, hL, Int.toNat_natCast, hlast, hNw, bF (by omega), s27_2x4_k]
    rfl
  | succ d ih =>
    intro j m hd hm
    obtain ⟨m, rfl⟩ : ∃ k, m = k + 1 := ⟨m - 1, by omega⟩
    have hp := posI_lt h j (M := 8 * n) (by omega)
    have hpe := posI_eq h j (M := 8 * n) (by omega) (by omega)
    unfold turnD at hpe
    have hu : IntKind.u64.wrap (((posI h j (8 * n)) % 8 : Nat) : Int) = (((posI h j (8 * n)) % 8 : Nat) : Int) := wu64 (by omega) (by omega)
    rw [s27_2_l, hL, Int.toNat_natCast, hlast, hNw, bT (by omega), h8, hpe, t8d _ (by omega), t8m, if_neg (by rw [wu32]; omega), if_pos (by omega), hu, if_neg (by omega), Int.toNat_natCast, Int.toNat_natCast, w64 (x := (j : Int) + 1) (by omega) (by omega), s27_2x3_k]
    have hnext := ih (j + 1) m (by omega) (by omega)
    have hm1 : mayA f h (8 * n) (d + 1) j = (bitI f (posI h j (8 * n)) == 1 && mayA f h (8 * n) d (j + 1)) := rfl
    rw [hm1]
    change (bif bitI f (posI h j (8 * n)) == 0 then _ else _) = _
    rcases bitI_cases f (posI h j (8 * n)) with hb | hb
    · rw [hb]; rfl
    · rw [hb]
      exact hnext
end Go.Eng.Bk
