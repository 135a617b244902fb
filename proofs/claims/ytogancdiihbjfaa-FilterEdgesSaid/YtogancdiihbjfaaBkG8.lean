/- The bytes of a filter of keys, the program's loops and the document's. -/
import Derived.Test.YtogancdiihbjfaaBkG7
namespace Go.Eng.Bk
open Go Go.Proofs Go.Eng
set_option linter.unusedVariables false
set_option linter.unusedSimpArgs false
abbrev noS : ByteArray := ByteArray.mk #[]
def orI (f : List Int) (p : Nat) : Int := IntKind.u8.wrap (((BitVec.ofInt IntKind.u8.bits (f.getD (p / 8) (0 : Int)) ||| BitVec.ofInt IntKind.u8.bits (IntKind.u8.wrap ((1 : Int) * (2 : Int) ^ Min.min (p % 8) IntKind.u8.bits))).toNat : Nat) : Int)
def setI (f : List Int) (p : Nat) : List Int := f.set (p / 8) (orI f p)
def setA (h : Int) (M : Nat) : Nat → Nat → List Int → List Int
  | 0, _, f => f
  | d + 1, j, f => setA h M d (j + 1) (setI f (posI h j M))
def mkF (keys : List ByteArray) (M N : Nat) : Nat → Nat → List Int → List Int
  | 0, _, f => f
  | d + 1, i, f => mkF keys M N d (i + 1) (setA (hashS (keys.getD i noS)) M N 0 f)
theorem setI_len (f : List Int) (p : Nat) : (setI f p).length = f.length := List.length_set
theorem setA_len (h : Int) (M : Nat) : ∀ (d j : Nat) (f : List Int), (setA h M d j f).length = f.length
  | 0, _, _ => rfl
  | d + 1, j, f => by show (setA h M d (j + 1) (setI f (posI h j M))).length = _; rw [setA_len h M d, setI_len]
theorem mkF_len (keys : List ByteArray) (M N : Nat) : ∀ (d i : Nat) (f : List Int), (mkF keys M N d i f).length = f.length
  | 0, _, _ => rfl
  | d + 1, i, f => by show (mkF keys M N d (i + 1) _).length = _; rw [mkF_len keys M N d, setA_len]
/-- How many bits: whole bytes. -/
def bitsM (k : Nat) : Nat := (max 64 k + 7) / 8 * 8
theorem bitsM_eq {k : Nat} (hk : k ≤ 8192) : IntKind.i64.wrap (IntKind.i64.wrap ((IntKind.i64.wrap (maxI (64 : Int) (k : Int) + (7 : Int))).tdiv (8 : Int)) * (8 : Int)) = (bitsM k : Int) := by
  have hm : maxI (64 : Int) (k : Int) = ((max 64 k : Nat) : Int) := by unfold maxI; split <;> omega
  have h1 : IntKind.i64.wrap (((max 64 k : Nat) : Int) + 7) = ((max 64 k + 7 : Nat) : Int) := by rw [w64 (by omega) (by omega)]; omega
  have h2 : Int.tdiv ((max 64 k + 7 : Nat) : Int) 8 = (((max 64 k + 7) / 8 : Nat) : Int) := rfl
  rw [hm, h1, h2, w64 (x := (((max 64 k + 7) / 8 : Nat) : Int)) (by omega) (by omega), w64 (by omega) (by omega)]
  unfold bitsM
  omega
theorem bitsM_range {k : Nat} (hk : k ≤ 8192) : 64 ≤ bitsM k ∧ bitsM k ≤ 8192 ∧ bitsM k % 8 = 0 := by unfold bitsM; omega
theorem l60_21 {q : Nat} {inl : InlT} {mq : Nat} {R : Type} (m0 : Nat) (K : AV → St → Option R) (keys : List ByteArray) (N k : Nat) (x9 : Int) (h : Int) (hN : N < 256) (hk : k ≤ 8192)
    (r : Option R) (d : Nat) : ∀ (j m : Nat) (f : List Int), j + d = N → d < m → f.length = bitsM k / 8 + 1 → (K (.v .bool true) (c24_60_16r26 keys (N : Int) (k : Int) x9 (setA h (bitsM k) d j f)) = r) →
    LP B (callN B (q + 1)) (inlN B (callN B q) inl mq) 60 m [1, 1, 1, 1, 0, 1] (s60_21 keys (N : Int) (k : Int) x9 h (turnD h) (j : Int) f) (KA B (callN B (q + 1)) (inlN B (callN B q) inl mq) 60 m0 [1, 1, 1, 1, 0, 1] (FN B (callN B (q + 1)) (inlN B (callN B q) inl mq) 60 50 K)) = r := by
  have hM := bitsM_range hk
  induction d with
  | zero =>
    intro j m f hd hm hf hK
    obtain ⟨m, rfl⟩ : ∃ k, m = k + 1 := ⟨m - 1, by omega⟩
    rw [s60_21_l, bF (by omega), s60_21x25_k]
    exact hK
  | succ d ih =>
    intro j m f hd hm hf hK
    obtain ⟨m, rfl⟩ : ∃ k, m = k + 1 := ⟨m - 1, by omega⟩
    have hp := posI_lt h j (M := bitsM k) (by omega)
    rw [s60_21_l, c60_61_22_i, c60_61_22r23_k24, bT (by omega), bitsM_eq hk, posI_eq h j (by omega) (by omega), t8d _ (by omega), t8m, if_neg (by rw [wu32]; omega), if_pos (by omega), if_neg (by omega), if_pos (by omega), Int.toNat_natCast, Int.toNat_natCast, w64 (x := (j : Int) + 1) (by omega) (by omega)]
    exact ih (j + 1) m (setI f (posI h j (bitsM k))) (by omega) (by omega) (by rw [setI_len]; exact hf) hK
theorem l25_17 {call : CallT B} {inl : InlT} {m1 : Nat} {R : Type} (K : AEx → St → Option R) (keys : List ByteArray) (N k : Nat) (x9 : Int) (h : Int) (hN : N < 256) (hk : k ≤ 8192) (r : Option R) (d : Nat) : ∀ (j m : Nat) (f : List Int), j + d = N → d < m → f.length = bitsM k / 8 + 1 →
    (LP B call inl 25 m1 [1, 1, 1, 1, 1, 1, 1, 0, 1] (s25_13 keys (N : Int) (k : Int) (setA h (bitsM k) d j f) (IntKind.i64.wrap (x9 + (1 : Int)))) K = r) →
    LP B call inl 25 m [1, 1, 1, 1, 1, 1, 1, 0, 1, 0, 1, 0, 1, 1, 1] (s25_17 keys (N : Int) (k : Int) x9 h f (j : Int)) (KN B call inl 25 m1 [1, 1, 1, 1, 1, 1, 1, 0, 1] [1, 0, 1, 1, 1] K) = r := by
  have hM := bitsM_range hk
  induction d with
  | zero =>
    intro j m f hd hm hf hK
    obtain ⟨m, rfl⟩ : ∃ k, m = k + 1 := ⟨m - 1, by omega⟩
    rw [s25_17_l, bF (by omega), s25_17x18_k]
    exact hK
  | succ d ih =>
    intro j m f hd hm hf hK
    obtain ⟨m, rfl⟩ : ∃ k, m = k + 1 := ⟨m - 1, by omega⟩
    have hp := posI_lt h j (M := bitsM k) (by omega)
    have hpe := posI_eq h j (M := bitsM k) (by omega) (by omega)
    unfold turnD at hpe
    have hu : IntKind.u64.wrap (((posI h j (bitsM k)) % 8 : Nat) : Int) = (((posI h j (bitsM k)) % 8 : Nat) : Int) := wu64 (by omega) (by omega)
    rw [s25_17_l, bT (by omega), bitsM_eq hk, hpe, t8d _ (by omega), t8m, if_neg (by rw [wu32]; omega), if_pos (by omega), hu, if_neg (by omega), if_pos (by omega), Int.toNat_natCast, Int.toNat_natCast, w64 (x := (j : Int) + 1) (by omega) (by omega)]
    exact ih (j + 1) m (setI f (posI h j (bitsM k))) (by omega) (by omega) (by rw [setI_len]; exact hf) hK
end Go.Eng.Bk
