/- What the filter's small functions answer: words of floating numbers, hashes, turns. -/
import Derived.Test.YtogancdiihbjfaaBkF1
import Derived.Test.YtogancdiihbjfaaBkB
namespace Go.Eng.Bk
open Go Go.Proofs Go.Eng
set_option linter.unusedVariables false
set_option linter.unusedSimpArgs false
theorem s64 {k : Nat} (h : 1 ≤ k) (n : Int) : callN B k 64 [.v (.int .u64) n] = (some n.toNat : Option Nat) := by
  obtain ⟨k, rfl⟩ := Nat.exists_eq_add_of_le' h
  rfl
theorem s65 {k : Nat} (h : 1 ≤ k) (x : Nat) : callN B k 65 [.v (.flt .f64) x] = (some (x : Int) : Option Int) := by
  obtain ⟨k, rfl⟩ := Nat.exists_eq_add_of_le' h
  rfl
theorem s92 {k : Nat} (h : 1 ≤ k) (x : Nat) : callN B k 92 [.v (.flt .f64) x] = (if (FloatKind.f64.decode x).isNaN then none else some (floorF x) : Option Nat) := by
  obtain ⟨k, rfl⟩ := Nat.exists_eq_add_of_le' h
  rfl
theorem s59 {k : Nat} (h : 2 ≤ k) {x : Nat} (hx : (FloatKind.f64.decode x).isNaN = false) : callN B k 59 [.v (.flt .f64) x] = (some (floorF x) : Option Nat) := by
  obtain ⟨k, rfl⟩ := Nat.exists_eq_add_of_le' (show 1 ≤ k by omega)
  refine (callS k 59 _).trans ((t59 (callN B k) (lvl B k).2 k x).trans ?_)
  exact bnd ((s92 (by omega) x).trans (by rw [hx]; rfl)) rfl
theorem s28 {k : Nat} (h : 1 ≤ k) (x : Nat) : callN B k 28 [.v (.flt .f64) x] = (some (FloatKind.f64.format.order x x != some .eq) : Option Bool) := by
  obtain ⟨k, rfl⟩ := Nat.exists_eq_add_of_le' h
  exact (callS k 28 _).trans (t28 (callN B k) (lvl B k).2 k x)
theorem s29 {k : Nat} (h : 2 ≤ k) : callN B k 29 [] = (some 9221120237041090561 : Option Nat) := by
  obtain ⟨k, rfl⟩ := Nat.exists_eq_add_of_le' (show 1 ≤ k by omega)
  exact (callS k 29 _).trans ((t29 (callN B k) (lvl B k).2 k).trans (bnd (s64 (by omega) _) rfl))
theorem s30 {k : Nat} (h : 2 ≤ k) : callN B k 30 [.v i64 (1 : Int)] = (some 9218868437227405312 : Option Nat) := by
  obtain ⟨k, rfl⟩ := Nat.exists_eq_add_of_le' (show 1 ≤ k by omega)
  exact (callS k 30 _).trans ((t30 (callN B k) (lvl B k).2 k 1).trans (bnd (s64 (by omega) _) rfl))
theorem s30' {k : Nat} (h : 2 ≤ k) : callN B k 30 [.v i64 (-1 : Int)] = (some 18442240474082181120 : Option Nat) := by
  obtain ⟨k, rfl⟩ := Nat.exists_eq_add_of_le' (show 1 ≤ k by omega)
  exact (callS k 30 _).trans ((t30 (callN B k) (lvl B k).2 k (-1)).trans (bnd (s64 (by omega) _) rfl))
theorem s58 {k : Nat} (h : 1 ≤ k) (x : Nat) : callN B k 58 [.v (.flt .f64) x, .v i64 (1 : Int)] = (some (FloatKind.f64.format.order x 9218868437227405311 == some .gt) : Option Bool) := by
  obtain ⟨k, rfl⟩ := Nat.exists_eq_add_of_le' h
  exact (callS k 58 _).trans ((t58 (callN B k) (lvl B k).2 k x 1).trans rfl)
/-! ### the hash -/
def hstep (s : ByteArray) (x : Int) (i : Nat) : Int := IntKind.u32.wrap (IntKind.u32.wrap (((BitVec.ofInt IntKind.u32.bits x ^^^ BitVec.ofInt IntKind.u32.bits (IntKind.u32.wrap (byteAt s (i : Int)))).toNat : Nat) : Int) * (16777619 : Int))
def hashA (s : ByteArray) : Nat → Nat → Int → Int
  | 0, _, x => x
  | d + 1, i, x => hashA s d (i + 1) (hstep s x i)
def hashS (s : ByteArray) : Int := hashA s s.size 0 2166136261
theorem wu32 (x : Int) : IntKind.u32.wrap x = x % 4294967296 := by
  have hb : IntKind.u32.bits = 32 := rfl
  have hs : IntKind.u32.signed = false := rfl
  unfold IntKind.wrap
  rw [hb, hs]
  simp
theorem hashA_range (s : ByteArray) : ∀ (d i : Nat) (x : Int), 0 ≤ x → x < 4294967296 → 0 ≤ hashA s d i x ∧ hashA s d i x < 4294967296
  | 0, _, x, h1, h2 => ⟨h1, h2⟩
  | d + 1, i, x, h1, h2 => hashA_range s d (i + 1) _ (by unfold hstep; rw [wu32]; omega) (by unfold hstep; rw [wu32]; omega)
theorem hashS_range (s : ByteArray) : 0 ≤ hashS s ∧ hashS s < 4294967296 := hashA_range s _ _ _ (by decide) (by decide)
theorem l62 {call : CallT B} {inl : InlT} (m0 : Nat) {s : ByteArray} (hlen : s.size ≤ 140737488351232) (d : Nat) : ∀ (i m : Nat) (x : Int), i + d = s.size → d < m →
    LP B call inl 62 m [1, 1, 0, 1] (s62_2 s x (i : Int)) (KA B call inl 62 m0 [1, 1, 0, 1] (FI B call inl 62)) = (some (IntKind.i64.wrap (hashA s d i x)) : Option Int) := by
  induction d with
  | zero =>
    intro i m x hd hm
    obtain ⟨m, rfl⟩ : ∃ k, m = k + 1 := ⟨m - 1, by omega⟩
    rw [s62_2_l, bF (by omega), s62_2x3_k]
    rfl
  | succ d ih =>
    intro i m x hd hm
    obtain ⟨m, rfl⟩ : ∃ k, m = k + 1 := ⟨m - 1, by omega⟩
    rw [s62_2_l, bT (by omega), if_pos (by omega), w64 (x := (i : Int) + 1) (by omega) (by omega)]
    exact ih (i + 1) m (hstep s x i) (by omega) (by omega)
theorem s62 {k : Nat} {s : ByteArray} (hlen : s.size ≤ 140737488351232) (hk : s.size + 2 ≤ k) : callN B k 62 [.v .str s] = (some (hashS s) : Option Int) := by
  obtain ⟨k, rfl⟩ := Nat.exists_eq_add_of_le' (show 1 ≤ k by omega)
  refine (callS k 62 _).trans ((t62 (callN B k) (lvl B k).2 k s).trans ?_)
  have := hashS_range s
  refine (l62 k hlen s.size 0 k 2166136261 (by omega) (by omega)).trans (congrArg some ?_)
  show IntKind.i64.wrap (hashS s) = hashS s
  exact w64 (by omega) (by omega)
theorem l94 {call : CallT B} {inl : InlT} (m0 : Nat) {s : ByteArray} (hlen : s.size ≤ 140737488351232) (d : Nat) : ∀ (i m : Nat) (x : Int), i + d = s.size → d < m →
    LP B call inl 94 m [1, 1, 0, 1] (s94_2 s x (i : Int)) (KA B call inl 94 m0 [1, 1, 0, 1] (FI B call inl 94)) = (some (IntKind.i64.wrap (hashA s d i x)) : Option Int) := by
  induction d with
  | zero =>
    intro i m x hd hm
    obtain ⟨m, rfl⟩ : ∃ k, m = k + 1 := ⟨m - 1, by omega⟩
    rw [s94_2_l, bF (by omega), s94_2x3_k]
    rfl
  | succ d ih =>
    intro i m x hd hm
    obtain ⟨m, rfl⟩ : ∃ k, m = k + 1 := ⟨m - 1, by omega⟩
    rw [s94_2_l, bT (by omega), if_pos (by omega), w64 (x := (i : Int) + 1) (by omega) (by omega)]
    exact ih (i + 1) m (hstep s x i) (by omega) (by omega)
theorem s94 {k : Nat} {s : ByteArray} (hlen : s.size ≤ 140737488351232) (hk : s.size + 2 ≤ k) : callN B k 94 [.v .str s] = (some (hashS s) : Option Int) := by
  obtain ⟨k, rfl⟩ := Nat.exists_eq_add_of_le' (show 1 ≤ k by omega)
  refine (callS k 94 _).trans ((t94 (callN B k) (lvl B k).2 k s).trans ?_)
  have := hashS_range s
  refine (l94 k hlen s.size 0 k 2166136261 (by omega) (by omega)).trans (congrArg some ?_)
  show IntKind.i64.wrap (hashS s) = hashS s
  exact w64 (by omega) (by omega)
/-- The step from place to place. -/
def turnD (h : Int) : Int := IntKind.u32.wrap (((BitVec.ofInt IntKind.u32.bits ((IntKind.u32.wrap h).fdiv ((2 : Int) ^ Min.min (Int.toNat (17 : Int)) IntKind.u32.bits)) ||| BitVec.ofInt IntKind.u32.bits (IntKind.u32.wrap (IntKind.u32.wrap h * (2 : Int) ^ Min.min (Int.toNat (15 : Int)) IntKind.u32.bits))).toNat : Nat) : Int)
theorem s95 {k : Nat} (h : 1 ≤ k) (x : Int) (hx : 0 ≤ x) (hx2 : x < 4294967296) : callN B k 95 [.v (.int .u32) x, .v i64 (-17 : Int)] = (some (turnD x) : Option Int) := by
  obtain ⟨k, rfl⟩ := Nat.exists_eq_add_of_le' h
  refine (callS k 95 _).trans ((t95 (callN B k) (lvl B k).2 k x (-17)).trans ?_)
  have e1 : (IntKind.u64.wrap (((BitVec.ofInt IntKind.u64.bits (IntKind.u64.wrap (-17)) &&& BitVec.ofInt IntKind.u64.bits (31 : Int)).toNat : Nat) : Int)) = 15 := by decide
  rw [e1, show IntKind.u64.wrap ((32 : Int) - 15) = 17 from by decide, if_neg (by decide)]
  refine congrArg some ?_
  unfold turnD
  rw [show IntKind.u32.wrap x = x from by rw [wu32]; omega, BitVec.or_comm]
end Go.Eng.Bk
