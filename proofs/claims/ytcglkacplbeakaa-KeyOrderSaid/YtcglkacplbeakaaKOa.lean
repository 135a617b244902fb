/- KeyOrder by the machine: what the functions under it answer. -/
import Derived.Test.YtcglkacplbeakaaEngV
namespace Go.Eng.KO
open Go Go.Proofs Go.Eng
set_option linter.unusedVariables false
set_option linter.unusedSimpArgs false
abbrev i64 : Ty := .int .i64
abbrev KeyT : Ty := .pair .str (.pair i64 (.pair i64 .unit))
def shOf : FuncId → Sh
  | 16 => .one none i64
  | 55 => .one none i64
  | 56 => .one none i64
  | 57 => .one none i64
  | _ => .one none .bool
noncomputable def B : Base := { P := Try.prog, typ := tyOf Try.prog 8, sh := shOf, keep := fun _ => [], sp := fun _ => none }
theorem bok : BaseOk B := ⟨names_of (by kernel_rfl), fun f g args r h => by cases h⟩
section
variable (call : (f : FuncId) → List AV → Option (B.sh f).den) (n : Nat)
set_option maxRecDepth 100000
theorem t90 (x : ByteArray) : stepN B call n 90 [.v .str x] = (some (!x.toList == x.toList) : Option Bool) := by kernel_rfl
theorem t91 (x : Int) : stepN B call n 91 [.v i64 x] = (some (x != x) : Option Bool) := by kernel_rfl
theorem t56 (a b : ByteArray) : stepN B call n 56 [.v .str a, .v .str b] = ((call 90 [(.v .str (a))]).bind fun (v0 : Bool) => (call 90 [(.v .str (b))]).bind fun (v1 : Bool) => bif v0 then (bif v1 then (some ((0 : Int))) else (some ((-1 : Int)))) else (bif v1 then (some ((1 : Int))) else (bif Go.Op.bytesLess a.toList b.toList then (some ((-1 : Int))) else (bif !(Go.Op.bytesLess a.toList b.toList || a.toList == b.toList) then (some ((1 : Int))) else (some ((0 : Int)))))) : Option Int) := by kernel_rfl
theorem t57 (a b : Int) : stepN B call n 57 [.v i64 a, .v i64 b] = ((call 91 [(.v (.int .i64) (a))]).bind fun (v0 : Bool) => (call 91 [(.v (.int .i64) (b))]).bind fun (v1 : Bool) => bif v0 then (bif v1 then (some ((0 : Int))) else (some ((-1 : Int)))) else (bif v1 then (some ((1 : Int))) else (bif Decidable.decide (a < b) then (some ((-1 : Int))) else (bif Decidable.decide (a > b) then (some ((1 : Int))) else (some ((0 : Int)))))) : Option Int) := by kernel_rfl
theorem t55 (x y z : Int) : stepN B call (n + 4) 55 [.v (.sl i64) [x, y, z]] = (bif [x, y, z].getD (Int.toNat (0 : Int)) (Int.ofNat (0)) != (0 : Int) then (some ([x, y, z].getD (Int.toNat (0 : Int)) (Int.ofNat (0)))) else (bif [x, y, z].getD (Go.IntKind.i64.wrap ((0 : Int) + (1 : Int))).toNat (Int.ofNat (0)) != (0 : Int) then (some ([x, y, z].getD (Go.IntKind.i64.wrap ((0 : Int) + (1 : Int))).toNat (Int.ofNat (0)))) else (bif [x, y, z].getD (Go.IntKind.i64.wrap (Go.IntKind.i64.wrap ((0 : Int) + (1 : Int)) + (1 : Int))).toNat     (Int.ofNat (0)) !=   (0 : Int) then (some ([x, y, z].getD (Go.IntKind.i64.wrap (Go.IntKind.i64.wrap ((0 : Int) + (1 : Int)) + (1 : Int))).toNat   (Int.ofNat (0)))) else (some ((0 : Int))))) : Option Int) := by kernel_rfl
theorem t16 (a b : KeyT.den) : stepN B call n 16 [argAV KeyT a, argAV KeyT b] = ((call 56 [(.v .str (a.fst)), (.v .str (b.fst))]).bind fun (v0 : Int) => (call 57 [(.v (.int .i64) (b.snd.fst)), (.v (.int .i64) (a.snd.fst))]).bind fun (v1 : Int) => (call 57 [(.v (.int .i64) (b.snd.snd.fst)), (.v (.int .i64) (a.snd.snd.fst))]).bind fun (v2 : Int) => (call 55 [(.v (.sl (.int .i64)) ([v0, v1, v2]))]).bind fun (v3 : Int) => some (v3) : Option Int) := by kernel_rfl
theorem t33 (a : KeyT.den) : stepN B call n 33 [argAV KeyT a] = (bif Decidable.decide (↑(ByteArray.size a.fst) ≤ (64 : Int)) == Bool.true then (bif Decidable.decide (a.snd.fst ≥ (0 : Int)) == Bool.true then (bif Decidable.decide (a.snd.fst ≤ (9007199254740992 : Int)) == Bool.true then (bif (a.snd.snd.fst == (1 : Int)) == Bool.false then (some (a.snd.snd.fst == (2 : Int))) else (some (Bool.true))) else (some (Bool.false))) else (some (Bool.false))) else (some (Bool.false)) : Option Bool) := by kernel_rfl
theorem t15 : stepN B call n 15 [] = ((call 16 [(.agg [(.v .str ({ data := #[(97 : UInt8)] })), (.v (.int .i64) ((2 : Int))), (.v (.int .i64) ((1 : Int)))]), (.agg [(.v .str ({ data := #[(97 : UInt8)] })), (.v (.int .i64) ((1 : Int))), (.v (.int .i64) ((1 : Int)))])]).bind fun (v0 : Int) => bif (v0 == (-1 : Int)) == Bool.true then ((call 33 [(.agg [(.v .str ({ data := #[(97 : UInt8)] })), (.v (.int .i64) ((2 : Int))), (.v (.int .i64) ((1 : Int)))])]).bind fun (v1 : Bool) => some (v1)) else (some (Bool.false)) : Option Bool) := by kernel_rfl
end

theorem ba_toList (s : ByteArray) : s.toList = s.data.toList := ByteArray.toList_eq s
theorem ba_ext {a b : ByteArray} (h : a.toList = b.toList) : a = b := by
  rw [ba_toList, ba_toList] at h
  cases a; cases b
  congr
  exact Array.toList_inj.1 h
def cmpS (a b : ByteArray) : Int := if Op.bytesLess a.toList b.toList = true then -1 else if a.toList = b.toList then 0 else 1
def cmpI (a b : Int) : Int := if a < b then -1 else if a > b then 1 else 0
def or3 (x y z : Int) : Int := if x = 0 then (if y = 0 then z else y) else x
def cmpK (u : ByteArray) (s d : Int) (v : ByteArray) (t e : Int) : Int := or3 (cmpS u v) (cmpI t s) (cmpI e d)
theorem bl_tri : ∀ x y : List UInt8, Op.bytesLess x y = true ∨ x = y ∨ Op.bytesLess y x = true
  | [], [] => .inr (.inl rfl)
  | [], _ :: _ => .inl (by simp [Op.bytesLess])
  | _ :: _, [] => .inr (.inr (by simp [Op.bytesLess]))
  | a :: x, b :: y => by
    rcases Nat.lt_trichotomy a.toNat b.toNat with h | h | h
    · exact .inl (by simp [Op.bytesLess, UInt8.lt_iff_toNat_lt, h])
    · have e : a = b := UInt8.toNat_inj.mp h
      subst e
      rcases bl_tri x y with h1 | h1 | h1
      · exact .inl (by simp [Op.bytesLess, h1])
      · exact .inr (.inl (by rw [h1]))
      · exact .inr (.inr (by simp [Op.bytesLess, h1]))
    · exact .inr (.inr (by simp [Op.bytesLess, UInt8.lt_iff_toNat_lt, h]))
theorem bl_irr : ∀ x : List UInt8, Op.bytesLess x x = false
  | [] => by simp [Op.bytesLess]
  | a :: x => by simp [Op.bytesLess, bl_irr x]
theorem bl_trans : ∀ x y z : List UInt8, Op.bytesLess x y = true → Op.bytesLess y z = true → Op.bytesLess x z = true
  | _, [], _, h, _ => by cases ‹List UInt8› <;> simp [Op.bytesLess] at h
  | _, _ :: _, [], _, h => by simp [Op.bytesLess] at h
  | [], _ :: _, _ :: _, _, _ => by simp [Op.bytesLess]
  | a :: x, b :: y, c :: z, h1, h2 => by
    simp only [Op.bytesLess, Bool.or_eq_true, Bool.and_eq_true, decide_eq_true_eq, beq_iff_eq, UInt8.lt_iff_toNat_lt] at h1 h2 ⊢
    rcases h1 with h1 | ⟨e1, h1⟩
    · rcases h2 with h2 | ⟨e2, h2⟩
      · exact .inl (by omega)
      · subst e2; exact .inl h1
    · subst e1
      rcases h2 with h2 | ⟨e2, h2⟩
      · exact .inl h2
      · exact .inr ⟨e2, bl_trans x y z h1 h2⟩
theorem bl_asym {x y : List UInt8} (h : Op.bytesLess x y = true) : Op.bytesLess y x = false := by
  cases h1 : Op.bytesLess y x with
  | false => rfl
  | true => have := bl_trans x y x h h1; rw [bl_irr] at this; cases this
/-- a is not behind b -/
def LeK (u : ByteArray) (s d : Int) (v : ByteArray) (t e : Int) : Prop := Op.bytesLess u.toList v.toList = true ∨ (u.toList = v.toList ∧ (s > t ∨ (s = t ∧ d ≥ e)))
theorem cmpI_cases (a b : Int) : (a < b ∧ cmpI a b = -1) ∨ (a = b ∧ cmpI a b = 0) ∨ (a > b ∧ cmpI a b = 1) := by
  unfold cmpI
  by_cases h : a < b
  · exact .inl ⟨h, if_pos h⟩
  · by_cases h1 : a > b
    · exact .inr (.inr ⟨h1, by rw [if_neg h, if_pos h1]⟩)
    · exact .inr (.inl ⟨by omega, by rw [if_neg h, if_neg h1]⟩)
theorem cmpS_cases (a b : ByteArray) : (Op.bytesLess a.toList b.toList = true ∧ cmpS a b = -1) ∨ (a.toList = b.toList ∧ cmpS a b = 0) ∨ (Op.bytesLess b.toList a.toList = true ∧ cmpS a b = 1) := by
  unfold cmpS
  rcases bl_tri a.toList b.toList with h | h | h
  · exact .inl ⟨h, if_pos h⟩
  · exact .inr (.inl ⟨h, by rw [h, bl_irr]; simp⟩)
  · refine .inr (.inr ⟨h, ?_⟩)
    rw [bl_asym h, if_neg (by simp), if_neg (by intro e; rw [e, bl_irr] at h; cases h)]
/-- the three answers, with what they say -/
theorem cmpK_cases (u : ByteArray) (s d : Int) (v : ByteArray) (t e : Int) :
    (cmpK u s d v t e = -1 ∧ (Op.bytesLess u.toList v.toList = true ∨ (u.toList = v.toList ∧ (s > t ∨ (s = t ∧ d > e))))) ∨ (cmpK u s d v t e = 0 ∧ u.toList = v.toList ∧ s = t ∧ d = e) ∨ (cmpK u s d v t e = 1 ∧ (Op.bytesLess v.toList u.toList = true ∨ (u.toList = v.toList ∧ (s < t ∨ (s = t ∧ d < e))))) := by
  unfold cmpK or3
  rcases cmpS_cases u v with ⟨h, c⟩ | ⟨h, c⟩ | ⟨h, c⟩
  · rw [c, if_neg (by decide)]; exact .inl ⟨rfl, .inl h⟩
  · rw [c, if_pos rfl]
    rcases cmpI_cases t s with ⟨h1, c1⟩ | ⟨h1, c1⟩ | ⟨h1, c1⟩
    · rw [c1, if_neg (by decide)]; exact .inl ⟨rfl, .inr ⟨h, .inl h1⟩⟩
    · rw [c1, if_pos rfl]
      rcases cmpI_cases e d with ⟨h2, c2⟩ | ⟨h2, c2⟩ | ⟨h2, c2⟩
      · rw [c2]; exact .inl ⟨rfl, .inr ⟨h, .inr ⟨h1.symm, h2⟩⟩⟩
      · rw [c2]; exact .inr (.inl ⟨rfl, h, h1.symm, h2.symm⟩)
      · rw [c2]; exact .inr (.inr ⟨rfl, .inr ⟨h, .inr ⟨h1.symm, h2⟩⟩⟩)
    · rw [c1, if_neg (by decide)]; exact .inr (.inr ⟨rfl, .inr ⟨h, .inl h1⟩⟩)
  · rw [c, if_neg (by decide)]; exact .inr (.inr ⟨rfl, .inl h⟩)
/-- less, in the keys' order -/
def LtK (u : ByteArray) (s d : Int) (v : ByteArray) (t e : Int) : Prop := Op.bytesLess u.toList v.toList = true ∨ (u.toList = v.toList ∧ (s > t ∨ (s = t ∧ d > e)))
theorem LtK.irr {u : ByteArray} {s d : Int} : ¬ LtK u s d u s d := by
  rintro (h | ⟨_, h | h⟩)
  · rw [bl_irr] at h; cases h
  · omega
  · omega
theorem LtK.trans {u : ByteArray} {s d : Int} {v : ByteArray} {t e : Int} {x : ByteArray} {y z : Int} (h1 : LtK u s d v t e) (h2 : LtK v t e x y z) : LtK u s d x y z := by
  rcases h1 with h1 | ⟨e1, h1⟩ <;> rcases h2 with h2 | ⟨e2, h2⟩
  · exact .inl (bl_trans _ _ _ h1 h2)
  · exact .inl (e2 ▸ h1)
  · exact .inl (e1 ▸ h2)
  · exact .inr ⟨e1.trans e2, by omega⟩
theorem cmpK_iff (u : ByteArray) (s d : Int) (v : ByteArray) (t e : Int) :
    (cmpK u s d v t e = -1 ∧ LtK u s d v t e) ∨ (cmpK u s d v t e = 0 ∧ u = v ∧ s = t ∧ d = e) ∨ (cmpK u s d v t e = 1 ∧ LtK v t e u s d) := by
  rcases cmpK_cases u s d v t e with ⟨h, h1⟩ | ⟨h, h1, h2, h3⟩ | ⟨h, h1⟩
  · exact .inl ⟨h, h1⟩
  · exact .inr (.inl ⟨h, ba_ext h1, h2, h3⟩)
  · refine .inr (.inr ⟨h, ?_⟩)
    rcases h1 with h1 | ⟨h1, h2⟩
    · exact .inl h1
    · exact .inr ⟨h1.symm, by omega⟩
theorem cmpK_lt {u : ByteArray} {s d : Int} {v : ByteArray} {t e : Int} (h : LtK u s d v t e) : cmpK u s d v t e = -1 := by
  rcases cmpK_iff u s d v t e with ⟨h1, h2⟩ | ⟨h1, rfl, rfl, rfl⟩ | ⟨h1, h2⟩
  · exact h1
  · exact absurd h LtK.irr
  · exact absurd (h.trans h2) LtK.irr
theorem cmpK_gt {u : ByteArray} {s d : Int} {v : ByteArray} {t e : Int} (h : LtK v t e u s d) : cmpK u s d v t e = 1 := by
  rcases cmpK_iff u s d v t e with ⟨h1, h2⟩ | ⟨h1, rfl, rfl, rfl⟩ | ⟨h1, h2⟩
  · exact absurd (h.trans h2) LtK.irr
  · exact absurd h LtK.irr
  · exact h1
theorem cmpK_self (u : ByteArray) (s d : Int) : cmpK u s d u s d = 0 := by
  rcases cmpK_iff u s d u s d with ⟨h1, h2⟩ | ⟨h1, _⟩ | ⟨h1, h2⟩
  · exact absurd h2 LtK.irr
  · exact h1
  · exact absurd h2 LtK.irr


theorem bnd {α β : Type} {o : Option α} {x : α} {f : α → Option β} {r : Option β} (h : o = some x) (h2 : f x = r) : o.bind f = r := by rw [h]; exact h2
theorem s90 {k : Nat} (h : 1 ≤ k) (x : ByteArray) : callN B k 90 [.v .str x] = (some false : Option Bool) := by
  obtain ⟨k, rfl⟩ := Nat.exists_eq_add_of_le' h
  refine (t90 (callN B k) k x).trans ?_
  change @Eq (Option Bool) _ _
  simp
theorem s91 {k : Nat} (h : 1 ≤ k) (x : Int) : callN B k 91 [.v i64 x] = (some false : Option Bool) := by
  obtain ⟨k, rfl⟩ := Nat.exists_eq_add_of_le' h
  refine (t91 (callN B k) k x).trans ?_
  change @Eq (Option Bool) _ _
  simp
theorem s56 {k : Nat} (h : 2 ≤ k) (a b : ByteArray) : callN B k 56 [.v .str a, .v .str b] = (some (cmpS a b) : Option Int) := by
  obtain ⟨k, rfl⟩ := Nat.exists_eq_add_of_le' (Nat.le_of_succ_le h)
  refine (t56 (callN B k) k a b).trans ?_
  refine bnd (s90 (by omega) _) (bnd (s90 (by omega) _) ?_)
  change @Eq (Option Int) _ _
  simp only [cond_false]
  unfold cmpS
  cases h1 : Op.bytesLess a.toList b.toList with
  | true => simp
  | false =>
    by_cases h2 : a.toList = b.toList
    · simp [h2]
    · simp [h2, beq_eq_false_iff_ne.2 h2]
theorem s57 {k : Nat} (h : 2 ≤ k) (a b : Int) : callN B k 57 [.v i64 a, .v i64 b] = (some (cmpI a b) : Option Int) := by
  obtain ⟨k, rfl⟩ := Nat.exists_eq_add_of_le' (Nat.le_of_succ_le h)
  refine (t57 (callN B k) k a b).trans ?_
  refine bnd (s91 (by omega) _) (bnd (s91 (by omega) _) ?_)
  change @Eq (Option Int) _ _
  simp only [cond_false]
  unfold cmpI
  by_cases h1 : a < b
  · simp [h1]
  · by_cases h2 : a > b
    · simp [h1, h2]
    · simp [h1, h2]
theorem s55 {k : Nat} (h : 5 ≤ k) (x y z : Int) : callN B k 55 [.v (.sl i64) [x, y, z]] = (some (or3 x y z) : Option Int) := by
  obtain ⟨k, rfl⟩ := Nat.exists_eq_add_of_le' h
  refine (t55 (callN B (k + 4)) k x y z).trans ?_
  have e1 : (IntKind.i64.wrap ((0 : Int) + (1 : Int))).toNat = 1 := by decide +kernel
  have e2 : (IntKind.i64.wrap (IntKind.i64.wrap ((0 : Int) + (1 : Int)) + (1 : Int))).toNat = 2 := by decide +kernel
  simp only [e1, e2]
  change @Eq (Option Int) _ _
  unfold or3
  have hz : ∀ u : Int, u ≠ 0 → (u != 0) = true := fun u hu => by simpa using hu
  by_cases h1 : x = 0
  · by_cases h2 : y = 0
    · by_cases h3 : z = 0
      · simp [h1, h2, h3]
      · simp [h1, h2, hz z h3]
    · simp [h1, hz y h2, h2]
  · simp [hz x h1, h1]
theorem s16 {k : Nat} (h : 6 ≤ k) (a b : KeyT.den) : callN B k 16 [argAV KeyT a, argAV KeyT b] = (some (cmpK a.1 a.2.1 a.2.2.1 b.1 b.2.1 b.2.2.1) : Option Int) := by
  obtain ⟨k, rfl⟩ := Nat.exists_eq_add_of_le' (show 1 ≤ k by omega)
  refine (t16 (callN B k) k a b).trans ?_
  exact bnd (s56 (by omega) _ _) (bnd (s57 (by omega) _ _) (bnd (s57 (by omega) _ _) (bnd (s55 (by omega) _ _ _) rfl)))
theorem s33 {k : Nat} (h : 1 ≤ k) (a : KeyT.den) (h1 : ByteArray.size a.1 ≤ 64) (h2 : 0 ≤ a.2.1 ∧ a.2.1 ≤ 100) (h3 : a.2.2.1 = 1) : callN B k 33 [argAV KeyT a] = (some true : Option Bool) := by
  obtain ⟨k, rfl⟩ := Nat.exists_eq_add_of_le' h
  refine (t33 (callN B k) k a).trans ?_
  have e1 : ((ByteArray.size a.1 : Int) ≤ 64) := by exact_mod_cast h1
  have e2 : a.2.1 ≤ (9007199254740992 : Int) := Int.le_trans h2.2 (by decide)
  change @Eq (Option Bool) _ _
  simp [e1, h2.1, e2, h3]
theorem s15 {k : Nat} (h : 7 ≤ k) : callN B k 15 [] = (some true : Option Bool) := by
  obtain ⟨k, rfl⟩ := Nat.exists_eq_add_of_le' (show 1 ≤ k by omega)
  refine (t15 (callN B k) k).trans ?_
  have e1 := s16 (k := k) (by omega) (⟨#[97]⟩, 2, 1, ()) (⟨#[97]⟩, 1, 1, ())
  have e2 := s33 (k := k) (by omega) (⟨#[97]⟩, 2, 1, ()) (by decide) (by decide) rfl
  have e3 : cmpK ⟨#[97]⟩ 2 1 ⟨#[97]⟩ 1 1 = -1 := by
    unfold cmpK or3 cmpS cmpI
    simp [bl_irr]
  rw [e3] at e1
  exact bnd e1 (bnd e2 rfl)
end Go.Eng.KO
