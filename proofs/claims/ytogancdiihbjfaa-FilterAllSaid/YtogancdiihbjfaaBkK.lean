/- Plain laws: the order of keys. -/
import Derived.Test.YtogancdiihbjfaaBkM
namespace Go.Eng.Bk
open Go Go.Eng
def cmpS (a b : ByteArray) : Int := if Op.bytesLess a.toList b.toList = true then -1 else if a.toList = b.toList then 0 else 1
def cmpI (a b : Int) : Int := if a < b then -1 else if a > b then 1 else 0
def or3 (x y z : Int) : Int := if x = 0 then (if y = 0 then z else y) else x
def cmpK (u : ByteArray) (s d : Int) (v : ByteArray) (t e : Int) : Int := or3 (cmpS u v) (cmpI t s) (cmpI e d)
theorem bl_tri : ∀ x y : List UInt8, Op.bytesLess x y = true ∨ x = y ∨ Op.bytesLess y x = true
  | [], [] => .inr (.inl rfl)
  | [], _ :: _ => .inl (by simp [Op.bytesLess])
  | _ :: _, [] => .inr (.inr (by simp [Op.bytesLess]))
  | a :: x, b :: y => by
    rcases Nat.lt_trichotomy a.toNat b.toNat with h | h | h
    · exact .inl (by simp [Op.bytesLess, UInt8.lt_iff_toNat_lt, h])
    · have e : a = b := UInt8.toNat_inj.mp h
      subst e
      rcases bl_tri x y with h1 | h1 | h1
      · exact .inl (by simp [Op.bytesLess, h1])
      · exact .inr (.inl (by rw [h1]))
      · exact .inr (.inr (by simp [Op.bytesLess, h1]))
    · exact .inr (.inr (by simp [Op.bytesLess, UInt8.lt_iff_toNat_lt, h]))
theorem bl_irr : ∀ x : List UInt8, Op.bytesLess x x = false
  | [] => by simp [Op.bytesLess]
  | a :: x => by simp [Op.bytesLess, bl_irr x]
theorem bl_trans : ∀ x y z : List UInt8, Op.bytesLess x y = true → Op.bytesLess y z = true → Op.bytesLess x z = true
  | _, [], _, h, _ => by cases ‹List UInt8› <;> simp [Op.bytesLess] at h
  | _, _ :: _, [], _, h => by simp [Op.bytesLess] at h
  | [], _ :: _, _ :: _, _, _ => by simp [Op.bytesLess]
  | a :: x, b :: y, c :: z, h1, h2 => by
    simp only [Op.bytesLess, Bool.or_eq_true, Bool.and_eq_true, decide_eq_true_eq, beq_iff_eq, UInt8.lt_iff_toNat_lt] at h1 h2 ⊢
    rcases h1 with h1 | ⟨e1, h1⟩
    · rcases h2 with h2 | ⟨e2, h2⟩
      · exact .inl (by omega)
      · subst e2; exact .inl h1
    · subst e1
      rcases h2 with h2 | ⟨e2, h2⟩
      · exact .inl h2
      · exact .inr ⟨e2, bl_trans x y z h1 h2⟩
theorem bl_asym {x y : List UInt8} (h : Op.bytesLess x y = true) : Op.bytesLess y x = false := by
  cases h1 : Op.bytesLess y x with
  | false => rfl
  | true => have := bl_trans x y x h h1; rw [bl_irr] at this; cases this
/-- a is not behind b -/
def LeK (u : ByteArray) (s d : Int) (v : ByteArray) (t e : Int) : Prop := Op.bytesLess u.toList v.toList = true ∨ (u.toList = v.toList ∧ (s > t ∨ (s = t ∧ d ≥ e)))
theorem cmpI_cases (a b : Int) : (a < b ∧ cmpI a b = -1) ∨ (a = b ∧ cmpI a b = 0) ∨ (a > b ∧ cmpI a b = 1) := by
  unfold cmpI
  by_cases h : a < b
  · exact .inl ⟨h, if_pos h⟩
  · by_cases h1 : a > b
    · exact .inr (.inr ⟨h1, by rw [if_neg h, if_pos h1]⟩)
    · exact .inr (.inl ⟨by omega, by rw [if_neg h, if_neg h1]⟩)
theorem cmpS_cases (a b : ByteArray) : (Op.bytesLess a.toList b.toList = true ∧ cmpS a b = -1) ∨ (a.toList = b.toList ∧ cmpS a b = 0) ∨ (Op.bytesLess b.toList a.toList = true ∧ cmpS a b = 1) := by
  unfold cmpS
  rcases bl_tri a.toList b.toList with h | h | h
  · exact .inl ⟨h, if_pos h⟩
  · exact .inr (.inl ⟨h, by rw [h, bl_irr]; simp⟩)
  · refine .inr (.inr ⟨h, ?_⟩)
    rw [bl_asym h, if_neg (by simp), if_neg (by intro e; rw [e, bl_irr] at h; cases h)]
/-- the three answers, with what they say -/
theorem cmpK_cases (u : ByteArray) (s d : Int) (v : ByteArray) (t e : Int) :
    (cmpK u s d v t e = -1 ∧ (Op.bytesLess u.toList v.toList = true ∨ (u.toList = v.toList ∧ (s > t ∨ (s = t ∧ d > e))))) ∨ (cmpK u s d v t e = 0 ∧ u.toList = v.toList ∧ s = t ∧ d = e) ∨ (cmpK u s d v t e = 1 ∧ (Op.bytesLess v.toList u.toList = true ∨ (u.toList = v.toList ∧ (s < t ∨ (s = t ∧ d < e))))) := by
  unfold cmpK or3
  rcases cmpS_cases u v with ⟨h, c⟩ | ⟨h, c⟩ | ⟨h, c⟩
  · rw [c, if_neg (by decide)]; exact .inl ⟨rfl, .inl h⟩
  · rw [c, if_pos rfl]
    rcases cmpI_cases t s with ⟨h1, c1⟩ | ⟨h1, c1⟩ | ⟨h1, c1⟩
    · rw [c1, if_neg (by decide)]; exact .inl ⟨rfl, .inr ⟨h, .inl h1⟩⟩
    · rw [c1, if_pos rfl]
      rcases cmpI_cases e d with ⟨h2, c2⟩ | ⟨h2, c2⟩ | ⟨h2, c2⟩
      · rw [c2]; exact .inl ⟨rfl, .inr ⟨h, .inr ⟨h1.symm, h2⟩⟩⟩
      · rw [c2]; exact .inr (.inl ⟨rfl, h, h1.symm, h2.symm⟩)
      · rw [c2]; exact .inr (.inr ⟨rfl, .inr ⟨h, .inr ⟨h1.symm, h2⟩⟩⟩)
    · rw [c1, if_neg (by decide)]; exact .inr (.inr ⟨rfl, .inr ⟨h, .inl h1⟩⟩)
  · rw [c, if_neg (by decide)]; exact .inr (.inr ⟨rfl, .inl h⟩)
/-- less, in the keys' order -/
def LtK (u : ByteArray) (s d : Int) (v : ByteArray) (t e : Int) : Prop := Op.bytesLess u.toList v.toList = true ∨ (u.toList = v.toList ∧ (s > t ∨ (s = t ∧ d > e)))
theorem LtK.irr {u : ByteArray} {s d : Int} : ¬ LtK u s d u s d := by
  rintro (h | ⟨_, h | h⟩)
  · rw [bl_irr] at h; cases h
  · omega
  · omega
theorem LtK.trans {u : ByteArray} {s d : Int} {v : ByteArray} {t e : Int} {x : ByteArray} {y z : Int} (h1 : LtK u s d v t e) (h2 : LtK v t e x y z) : LtK u s d x y z := by
  rcases h1 with h1 | ⟨e1, h1⟩ <;> rcases h2 with h2 | ⟨e2, h2⟩
  · exact .inl (bl_trans _ _ _ h1 h2)
  · exact .inl (e2 ▸ h1)
  · exact .inl (e1 ▸ h2)
  · exact .inr ⟨e1.trans e2, by omega⟩
theorem cmpK_iff (u : ByteArray) (s d : Int) (v : ByteArray) (t e : Int) :
    (cmpK u s d v t e = -1 ∧ LtK u s d v t e) ∨ (cmpK u s d v t e = 0 ∧ u = v ∧ s = t ∧ d = e) ∨ (cmpK u s d v t e = 1 ∧ LtK v t e u s d) := by
  rcases cmpK_cases u s d v t e with ⟨h, h1⟩ | ⟨h, h1, h2, h3⟩ | ⟨h, h1⟩
  · exact .inl ⟨h, h1⟩
  · exact .inr (.inl ⟨h, ba_ext h1, h2, h3⟩)
  · refine .inr (.inr ⟨h, ?_⟩)
    rcases h1 with h1 | ⟨h1, h2⟩
    · exact .inl h1
    · exact .inr ⟨h1.symm, by omega⟩
theorem cmpK_lt {u : ByteArray} {s d : Int} {v : ByteArray} {t e : Int} (h : LtK u s d v t e) : cmpK u s d v t e = -1 := by
  rcases cmpK_iff u s d v t e with ⟨h1, h2⟩ | ⟨h1, rfl, rfl, rfl⟩ | ⟨h1, h2⟩
  · exact h1
  · exact absurd h LtK.irr
  · exact absurd (h.trans h2) LtK.irr
theorem cmpK_gt {u : ByteArray} {s d : Int} {v : ByteArray} {t e : Int} (h : LtK v t e u s d) : cmpK u s d v t e = 1 := by
  rcases cmpK_iff u s d v t e with ⟨h1, h2⟩ | ⟨h1, rfl, rfl, rfl⟩ | ⟨h1, h2⟩
  · exact absurd (h.trans h2) LtK.irr
  · exact absurd h LtK.irr
  · exact h1
theorem cmpK_self (u : ByteArray) (s d : Int) : cmpK u s d u s d = 0 := by
  rcases cmpK_iff u s d u s d with ⟨h1, h2⟩ | ⟨h1, _⟩ | ⟨h1, h2⟩
  · exact absurd h2 LtK.irr
  · exact h1
  · exact absurd h2 LtK.irr


end Go.Eng.Bk
