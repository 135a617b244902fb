/- What comes in at a law: bytes and numbers. -/
import Derived.Test.YtogancdiihbjfaaBkB
namespace Go.Eng.Bk
open Go Go.Proofs Go.Eng
theorem wf_int {k : IntKind} {y : Int} (w : wf (.int k) y) : k.min ≤ y ∧ y ≤ k.max := by
  have h : (Lit.int k y).wf = true := w
  simp only [Lit.wf, decide_eq_true_eq, Bool.and_eq_true] at h
  exact h
theorem in_u8 {y : (u8).den} (w : wf u8 y) : ∃ n : Nat, n < 256 ∧ y = ((n : Nat) : Int) := by
  have h := wf_int w
  rw [show IntKind.min .u8 = 0 from rfl, show IntKind.max .u8 = 255 from rfl] at h
  have h' : (0 : Int) ≤ y ∧ (y : Int) ≤ 255 := h
  exact ⟨Int.toNat y, by have := h'; omega, (Int.toNat_of_nonneg h'.1).symm⟩
abbrev u16 : Ty := .int .u16
theorem in_u16 {y : (u16).den} (w : wf u16 y) : ∃ n : Nat, n < 65536 ∧ y = ((n : Nat) : Int) := by
  have h := wf_int w
  rw [show IntKind.min .u16 = 0 from rfl, show IntKind.max .u16 = 65535 from rfl] at h
  have h' : (0 : Int) ≤ y ∧ (y : Int) ≤ 65535 := h
  exact ⟨Int.toNat y, by have := h'; omega, (Int.toNat_of_nonneg h'.1).symm⟩
theorem in_bytes {y : (Ty.sl u8).den} (w : wf (.sl u8) y) : Bytes y ∧ List.length y ≤ maxLen := by
  have h : List.length y ≤ maxLen ∧ ∀ x ∈ (y : List Int), wf u8 x := w
  refine ⟨fun x hx => ?_, h.1⟩
  have h := wf_int (h.2 x hx)
  rw [show IntKind.min .u8 = 0 from rfl, show IntKind.max .u8 = 255 from rfl] at h
  exact h
end Go.Eng.Bk
