/- FrameAll: a record of any bytes, and what any bytes have at any place, and from the beginning on, are the reference's. No condition. -/
import Derived.Test.YtcglkacplbeakaaQRef7
import Derived.Test.YtcglkacplbeakaaPAx18
import Derived.Test.YtcglkacplbeakaaFAWalk
namespace Go.Proofs.Ytcglkacplbeakaa.Pure
open Go.RowKit Go.Proofs.Ytcglkacplbeakaa.PA Go.Proofs.YtcglkacplbeakaaW.PrintWords Go.Proofs.YtcglkacplbeakaaW.PrintLast
set_option linter.unusedVariables false
set_option linter.unusedSimpArgs false

theorem sameA_refl {l : List (List Int)} (hlen : l.length ≤ 140737488351232) (d : Nat) : ∀ (i k : Nat), i + d = l.length → d < k → iceboxlaw7_same.l0 k l l (i : Int) = some true := by
  induction d with
  | zero =>
    intro i k hi hk
    obtain ⟨k, rfl⟩ : ∃ m, k = m + 1 := ⟨k - 1, by omega⟩
    simp only [iceboxlaw7_same.l0]
    rw [if_neg (by omega)]
  | succ d ih =>
    intro i k hi hk
    obtain ⟨k, rfl⟩ : ∃ m, k = m + 1 := ⟨k - 1, by omega⟩
    simp only [iceboxlaw7_same.l0]
    have e1 : wrap64 ((i : Int) + 1) = ((i + 1 : Nat) : Int) := by rw [w64 (by omega) (by omega)]; omega
    rw [if_pos (by omega), if_pos (by omega), if_pos (by omega), if_pos trivial, e1]
    exact ih (i + 1) k (by omega) (by omega)
theorem sameA_eq {k : Nat} {l : List (List Int)} (hlen : l.length ≤ 140737488351232) (hk : l.length < k) : iceboxlaw7_same.f k l l = some true := by
  unfold iceboxlaw7_same.f
  rw [if_pos rfl]
  exact sameA_refl hlen l.length 0 k (by omega) hk
theorem scanF_length (l : List Int) : ∀ (d : Nat) (acc : List (List Int)) (p : Int), (scanF d l acc p).1.length ≤ acc.length + d
  | 0, acc, p => by simp [scanF]
  | d + 1, acc, p => by
    rw [scanF]
    split
    · have := scanF_length l d (acc ++ [(getF l p).1]) (getF l p).2.1
      simp only [List.length_append, List.length_cons, List.length_nil] at this
      omega
    · simp only; omega
theorem FrameAll : iceboxlaw7_FrameAll.Pure := by
  intro p b at_ hp hp' hpb hb hb' hbb hat
  have hP := Bytes.of_wf hpb
  have hB := Bytes.of_wf hbb
  have hat' : -9223372036854775808 ≤ at_ ∧ at_ ≤ 9223372036854775807 := by
    have := hat
    simp only [Lit.wf, IntKind.min, IntKind.max, IntKind.signed, IntKind.bits, Bool.and_eq_true, decide_eq_true_eq] at this
    simp at this
    omega
  refine ⟨40000, ?_⟩
  unfold iceboxlaw7_FrameAll.f
  have hj : ∀ c, (c = true ∨ (p.length ≤ 2000 ∧ b.length ≤ 2000)) → iceboxlaw7_FrameAll.j0 40000 p b at_ c = some true := by
    intro c h
    simp only [iceboxlaw7_FrameAll.j0]
    by_cases hc : c = true
    · rw [if_pos hc, awake7_eq (by omega)]; rfl
    · rw [if_neg hc]
      obtain ⟨h1, h2⟩ := h.resolve_left hc
      have hs := scanF_length b (b.length + 1) [] 0
      simp only [List.length_nil] at hs
      rw [frame_Get_eq hB (by omega) at_ hat'.1 hat'.2 (by omega), Option.bind_some, ref_Unframe_eq hB (by omega) at_ hat'.1 hat'.2 (by omega), Option.bind_some, frame_Scan_eq hB (by omega) (by omega), Option.bind_some, ref_Scan_eq hB (by omega) (by omega), Option.bind_some, frame_Put_eq hP (by omega), Option.bind_some, ref_Frame_eq hP (by omega), Option.bind_some, if_pos rfl, if_pos rfl, if_pos rfl, if_pos (by simp), sameA_eq (by omega) (by omega), Option.bind_some, if_pos rfl, if_pos rfl, awake7_eq (by omega)]
      rfl
  by_cases h1 : (p.length : Int) > 2000
  · rw [if_pos h1]; exact hj _ (.inl rfl)
  · rw [if_neg h1]
    by_cases h2 : (b.length : Int) > 2000
    · exact hj _ (.inl (decide_eq_true h2))
    · exact hj _ (.inr ⟨by omega, by omega⟩)
end Go.Proofs.Ytcglkacplbeakaa.Pure
