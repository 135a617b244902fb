/- KeyBack: a key that may be is told again from its bytes, whatever stands behind them; of two keys that differ in their User alone the bytes differ. No condition. -/
import Derived.Test.YtcglkacplbeakaaQKey
import Derived.Test.YtcglkacplbeakaaPAx8
namespace Go.Proofs.Ytcglkacplbeakaa.Pure
open Go.RowKit Go.Proofs.Ytcglkacplbeakaa.PA Go.Proofs.YtcglkacplbeakaaW.PrintWords Go.Proofs.YtcglkacplbeakaaW.PrintLast

theorem keyBack_j1 {k : Nat} (hk : 20 ≤ k) (u v : ByteArray) (l : List Int) (s d : Int) (hu : mayB u s d = true) (hv : mayB v s d = true) (hl : Bytes l) (hlen : l.length ≤ 100) :
    iceboxlaw2_KeyBack.j1 k u v l u s d = some true := by
  obtain ⟨k, rfl⟩ : ∃ m, k = m + 1 := ⟨k - 1, by omega⟩
  simp only [iceboxlaw2_KeyBack.j1]
  have hp := putK_length u s d
  rw [key_Put_eq (by omega)]
  simp only [Option.bind_some, List.nil_append, List.length_nil]
  rw [if_pos (by omega), if_pos (by omega), key_Get_eq (by omega) ((putK_bytes u s d).append hl) (by simp only [List.length_append]; omega), getK_put hu]
  simp only [Option.bind_some, beq_self_eq_true, Bool.and_self, if_true]
  rw [key_Put_eq (by omega), awake2_eq (by omega)]
  simp only [Option.bind_some]
  have h : ((strOfNums (putK v s d)).toList == (strOfNums (putK u s d)).toList) = (v.toList == u.toList) := by
    by_cases e : v = u
    · subst e; simp
    · have h1 : ¬ (v.toList = u.toList) := fun h => e (ba_ext h)
      have h2 : ¬ ((strOfNums (putK v s d)).toList = (strOfNums (putK u s d)).toList) := fun h => e (putK_inj hv hu (strOfNums_inj (putK_bytes _ _ _) (putK_bytes _ _ _) (ba_ext h)))
      rw [beq_eq_false_iff_ne.2 h1, beq_eq_false_iff_ne.2 h2]
  rw [h]
  simp

theorem KeyBack : iceboxlaw2_KeyBack.Pure := by
  intro u s del v l hu hs hv hl hl1 hb
  have hB := Bytes.of_wf hb
  simp [Lit.wf, IntKind.min, IntKind.max, IntKind.signed, IntKind.bits] at hs
  refine ⟨30, ?_⟩
  unfold iceboxlaw2_KeyBack.f
  have hj : ∀ b, (b = true ∨ (u.size ≤ 64 ∧ v.size ≤ 64 ∧ l.length ≤ 100)) → iceboxlaw2_KeyBack.j0 30 u s del v l b = some true := by
    intro b h
    simp only [iceboxlaw2_KeyBack.j0]
    by_cases hb : b = true
    · rw [if_pos hb, awake2_eq (by omega)]; rfl
    · rw [if_neg hb]
      obtain ⟨h1, h2, h3⟩ := h.resolve_left hb
      have e : wrap64 (s / 2048) = s / 2048 := w64 (by omega) (by omega)
      rw [e]
      have m : ∀ (w : ByteArray) (d : Int), w.size ≤ 64 → d = 1 ∨ d = 2 → mayB w (s / 2048) d = true := fun w d h4 h5 => decide_eq_true ⟨by omega, by omega, by omega, h5⟩
      split
      · exact keyBack_j1 (by omega) u v l _ _ (m _ _ h1 (by omega)) (m _ _ h2 (by omega)) hB h3
      · exact keyBack_j1 (by omega) u v l _ _ (m _ _ h1 (by omega)) (m _ _ h2 (by omega)) hB h3
  by_cases h1 : (u.size : Int) > 64
  · rw [if_pos h1]; exact hj _ (.inl rfl)
  · rw [if_neg h1]
    by_cases h2 : (v.size : Int) > 64
    · rw [if_pos h2]; exact hj _ (.inl rfl)
    · rw [if_neg h2]
      by_cases h3 : (l.length : Int) > 100
      · exact hj _ (.inl (decide_eq_true h3))
      · exact hj _ (.inr ⟨by omega, by omega, by omega⟩)
end Go.Proofs.Ytcglkacplbeakaa.Pure
