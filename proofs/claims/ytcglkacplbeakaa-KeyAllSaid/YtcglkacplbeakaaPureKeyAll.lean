/- KeyAll: whether any key and any entries may be, which of two keys comes first, a key's bytes, and what any bytes tell at any place, are what the reference tells. No condition. -/
import Derived.Test.YtcglkacplbeakaaQRef1
import Derived.Test.YtcglkacplbeakaaStmtKeyAll
namespace Go.Proofs.Ytcglkacplbeakaa.Pure
open Go.RowKit Go.Proofs.Ytcglkacplbeakaa.PA Go.Proofs.YtcglkacplbeakaaW.PrintWords Go.Proofs.YtcglkacplbeakaaW.PrintLast
set_option linter.unusedVariables false
set_option linter.unusedSimpArgs false

theorem keyAll_l0 {l : List Ent} (hl : l.length ≤ 60) (d : Nat) : ∀ (i k : Nat) (n1 n2 : Int) (b1 b2 : Bool) (u : ByteArray) (s e : Int) (v : ByteArray) (t f : Int) (x : ByteArray) (y z : Int) (x' : ByteArray) (y' z' : Int), i + d = l.length → d + 100 < k → n1 = n2 → b1 = b2 → x = x' → y = y' → z = z' →
    iceboxlaw2_KeyAll.l0 k l n1 b1 n2 b2 (i : Int) u s e v t f x y z x' y' z' = some true := by
  induction d with
  | zero =>
    intro i k n1 n2 b1 b2 u s e v t f x y z x' y' z' hi hk h1 h2 h3 h4 h5
    subst h1 h2 h3 h4 h5
    obtain ⟨k, rfl⟩ : ∃ m, k = m + 1 := ⟨k - 1, by omega⟩
    simp only [iceboxlaw2_KeyAll.l0]
    rw [if_neg (by omega), key_May_eq, Option.bind_some, ref_MayKey_eq, Option.bind_some, if_pos (by simp), key_Cmp_eq (by omega), Option.bind_some, ref_Cmp_eq, Option.bind_some, if_pos rfl, key_Put_eq (by omega), Option.bind_some, ref_PutKey_eq (by omega), Option.bind_some, if_pos rfl, if_pos (by simp), if_pos trivial, if_pos (by simp), key_Rising_eq (by omega) (by omega), Option.bind_some, ref_Rising_eq (by omega) (by omega), Option.bind_some, if_pos (by simp), awake2_eq (by omega)]
    rfl
  | succ d ih =>
    intro i k n1 n2 b1 b2 u s e v t f x y z x' y' z' hi hk h1 h2 h3 h4 h5
    obtain ⟨k, rfl⟩ : ∃ m, k = m + 1 := ⟨k - 1, by omega⟩
    simp only [iceboxlaw2_KeyAll.l0]
    have e1 : wrap64 ((i : Int) + 1) = ((i + 1 : Nat) : Int) := by rw [w64 (by omega) (by omega)]; omega
    rw [if_pos (show (i : Int) < (l.length : Int) by omega), if_pos (Int.natCast_nonneg i), key_MayEntry_eq, Option.bind_some, ref_MayEntry_eq, Option.bind_some, if_neg (by simp), e1]
    exact ih (i + 1) k n1 n2 b1 b2 u s e v t f x y z x' y' z' (by omega) (by omega) h1 h2 h3 h4 h5

theorem KeyAll : iceboxlaw2_KeyAll.PureX := by
  intro u s d v t e l b at_ hu hs hd hv ht he hl hb hbl hat
  have hB := Bytes.of_wf hb
  refine ⟨500, ?_⟩
  unfold iceboxlaw2_KeyAll.f
  have hj : ∀ c, (c = true ∨ (l.length ≤ 60 ∧ b.length ≤ 500)) → iceboxlaw2_KeyAll.j0 500 l b at_ c u s d v t e = some true := by
    intro c h
    simp only [iceboxlaw2_KeyAll.j0]
    by_cases hc : c = true
    · rw [if_pos hc, awake2_eq (by omega)]; rfl
    · rw [if_neg hc]
      obtain ⟨h1, h2⟩ := h.resolve_left hc
      rw [key_Get_eq (by omega) hB (by omega), Option.bind_some, ref_GetKey_eq (by omega) hB (by omega), Option.bind_some]
      exact keyAll_l0 h1 l.length 0 _ _ _ _ _ _ _ _ _ _ _ _ _ _ _ _ _ (by omega) (by omega) rfl rfl rfl rfl rfl
  by_cases h1 : (u.size : Int) > 500
  · rw [if_pos h1]; exact hj _ (.inl rfl)
  · rw [if_neg h1]
    by_cases h2 : (v.size : Int) > 500
    · rw [if_pos h2]; exact hj _ (.inl rfl)
    · rw [if_neg h2]
      by_cases h3 : (l.length : Int) > 60
      · rw [if_pos h3]; exact hj _ (.inl rfl)
      · rw [if_neg h3]
        by_cases h4 : (b.length : Int) > 500
        · exact hj _ (.inl (decide_eq_true h4))
        · exact hj _ (.inr ⟨by omega, by omega⟩)
end Go.Proofs.Ytcglkacplbeakaa.Pure
