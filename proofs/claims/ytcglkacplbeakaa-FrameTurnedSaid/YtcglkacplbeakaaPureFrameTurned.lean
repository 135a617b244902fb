/- FrameTurned: a record of which one byte, of its sum or of what is behind it, is turned is none: nothing is read of it. No condition. -/
import Derived.Test.YtcglkacplbeakaaQFrame
import Derived.Test.YtcglkacplbeakaaPAx20
namespace Go.Proofs.Ytcglkacplbeakaa.Pure
open Go.RowKit Go.Proofs.Ytcglkacplbeakaa.PA Go.Proofs.YtcglkacplbeakaaW.PrintWords Go.Proofs.YtcglkacplbeakaaW.PrintLast
set_option linter.unusedVariables false
set_option linter.unusedSimpArgs false

theorem xor8 (c d : Nat) (hc : c < 256) (hd : d < 256) : Go.bits .xor .u8 (c : Int) (d : Int) = ((c ^^^ d : Nat) : Int) := by
  unfold Go.bits
  show IntKind.wrap .u8 _ = _
  have h : ∀ b : BitVec 8, IntKind.u8.wrap (b.toNat : Int) = (b.toNat : Int) := by
    intro b
    have := b.isLt
    unfold IntKind.wrap
    show (if (false && _) = true then _ else (b.toNat : Int) % 2 ^ 8) = _
    simp only [Bool.false_and, Bool.false_eq_true, if_false]
    omega
  show IntKind.u8.wrap (((BitVec.ofInt 8 (c : Int) ^^^ BitVec.ofInt 8 (d : Int)).toNat : Nat) : Int) = _
  rw [h, BitVec.toNat_xor, BitVec.toNat_ofInt, BitVec.toNat_ofInt]
  have e1 : ((c : Int) % 2 ^ 8).toNat = c := by omega
  have e2 : ((d : Int) % 2 ^ 8).toNat = d := by omega
  have e1' : ((c : Int) % ((2 ^ 8 : Nat) : Int)).toNat = c := by omega
  have e2' : ((d : Int) % ((2 ^ 8 : Nat) : Int)).toNat = d := by omega
  rw [e1', e2']
theorem xor8_ne (c d : Int) (hc : 0 ≤ c ∧ c ≤ 255) (hd : 1 ≤ d ∧ d ≤ 255) : (0 ≤ Go.bits .xor .u8 c d ∧ Go.bits .xor .u8 c d ≤ 255) ∧ Go.bits .xor .u8 c d ≠ c := by
  obtain ⟨cn, rfl⟩ : ∃ m : Nat, c = m := ⟨c.toNat, by omega⟩
  obtain ⟨dn, rfl⟩ : ∃ m : Nat, d = m := ⟨d.toNat, by omega⟩
  rw [xor8 cn dn (by omega) (by omega)]
  have h1 : cn ^^^ dn < 256 := Nat.xor_lt_two_pow (n := 8) (by omega) (by omega)
  refine ⟨by omega, fun h => ?_⟩
  have h2 : cn ^^^ dn = cn ^^^ 0 := by rw [Nat.xor_zero]; omega
  have := xor_lc h2
  omega
theorem beN4_ne {a b c d a' b' c' d' : Int} (h : Bytes [a, b, c, d]) (h' : Bytes [a', b', c', d']) (e : beN [a, b, c, d] 0 = beN [a', b', c', d'] 0) : a = a' ∧ b = b' ∧ c = c' ∧ d = d' := by
  have q := fun x hx => h x hx
  have q' := fun x hx => h' x hx
  have := q a (by simp); have := q b (by simp); have := q c (by simp); have := q d (by simp)
  have := q' a' (by simp); have := q' b' (by simp); have := q' c' (by simp); have := q' d' (by simp)
  simp only [beN] at e
  omega

/-- What is read of a record, of which the sum's bytes and what is behind are any. -/
theorem getF_other {n : Nat} {s p : List Int} (hn : n < 4294967296) (hs : s.length = 4) (hp : p.length = n) (h : beN s 0 ≠ sumS p) : getF (fix4 n ++ (s ++ p)) 0 = ([], 0, false) := by
  unfold getF
  have g1 := getFx_at (pre := []) (s := fix4 n) (rest := s ++ p) (n := 4) rfl
  rw [beN_fix4 hn] at g1
  have g2 := getFx_at (pre := fix4 n) (s := s) (rest := p) (n := 4) hs
  have e1 : (([] : List Int).length : Int) = 0 := rfl
  have e2 : ((fix4 n).length : Int) = 0 + 4 := rfl
  rw [List.nil_append, e1] at g1
  rw [e2] at g2
  rw [g1, g2]
  have e3 : (0 + 8 : Int).toNat = 8 := rfl
  have e4 : (fix4 n ++ (s ++ p)).drop 8 = p := by
    have : fix4 n ++ (s ++ p) = (fix4 n ++ s) ++ p := by simp
    rw [this]
    exact List.drop_left' (by simp [fix4, hs])
  simp only [Int.toNat_natCast]
  rw [e3, e4, ← hp, List.take_length]
  rw [if_neg]
  intro hh
  exact h (by have := hh.2.2.2; omega)

theorem turned_none {p : List Int} (hp : Bytes p) (hlen : p.length ≤ 500) (t : Nat) (ht : t < p.length + 4) (by_ : Int) (hby : 1 ≤ by_ ∧ by_ ≤ 255) :
    getF ((putF p).set (4 + t) (Go.bits .xor .u8 (rd (putF p) ((4 + t : Nat) : Int)) by_)) 0 = ([], 0, false) ∧ Bytes ((putF p).set (4 + t) (Go.bits .xor .u8 (rd (putF p) ((4 + t : Nat) : Int)) by_)) := by
  have hb := putF_bytes hp
  have hl := putF_length (p := p) (by omega)
  have hr : rd (putF p) ((4 + t : Nat) : Int) = (putF p)[4 + t]'(by omega) := by
    unfold rd
    simp only [Int.toNat_natCast]
    rw [List.getD_eq_getElem?_getD, List.getElem?_eq_getElem (by omega)]
    rfl
  have hc := hb _ (List.getElem_mem (h := (by omega : 4 + t < (putF p).length)))
  rw [hr]
  obtain ⟨hx, hne⟩ := xor8_ne _ by_ hc hby
  generalize hX : Go.bits .xor .u8 ((putF p)[4 + t]'(by omega)) by_ = X at *
  have hB : Bytes ((putF p).set (4 + t) X) := by
    intro y hy
    rcases List.mem_or_eq_of_mem_set hy with h | h
    · exact hb y h
    · rw [h]; exact hx
  refine ⟨?_, hB⟩
  have hs := sumS_lt hp
  have hput : putF p = fix4 p.length ++ (fix4 (sumS p) ++ p) := by unfold putF; rw [if_neg (by omega)]
  have hset : (putF p).set (4 + t) X = fix4 p.length ++ ((fix4 (sumS p) ++ p).set t X) := by
    rw [hput, List.set_append_right _ _ (by simp [fix4])]
    simp [fix4]
  have hget : (putF p)[4 + t]'(by omega) = (fix4 (sumS p) ++ p)[t]'(by simp [fix4]; omega) := by
    simp only [hput]
    rw [List.getElem_append_right (by simp [fix4])]
    simp [fix4]
  rw [hget] at hne
  rw [hset]
  by_cases h4 : t < 4
  · have e1 : (fix4 (sumS p) ++ p).set t X = (fix4 (sumS p)).set t X ++ p := by rw [List.set_append_left _ _ (by simp [fix4]; omega)]
    have e2 : (fix4 (sumS p) ++ p)[t]'(by simp [fix4]; omega) = (fix4 (sumS p))[t]'(by simp [fix4]; omega) := List.getElem_append_left _
    rw [e2] at hne
    rw [e1]
    refine getF_other (by omega) (by simp [fix4]) rfl ?_
    intro hbe
    have hf : beN ((fix4 (sumS p)).set t X) 0 = beN (fix4 (sumS p)) 0 := by rw [hbe, beN_fix4 hs]
    have hB1 : Bytes ((fix4 (sumS p)).set t X) := by
      intro y hy
      rcases List.mem_or_eq_of_mem_set hy with h | h
      · exact fix4_bytes _ y h
      · rw [h]; exact hx
    have hB2 := fix4_bytes (sumS p)
    unfold fix4 at hf hB1 hB2 hne
    rcases t with _ | _ | _ | _ | t
    · exact hne (beN4_ne hB1 hB2 hf).1
    · exact hne (beN4_ne hB1 hB2 hf).2.1
    · exact hne (beN4_ne hB1 hB2 hf).2.2.1
    · exact hne (beN4_ne hB1 hB2 hf).2.2.2
    · omega
  · have e1 : (fix4 (sumS p) ++ p).set t X = fix4 (sumS p) ++ p.set (t - 4) X := by rw [List.set_append_right _ _ (by simp [fix4]; omega)]; simp [fix4]
    have e2 : (fix4 (sumS p) ++ p)[t]'(by simp [fix4]; omega) = p[t - 4]'(by omega) := by rw [List.getElem_append_right (by simp [fix4]; omega)]; simp [fix4]
    rw [e2] at hne
    rw [e1]
    refine getF_other (by omega) (by simp [fix4]) (by simp) ?_
    intro hbe
    rw [beN_fix4 hs] at hbe
    have hsp : p = p.take (t - 4) ++ p[t - 4]'(by omega) :: p.drop (t - 4 + 1) := by
      rw [List.getElem_cons_drop, List.take_append_drop]
    have hst : p.set (t - 4) X = p.take (t - 4) ++ X :: p.drop (t - 4 + 1) := by
      rw [List.set_eq_take_append_cons_drop, if_pos (by omega)]
    rw [hst] at hbe
    have hc2 := hp _ (List.getElem_mem (h := (by omega : t - 4 < p.length)))
    have := sumS_turned (hp.take (t - 4)) (hp.drop (t - 4 + 1)) hc2 hx (by rw [← hsp]; exact hbe)
    exact hne this.symm

theorem FrameTurned : iceboxlaw7_FrameTurned.Pure := by
  intro p a by_ hp hp1 hb ha hy
  have hB := Bytes.of_wf hb
  simp [Lit.wf, IntKind.min, IntKind.max, IntKind.signed, IntKind.bits] at ha hy
  refine ⟨20000, ?_⟩
  unfold iceboxlaw7_FrameTurned.f
  have hj : ∀ b, (b = true ∨ (p.length ≤ 500 ∧ by_ ≠ 0)) → iceboxlaw7_FrameTurned.j0 20000 p a by_ b = some true := by
    intro b h
    simp only [iceboxlaw7_FrameTurned.j0]
    by_cases hbt : b = true
    · rw [if_pos hbt, awake7_eq (by omega)]; rfl
    · rw [if_neg hbt]
      obtain ⟨h1, h2⟩ := h.resolve_left hbt
      rw [frame_Put_eq hB (by omega), Option.bind_some]
      have hl := putF_length (p := p) (by omega)
      rw [w64 (x := (p.length : Int) + 8) (by omega) (by omega), if_pos (by omega), w64 (x := (p.length : Int) + 4) (by omega) (by omega), if_neg (by omega), w64 (x := a) (by omega) (by omega)]
      have hm : Int.tmod a ((p.length : Int) + 4) = ((a.toNat % (p.length + 4) : Nat) : Int) := by
        obtain ⟨n, rfl⟩ : ∃ m : Nat, a = m := ⟨a.toNat, by omega⟩
        rfl
      have hlt : a.toNat % (p.length + 4) < p.length + 4 := Nat.mod_lt _ (by omega)
      rw [hm]
      generalize a.toNat % (p.length + 4) = t at hlt
      have e4 : (4 : Int) + (t : Int) = ((4 + t : Nat) : Int) := by omega
      rw [e4, w64 (x := ((4 + t : Nat) : Int)) (by omega) (by omega), if_pos (by omega), if_pos (by omega), Option.bind_some, Int.toNat_natCast]
      obtain ⟨hn, hbs⟩ := turned_none hB h1 t hlt by_ (by omega)
      generalize hY : (putF p).set (4 + t) (Go.bits .xor .u8 (rd (putF p) ((4 + t : Nat) : Int)) by_) = Y at hn hbs ⊢
      have hYl : Y.length = p.length + 8 := by rw [← hY, List.length_set, hl]
      have hsc : scanF (Y.length + 1) Y [] 0 = ([], 0) := by
        rw [scanF, hn]; rfl
      rw [frame_Get_eq hbs (by omega) 0 (by omega) (by omega) (by omega), Option.bind_some, frame_Scan_eq hbs (by omega) (by omega), Option.bind_some, hn, hsc, awake7_eq (by omega)]
      rfl
  by_cases h1 : (p.length : Int) > 500
  · rw [if_pos h1]; exact hj _ (.inl rfl)
  · rw [if_neg h1]
    by_cases h2 : by_ = 0
    · exact hj _ (.inl (beq_iff_eq.2 h2))
    · exact hj _ (.inr ⟨by omega, h2⟩)
end Go.Proofs.Ytcglkacplbeakaa.Pure
