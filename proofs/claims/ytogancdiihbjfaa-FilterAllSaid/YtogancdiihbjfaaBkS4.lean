/- What putting a block answers, the program's and the document's. -/
import Derived.Test.YtogancdiihbjfaaBkS3
import Derived.Test.YtogancdiihbjfaaBkT3
import Derived.Test.YtogancdiihbjfaaBkT5
namespace Go.Eng.Bk
open Go Go.Proofs Go.Eng
set_option linter.unusedVariables false
set_option linter.unusedSimpArgs false
def tailN (a : Ke) : Nat := (2 * a.2.1 + a.2.2.1 - 1).toNat
theorem s57 {k : Nat} (h : 1 ≤ k) (a : Ke) (ha : mayK a = true) : callN B k 57 [argAV KeyT a] = (some ((tailN a : Nat) : Int) : Option Int) := by
  obtain ⟨k, rfl⟩ := Nat.exists_eq_add_of_le' h
  refine (callS k 57 _).trans ((t57 (callN B k) (lvl B k).2 k a).trans (congrArg some ?_))
  obtain ⟨_, h2, h3, h4⟩ := mayB_true ha
  unfold tailN
  rw [w64 (x := 2 * a.2.1) (by omega) (by omega), w64 (x := 2 * a.2.1 + a.2.2.1) (by omega) (by omega), w64 (by omega) (by omega)]
  omega
theorem tail_bound {a : Ke} (ha : mayK a = true) : tailN a < 9223372036854775808 ∧ ((tailN a : Nat) : Int) = 2 * a.2.1 + a.2.2.1 - 1 := by
  obtain ⟨_, h2, h3, h4⟩ := mayB_true ha
  unfold tailN
  omega
theorem mayE_true {e : En} (h : mayE e = true) : mayK e.1 = true ∧ e.1.1.size ≤ 64 ∧ e.2.1.size ≤ 512 := by
  unfold mayE at h
  simp only [Bool.and_eq_true, decide_eq_true_eq] at h
  obtain ⟨h1, _⟩ := mayB_true h.1.1
  exact ⟨h.1.1, by omega, by omega⟩
/-- A text's rest. -/
abbrev rest (s : ByteArray) (n : Nat) : ByteArray := s.extract n s.size
theorem rest_size (s : ByteArray) (n : Nat) : (rest s n).size = s.size - n := by
  rw [ByteArray.size_extract]; omega
/-- How much of a text is not said again. -/
def shAt (l : List En) (i : Nat) : Nat := if i % 4 = 0 then 0 else shr (bytesOf (l.getD (i - 1) d0).1.1) (bytesOf (l.getD i d0).1.1)
def encE (n : Nat) (e : En) : List Int := enc n ++ (enc (rest e.1.1 n).size ++ bytesOf (rest e.1.1 n)) ++ enc (tailN e.1) ++ (enc e.2.1.size ++ bytesOf e.2.1)
theorem encE_length {n : Nat} {e : En} (hn : n ≤ 64) (he : mayE e = true) : (encE n e).length ≤ 612 := by
  obtain ⟨h1, h2, h3⟩ := mayE_true he
  have e1 := enc_length9 (n := n) (by omega)
  have hrs := rest_size e.1.1 n
  have e2 := enc_length9 (n := (rest e.1.1 n).size) (by omega)
  have e3 := enc_length9 (tail_bound h1).1
  have e4 := enc_length9 (n := e.2.1.size) (by omega)
  unfold encE
  simp only [List.length_append, bytesOf_length]
  omega
def putB (l : List En) : Nat → Nat → List Int → List Int → List Int × List Int
  | 0, _, out, pl => (out, pl)
  | d + 1, i, out, pl => putB l d (i + 1) (out ++ encE (shAt l i) (l.getD i d0)) (if i % 4 = 0 then pl ++ fx out.length 4 else pl)
def finB (x : List Int × List Int) : List Int × Int × Unit := (x.1 ++ x.2 ++ fx (x.2.length / 4) 2, 0, ())
theorem shAt_le {l : List En} {i : Nat} (he : mayE (l.getD i d0) = true) : shAt l i ≤ (l.getD i d0).1.1.size ∧ shAt l i ≤ 64 := by
  obtain ⟨h1, h2, h3⟩ := mayE_true he
  have := (shr_le (bytesOf (l.getD (i - 1) d0).1.1) (bytesOf (l.getD i d0).1.1)).2
  rw [bytesOf_length] at this
  unfold shAt
  split <;> omega
theorem extract0 (s : ByteArray) : s.extract 0 s.size = rest s 0 := rfl
theorem l17 {q : Nat} (hq : 70 ≤ q) {inl : InlT} (m0 : Nat) {l : List En} (hlen : l.length ≤ 64) (hmay : ∀ i, i < l.length → mayE (l.getD i d0) = true) (d : Nat) : ∀ (i m : Nat) (out pl : List Int), i + d = l.length → d < m → out.length ≤ i * 612 → pl.length ≤ i * 4 →
    LP B (callN B q) inl 17 m [1, 1, 1, 0, 1] (s17_22 l out pl (i : Int)) (KA B (callN B q) inl 17 m0 [1, 1, 1, 0, 1] (FI B (callN B q) inl 17)) = (some (finB (putB l d i out pl)) : Option (List Int × Int × Unit)) := by
  induction d with
  | zero =>
    intro i m out pl hd hm ho hp
    obtain ⟨m, rfl⟩ : ∃ k, m = k + 1 := ⟨m - 1, by omega⟩
    rw [s17_22_l, bF (by omega), s17_22x35_k, if_pos (by omega)]
    have e1 : IntKind.i64.wrap ((pl.length : Int).tdiv 4) = ((pl.length / 4 : Nat) : Int) := w64 (x := ((pl.length / 4 : Nat) : Int)) (by omega) (by omega)
    rw [e1]
    refine bnd (s53 (by omega) (pl.length / 4) 2 (by omega) (by omega)) ?_
    rw [if_pos (by simp only [List.length_append, fx_length]; omega)]
    rfl
  | succ d ih =>
    intro i m out pl hd hm ho hp
    obtain ⟨m, rfl⟩ : ∃ k, m = k + 1 := ⟨m - 1, by omega⟩
    have hme := hmay i (by omega)
    obtain ⟨hk, hu, hv⟩ := mayE_true hme
    obtain ⟨ht1, ht2⟩ := tail_bound hk
    have e3 := enc_length9 ht1
    have e4 := enc_length9 (n := (l.getD i d0).2.1.size) (by omega)
    have hnext : ∀ (o p : List Int), o = out ++ encE (shAt l i) (l.getD i d0) → p = (if i % 4 = 0 then pl ++ fx out.length 4 else pl) → LP B (callN B q) inl 17 m [1, 1, 1, 0, 1] (s17_22 l o p (IntKind.i64.wrap ((i : Int) + 1))) (KA B (callN B q) inl 17 m0 [1, 1, 1, 0, 1] (FI B (callN B q) inl 17)) = (some (finB (putB l (d + 1) i out pl)) : Option (List Int × Int × Unit)) := by
      intro o p ho' hp'
      subst ho' hp'
      have hel := encE_length (shAt_le hme).2 hme
      have e1 : IntKind.i64.wrap ((i : Int) + 1) = ((i + 1 : Nat) : Int) := w64 (by omega) (by omega)
      rw [e1]
      refine ih (i + 1) m _ _ (by omega) (by omega) (by rw [List.length_append]; omega) ?_
      split
      · rw [List.length_append, fx_length]; omega
      · omega
    rw [s17_22_l, bT (by omega), if_pos (by omega), Int.toNat_natCast]
    have htm : (i : Int).tmod 4 = ((i % 4 : Nat) : Int) := rfl
    rw [htm]
    by_cases h4 : i % 4 = 0
    · have hb : (((i % 4 : Nat) : Int) == (0 : Int)) = true := by rw [h4]; rfl
      have hsh : shAt l i = 0 := by unfold shAt; rw [if_pos h4]
      have hrs := rest_size (l.getD i d0).1.1 0
      have e2 := enc_length9 (n := (rest (l.getD i d0).1.1 0).size) (by omega)
      have hbl := bytesOf_length (rest (l.getD i d0).1.1 0)
      have hbv := bytesOf_length (l.getD i d0).2.1
      have e0 : (enc 0).length = 1 := by rw [enc_lt (by omega)]; rfl
      rw [hb, cond_true]
      refine bnd (s53 (by omega) out.length 4 (by omega) (by omega)) ?_
      rw [if_pos (by rw [fx_length]; omega)]
      refine bnd (s55 (n := 0) (by omega) (by omega)) ?_
      rw [if_pos (by omega)]
      refine bnd (s56 (s := rest (l.getD i d0).1.1 0) (by omega) (by omega)) ?_
      rw [if_pos (by simp only [List.length_append]; omega)]
      refine bnd (s57 (by omega) (l.getD i d0).1 hk) ?_
      refine bnd (s55 (by omega) ht1) ?_
      rw [if_pos (by simp only [List.length_append]; omega)]
      refine bnd (s56 (s := (l.getD i d0).2.1) (by omega) (by omega)) ?_
      rw [if_pos (by simp only [List.length_append]; omega)]
      refine hnext _ _ ?_ (by rw [if_pos h4])
      rw [hsh]
      unfold encE
      simp only [List.append_assoc]
    · have hb : (((i % 4 : Nat) : Int) == (0 : Int)) = false := beq_eq_false_iff_ne.2 (by omega)
      have hsh : shAt l i = shr (bytesOf (l.getD (i - 1) d0).1.1) (bytesOf (l.getD i d0).1.1) := by unfold shAt; rw [if_neg h4]
      have hmp := hmay (i - 1) (by omega)
      obtain ⟨hkp, hup, _⟩ := mayE_true hmp
      have hsl := shAt_le hme
      have e0 := enc_length9 (n := shAt l i) (by omega)
      have hrs := rest_size (l.getD i d0).1.1 (shAt l i)
      have e2 := enc_length9 (n := (rest (l.getD i d0).1.1 (shAt l i)).size) (by omega)
      have hbl := bytesOf_length (rest (l.getD i d0).1.1 (shAt l i))
      have hbv := bytesOf_length (l.getD i d0).2.1
      have hw1 : IntKind.i64.wrap ((i : Int) - 1) = ((i - 1 : Nat) : Int) := by rw [w64 (by omega) (by omega)]; omega
      rw [hb, cond_false, hw1, if_pos (by omega), Int.toNat_natCast]
      refine bnd (s54 (l.getD (i - 1) d0).1.1 (l.getD i d0).1.1 (by omega) (by omega)) ?_
      rw [← hsh]
      refine bnd (s55 (n := shAt l i) (by omega) (by omega)) ?_
      rw [if_pos (by omega), if_pos ⟨Int.natCast_nonneg _, Int.ofNat_le.2 hsl.1⟩, Int.toNat_natCast]
      refine bnd (s56 (s := rest (l.getD i d0).1.1 (shAt l i)) (by omega) (by omega)) ?_
      rw [if_pos (by simp only [List.length_append]; omega)]
      refine bnd (s57 (by omega) (l.getD i d0).1 hk) ?_
      refine bnd (s55 (by omega) ht1) ?_
      rw [if_pos (by simp only [List.length_append]; omega)]
      refine bnd (s56 (s := (l.getD i d0).2.1) (by omega) (by omega)) ?_
      rw [if_pos (by simp only [List.length_append]; omega)]
      refine hnext _ _ ?_ (by rw [if_neg h4])
      unfold encE
      simp only [List.append_assoc]
/-- A block's bytes, or why there are none. -/
def putBlock (l : List En) : List Int × Int × Unit := if l.length = 0 ∨ rising l = false then ([], 1, ()) else if l.length > 64 then ([], 4, ()) else finB (putB l l.length 0 [] [])
theorem risA_may {l : List En} : ∀ (d i : Nat), risA l d i = true → ∀ j, i ≤ j → j < i + d → mayE (l.getD j d0) = true
  | 0, i, _, j, h1, h2 => by omega
  | d + 1, i, h, j, h1, h2 => by
    simp only [risA, Bool.and_eq_true] at h
    by_cases hj : j = i
    · subst hj; exact h.1.1
    · exact risA_may d (i + 1) h.2 j (by omega) (by omega)
theorem rising_may {l : List En} (h : rising l = true) : ∀ j, j < l.length → mayE (l.getD j d0) = true := fun j hj => risA_may l.length 0 h j (by omega) (by omega)
theorem s17 {k : Nat} {l : List En} (hlen : l.length ≤ 140737488351232) (hk : l.length + 80 ≤ k) : callN B k 17 [argAV (.sl EntryT) l] = (some (putBlock l) : Option (List Int × Int × Unit)) := by
  obtain ⟨k, rfl⟩ := Nat.exists_eq_add_of_le' (show 1 ≤ k by omega)
  refine (callS k 17 _).trans ((t17 (callN B k) (lvl B k).2 k l).trans ?_)
  unfold putBlock
  by_cases h0 : l.length = 0
  · have : ((l.length : Int) == (0 : Int)) = true := by rw [h0]; rfl
    rw [this]
    exact congrArg some (by rw [if_pos (.inl h0)])
  · have : ((l.length : Int) == (0 : Int)) = false := beq_eq_false_iff_ne.2 (by omega)
    rw [this, beq_self_eq_true, cond_true]
    refine bnd (s52 hlen (by omega)) ?_
    cases hr : rising l with
    | false => exact congrArg some (by rw [if_pos (.inr rfl)])
    | true =>
      rw [Bool.not_true, cond_false]
      by_cases h64 : l.length > 64
      · rw [bT (by omega)]
        exact congrArg some (by rw [if_neg (by simp [h0]), if_pos h64])
      · rw [bF (by omega)]
        refine (l17 (by omega) k (by omega) (rising_may hr) l.length 0 k [] [] (by omega) (by omega) (by simp) (by simp)).trans ?_
        exact congrArg some (by rw [if_neg (by simp [h0]), if_neg h64])
theorem l37 {q : Nat} (hq : 70 ≤ q) {inl : InlT} (m0 : Nat) {l : List En} (hlen : l.length ≤ 64) (hmay : ∀ i, i < l.length → mayE (l.getD i d0) = true) (d : Nat) : ∀ (i m c : Nat) (out pl : List Int), i + d = l.length → d < m → out.length ≤ i * 612 → pl.length = c * 4 → c ≤ i →
    LP B (callN B q) inl 37 m [1, 1, 1, 1, 0, 1] (s37_33 l out pl (c : Int) (i : Int)) (KA B (callN B q) inl 37 m0 [1, 1, 1, 1, 0, 1] (FI B (callN B q) inl 37)) = (some (finB (putB l d i out pl)) : Option (List Int × Int × Unit)) := by
  induction d with
  | zero =>
    intro i m c out pl hd hm ho hp hc
    obtain ⟨m, rfl⟩ : ∃ k, m = k + 1 := ⟨m - 1, by omega⟩
    rw [s37_33_l, bF (by omega), s37_33x44_k, if_pos (by omega)]
    refine bnd (s71 (by omega) c 2 (by omega) (by omega) (by omega)) ?_
    rw [if_pos (by simp only [List.length_append, fx_length]; omega)]
    have : c = pl.length / 4 := by omega
    rw [this]
    rfl
  | succ d ih =>
    intro i m c out pl hd hm ho hp hc
    obtain ⟨m, rfl⟩ : ∃ k, m = k + 1 := ⟨m - 1, by omega⟩
    have hme := hmay i (by omega)
    obtain ⟨hk, hu, hv⟩ := mayE_true hme
    obtain ⟨ht1, ht2⟩ := tail_bound hk
    obtain ⟨_, hb2, hb3, hb4⟩ := mayB_true hk
    have e3 := enc_length9 ht1
    have e4 := enc_length9 (n := (l.getD i d0).2.1.size) (by omega)
    have ht : IntKind.i64.wrap (IntKind.i64.wrap (IntKind.i64.wrap ((2 : Int) * (l.getD i d0).1.2.1) + (l.getD i d0).1.2.2.1) - (1 : Int)) = ((tailN (l.getD i d0).1 : Nat) : Int) := by
      rw [w64 (x := 2 * (l.getD i d0).1.2.1) (by omega) (by omega), w64 (x := 2 * (l.getD i d0).1.2.1 + (l.getD i d0).1.2.2.1) (by omega) (by omega), w64 (by omega) (by omega), ht2]
    have hnext : ∀ (c' : Nat) (o p : List Int), o = out ++ encE (shAt l i) (l.getD i d0) → p = (if i % 4 = 0 then pl ++ fx out.length 4 else pl) → c' = (if i % 4 = 0 then c + 1 else c) → LP B (callN B q) inl 37 m [1, 1, 1, 1, 0, 1] (s37_33 l o p (c' : Int) (IntKind.i64.wrap ((i : Int) + 1))) (KA B (callN B q) inl 37 m0 [1, 1, 1, 1, 0, 1] (FI B (callN B q) inl 37)) = (some (finB (putB l (d + 1) i out pl)) : Option (List Int × Int × Unit)) := by
      intro c' o p ho' hp' hc'
      subst ho' hp' hc'
      have hel := encE_length (shAt_le hme).2 hme
      have e1 : IntKind.i64.wrap ((i : Int) + 1) = ((i + 1 : Nat) : Int) := w64 (by omega) (by omega)
      rw [e1]
      refine ih (i + 1) m _ _ _ (by omega) (by omega) (by rw [List.length_append]; omega) ?_ ?_
      · split
        · rw [List.length_append, fx_length]; omega
        · omega
      · split <;> omega
    rw [s37_33_l, bT (by omega), if_pos (by omega), Int.toNat_natCast]
    have htm : (i : Int).tmod 4 = ((i % 4 : Nat) : Int) := rfl
    rw [htm]
    by_cases h4 : i % 4 = 0
    · have hb : (((i % 4 : Nat) : Int) == (0 : Int)) = true := by rw [h4]; rfl
      have hsh : shAt l i = 0 := by unfold shAt; rw [if_pos h4]
      have hrs := rest_size (l.getD i d0).1.1 0
      have e2 := enc_length9 (n := (rest (l.getD i d0).1.1 0).size) (by omega)
      have hbl := bytesOf_length (rest (l.getD i d0).1.1 0)
      have hbv := bytesOf_length (l.getD i d0).2.1
      have e0 : (enc 0).length = 1 := by rw [enc_lt (by omega)]; rfl
      rw [hb, cond_true]
      refine bnd (s71 (by omega) out.length 4 (by omega) (by omega) (by omega)) ?_
      rw [if_pos (by rw [fx_length]; omega)]
      refine bnd (s73 (n := 0) (by omega) (by omega)) ?_
      rw [if_pos (by omega)]
      refine bnd (s74 (s := rest (l.getD i d0).1.1 0) (by omega) (by omega)) ?_
      rw [if_pos (by simp only [List.length_append]; omega), ht]
      refine bnd (s73 (by omega) ht1) ?_
      rw [if_pos (by simp only [List.length_append]; omega), if_pos (by omega)]
      refine bnd (s74 (s := (l.getD i d0).2.1) (by omega) (by omega)) ?_
      rw [if_pos (by simp only [List.length_append]; omega)]
      have hc1 : IntKind.i64.wrap ((c : Int) + 1) = ((c + 1 : Nat) : Int) := w64 (by omega) (by omega)
      rw [hc1]
      refine hnext (c + 1) _ _ ?_ (by rw [if_pos h4]) (by rw [if_pos h4])
      rw [hsh]
      unfold encE
      simp only [List.append_assoc]
    · have hb : (((i % 4 : Nat) : Int) == (0 : Int)) = false := beq_eq_false_iff_ne.2 (by omega)
      have hsh : shAt l i = shr (bytesOf (l.getD (i - 1) d0).1.1) (bytesOf (l.getD i d0).1.1) := by unfold shAt; rw [if_neg h4]
      have hmp := hmay (i - 1) (by omega)
      obtain ⟨hkp, hup, _⟩ := mayE_true hmp
      have hsl := shAt_le hme
      have e0 := enc_length9 (n := shAt l i) (by omega)
      have hrs := rest_size (l.getD i d0).1.1 (shAt l i)
      have e2 := enc_length9 (n := (rest (l.getD i d0).1.1 (shAt l i)).size) (by omega)
      have hbl := bytesOf_length (rest (l.getD i d0).1.1 (shAt l i))
      have hbv := bytesOf_length (l.getD i d0).2.1
      have hw1 : IntKind.i64.wrap ((i : Int) - 1) = ((i - 1 : Nat) : Int) := by rw [w64 (by omega) (by omega)]; omega
      rw [hb, cond_false, hw1, if_pos (by omega), Int.toNat_natCast]
      refine bnd (s72 (l.getD i d0).1.1 (l.getD (i - 1) d0).1.1 (by omega) (by omega)) ?_
      rw [shr_comm, ← hsh]
      refine bnd (s73 (n := shAt l i) (by omega) (by omega)) ?_
      rw [if_pos (by omega), if_pos ⟨Int.natCast_nonneg _, Int.ofNat_le.2 hsl.1⟩, Int.toNat_natCast]
      refine bnd (s74 (s := rest (l.getD i d0).1.1 (shAt l i)) (by omega) (by omega)) ?_
      rw [if_pos (by simp only [List.length_append]; omega), ht]
      refine bnd (s73 (by omega) ht1) ?_
      rw [if_pos (by simp only [List.length_append]; omega), if_pos (by omega)]
      refine bnd (s74 (s := (l.getD i d0).2.1) (by omega) (by omega)) ?_
      rw [if_pos (by simp only [List.length_append]; omega)]
      refine hnext c _ _ ?_ (by rw [if_neg h4]) (by rw [if_neg h4])
      unfold encE
      simp only [List.append_assoc]
theorem s37 {k : Nat} {l : List En} (hlen : l.length ≤ 140737488351232) (hk : l.length + 80 ≤ k) : callN B k 37 [argAV (.sl EntryT) l] = (some (putBlock l) : Option (List Int × Int × Unit)) := by
  obtain ⟨k, rfl⟩ := Nat.exists_eq_add_of_le' (show 1 ≤ k by omega)
  refine (callS k 37 _).trans ((t37 (callN B k) (lvl B k).2 k l).trans ?_)
  unfold putBlock
  refine bnd (s70 hlen (by omega)) ?_
  cases hr : rising l with
  | false => exact congrArg some (by rw [if_pos (.inr rfl)])
  | true =>
    rw [Bool.not_true, beq_self_eq_true, cond_true]
    by_cases h0 : l.length = 0
    · have : ((l.length : Int) == (0 : Int)) = true := by rw [h0]; rfl
      rw [this]
      exact congrArg some (by rw [if_pos (.inl h0)])
    · have : ((l.length : Int) == (0 : Int)) = false := beq_eq_false_iff_ne.2 (by omega)
      rw [this, cond_false]
      by_cases h64 : l.length > 64
      · rw [bT (by omega)]
        exact congrArg some (by rw [if_neg (by simp [h0]), if_pos h64])
      · rw [bF (by omega)]
        refine (l37 (by omega) k (by omega) (rising_may hr) l.length 0 k 0 [] [] (by omega) (by omega) (by simp) (by simp) (by omega)).trans ?_
        exact congrArg some (by rw [if_neg (by simp [h0]), if_neg h64])
end Go.Eng.Bk
