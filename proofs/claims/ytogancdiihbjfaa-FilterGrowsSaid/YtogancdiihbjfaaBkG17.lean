/- FilterGrows' function answers true. -/
import Derived.Test.YtogancdiihbjfaaBkG16
namespace Go.Eng.Bk
open Go Go.Proofs Go.Eng
set_option linter.unusedVariables false
set_option linter.unusedSimpArgs false
theorem l5_12 {call : CallT B} {inl : InlT} (m0 : Nat) (more : ByteArray) {f g : List Int} (hl : f.length = g.length) (hs : f.length ≤ 100000000) (r : Option Bool)
    (hd : ∀ i, i < f.length → (i < f.length - 1 → (IntKind.u8.wrap (((BitVec.ofInt IntKind.u8.bits (f.getD i 0) &&& ~~~BitVec.ofInt IntKind.u8.bits (g.getD i 0)).toNat : Nat) : Int) != (0 : Int)) = false) ∧ (i = f.length - 1 → f.getD i 0 = g.getD i 0))
    (hK : (KA B call inl 5 m0 [1, 1, 1, 1, 1, 1, 1, 1, 1, 0, 1] (FI B call inl 5)) (.exit 2) (s5_12x14 more g) = r) (d : Nat) : ∀ (i m : Nat), i + d = f.length → d < m →
    LP B call inl 5 m [1, 1, 1, 1, 1, 1, 1, 1, 1, 0, 1] (s5_12 more f g (i : Int)) (KA B call inl 5 m0 [1, 1, 1, 1, 1, 1, 1, 1, 1, 0, 1] (FI B call inl 5)) = r := by
  induction d with
  | zero =>
    intro i m hd hm
    obtain ⟨m, rfl⟩ : ∃ k, m = k + 1 := ⟨m - 1, by omega⟩
    rw [s5_12_l, bF (by omega)]
    exact hK
  | succ d ih =>
    intro i m hd2 hm
    obtain ⟨m, rfl⟩ : ∃ k, m = k + 1 := ⟨m - 1, by omega⟩
    obtain ⟨q1, q2⟩ := hd i (by omega)
    have hw : IntKind.i64.wrap ((f.length : Int) - 1) = (f.length : Int) - 1 := w64 (by omega) (by omega)
    rw [s5_12_l, bT (by omega), hw, Int.toNat_natCast, w64 (x := (i : Int) + 1) (by omega) (by omega)]
    by_cases hi : i < f.length - 1
    · rw [decide_eq_true (by omega), beq_self_eq_true, cond_true, if_pos (by omega), if_pos (by omega), q1 hi, beq_self_eq_true, cond_true]
      rw [show ((i : Int) == (f.length : Int) - 1) = false from beq_eq_false_iff_ne.2 (by omega), show (false == true) = false from rfl, cond_false]
      exact ih (i + 1) m (by omega) (by omega)
    · rw [decide_eq_false (by omega), show (false == true) = false from rfl, cond_false]
      rw [show ((i : Int) == (f.length : Int) - 1) = true from beq_iff_eq.2 (by omega), beq_self_eq_true, cond_true, if_pos (by omega), if_pos (by omega), q2 (by omega), bne_self_eq_false, cond_false]
      exact ih (i + 1) m (by omega) (by omega)
theorem l5_4 {call : CallT B} {inl : InlT} (m0 : Nat) {keys : List ByteArray} (more : ByteArray) (x : Nat) (hn : keys.length ≤ 100) (r : Option Bool)
    (hK : (KA B call inl 5 m0 [1, 1, 1, 0, 1] (FI B call inl 5)) (.exit 0) (s5_4x5 keys more x keys.reverse) = r) (d : Nat) : ∀ (m : Nat), d ≤ keys.length → d < m →
    LP B call inl 5 m [1, 1, 1, 0, 1] (s5_4 keys more x (keys.drop d).reverse ((d : Int) - 1)) (KA B call inl 5 m0 [1, 1, 1, 0, 1] (FI B call inl 5)) = r := by
  induction d with
  | zero =>
    intro m hd hm
    obtain ⟨m, rfl⟩ : ∃ k, m = k + 1 := ⟨m - 1, by omega⟩
    rw [s5_4_l, bF (by omega)]
    exact hK
  | succ d ih =>
    intro m hd hm
    obtain ⟨m, rfl⟩ : ∃ k, m = k + 1 := ⟨m - 1, by omega⟩
    have e : ((d + 1 : Nat) : Int) - 1 = (d : Int) := by omega
    rw [e, s5_4_l, bT (by omega), if_pos (by omega), if_pos (by rw [List.length_reverse, List.length_drop]; simp only [List.length_cons, List.length_nil]; omega), Int.toNat_natCast, w64 (x := (d : Int) - 1) (by omega) (by omega)]
    have e2 : (keys.drop (d + 1)).reverse ++ [keys.getD d (ByteArray.mk #[])] = (keys.drop d).reverse := by
      have : keys.drop d = keys.getD d (ByteArray.mk #[]) :: keys.drop (d + 1) := by
        rw [getD_lt' (show d < keys.length by omega)]
        exact List.drop_eq_getElem_cons (by omega)
      rw [this, List.reverse_cons]
    rw [e2]
    exact ih m (by omega) (by omega)
theorem filt_1025 {keys : List ByteArray} (x : Nat) (hn : keys.length ≤ 100) : (filt keys x).length ≤ 1025 := by
  by_cases h : probes x = 0
  · unfold filt
    rw [if_pos h]
    exact Nat.zero_le _
  · have hM := bitsM_range (bitsK_ok h hn)
    rw [filt_len h]
    omega
theorem s5 {k : Nat} (hk : 10000 ≤ k) (keys : List ByteArray) (more : ByteArray) (x : Nat) : callN B k 5 [argAV (.sl .str) keys, argAV .str more, argAV (.flt .f64) x] = (some true : Option Bool) := by
  obtain ⟨k, rfl⟩ := Nat.exists_eq_add_of_le' (show 1 ≤ k by omega)
  refine (callS k 5 _).trans ((t5 (callN B k) (lvl B k).2 k keys more x).trans ?_)
  have aw : (((callN B k 21 []).bind fun (v0 : Bool) => some (v0)) : Option Bool) = some true := bnd (s21 (by omega)) rfl
  obtain ⟨r, hr, hr2⟩ := s20 (k := k) keys (by omega)
  refine bnd hr ?_
  cases r with
  | true => exact aw
  | false =>
  obtain ⟨hl, hks⟩ := hr2 rfl
  rw [beq_self_eq_true, cond_true]
  by_cases c2 : (more.size : Int) > 300
  · rw [decide_eq_true c2]; exact aw
  rw [decide_eq_false c2, beq_self_eq_true, cond_true]
  by_cases c3 : keys.length = 0
  · rw [show ((keys.length : Int) == 0) = true from beq_iff_eq.2 (by omega)]; exact aw
  rw [show ((keys.length : Int) == 0) = false from beq_eq_false_iff_ne.2 (by omega), cond_false]
  have hks' : ∀ s ∈ keys, s.size ≤ 1000 := fun s hs => Nat.le_trans (hks s hs) (by omega)
  have hkr : ∀ s ∈ keys.reverse, s.size ≤ 1000 := fun s hs => hks' s (List.mem_reverse.1 hs)
  have hkm : ∀ s ∈ keys.reverse ++ [more], s.size ≤ 1000 := fun s hs => by
    rcases List.mem_append.1 hs with h | h
    · exact hkr s h
    · rw [List.mem_singleton.1 h]; omega
  have hL : (keys.reverse ++ [more]).length = keys.length + 1 := by rw [List.length_append, List.length_reverse]; rfl
  rw [w64 (by omega) (by omega)]
  have := l5_4 (call := callN B k) (inl := (lvl B k).2) k (keys := keys) more x (by omega) (some true) ?_ keys.length k (by omega) (by omega)
  · rw [List.drop_length] at this
    exact this
  rw [s5_4x5_k]
  refine bnd (s24 (by omega) hks' (by omega)) ?_
  rw [if_pos (by rw [List.length_reverse]; simp only [List.length_cons, List.length_nil]; omega)]
  refine bnd (s24 (by rw [hL]; omega) hkm (by omega)) ?_
  refine bnd (s24 (by rw [List.length_reverse]; omega) hkr (by omega)) ?_
  rw [filt_rev keys x (by omega), beq_self_eq_true, show (!true) = false from rfl, beq_self_eq_true, cond_true]
  have hmay : may (filt (keys.reverse ++ [more]) x) more = true := by
    have := filt_may (keys := keys.reverse ++ [more]) (x := x) (u := keys.length) (by omega) (by omega)
    have e : (keys.reverse ++ [more]).getD keys.length noS = more := by
      rw [List.getD_eq_getElem?_getD, List.getElem?_append_right (by rw [List.length_reverse]; omega), List.length_reverse, Nat.sub_self]
      rfl
    rw [e] at this
    exact this
  have hle := filt_len_more (keys := keys) (more := more) (x := x) (by omega)
  have hmore := fun (hh : (filt keys x).length = (filt (keys.reverse ++ [more]) x).length) (i : Nat) => filt_more (keys := keys) (more := more) (x := x) (i := i) (by omega) hh
  have hsm := filt_1025 (keys := keys.reverse ++ [more]) x (by omega)
  have hby := filt_bytes (keys.reverse ++ [more]) x
  have hemp : (filt keys x).length = 0 → (callN B k 28 [(.v (.flt .f64) (x))] : Option Bool) = some true ∨ ((callN B k 28 [(.v (.flt .f64) (x))] : Option Bool) = some false ∧ FF.order x one64 = some .lt) := by
    intro h
    have h0 : probes x = 0 := by
      by_cases h0 : probes x = 0
      · exact h0
      · rw [filt_len h0] at h; omega
    by_cases h1 : FF.order x x = some .eq
    · by_cases h2 : FF.order x one64 = some .lt
      · refine .inr ⟨(s28 (by omega) x).trans ?_, h2⟩
        rw [show FloatKind.f64.format.order x x = some .eq from h1]
        rfl
      · obtain ⟨p, hp, _, hp1, _⟩ := probes_yes h1 h2
        omega
    · refine .inl ((s28 (by omega) x).trans ?_)
      rw [bne_iff_ne.2 (show FloatKind.f64.format.order x x ≠ some .eq from h1)]
  generalize filt keys x = f at hle hmore hemp
  generalize hg : filt (keys.reverse ++ [more]) x = g at *
  have fin : (bif (f.length : Int) != (g.length : Int) then (bif decide ((g.length : Int) > (f.length : Int)) == true then ((callN B k 21 []).bind fun (v17 : Bool) => some (v17)) else (some (false))) else (LP B (callN B k) (lvl B k).2 5 k [1, 1, 1, 1, 1, 1, 1, 1, 1, 0, 1] (s5_12 more f g ((0 : Int))) (KA B (callN B k) (lvl B k).2 5 k [1, 1, 1, 1, 1, 1, 1, 1, 1, 0, 1] (FI B (callN B k) (lvl B k).2 5))) : Option Bool) = some true := by
    by_cases he : f.length = g.length
    · rw [he, bne_self_eq_false, cond_false]
      refine l5_12 k more he (by omega) (some true) (fun i hi => hmore he i hi) ?_ f.length 0 k (by omega) (by omega)
      rw [s5_12x14_k]
      refine bnd (s26 hby (by omega) (by omega) (by omega)) ?_
      rw [hmay, beq_self_eq_true, cond_true]
      exact aw
    · rw [bne_iff_ne.2 (show (f.length : Int) ≠ (g.length : Int) by omega), cond_true, decide_eq_true (by omega), beq_self_eq_true, cond_true]
      exact aw
  by_cases hz : f.length = 0
  · rw [show ((f.length : Int) == 0) = true from beq_iff_eq.2 (by omega), beq_self_eq_true, cond_true]
    rcases hemp hz with h | ⟨h, h2⟩
    · refine bnd h ?_
      rw [show (true == false) = false from rfl, cond_false]
      exact fin
    · refine bnd h ?_
      rw [beq_self_eq_true, cond_true, show (Go.FloatKind.f64.format.order x (4607182418800017408 : Nat) == Option.some Ordering.lt) = true from beq_iff_eq.2 h2, show (!true) = false from rfl, cond_false]
      exact fin
  · rw [show ((f.length : Int) == 0) = false from beq_eq_false_iff_ne.2 (by omega), show (false == true) = false from rfl, cond_false]
    exact fin
end Go.Eng.Bk
