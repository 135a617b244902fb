/- What the document's GetBlock answers, and what Seek does; BlockAll's function answers true. -/
import Derived.Test.YtogancdiihbjfaaBkS9
namespace Go.Eng.Bk
open Go Go.Proofs Go.Eng
set_option linter.unusedVariables false
set_option linter.unusedSimpArgs false
theorem l38 {q : Nat} (hq : 50000 ≤ q) {inl : InlT} (m0 : Nat) {b : List Int} (hb : Bytes b) (hlen : b.length ≤ 1000000000) {v0 : Int × Bool × Unit} (c : Nat) (hv : v0.1 = (c : Int)) (hc : 4 * c + 2 ≤ b.length) (d : Nat) : ∀ (p m : Nat) (out : List En) (ahead : ByteArray),
    b.length + 1 ≤ d + p + (2 + 4 * c) → p + 2 + 4 * c ≤ b.length → d ≤ m → out.length ≤ 65 → ahead.size ≤ p →
    LP B (callN B q) inl 38 m [1, 1, 1, 1, 1, 1, 1, 0] (s38_12 b v0 out (p : Int) ahead) (KA B (callN B q) inl 38 m0 [1, 1, 1, 1, 1, 1, 1, 0] (FI B (callN B q) inl 38)) = (some (getRes b (getLoop (b.take (b.length - 2 - 4 * c)) d p ahead out)) : Option (List En × Bool × Unit)) := by
  have hw1 : IntKind.i64.wrap ((b.length : Int) - 2) = (b.length : Int) - 2 := w64 (by omega) (by omega)
  have hw2 : IntKind.i64.wrap ((4 : Int) * v0.1) = ((4 * c : Nat) : Int) := by rw [hv, w64 (by omega) (by omega)]; omega
  have hend : IntKind.i64.wrap (IntKind.i64.wrap ((b.length : Int) - 2) - IntKind.i64.wrap ((4 : Int) * v0.1)) = ((b.length - 2 - 4 * c : Nat) : Int) := by
    rw [hw1, hw2, w64 (by omega) (by omega)]; omega
  have hsub : List.drop 0 (List.take (IntKind.i64.wrap (IntKind.i64.wrap ((b.length : Int) - 2) - IntKind.i64.wrap ((4 : Int) * v0.1))).toNat b) = b.take (b.length - 2 - 4 * c) := by
    rw [hend, Int.toNat_natCast, List.drop_zero]
  have hsl : (b.take (b.length - 2 - 4 * c)).length = b.length - 2 - 4 * c := by rw [List.length_take]; omega
  have fin : ∀ (m : Nat) (out : List En), out.length ≤ 65 → KA B (callN B q) inl 38 m [1, 1, 1, 1, 1, 1, 1, 0] (FI B (callN B q) inl 38) (.exit 0) (s38_12x18 b out) = (some (getRes b (some out)) : Option (List En × Bool × Unit)) := by
    intro m out ho
    rw [s38_12x18_k]
    refine bnd (s37 (by omega) (by omega)) ?_
    unfold getRes
    simp only
    by_cases he : (putBlock out).2.1 = 0
    · have : ((putBlock out).2.1 != (0 : Int)) = false := by simp [he]
      rw [this, beq_self_eq_true, cond_true]
      by_cases hbb : (putBlock out).1 = b
      · rw [hbb, beq_self_eq_true, if_pos ⟨he, rfl⟩]
        rfl
      · have : ((strOf (putBlock out).1).toList == (strOf b).toList) = false := by
          rw [beq_eq_false_iff_ne]
          exact fun h => hbb (strOf_inj (putBlock_bytes _) hb (ba_ext h))
        rw [this, if_neg (fun h => hbb h.2)]
        rfl
    · have : ((putBlock out).2.1 != (0 : Int)) = true := by simpa using he
      rw [this, if_neg (fun h => he h.1)]
      rfl
  induction d with
  | zero => intro p m out ahead h1 h2; omega
  | succ d ih =>
    intro p m out ahead h1 h2 hm ho ha
    obtain ⟨m, rfl⟩ : ∃ k, m = k + 1 := ⟨m - 1, by omega⟩
    rw [s38_12_l, hend]
    simp only [getLoop]
    rw [hsl]
    by_cases hp : p < b.length - 2 - 4 * c
    · rw [decide_eq_true (show (p : Int) < ((b.length - 2 - 4 * c : Nat) : Int) by omega), beq_self_eq_true, cond_true, if_pos hp]
      by_cases h64 : out.length ≤ 64
      · rw [bT (by omega), Int.toNat_natCast, List.drop_zero]
        have hle : (0 : Int) ≤ ((b.length - 2 - 4 * c : Nat) : Int) ∧ ((b.length - 2 - 4 * c : Nat) : Int) ≤ (b.length : Int) := by omega
        simp only [if_pos hle]
        have hbL := hb.take (b.length - 2 - 4 * c)
        have ih' := ih
        have hec := entry_cases hbL p ahead
        have hts1 := fun a => getT_size hbL a
        rw [hsl] at hec
        have hLl : (b.take (b.length - 2 - 4 * c)).length ≤ 140737488351232 := by omega
        generalize b.take (b.length - 2 - 4 * c) = L at hbL hec hts1 ih' hsl hLl ⊢
        refine bnd (s76 (by omega) hbL hLl (p : Int)) ?_
        refine bnd (s77 (by omega) hbL hLl (getN L (p : Int)).2.1) ?_
        refine bnd (s76 (by omega) hbL hLl (getT L (getN L (p : Int)).2.1).2.1) ?_
        refine bnd (s77 (by omega) hbL hLl (getN L (getT L (getN L (p : Int)).2.1).2.1).2.1) ?_
        have no : ∀ (m : Nat) {c : Prop}, ¬ (entryM L (p : Int) ahead).2.2.1 = true → KA B (callN B q) inl 38 m0 [1, 1, 1, 1, 1, 1, 1, 0] (FI B (callN B q) inl 38) .ret (s38_12x17 b out) = (some (getRes b (if (entryM L (p : Int) ahead).2.2.1 = true ∧ out.length ≤ 64 then getLoop L d (entryM L (p : Int) ahead).2.1.toNat (entryM L (p : Int) ahead).1.1.1 (out ++ [(entryM L (p : Int) ahead).1]) else none)) : Option (List En × Bool × Unit)) := by
          intro m c h
          rw [if_neg (fun hh => h hh.1), s38_12x17_k]
          rfl
        have nc : ∀ {c : Prop}, ¬ ((getN L (p : Int)).2.2 = true ∧ (getN L (p : Int)).1 ≤ (ahead.size : Int) ∧ (getT L (getN L (p : Int)).2.1).2.2 = true ∧ (getN L (getT L (getN L (p : Int)).2.1).2.1).2.2 = true) → ¬ (entryM L (p : Int) ahead).2.2.1 = true := by
          intro c h
          unfold entryM
          rw [if_neg h]
          exact fun h => by cases h
        change (bif (!(getN L (p : Int)).2.2) == false then (bif (!(getT L (getN L (p : Int)).2.1).2.2) == false then (bif (!(getN L (getT L (getN L (p : Int)).2.1).2.1).2.2) == false then (bif (!(getT L (getN L (getT L (getN L (p : Int)).2.1).2.1).2.1).2.2) == false then (bif decide ((getN L (p : Int)).1 > (ahead.size : Int)) then _ else _) else _) else _) else _) else _) = _
        cases g1 : (getN L (p : Int)).2.2 with
        | false => rw [Bool.not_false, show (true == false) = false from rfl, cond_false]; exact no m (c := True) (nc (c := True) (fun h => by rw [g1] at h; cases h.1))
        | true =>
        rw [Bool.not_true, beq_self_eq_true, cond_true]
        cases g2 : (getT L (getN L (p : Int)).2.1).2.2 with
        | false => rw [Bool.not_false, show (true == false) = false from rfl, cond_false]; exact no m (c := True) (nc (c := True) (fun h => by rw [g2] at h; cases h.2.2.1))
        | true =>
        rw [Bool.not_true, beq_self_eq_true, cond_true]
        cases g3' : (getN L (getT L (getN L (p : Int)).2.1).2.1).2.2 with
        | false => rw [Bool.not_false, show (true == false) = false from rfl, cond_false]; exact no m (c := True) (nc (c := True) (fun h => by rw [g3'] at h; cases h.2.2.2))
        | true =>
        rw [Bool.not_true, beq_self_eq_true, cond_true]
        cases g4 : (getT L (getN L (getT L (getN L (p : Int)).2.1).2.1).2.1).2.2 with
        | false =>
          rw [Bool.not_false, show (true == false) = false from rfl, cond_false]
          refine no m (c := True) ?_
          unfold entryM
          split
          · show ¬ (getT L (getN L (getT L (getN L (p : Int)).2.1).2.1).2.1).2.2 = true
            rw [g4]; exact fun h => by cases h
          · exact fun h => by cases h
        | true =>
        rw [Bool.not_true, beq_self_eq_true, cond_true]
        by_cases h2' : (getN L (p : Int)).1 > (ahead.size : Int)
        · rw [bT h2']
          exact no m (c := True) (nc (c := True) (fun h => by have := h.2.1; omega))
        rw [bF h2']
        obtain ⟨n, hn, hn2⟩ := getN_num hbL (p : Int)
        obtain ⟨t, ht, ht2⟩ := getN_num hbL (getT L (getN L (p : Int)).2.1).2.1
        have hsz := hts1 (getN L (p : Int)).2.1
        have hE : entryM L (p : Int) ahead = (((ahead.extract 0 (getN L (p : Int)).1.toNat ++ (getT L (getN L (p : Int)).2.1).1, ((t / 2 : Nat) : Int), ((t % 2 + 1 : Nat) : Int), ()), (getT L (getN L (getT L (getN L (p : Int)).2.1).2.1).2.1).1, ()), (getT L (getN L (getT L (getN L (p : Int)).2.1).2.1).2.1).2.1, true, ()) := by
          unfold entryM
          rw [if_pos ⟨g1, by omega, g2, g3'⟩, ht, Int.toNat_natCast, g4]
        rw [hE] at hec ⊢
        rcases hec with hec | ⟨e, q', hee, hq1, hq2, hes⟩
        · cases hec
        have hq' : (getT L (getN L (getT L (getN L (p : Int)).2.1).2.1).2.1).2.1 = (q' : Int) := congrArg (fun x => x.2.1) hee
        have hes' : (ahead.extract 0 (getN L (p : Int)).1.toNat ++ (getT L (getN L (p : Int)).2.1).1).size ≤ ahead.size + (q' - p) := by
          have : e.1.1 = ahead.extract 0 (getN L (p : Int)).1.toNat ++ (getT L (getN L (p : Int)).2.1).1 := congrArg (fun x => x.1.1.1) hee.symm
          rw [← this]; exact hes
        have e1 : IntKind.i64.wrap (Int.tdiv (g3 (getN L (getT L (getN L (p : Int)).2.1).2.1)).1 2) = ((t / 2 : Nat) : Int) := by
          show IntKind.i64.wrap (Int.tdiv (getN L (getT L (getN L (p : Int)).2.1).2.1).1 2) = _
          rw [ht]
          show IntKind.i64.wrap ((t / 2 : Nat) : Int) = _
          exact w64 (by omega) (by omega)
        have e2 : IntKind.i64.wrap (1 + Int.tmod (g3 (getN L (getT L (getN L (p : Int)).2.1).2.1)).1 2) = ((t % 2 + 1 : Nat) : Int) := by
          show IntKind.i64.wrap (1 + Int.tmod (getN L (getT L (getN L (p : Int)).2.1).2.1).1 2) = _
          rw [ht]
          show IntKind.i64.wrap (1 + ((t % 2 : Nat) : Int)) = _
          rw [w64 (by omega) (by omega)]; omega
        rw [e1, e2]
        change (if (0 : Int) ≤ (getN L (p : Int)).1 ∧ (getN L (p : Int)).1 ≤ (ahead.size : Int) then (if (((ahead.extract 0 (Int.toNat (getN L (p : Int)).1)).size + (getT L (getN L (p : Int)).2.1).1.size : Nat) : Int) > IntKind.i64.max then none else _) else none) = _
        rw [if_pos (by omega), if_neg (by rw [i64max, ByteArray.size_extract]; omega), if_pos (by simp only [List.length_cons, List.length_nil]; omega), if_pos ⟨rfl, h64⟩]
        simp only [hq', Int.toNat_natCast]
        have := ih' q' m (out ++ [((ahead.extract 0 (getN L (p : Int)).1.toNat ++ (getT L (getN L (p : Int)).2.1).1, ((t / 2 : Nat) : Int), ((t % 2 + 1 : Nat) : Int), ()), (getT L (getN L (getT L (getN L (p : Int)).2.1).2.1).2.1).1, ())]) (ahead.extract 0 (getN L (p : Int)).1.toNat ++ (getT L (getN L (p : Int)).2.1).1) (by omega) (by omega) (by omega) (by simp; omega) (by omega)
        rw [← hq'] at this ⊢
        exact this
      · rw [bF (by omega), if_neg (fun h => h64 h.2), fin m0 out ho]
        refine congrArg some ?_
        unfold getRes
        simp only
        rw [if_neg (fun h => h64 (putBlock_zero h.1).2.2)]
    · rw [decide_eq_false (show ¬ (p : Int) < ((b.length - 2 - 4 * c : Nat) : Int) by omega), if_neg hp]
      rw [show (false == true) = false from rfl, cond_false]
      exact fin m0 out ho
end Go.Eng.Bk
