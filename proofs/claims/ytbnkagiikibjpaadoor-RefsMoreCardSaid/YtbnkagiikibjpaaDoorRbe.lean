/- Rb, part 5: several texts of mine, laid together. -/
import Derived.Test.YtbnkagiikibjpaaDoorRbd
import Derived.Deep.RegionWith
set_option linter.unusedVariables false
set_option linter.unusedSimpArgs false
/- refs: versions by numbers: what an edit makes, tables by numbers, the version. -/
namespace Go.Eng.Bk
open Go Go.Proofs Go.Eng
set_option linter.unusedVariables false
set_option linter.unusedSimpArgs false
set_option maxRecDepth 100000
/-- The edit that adds one table. -/
def addE (ep nx : Int) (t : Tab) : Ed := (ep, nx, 0, 0, [t], [], ())
theorem s44 {k : Nat} (ep nx : Int) (t : Tab) (hk : 10 ≤ k) : Ans (callN B k 44 [argAV EdT (addE ep nx t)] : Option Bool) (fun _ => True) := by
  obtain ⟨k, rfl⟩ := Nat.exists_eq_add_of_le' (show 3 ≤ k by omega)
  refine Ans.of ((callS (k + 2) 44 _).trans (t44 (callN B (k + 2)) (lvl B (k + 2)).2 (k + 2) (addE ep nx t))) ?_
  have hf : Ans (some false : Option Bool) (fun _ => True) := Ans.val trivial
  refine Ans.bind (s31 (by omega) _) (Ans.cond (fun _ => ?_) (fun _ => hf))
  refine Ans.bind (s31 (by omega) _) (Ans.cond (fun hm => ?_) (fun _ => hf))
  refine Ans.bind (s31 (by omega) _) (Ans.cond (fun _ => ?_) (fun _ => hf))
  refine Ans.bind (s31 (by omega) _) (Ans.cond (fun _ => ?_) (fun _ => hf))
  refine Ans.cond (fun _ => ?_) (fun _ => hf)
  refine Ans.cond (fun _ => hf) (fun _ => ?_)
  have hfin : Ans (KA B (callN B (k + 2)) (lvl B (k + 2)).2 44 (k + 2) [1, 1, 0, 1] (FI B (callN B (k + 2)) (lvl B (k + 2)).2 44) (.exit 0) (s44_7x10 (addE ep nx t)) : Option Bool) (fun _ => True) := by
    refine Ans.of (s44_7x10_k _ _ _ _) ?_
    rw [s44_15_l]
    refine Ans.cond (fun h => absurd (of_decide_eq_true h) (show ¬ ((0 : Int) < 0) by decide)) (fun _ => ?_)
    exact Ans.of (s44_15x18_k _ _ _ _) (Ans.val trivial)
  have hx : Ans (KA B (callN B (k + 2)) (lvl B (k + 2)).2 44 (k + 2) [1, 1, 0, 1] (FI B (callN B (k + 2)) (lvl B (k + 2)).2 44) .ret (s44_7x9 (addE ep nx t)) : Option Bool) (fun _ => True) := Ans.of (s44_7x9_k _ _ _ _) (Ans.val trivial)
  rw [s44_7_l]
  refine Ans.cond (fun _ => ?_) (fun _ => hfin)
  refine Ans.ite (show (0 : Int) ≤ 0 ∧ (0 : Int) < 1 by decide) ?_
  obtain ⟨b, hb, _⟩ := s56 (k := k + 2) t (by omega)
  refine Ans.bind hb (Ans.cond (fun _ => hx) (fun _ => ?_))
  rw [w1' (by omega) (by omega), s44_7_l]
  exact Ans.cond (fun h => absurd (of_decide_eq_true h) (show ¬ ((0 : Int) + 1 < 1) by decide)) (fun _ => hfin)
section
variable {call : CallT B} {inl : InlT}
theorem l46 {R : Type} {K : AEx → St → Option R} {P : R → Prop} (l : List Tab) (t : Tab) (hl : l.length ≤ 100000) (he : ∀ j : Nat, j ≤ l.length → Ans (K (.exit 0) (s46_1x2 l t (j : Int))) P) (d : Nat) : ∀ (i m : Nat), i + d = l.length → d < m →
    Ans (LP B call inl 46 m [1, 1, 0] (s46_1 l t (i : Int)) K) P := by
  induction d with
  | zero =>
    intro i m hd hm
    obtain ⟨m, rfl⟩ : ∃ k, m = k + 1 := ⟨m - 1, by omega⟩
    rw [s46_1_l, decide_eq_false (show ¬ ((i : Int) < (↑(List.length l) : Int)) by omega)]
    exact he i (by omega)
  | succ d ih =>
    intro i m hd hm
    obtain ⟨m, rfl⟩ : ∃ k, m = k + 1 := ⟨m - 1, by omega⟩
    have hin : (0 : Int) ≤ (i : Int) ∧ (i : Int) < (↑(List.length l) : Int) := by omega
    have e1 : (i : Int) + 1 = ((i + 1 : Nat) : Int) := by omega
    have h := ih (i + 1) m (by omega) (by omega)
    have hx := he i (by omega)
    rw [s46_1_l, decide_eq_true hin.2, if_pos hin, if_pos hin, if_pos hin, w1' (by omega) (by omega), e1]
    refine Ans.cond (fun _ => ?_) (fun h => nomatch h)
    refine Ans.cond (fun _ => ?_) (fun _ => h)
    refine Ans.cond (fun _ => ?_) (fun _ => hx)
    exact Ans.cond (fun _ => h) (fun _ => hx)
end
theorem s46 {k : Nat} (l : List Tab) (t : Tab) (hl : l.length ≤ 10000) (hk : 10010 ≤ k) : Ans (callN B k 46 [.v (.sl TabT) l, argAV TabT t] : Option (List Tab)) (fun r => r.length = l.length + 1) := by
  obtain ⟨k, rfl⟩ := Nat.exists_eq_add_of_le' (show 1 ≤ k by omega)
  refine Ans.of ((callS k 46 _).trans (t46 (callN B k) (lvl B k).2 k l t)) ?_
  refine l46 l t (by omega) (fun j hj => ?_) l.length 0 k (by omega) (by omega)
  refine Ans.of (s46_1x2_k _ _ _ _ _ _) ?_
  have hin : (0 : Int) ≤ (j : Int) ∧ (j : Int) ≤ (↑(List.length l) : Int) := by omega
  have c1 : (List.take j l).length = j := by rw [List.length_take]; omega
  have c2 : (List.drop j (List.take (List.length l) l)).length = l.length - j := by rw [List.take_length, List.length_drop]
  rw [Int.toNat_natCast, List.drop_zero]
  refine Ans.ite hin (Ans.ite (by rw [c1]; omega) (Ans.ite (by rw [c1, List.length_singleton]; omega) (Ans.ite hin (Ans.ite (by rw [List.length_append, c1, c2, List.length_singleton]; omega) (Ans.val ?_)))))
  rw [List.length_append, List.length_append, c1, c2, List.length_singleton]
  omega
/-- What an edit answers that took: its next number, few tables, all below it. -/
def Took (nx : Int) (r : Ver × Int × Unit) : Prop := r.2.1 = 0 → r.1.2.1 = nx ∧ r.1.tabs.length ≤ 256 ∧ BelowV r.1
theorem s34 {k : Nat} (v : Ver) (ep nx : Int) (t : Tab) (hv : v.tabs.length ≤ 1000) (hk : 10020 ≤ k) : Ans (callN B k 34 [argAV VerT v, argAV EdT (addE ep nx t)] : Option (Ver × Int × Unit)) (Took nx) := by
  obtain ⟨k, rfl⟩ := Nat.exists_eq_add_of_le' (show 3 ≤ k by omega)
  refine Ans.of ((callS (k + 2) 34 _).trans (t34 (callN B (k + 2)) (lvl B (k + 2)).2 (k + 2) v (addE ep nx t))) ?_
  obtain ⟨b, hb, _⟩ := s43 (k := k + 2) v (by omega) (by omega)
  refine Ans.bind hb (Ans.cond (fun _ => ?_) (fun _ => Ans.val fun h => nomatch h))
  obtain ⟨b2, hb2, _⟩ := s44 (k := k + 2) ep nx t (by omega)
  refine Ans.bind hb2 (Ans.cond (fun _ => Ans.val fun h => nomatch h) (fun _ => ?_))
  refine Ans.cond (fun _ => ?_) (fun _ => Ans.val fun h => nomatch h)
  refine Ans.cond (fun _ => ?_) (fun _ => Ans.val fun h => nomatch h)
  refine Ans.cond (fun _ => ?_) (fun _ => Ans.val fun h => nomatch h)
  refine Ans.cond (fun _ => Ans.val fun h => nomatch h) (fun _ => ?_)
  have hv' : v.snd.snd.snd.snd.fst.length ≤ 1000 := hv
  refine Ans.ite (by omega) ?_
  rw [s34_6_l]
  refine Ans.cond (fun h => absurd (of_decide_eq_true h) (show ¬ ((0 : Int) < 0) by decide)) (fun _ => ?_)
  refine Ans.of (s34_6x9_k _ _ _ _ _) ?_
  have hfin : ∀ l : List Tab, Ans (KA B (callN B (k + 2)) (lvl B (k + 2)).2 34 (k + 2) [1, 1, 1, 1, 0, 1] (FI B (callN B (k + 2)) (lvl B (k + 2)).2 34) (.exit 3) (s34_17x21 (addE ep nx t) l) : Option (Ver × Int × Unit)) (Took nx) := fun l => by
    refine Ans.of (s34_17x21_k _ _ _ _ _) ?_
    refine Ans.cond (fun _ => Ans.val fun h => nomatch h) (fun h => ?_)
    have h256 := of_decide_eq_false h
    obtain ⟨b3, hb3, hP⟩ := s43 (k := k + 2) (ep, nx, 0, 0, l, ()) (by omega) (show l.length ≤ 1000000 by omega)
    refine Ans.bind hb3 (Ans.cond (fun _ => Ans.val fun h => nomatch h) (fun h => Ans.val fun _ => ?_))
    have hb : b3 = true := by
      cases b3
      · exact nomatch h
      · rfl
    exact ⟨rfl, show l.length ≤ 256 by omega, (hP hb).1⟩
  rw [s34_17_l]
  refine Ans.cond (fun _ => ?_) (fun h => hfin _)
  refine Ans.ite (show (0 : Int) ≤ 0 ∧ (0 : Int) < 1 by decide) ?_
  obtain ⟨p, hp⟩ := s45 (k := k + 2) (l := v.tabs) t.1 (by omega) (by omega)
  refine Ans.bind hp (Ans.cond (fun _ => Ans.of (s34_17x19_k _ _ _ _ _) (Ans.val fun h => nomatch h)) (fun _ => ?_))
  refine Ans.ite (show (0 : Int) ≤ 0 ∧ (0 : Int) < 1 by decide) ?_
  obtain ⟨l, hl, _⟩ := s46 (k := k + 2) v.tabs t (by omega) (by omega)
  refine Ans.bind hl ?_
  rw [w1' (by omega) (by omega)]
  refine Ans.of (s34_17_l _ _ k _ _ _ _) ?_
  exact Ans.cond (fun h => absurd (of_decide_eq_true h) (show ¬ ((0 : Int) + 1 < 1) by decide)) (fun _ => hfin _)
theorem tmodN (x m : Nat) : ((x : Nat) : Int).tmod ((m : Nat) : Int) = ((x % m : Nat) : Int) := (Int.ofNat_tmod x m).symm
theorem getBytes {ns : List Int} (hb : Bytes ns) {i : Nat} (hi : i < ns.length) : ∃ n : Nat, n < 256 ∧ List.getD ns i (0 : Int) = (n : Int) := by
  have h : List.getD ns i (0 : Int) = ns[i] := by rw [List.getD_eq_getElem?_getD, List.getElem?_eq_getElem hi]; rfl
  have h2 := hb ns[i] (List.getElem_mem hi)
  exact ⟨(ns[i]).toNat, by omega, by rw [h]; omega⟩
/-- A table by numbers: its number. -/
def Few (l : List Tab) : Prop := ∀ t ∈ l, 1 ≤ t.1 ∧ t.1 ≤ 20
theorem l33 {k : Nat} (hk : 100 ≤ k) (ns : List Int) (hb : Bytes ns) (d : Nat) : ∀ (j m : Nat) (l : List Tab), j + d = 20 → d < m → l.length = j → Few l →
    Ans (LP B (callN B k) (lvl B k).2 33 m [1, 1, 0, 1] (s33_6 ns l ((3 * j : Nat) : Int)) (KA B (callN B k) (lvl B k).2 33 k [1, 1, 0, 1] (FI B (callN B k) (lvl B k).2 33)) : Option (List Tab)) (fun l => l.length ≤ 20 ∧ Few l) := by
  induction d with
  | zero =>
    intro j m l hd hm hl hf
    obtain ⟨m, rfl⟩ : ∃ k, m = k + 1 := ⟨m - 1, by omega⟩
    have hx : Ans (KA B (callN B k) (lvl B k).2 33 k [1, 1, 0, 1] (FI B (callN B k) (lvl B k).2 33) (.exit 0) (s33_6x9 l) : Option (List Tab)) (fun l => l.length ≤ 20 ∧ Few l) := Ans.of (s33_6x9_k _ _ _ _) (Ans.val ⟨by omega, hf⟩)
    rw [s33_6_l]
    refine Ans.cond (fun _ => ?_) (fun _ => hx)
    refine Ans.cond (fun h => absurd (of_decide_eq_true h) (by omega)) (fun _ => hx)
  | succ d ih =>
    intro j m l hd hm hl hf
    obtain ⟨m, rfl⟩ : ∃ k, m = k + 1 := ⟨m - 1, by omega⟩
    have hx : Ans (KA B (callN B k) (lvl B k).2 33 k [1, 1, 0, 1] (FI B (callN B k) (lvl B k).2 33) (.exit 0) (s33_6x9 l) : Option (List Tab)) (fun l => l.length ≤ 20 ∧ Few l) := Ans.of (s33_6x9_k _ _ _ _) (Ans.val ⟨by omega, hf⟩)
    rw [s33_6_l, w64 (x := ((3 * j : Nat) : Int) + 2) (by omega) (by omega), w64 (x := ((3 * j : Nat) : Int) + 1) (by omega) (by omega), w64 (x := ((3 * j : Nat) : Int) + 3) (by omega) (by omega)]
    refine Ans.cond (fun h => ?_) (fun _ => hx)
    have hlen : ((3 * j : Nat) : Int) + 2 < (↑(List.length ns) : Int) := by
      cases h' : decide (((3 * j : Nat) : Int) + 2 < (↑(List.length ns) : Int)) with
      | true => exact of_decide_eq_true h'
      | false => rw [h'] at h; exact nomatch h
    refine Ans.cond (fun _ => ?_) (fun _ => hx)
    have e0 : ((3 * j : Nat) : Int).toNat = 3 * j := Int.toNat_natCast _
    have e1 : (((3 * j : Nat) : Int) + 1).toNat = 3 * j + 1 := by omega
    have e2 : (((3 * j : Nat) : Int) + 2).toNat = 3 * j + 2 := by omega
    rw [e0, e1, e2]
    obtain ⟨x, hx1, hx2⟩ := getBytes hb (show 3 * j < ns.length by omega)
    obtain ⟨y, hy1, hy2⟩ := getBytes hb (show 3 * j + 1 < ns.length by omega)
    obtain ⟨z, hz1, hz2⟩ := getBytes hb (show 3 * j + 2 < ns.length by omega)
    rw [hx2, hy2, hz2, w64 (x := (x : Int)) (by omega) (by omega), w64 (x := (y : Int)) (by omega) (by omega), w64 (x := (z : Int)) (by omega) (by omega)]
    have m30 : Int.tmod (x : Int) 30 = ((x % 30 : Nat) : Int) := tmodN x 30
    have m8 : Int.tmod (y : Int) 8 = ((y % 8 : Nat) : Int) := tmodN y 8
    have d3 : Int.tdiv ((3 * j : Nat) : Int) 3 = (j : Int) := by rw [Int.tdiv_eq_ediv_of_nonneg (by omega)]; omega
    rw [m30, m8, w64 (x := ((x % 30 : Nat) : Int) + ((y % 8 : Nat) : Int)) (by omega) (by omega), d3, w64 (x := (j : Int)) (by omega) (by omega), w64 (x := (1 : Int) + (j : Int)) (by omega) (by omega)]
    refine Ans.ite (by omega) (Ans.ite (by omega) (Ans.ite (by omega) (Ans.ite (by omega) (Ans.ite (by omega) ?_))))
    obtain ⟨lo, hlo, _⟩ := s42 (k := k) (by omega) (n := x % 30) (by omega)
    obtain ⟨hi, hhi, _⟩ := s42 (k := k) (by omega) (n := x % 30 + y % 8) (by omega)
    refine Ans.bind hlo (Ans.bind (by rw [← Int.natCast_add]; exact hhi) ?_)
    refine Ans.ite (by omega) (Ans.ite (by omega) (Ans.ite (by omega) (Ans.ite (by omega) (Ans.ite (by rw [List.length_singleton]; omega) ?_))))
    have e3 : ((3 * j : Nat) : Int) + 3 = ((3 * (j + 1) : Nat) : Int) := by omega
    rw [e3]
    refine ih (j + 1) m _ (by omega) (by omega) (by rw [List.length_append, List.length_singleton]; omega) ?_
    intro t ht
    rcases List.mem_append.1 ht with h | h
    · exact hf t h
    · rw [List.mem_singleton.1 h]
      exact ⟨show (1 : Int) ≤ 1 + (j : Int) by omega, show (1 : Int) + (j : Int) ≤ 20 by omega⟩
theorem s33 {k : Nat} (hk : 110 ≤ k) {ns : List Int} (hb : Bytes ns) : Ans (callN B k 33 [.v (.sl (.int .u8)) ns] : Option (List Tab)) (fun l => l.length ≤ 20 ∧ Few l) := by
  obtain ⟨k, rfl⟩ := Nat.exists_eq_add_of_le' (show 1 ≤ k by omega)
  refine Ans.of ((callS k 33 _).trans (t33 (callN B k) (lvl B k).2 k ns)) ?_
  exact l33 (by omega) ns hb 20 0 k [] (by omega) (by omega) rfl (fun t h => nomatch h)
/-- What Made answers: few tables, all below the next number, which is small. -/
def MadeOk (v : Ver) : Prop := v.tabs.length ≤ 256 ∧ BelowV v ∧ 1 ≤ v.2.1 ∧ v.2.1 ≤ 100
theorem l14 {k : Nat} (hk : 10100 ≤ k) (l : List Tab) (hl : l.length ≤ 20) (hf : Few l) (d : Nat) : ∀ (i m : Nat) (v : Ver), i + d = l.length → d < m → MadeOk v →
    Ans (LP B (callN B k) (lvl B k).2 14 m [1, 1, 1, 0, 1] (s14_9 l (i : Int) v.fst v.snd.fst v.snd.snd.fst v.snd.snd.snd.fst v.snd.snd.snd.snd.fst) (KA B (callN B k) (lvl B k).2 14 k [1, 1, 1, 0, 1] (FI B (callN B k) (lvl B k).2 14)) : Option Ver) MadeOk := by
  induction d with
  | zero =>
    intro i m v hd hm hv
    obtain ⟨m, rfl⟩ : ∃ k, m = k + 1 := ⟨m - 1, by omega⟩
    rw [s14_9_l, decide_eq_false (show ¬ ((i : Int) < (↑(List.length l) : Int)) by omega)]
    exact Ans.of (s14_9x11_k _ _ _ _ _ _ _ _) (Ans.val hv)
  | succ d ih =>
    intro i m v hd hm hv
    obtain ⟨m, rfl⟩ : ∃ k, m = k + 1 := ⟨m - 1, by omega⟩
    have hin : (0 : Int) ≤ (i : Int) ∧ (i : Int) < (↑(List.length l) : Int) := by omega
    have e1 : (i : Int) + 1 = ((i + 1 : Nat) : Int) := by omega
    obtain ⟨t, ht⟩ : ∃ t, List.getD l i noTab = t := ⟨_, rfl⟩
    have hmem : t ∈ l := by
      rw [← ht, List.getD_eq_getElem?_getD, List.getElem?_eq_getElem (show i < l.length by omega)]
      exact List.getElem_mem _
    have ht1 := hf t hmem
    rw [s14_9_l, decide_eq_true hin.2, if_pos hin, if_pos hin, Int.toNat_natCast, show List.getD l i ((0 : Int), (0 : Int), (0 : Int), (ByteArray.mk #[]), (ByteArray.mk #[]), (0 : Int), (0 : Int), false, false, ()) = t from ht, w1' (x := (i : Int)) (by omega) (by omega), e1, w1' (x := t.fst) (by omega) (by omega)]
    refine Ans.cond (fun _ => ?_) (fun h => nomatch h)
    obtain ⟨r, hr, hP⟩ := s34 (k := k) v 3 (t.1 + 1) t (by have := hv.1; omega) (by omega)
    refine Ans.bind hr (Ans.cond (fun h => ?_) (fun _ => ?_))
    · have h0 : r.2.1 = 0 := by
        have h' : (r.snd.fst == (0 : Int)) = true := h
        exact eq_of_beq h'
      obtain ⟨p1, p2, p3⟩ := hP h0
      exact ih (i + 1) m r.1 (by omega) (by omega) ⟨p2, p3, by omega, by omega⟩
    · exact ih (i + 1) m v (by omega) (by omega) hv
theorem s14 {k : Nat} (hk : 10110 ≤ k) {ns : List Int} (hb : Bytes ns) : Ans (callN B k 14 [.v (.sl (.int .u8)) ns] : Option Ver) MadeOk := by
  obtain ⟨k, rfl⟩ := Nat.exists_eq_add_of_le' (show 1 ≤ k by omega)
  refine Ans.of ((callS k 14 _).trans (t14 (callN B k) (lvl B k).2 k ns)) ?_
  obtain ⟨l, hl, h1, h2⟩ := s33 (k := k) (by omega) hb
  refine Ans.bind hl ?_
  exact l14 (by omega) l h1 h2 l.length 0 k (3, 1, 0, 0, [], ()) (by omega) (by omega) (show MadeOk (3, 1, 0, 0, [], ()) from ⟨Nat.zero_le _, (fun t h => nomatch h : BelowV (3, 1, 0, 0, [], ())), by decide, by decide⟩)
end Go.Eng.Bk
/- NameAll's function answers true. -/
namespace Go.Eng.Bk
open Go Go.Proofs Go.Eng
set_option linter.unusedVariables false
set_option linter.unusedSimpArgs false
set_option maxRecDepth 100000
theorem s3 {k : Nat} (hk : 1010 ≤ k) (a0 a1 a2 : Int) (a3 : ByteArray) : callN B k 3 [.v i64 a0, .v i64 a1, .v i64 a2, .v .str a3] = (some true : Option Bool) := by
  obtain ⟨k, rfl⟩ := Nat.exists_eq_add_of_le' (show 1 ≤ k by omega)
  refine (callS k 3 _).trans ((t3 (callN B k) (lvl B k).2 k a0 a1 a2 a3).trans ?_)
  by_cases h : a3.size > 200
  · rw [bT (by omega)]
    exact bnd (s8 (by omega)) rfl
  · rw [bF (by omega)]
    refine bnd (s9 (by omega) a3 (by omega)) ?_
    refine bnd (s10 (by omega) a3 (by omega)) ?_
    refine bnd (s11 (by omega) a0 a1 a2) ?_
    refine bnd (s12 (by omega) a0 a1 a2) ?_
    rw [← read_doc, seq_dec, decide_eq_true rfl]
    simp only [beq_self_eq_true, cond_true]
    change @Eq (Option Bool) (Option.bind (callN B k 8 [] : Option Bool) _) _
    exact bnd (s8 (by omega)) rfl
end Go.Eng.Bk
/- Names: malformed ones. -/
namespace Go.Eng.Bk
open Go Go.Proofs Go.Eng
set_option linter.unusedVariables false
set_option linter.unusedSimpArgs false
set_option maxRecDepth 100000
def L13 (D : ByteArray) : List ByteArray := [(ByteArray.mk #[(108 : UInt8), (111 : UInt8), (103 : UInt8), (45 : UInt8), (48 : UInt8)]) ++ D, (ByteArray.mk #[(108 : UInt8), (111 : UInt8), (103 : UInt8), (45 : UInt8), (32 : UInt8)]) ++ D, (ByteArray.mk #[(108 : UInt8), (111 : UInt8), (103 : UInt8), (45 : UInt8), (45 : UInt8)]) ++ D, (ByteArray.mk #[(108 : UInt8), (111 : UInt8), (103 : UInt8), (45 : UInt8)]) ++ D ++ (ByteArray.mk #[(45 : UInt8), (49 : UInt8)]), (ByteArray.mk #[(102 : UInt8), (97 : UInt8), (114 : UInt8), (45 : UInt8)]) ++ D, (ByteArray.mk #[(102 : UInt8), (97 : UInt8), (114 : UInt8), (45 : UInt8), (49 : UInt8), (45 : UInt8), (48 : UInt8)]) ++ D, (ByteArray.mk #[(102 : UInt8), (97 : UInt8), (114 : UInt8), (45 : UInt8)]) ++ D ++ (ByteArray.mk #[(45 : UInt8)]), (ByteArray.mk #[(76 : UInt8), (111 : UInt8), (103 : UInt8), (45 : UInt8)]) ++ D, (ByteArray.mk #[(108 : UInt8), (111 : UInt8), (103 : UInt8)]) ++ D, (ByteArray.mk #[(99 : UInt8), (117 : UInt8), (114 : UInt8), (114 : UInt8), (101 : UInt8), (110 : UInt8), (116 : UInt8), (45 : UInt8), (49 : UInt8)]), (ByteArray.mk #[(109 : UInt8), (97 : UInt8), (114 : UInt8), (107 : UInt8), (45 : UInt8)]), (ByteArray.mk #[(116 : UInt8), (97 : UInt8), (98 : UInt8), (108 : UInt8), (101 : UInt8), (45 : UInt8), (120 : UInt8)]), (ByteArray.mk #[])]
section
variable (call : CallT B) (inl : InlT) (m : Nat)
def body5 (a1 : Int) (D : ByteArray) : Option Bool := if (↑((ByteArray.mk #[(108 : UInt8), (111 : UInt8), (103 : UInt8), (45 : UInt8), (48 : UInt8)]).size + (D).size) : Int) > IntKind.i64.max then (none) else (if (↑((ByteArray.mk #[(108 : UInt8), (111 : UInt8), (103 : UInt8), (45 : UInt8), (32 : UInt8)]).size + (D).size) : Int) > IntKind.i64.max then (none) else (if (↑((ByteArray.mk #[(108 : UInt8), (111 : UInt8), (103 : UInt8), (45 : UInt8), (45 : UInt8)]).size + (D).size) : Int) > IntKind.i64.max then (none) else (if (↑((ByteArray.mk #[(108 : UInt8), (111 : UInt8), (103 : UInt8), (45 : UInt8)]).size + (D).size) : Int) > IntKind.i64.max then (none) else (if (↑(ByteArray.size ((ByteArray.mk #[(108 : UInt8), (111 : UInt8), (103 : UInt8), (45 : UInt8)]) ++ D) + (ByteArray.mk #[(45 : UInt8), (49 : UInt8)]).size) : Int) > IntKind.i64.max then (none) else (if (↑((ByteArray.mk #[(102 : UInt8), (97 : UInt8), (114 : UInt8), (45 : UInt8)]).size + (D).size) : Int) > IntKind.i64.max then (none) else (if (↑((ByteArray.mk #[(102 : UInt8), (97 : UInt8), (114 : UInt8), (45 : UInt8), (49 : UInt8), (45 : UInt8), (48 : UInt8)]).size + (D).size) : Int) > IntKind.i64.max then (none) else (if (↑((ByteArray.mk #[(102 : UInt8), (97 : UInt8), (114 : UInt8), (45 : UInt8)]).size + (D).size) : Int) > IntKind.i64.max then (none) else (if (↑(ByteArray.size ((ByteArray.mk #[(102 : UInt8), (97 : UInt8), (114 : UInt8), (45 : UInt8)]) ++ D) + (ByteArray.mk #[(45 : UInt8)]).size) : Int) > IntKind.i64.max then (none) else (if (↑((ByteArray.mk #[(76 : UInt8), (111 : UInt8), (103 : UInt8), (45 : UInt8)]).size + (D).size) : Int) > IntKind.i64.max then (none) else (if (↑((ByteArray.mk #[(108 : UInt8), (111 : UInt8), (103 : UInt8)]).size + (D).size) : Int) > IntKind.i64.max then (none) else (if (0 : Int) ≤ (IntKind.i64.wrap a1).tmod (↑(L13 D).length : Int) ∧ (IntKind.i64.wrap a1).tmod (↑(L13 D).length : Int) < (↑(L13 D).length : Int) then ((call 9 [(.v .str ((L13 D).getD ((IntKind.i64.wrap a1).tmod (↑(L13 D).length : Int)).toNat (ByteArray.mk #[])))]).bind fun (v1 : (Int × Int × Int × Unit)) => bif (v1.fst == (0 : Int)) == true then (bif (v1.snd.fst == (0 : Int)) == true then (bif (v1.snd.snd.fst == (0 : Int)) == true then ((call 8 []).bind fun (v2 : Bool) => some (v2)) else (some (false))) else (some (false))) else (some (false))) else (none))))))))))))
theorem t5' (a0 a1 : Int) : stepN B call inl m 5 [argAV (.int .u32) a0, argAV (.int .u8) a1] = ((call 12 [(.v (.int .i64) ((1 : Int))), (.v (.int .i64) ((0 : Int))), (.v (.int .i64) (IntKind.i64.wrap a0))] : Option ByteArray).bind fun (v0 : ByteArray) => bif decide ((↑(ByteArray.size v0) : Int) < (5 : Int)) then (some (false)) else (if (0 : Int) ≤ (4 : Int) ∧ (4 : Int) ≤ (↑(ByteArray.size v0) : Int) then body5 call a1 (ByteArray.extract v0 (Int.toNat (4 : Int)) (ByteArray.size v0)) else none) : Option Bool) := by kernel_rfl
end
theorem step_plain {k0 : Int} {t : ByteArray} (h7 : k0 ≠ 7) (hh : headB k0 ≠ noS) : stepR (headB k0 ++ t) k0 = (if (numB t).2.1 = true then some (k0, 0, (numB t).1, ()) else some (0, 0, 0, ())) := by
  unfold stepR inner
  rw [if_neg (head_not hh t k0).2, if_neg (head_not hh t k0).1, pref_app, if_neg (by decide), if_neg hh, if_neg h7, rest_app]
theorem step_far (t : ByteArray) : stepR (farS ++ t) 7 = (if (cutB t dash).2.2.1 = true ∧ (numB (cutB t dash).1).2.1 = true ∧ (numB (cutB t dash).2.1).2.1 = true then some (7, (numB (cutB t dash).1).1, (numB (cutB t dash).2.1).1, ()) else some (0, 0, 0, ())) := by
  have hh : headB 7 = farS := rfl
  have hn := head_not (k := 7) (by rw [hh]; decide) t 7
  rw [hh] at hn
  unfold stepR inner
  rw [if_neg hn.2, if_neg hn.1, hh, pref_app, if_neg (by decide), if_neg (by decide), if_pos rfl, rest_app]
theorem bad_plain {k : Int} (h1 : 1 ≤ k) (h8 : k ≤ 8) (h7 : k ≠ 7) (hk : headB k ≠ noS) {t : ByteArray} (h : ∀ v, ¬ Canon t v) : readF (headB k ++ t) = (0, 0, 0, ()) := by
  rw [(read_head h1 h8 hk t).2, step_plain h7 hk, if_neg (fun hc => h _ (canon_numB hc))]
theorem bad_far {t : ByteArray} (h : ∀ a b : List UInt8, t.data.toList = a ++ 45 :: b → (45 : UInt8) ∉ a → (∀ v, ¬ Canon ⟨b.toArray⟩ v)) : readF (farS ++ t) = (0, 0, 0, ()) := by
  have hh : headB 7 = farS := rfl
  have := (read_head (k := 7) (by omega) (by omega) (by rw [hh]; decide) t).2
  rw [hh] at this
  rw [this, step_far]
  rcases cut_dash t with ⟨a, b, h1, h2, h3⟩ | ⟨h1, h2⟩
  · rw [h3, if_neg (fun hc => h a b h1 h2 _ (canon_numB hc.2.2))]
  · rw [if_neg (fun hc => by rw [h2] at hc; cases hc.1)]
theorem bad_none {s : ByteArray} (hw : ∀ k, s ≠ wholeB k) (hp : ∀ k, headB k ≠ noS → prefB s (headB k) = false) : readF s = (0, 0, 0, ()) :=
  readL_none 8 1 fun j _ _ => stepR_none (fun _ => hw j) (hp j)
theorem no_pref {s : ByteArray} {k : Int} (hk : headB k ≠ noS) (h : first2 s ≠ first2 (headB k)) : prefB s (headB k) = false := by
  cases hh : prefB s (headB k) with
  | false => rfl
  | true =>
    have e := congrArg first2 (pref_split hh)
    rw [first2_app (head2 hk)] at e
    exact absurd e h
theorem canon_cons0 {D : ByteArray} {n : Int} (hD : Canon D n) (v : Int) : ¬ Canon ⟨(48 :: D.data.toList).toArray⟩ v := fun h => by
  obtain ⟨a, rfl, _, ha⟩ := hD.list
  obtain ⟨b, rfl, _, hb⟩ := h.list
  have hb' : 48 :: D.data.toList = Lib.decDigits b := hb
  have e : decV 0 (48 :: D.data.toList) = decV 0 D.data.toList := rfl
  rw [hb', ha, decV_dec, decV_dec] at e
  have : b = a := Option.some.inj e
  rw [ha, this] at hb'
  have := congrArg List.length hb'
  simp at this
theorem canon_bad {t : ByteArray} {c : UInt8} (hc : c ∈ t.data.toList) (h : ¬ (48 ≤ c.toNat ∧ c.toNat ≤ 57)) (v : Int) : ¬ Canon t v := fun hh => h (hh.dig c hc)
theorem bad13 {D : ByteArray} {n : Int} (hD : Canon D n) : ∀ x ∈ L13 D, readF x = (0, 0, 0, ()) := by
  have l1 : headB 1 = logS := rfl
  have sp : ∀ (p q t : ByteArray), p.data.toList = q.data.toList ++ t.data.toList → p = q ++ t := fun p q t h => ba_ext (by rw [ba_toList, ba_toList, ba_app, h])
  have hdD : ∀ c ∈ D.data.toList, 48 ≤ c.toNat ∧ c.toNat ≤ 57 := hD.dig
  have n45 : (45 : UInt8) ∉ D.data.toList := hD.no45
  have hneD : D.data.toList ≠ [] := by obtain ⟨a, rfl, _, ha⟩ := hD.list; rw [ha]; exact dec_ne a
  intro x hx
  unfold L13 at hx
  simp only [List.mem_cons, List.not_mem_nil, or_false] at hx
  rcases hx with rfl | rfl | rfl | rfl | rfl | rfl | rfl | rfl | rfl | rfl | rfl | rfl | rfl
  · refine (congrArg readF (sp _ logS ⟨(48 :: D.data.toList).toArray⟩ (by rw [ba_app]; rfl))).trans ?_
    rw [← l1]
    exact bad_plain (by omega) (by omega) (by omega) (by decide) (canon_cons0 hD)
  · refine (congrArg readF (sp _ logS ⟨(32 :: D.data.toList).toArray⟩ (by rw [ba_app]; rfl))).trans ?_
    rw [← l1]
    exact bad_plain (by omega) (by omega) (by omega) (by decide) (canon_bad (c := 32) List.mem_cons_self (by decide))
  · refine (congrArg readF (sp _ logS ⟨(45 :: D.data.toList).toArray⟩ (by rw [ba_app]; rfl))).trans ?_
    rw [← l1]
    exact bad_plain (by omega) (by omega) (by omega) (by decide) (canon_bad (c := 45) List.mem_cons_self (by decide))
  · refine (congrArg readF (sp _ logS ⟨(D.data.toList ++ [45, 49]).toArray⟩ (by rw [ba_app, ba_app, List.append_assoc]))).trans ?_
    rw [← l1]
    exact bad_plain (by omega) (by omega) (by omega) (by decide) (canon_bad (c := 45) (show (45 : UInt8) ∈ D.data.toList ++ [45, 49] by simp) (by decide))
  · exact bad_far fun a b h _ => absurd (show (45 : UInt8) ∈ D.data.toList by rw [h]; simp) n45
  · refine (congrArg readF (sp _ farS ⟨([49] ++ 45 :: 48 :: D.data.toList).toArray⟩ (by rw [ba_app]; rfl))).trans ?_
    refine bad_far fun a b h ha => ?_
    have h' : [49] ++ 45 :: (48 :: D.data.toList) = a ++ 45 :: b := h
    obtain ⟨_, e⟩ := split45 _ _ _ _ (by decide) ha h'
    rw [← e]
    exact canon_cons0 hD
  · refine (congrArg readF (sp _ farS ⟨(D.data.toList ++ [45]).toArray⟩ (by rw [ba_app, ba_app, List.append_assoc]))).trans ?_
    refine bad_far fun a b h ha v hv => ?_
    have h' : D.data.toList ++ 45 :: [] = a ++ 45 :: b := h
    obtain ⟨_, e⟩ := split45 _ _ _ _ n45 ha h'
    rw [← e] at hv
    obtain ⟨c, _, _, hc⟩ := hv.list
    exact dec_ne c hc.symm
  · have f2 : ∀ t, first2 (({ data := #[(76 : UInt8), (111 : UInt8), (103 : UInt8), (45 : UInt8)] } : ByteArray) ++ t) = (some 76, some 111) := fun t => first2_app (by decide)
    refine bad_none (fun k h => ?_) (fun k hk => no_pref hk (by
      rw [f2]
      rcases head_cases k with ⟨_, e⟩ | ⟨_, e⟩ | ⟨_, e⟩ | ⟨_, e⟩ | ⟨_, e⟩ | ⟨_, e⟩ <;> first | exact absurd e hk | (rw [e]; decide)))
    have e := congrArg first2 h
    rw [f2] at e
    rcases whole_cases k with e2 | e2 | e2 | e2 <;> (rw [e2] at e; exact absurd e (by decide))
  · have f2 : ∀ t, first2 (({ data := #[(108 : UInt8), (111 : UInt8), (103 : UInt8)] } : ByteArray) ++ t) = (some 108, some 111) := fun t => first2_app (by decide)
    refine bad_none (fun k h => ?_) (fun k hk => ?_)
    · have e := congrArg first2 h
      rw [f2] at e
      rcases whole_cases k with e2 | e2 | e2 | e2 <;> (rw [e2] at e; exact absurd e (by decide))
    · rcases head_cases k with ⟨_, e⟩ | ⟨_, e⟩ | ⟨_, e⟩ | ⟨_, e⟩ | ⟨_, e⟩ | ⟨_, e⟩
      · cases hh : prefB (({ data := #[(108 : UInt8), (111 : UInt8), (103 : UInt8)] } : ByteArray) ++ D) (headB k) with
        | false => rfl
        | true =>
          have e1 := congrArg (fun x : ByteArray => x.data.toList) (pref_split hh)
          simp only [e, ba_app] at e1
          have e2 : (108 : UInt8) :: 111 :: 103 :: D.data.toList = 108 :: 111 :: 103 :: 45 :: (restB (({ data := #[(108 : UInt8), (111 : UInt8), (103 : UInt8)] } : ByteArray) ++ D) logS).data.toList := e1
          have e3 : D.data.toList = 45 :: _ := (List.cons.inj (List.cons.inj (List.cons.inj e2).2).2).2
          exact absurd (show (45 : UInt8) ∈ D.data.toList by rw [e3]; simp) n45
      all_goals first | exact absurd e hk | exact no_pref hk (by rw [f2, e]; decide)
  · decide +kernel
  · decide +kernel
  · decide +kernel
  · decide +kernel
theorem small_neg {α : Type} {a b : Nat} {x y : Option α} (h : a + b ≤ 1000) : (if ((a + b : Nat) : Int) > IntKind.i64.max then x else y) = y := if_neg (by rw [max64]; omega)
theorem sz1 {p D : ByteArray} (hp : p.size ≤ 100) (hD : D.size ≤ 100) : p.size + D.size ≤ 1000 := by omega
theorem sz2 {p D q : ByteArray} (hp : p.size ≤ 100) (hD : D.size ≤ 100) (hq : q.size ≤ 100) : (p ++ D).size + q.size ≤ 1000 := by rw [ByteArray.size_append]; omega
theorem b5 {k : Nat} (hk : 100 ≤ k) {D : ByteArray} {n : Int} (hD : Canon D n) (hz : D.size ≤ 100) {w : Nat} (hw : w < 256) : body5 (callN B k) (w : Int) D = some true := by
  unfold body5
  iterate 11 (refine (small_neg (by first | exact sz1 (by decide) hz | exact sz2 (by decide) hz (by decide))).trans ?_)
  have hlen : (L13 D).length = 13 := rfl
  rw [hlen, w64 (x := (w : Int)) (by omega) (by omega)]
  have e : Int.tmod (w : Int) ((13 : Nat) : Int) = ((w % 13 : Nat) : Int) := rfl
  rw [e]
  refine (if_pos (by omega)).trans ?_
  rw [Int.toNat_natCast]
  have hm : (L13 D).getD (w % 13) (ByteArray.mk #[]) ∈ L13 D := getD_mem (by rw [hlen]; omega) _
  have hr := bad13 hD _ hm
  have hsz : ∀ x ∈ L13 D, x.size < 1000 := by
    intro x hx
    unfold L13 at hx
    simp only [List.mem_cons, List.not_mem_nil, or_false] at hx
    have z : ∀ p : ByteArray, p.size ≤ 100 → (p ++ D).size < 900 := fun p hp => by rw [ByteArray.size_append]; omega
    have z2 : ∀ p q : ByteArray, p.size ≤ 100 → q.size ≤ 10 → (p ++ D ++ q).size < 1000 := fun p q hp hq => by rw [ByteArray.size_append]; have := z p hp; omega
    rcases hx with rfl | rfl | rfl | rfl | rfl | rfl | rfl | rfl | rfl | rfl | rfl | rfl | rfl
    all_goals first | exact Nat.lt_of_lt_of_le (z _ (by decide)) (by decide) | exact z2 _ _ (by decide) (by decide) | decide
  have h9 := s9 (k := k) (by omega) _ (Nat.lt_trans (hsz _ hm) (by decide))
  rw [hr] at h9
  refine bnd h9 ?_
  exact bnd (s8 (k := k) (by omega)) rfl
theorem s5 {k : Nat} (hk : 200 ≤ k) {a0 : Int} (h0 : 0 ≤ a0) (h1 : a0 < 4294967296) {w : Nat} (hw : w < 256) : callN B k 5 [.v (.int .u32) a0, .v (.int .u8) (w : Int)] = (some true : Option Bool) := by
  obtain ⟨k, rfl⟩ := Nat.exists_eq_add_of_le' (show 1 ≤ k by omega)
  refine (callS k 5 _).trans ((t5' (callN B k) (lvl B k).2 k a0 w).trans ?_)
  rw [w64 (x := a0) (by omega) (by omega)]
  refine bnd (s12 (by omega) 1 0 a0) ?_
  have hcan := canon_may h0 (show a0 ≤ 9007199254740992 by omega)
  have hz := itoaB_size h0 (show a0 ≤ 9007199254740992 by omega)
  have hnm : nameB 1 0 a0 = logS ++ itoaB a0 := by
    unfold nameB
    rw [show headB 1 = logS from rfl, if_neg (by decide), show mayI a0 = true from decide_eq_true ⟨h0, by omega⟩, if_neg (by decide), if_neg (by decide)]
  have h4 : logS.size = 4 := rfl
  have hpos : 1 ≤ (itoaB a0).size := by
    obtain ⟨b, rfl, _, hb⟩ := hcan.list
    rw [← list_size, hb]
    have := dec_ne b
    cases hd : Lib.decDigits b with
    | nil => exact absurd hd this
    | cons _ _ => simp
  have hsz : (nameB 1 0 a0).size = 4 + (itoaB a0).size := by rw [hnm, ByteArray.size_append]; rfl
  rw [bF (by omega)]
  refine (if_pos (by omega)).trans ?_
  have hex : ByteArray.extract (nameB 1 0 a0) (Int.toNat (4 : Int)) (ByteArray.size (nameB 1 0 a0)) = itoaB a0 := by
    rw [hnm]; exact ext_r logS (itoaB a0)
  rw [hex]
  exact b5 (by omega) hcan (by omega) hw
end Go.Eng.Bk
/- Names: a name is read as what it was told of. -/
namespace Go.Eng.Bk
open Go Go.Proofs Go.Eng
set_option linter.unusedVariables false
set_option linter.unusedSimpArgs false
set_option maxRecDepth 100000
theorem name_whole {k e n : Int} (h : headB k = noS) : nameB k e n = wholeB k := by unfold nameB; rw [if_pos h]
theorem name_plain {k e n : Int} (h : headB k ≠ noS) (hn : mayI n = true) (h7 : k ≠ 7) : nameB k e n = headB k ++ itoaB n := by
  unfold nameB
  rw [if_neg h, if_neg (by rw [hn]; decide), if_neg h7]
theorem name_far {e n : Int} (he : mayI e = true) (hn : mayI n = true) : nameB 7 e n = farS ++ itoaB e ++ dash ++ itoaB n := by
  unfold nameB
  rw [if_neg (by decide), if_neg (by rw [hn]; decide), if_pos rfl, if_neg (by rw [he]; decide)]
  rfl
theorem cut_name {e n : Int} (he : mayI e = true) (hn : mayI n = true) : cutB (itoaB e ++ (dash ++ itoaB n)) dash = (itoaB e, itoaB n, true, ()) := by
  have hl : (itoaB e ++ (dash ++ itoaB n)).data.toList = (itoaB e).data.toList ++ 45 :: (itoaB n).data.toList := by rw [ba_app, ba_app]; rfl
  have n1 := (canon_mayI he).no45
  rcases cut_dash (itoaB e ++ (dash ++ itoaB n)) with ⟨a, b, h1, h2, h3⟩ | ⟨h1, h2⟩
  · obtain ⟨rfl, rfl⟩ := split45 _ _ _ _ n1 h2 (hl.symm.trans h1)
    rw [h3, mk_ba, mk_ba]
  · exact absurd (by rw [hl]; simp) h1
theorem read_name {k e n : Int} (h1 : 1 ≤ k) (h8 : k ≤ 8) (he : mayI e = true) (hn : mayI n = true) : readF (nameB k e n) = (k, (if k = 7 then e else 0), (if headB k = noS then 0 else n), ()) := by
  have plain : headB k ≠ noS → k ≠ 7 → readF (nameB k e n) = (k, (if k = 7 then e else 0), (if headB k = noS then 0 else n), ()) := by
    intro hh h7
    rw [name_plain hh hn h7, (read_head h1 h8 hh _).2, step_plain h7 hh, numB_canon (canon_mayI hn), if_pos rfl, if_neg h7, if_neg hh]
  have hc : k = 1 ∨ k = 2 ∨ k = 3 ∨ k = 4 ∨ k = 5 ∨ k = 6 ∨ k = 7 ∨ k = 8 := by omega
  rcases hc with rfl | rfl | rfl | rfl | rfl | rfl | rfl | rfl
  · exact plain (by decide) (by decide)
  · exact plain (by decide) (by decide)
  · exact plain (by decide) (by decide)
  · exact (congrArg readF (name_whole (by decide))).trans (show readF (wholeB 4) = ((4 : Int), (0 : Int), (0 : Int), ()) by kernel_rfl)
  · exact (congrArg readF (name_whole (by decide))).trans (show readF (wholeB 5) = ((5 : Int), (0 : Int), (0 : Int), ()) by kernel_rfl)
  · exact (congrArg readF (name_whole (by decide))).trans (show readF (wholeB 6) = ((6 : Int), (0 : Int), (0 : Int), ()) by kernel_rfl)
  · rw [name_far he hn, ByteArray.append_assoc, ByteArray.append_assoc]
    have hh : headB 7 = farS := rfl
    have := (read_head (k := 7) (by omega) (by omega) (by rw [hh]; decide) (itoaB e ++ (dash ++ itoaB n))).2
    rw [hh] at this
    rw [this, step_far, cut_name he hn, numB_canon (canon_mayI he), numB_canon (canon_mayI hn), if_pos ⟨rfl, rfl, rfl⟩, if_pos rfl, if_neg (by decide)]
  · exact plain (by decide) (by decide)
def okc (c : UInt8) : Prop := (97 ≤ c.toNat ∧ c.toNat ≤ 122) ∨ (48 ≤ c.toNat ∧ c.toNat ≤ 57) ∨ c.toNat = 45
instance (c : UInt8) : Decidable (okc c) := by unfold okc; infer_instance
theorem okc_itoa {n : Int} (hn : mayI n = true) : ∀ c ∈ (itoaB n).data.toList, okc c := fun c hc => .inr (.inl ((canon_mayI hn).dig c hc))
theorem okc_app {a b : ByteArray} (ha : ∀ c ∈ a.data.toList, okc c) (hb : ∀ c ∈ b.data.toList, okc c) : ∀ c ∈ (a ++ b).data.toList, okc c := by
  intro c hc
  rw [ba_app] at hc
  rcases List.mem_append.1 hc with h | h
  · exact ha c h
  · exact hb c h
theorem name_chars {k e n : Int} (h1 : 1 ≤ k) (h8 : k ≤ 8) (he : mayI e = true) (hn : mayI n = true) : (∀ c ∈ (nameB k e n).data.toList, okc c) ∧ (nameB k e n).size ≤ 40 ∧ nameB k e n ≠ noS := by
  have in1 := itoaB_size (mayI_t hn).1 (mayI_t hn).2
  have ie1 := itoaB_size (mayI_t he).1 (mayI_t he).2
  have plain : headB k ≠ noS → k ≠ 7 → (∀ c ∈ (headB k).data.toList, okc c) → (headB k).size ≤ 6 → (∀ c ∈ (nameB k e n).data.toList, okc c) ∧ (nameB k e n).size ≤ 40 ∧ nameB k e n ≠ noS := by
    intro hh h7 ho hs
    rw [name_plain hh hn h7]
    refine ⟨okc_app ho (okc_itoa hn), by rw [ByteArray.size_append]; omega, (head_not hh _ 0).2⟩
  have hc : k = 1 ∨ k = 2 ∨ k = 3 ∨ k = 4 ∨ k = 5 ∨ k = 6 ∨ k = 7 ∨ k = 8 := by omega
  rcases hc with rfl | rfl | rfl | rfl | rfl | rfl | rfl | rfl
  · exact plain (by decide) (by decide) (by decide) (by decide)
  · exact plain (by decide) (by decide) (by decide) (by decide)
  · exact plain (by decide) (by decide) (by decide) (by decide)
  · rw [name_whole (by decide)]; decide
  · rw [name_whole (by decide)]; decide
  · rw [name_whole (by decide)]; decide
  · rw [name_far he hn]
    refine ⟨okc_app (okc_app (okc_app (by decide) (okc_itoa he)) (by decide)) (okc_itoa hn), ?_, ?_⟩
    · have s1 : farS.size = 4 := by decide
      have s2 : dash.size = 1 := by decide
      rw [ByteArray.size_append, ByteArray.size_append, ByteArray.size_append]; omega
    · rw [ByteArray.append_assoc, ByteArray.append_assoc]
      have hh : headB 7 = farS := rfl
      rw [← hh]
      exact (head_not (by rw [hh]; decide) _ 0).2
  · exact plain (by decide) (by decide) (by decide) (by decide)
theorem name_inj {k o e n m : Int} (h1 : 1 ≤ k) (h8 : k ≤ 8) (o1 : 1 ≤ o) (o8 : o ≤ 8) (he : mayI e = true) (hn : mayI n = true) (hm : mayI m = true) : nameB k e n = nameB o e m ↔ k = o ∧ (headB k = noS ∨ n = m) := by
  constructor
  · intro h
    have h' := congrArg readF h
    rw [read_name h1 h8 he hn, read_name o1 o8 he hm] at h'
    obtain ⟨rfl, h2⟩ := Prod.mk.inj h'
    refine ⟨rfl, ?_⟩
    by_cases hh : headB k = noS
    · exact .inl hh
    · obtain ⟨_, h3⟩ := Prod.mk.inj h2
      obtain ⟨h3, _⟩ := Prod.mk.inj h3
      rw [if_neg hh, if_neg hh] at h3
      exact .inr h3
  · rintro ⟨rfl, h | rfl⟩
    · rw [name_whole h, name_whole h]
    · rfl
end Go.Eng.Bk
/- refs: what a version needs that has one table more: names. -/
namespace Go.Eng.Bk
open Go Go.Proofs Go.Eng
set_option linter.unusedVariables false
set_option linter.unusedSimpArgs false
set_option maxRecDepth 100000
theorem noS_size : noS.size = 0 := rfl
theorem whole_small (k : Int) : (wholeB k).size ≤ 40 := by
  unfold wholeB
  cases (k == (4 : Int)) <;> cases (k == (5 : Int)) <;> cases (k == (6 : Int)) <;> decide
theorem itoa_small {n : Int} (h : mayI n = true) : (itoaB n).size ≤ 16 := itoaB_size (mayI_t h).1 (mayI_t h).2
theorem head_small (k : Int) : (headB k).size ≤ 6 := by
  unfold headB
  cases (k == (1 : Int)) <;> cases (k == (2 : Int)) <;> cases (k == (3 : Int)) <;> cases (k == (8 : Int)) <;> cases (k == (7 : Int)) <;> decide
theorem name_small (k e n : Int) : (nameB k e n).size ≤ 40 := by
  have h0 : noS.size ≤ 40 := by decide
  have hh := head_small k
  have hd : dash.size = 1 := by decide
  unfold nameB
  split
  · exact whole_small k
  · split
    · exact h0
    · rename_i hn
      have hn' : mayI n = true := by cases h : mayI n with | true => rfl | false => exact absurd h hn
      have i1 := itoa_small hn'
      split
      · split
        · exact h0
        · rename_i he
          have he' : mayI e = true := by cases h : mayI e with | true => rfl | false => exact absurd h he
          have i2 := itoa_small he'
          rw [ByteArray.size_append, ByteArray.size_append, ByteArray.size_append]
          omega
      · rw [ByteArray.size_append]
        omega
theorem name_may {n : Int} (h : nameB 2 0 n ≠ noS) : mayI n = true := by
  by_cases hn : mayI n = true
  · exact hn
  · exact absurd (by unfold nameB; rw [if_neg (by decide), if_pos (by simpa using hn)]) h
theorem kind_ne {k o e e' n m : Int} (h1 : 1 ≤ k) (h8 : k ≤ 8) (o1 : 1 ≤ o) (o8 : o ≤ 8) (he : mayI e = true) (hn : mayI n = true) (he' : mayI e' = true) (hm : mayI m = true) (hne : k ≠ o) : nameB k e n ≠ nameB o e' m := fun h => by
  have h' := congrArg readF h
  rw [read_name h1 h8 he hn, read_name o1 o8 he' hm] at h'
  exact hne (congrArg Prod.fst h')
theorem nearL_mem (x : ByteArray) : ∀ l : List Tab, x ∈ nearL l ↔ ∃ t ∈ l, t.2.2.2.2.2.2.2.1 = true ∧ x = nameB 2 0 t.1
  | [] => by simp [nearL]
  | t :: r => by
    have ih := nearL_mem x r
    unfold nearL
    by_cases h : t.2.2.2.2.2.2.2.1 = true
    · rw [if_pos h, List.mem_cons, ih]
      constructor
      · rintro (h1 | ⟨u, h1, h2⟩)
        · exact ⟨t, List.mem_cons_self, h, h1⟩
        · exact ⟨u, List.mem_cons_of_mem _ h1, h2⟩
      · rintro ⟨u, h1, h2, h3⟩
        rcases List.mem_cons.1 h1 with rfl | h1
        · exact .inl h3
        · exact .inr ⟨u, h1, h2, h3⟩
    · rw [if_neg h, ih]
      constructor
      · rintro ⟨u, h1, h2⟩
        exact ⟨u, List.mem_cons_of_mem _ h1, h2⟩
      · rintro ⟨u, h1, h2, h3⟩
        rcases List.mem_cons.1 h1 with rfl | h1
        · exact absurd h2 h
        · exact ⟨u, h1, h2, h3⟩
theorem farL_mem (all : Bool) (x : ByteArray) : ∀ l : List Tab, x ∈ farL all l ↔ ∃ t ∈ l, (all = true ∨ t.2.2.2.2.2.2.2.2.1 = true) ∧ x = nameB 7 t.2.1 t.1
  | [] => by simp [farL]
  | t :: r => by
    have ih := farL_mem all x r
    unfold farL
    by_cases h : all = true ∨ t.2.2.2.2.2.2.2.2.1 = true
    · rw [if_pos h, List.mem_cons, ih]
      constructor
      · rintro (h1 | ⟨u, h1, h2⟩)
        · exact ⟨t, List.mem_cons_self, h, h1⟩
        · exact ⟨u, List.mem_cons_of_mem _ h1, h2⟩
      · rintro ⟨u, h1, h2, h3⟩
        rcases List.mem_cons.1 h1 with rfl | h1
        · exact .inl h3
        · exact .inr ⟨u, h1, h2, h3⟩
    · rw [if_neg h, ih]
      constructor
      · rintro ⟨u, h1, h2⟩
        exact ⟨u, List.mem_cons_of_mem _ h1, h2⟩
      · rintro ⟨u, h1, h2, h3⟩
        rcases List.mem_cons.1 h1 with rfl | h1
        · exact absurd h2 h
        · exact ⟨u, h1, h2, h3⟩
theorem nearV_mem (v : Ver) (list x : ByteArray) : x ∈ nearV v list ↔ x = nameB 6 0 0 ∨ x = nameB 4 0 0 ∨ x = list ∨ ∃ t ∈ v.tabs, t.2.2.2.2.2.2.2.1 = true ∧ x = nameB 2 0 t.1 := by
  unfold nearV
  rw [rising_mem, List.mem_cons, List.mem_cons, List.mem_cons, nearL_mem]
theorem farV_mem (v w : Ver) (num : Int) (x : ByteArray) : x ∈ farV v w num ↔ ((∃ t ∈ v.tabs, t.2.2.2.2.2.2.2.2.1 = true ∧ x = nameB 7 t.2.1 t.1) ∨ ∃ t ∈ w.tabs, x = nameB 7 t.2.1 t.1) ∨ (0 < num ∧ x = nameB 8 0 num) := by
  unfold farV
  rw [rising_mem, List.mem_append, List.mem_append, farL_mem, farL_mem]
  by_cases hn : (0 : Int) < num
  · rw [if_pos hn]; simp [hn]
  · rw [if_neg hn]; simp [hn]
theorem rising_len (l : List ByteArray) : (rising l).length ≤ l.length := by
  rw [← fold_rising]
  have := fold_len l []
  simpa using this
theorem nearV_len (v : Ver) (list : ByteArray) : (nearV v list).length ≤ v.tabs.length + 3 := by
  unfold nearV
  have h1 := rising_len (nameB 6 0 0 :: nameB 4 0 0 :: list :: nearL v.tabs)
  have h2 := nearL_len v.tabs
  simp only [List.length_cons] at h1
  omega
theorem farV_len (v w : Ver) (num : Int) : (farV v w num).length ≤ v.tabs.length + w.tabs.length + 1 := by
  unfold farV
  have h1 := rising_len (farL false v.tabs ++ farL true w.tabs ++ (if (0 : Int) < num then [nameB 8 0 num] else []))
  have h2 := farL_len false v.tabs
  have h3 := farL_len true w.tabs
  have h4 : (if (0 : Int) < num then [nameB 8 0 num] else []).length ≤ 1 := by split <;> simp
  simp only [List.length_append] at h1
  omega
theorem need_in {s : ByteArray} {l : List ByteArray} (log : Int) (h : s ∈ l) : needB s l log = true := by
  unfold needB; rw [decide_eq_true h]; rfl
theorem need_not {s : ByteArray} {l : List ByteArray} {log : Int} (h : s ∉ l) (h2 : (readF s).1 ≠ 1 ∨ (readF s).2.2.1 < log) : needB s l log = false := by
  unfold needB
  rw [decide_eq_false h]
  rcases h2 with h2 | h2
  · rw [decide_eq_false h2]; rfl
  · rw [decide_eq_false (show ¬ (readF s).2.2.1 ≥ log by omega), Bool.and_false]; rfl
theorem need_log {l : List ByteArray} {log : Int} (h : mayI log = true) : needB (nameB 1 0 log) l log = true := by
  unfold needB
  rw [read_name (by decide) (by decide) (by decide) h]
  simp [show headB 1 ≠ noS by decide]
/-! one table more -/
def L9 : ByteArray := ByteArray.mk #[(108 : UInt8), (105 : UInt8), (115 : UInt8), (116 : UInt8), (45 : UInt8), (57 : UInt8)]
theorem L9_name : L9 = nameB 3 0 9 := by kernel_rfl
section
variable {tabs : List Tab} {a0 nx la log ep : Int}
def oneMore (tabs : List Tab) (nx ep : Int) : List Tab := [(nx, ep, (0 : Int), (ByteArray.mk #[(97 : UInt8)]), (ByteArray.mk #[(98 : UInt8)]), (0 : Int), (1 : Int), true, true, ())] ++ tabs
theorem more_near {v w : Ver} (hv : v.tabs = tabs) (hw : w.tabs = oneMore tabs nx ep) {list x : ByteArray} (h : x ∈ nearV v list) : x ∈ nearV w list := by
  rw [nearV_mem] at h ⊢
  rcases h with h | h | h | ⟨t, h1, h2⟩
  · exact .inl h
  · exact .inr (.inl h)
  · exact .inr (.inr (.inl h))
  · exact .inr (.inr (.inr ⟨t, by rw [hw]; exact List.mem_cons_of_mem _ (hv ▸ h1), h2⟩))
theorem more_far {v w z u : Ver} (hv : v.tabs = tabs) (hw : w.tabs = oneMore tabs nx ep) (hz : z.tabs = []) {n : Int} {x : ByteArray} (h : x ∈ farV v z 0) : x ∈ farV w u n := by
  rw [farV_mem] at h ⊢
  rcases h with (⟨t, h1, h2⟩ | ⟨t, h1, h2⟩) | ⟨h1, _⟩
  · exact .inl (.inl ⟨t, by rw [hw]; exact List.mem_cons_of_mem _ (hv ▸ h1), h2⟩)
  · rw [hz] at h1; cases h1
  · omega
theorem own_near {w : Ver} (hw : w.tabs = oneMore tabs nx ep) (list : ByteArray) : nameB 2 0 nx ∈ nearV w list := by
  rw [nearV_mem]
  exact .inr (.inr (.inr ⟨_, by rw [hw]; exact List.mem_cons_self, rfl, rfl⟩))
theorem own_far {w u : Ver} (hw : w.tabs = oneMore tabs nx ep) (n : Int) : nameB 7 ep nx ∈ farV w u n := by
  rw [farV_mem]
  exact .inl (.inl ⟨_, by rw [hw]; exact List.mem_cons_self, rfl, rfl⟩)
theorem no_near {v : Ver} (hb : ∀ t ∈ v.tabs, t.1 < nx) (hn : mayI nx = true) : nameB 2 0 nx ∉ nearV v L9 := by
  rw [nearV_mem, L9_name]
  rintro (h | h | h | ⟨t, h1, _, h2⟩)
  · exact kind_ne (by decide) (by decide) (by decide) (by decide) (by decide) hn (by decide) (by decide) (by decide) h
  · exact kind_ne (by decide) (by decide) (by decide) (by decide) (by decide) hn (by decide) (by decide) (by decide) h
  · exact kind_ne (by decide) (by decide) (by decide) (by decide) (by decide) hn (by decide) (by decide) (by decide) h
  · have hm : mayI t.1 = true := name_may (h2 ▸ (name_chars (by decide) (by decide) (by decide) hn).2.2)
    rcases ((name_inj (by decide) (by decide) (by decide) (by decide) (by decide) hn hm).1 h2).2 with h3 | h3
    · exact absurd h3 (by decide)
    · have := hb t h1; omega
theorem no_log {v : Ver} {n : Int} (hn : mayI n = true) : nameB 1 0 n ∉ nearV v L9 := by
  rw [nearV_mem, L9_name]
  rintro (h | h | h | ⟨t, h1, _, h2⟩)
  · exact kind_ne (by decide) (by decide) (by decide) (by decide) (by decide) hn (by decide) (by decide) (by decide) h
  · exact kind_ne (by decide) (by decide) (by decide) (by decide) (by decide) hn (by decide) (by decide) (by decide) h
  · exact kind_ne (by decide) (by decide) (by decide) (by decide) (by decide) hn (by decide) (by decide) (by decide) h
  · have hm : mayI t.1 = true := name_may (h2 ▸ (name_chars (by decide) (by decide) (by decide) hn).2.2)
    exact kind_ne (by decide) (by decide) (by decide) (by decide) (by decide) hn (by decide) hm (by decide) h2
theorem far_may {e n : Int} (h : nameB 7 e n ≠ noS) : mayI e = true ∧ mayI n = true := by
  by_cases hn : mayI n = true
  · by_cases he : mayI e = true
    · exact ⟨he, hn⟩
    · exact absurd (by unfold nameB; rw [if_neg (by decide), if_neg (by simp [hn]), if_pos rfl, if_pos (by simpa using he)]) h
  · exact absurd (by unfold nameB; rw [if_neg (by decide), if_pos (by simpa using hn)]) h
theorem no_mark {v w : Ver} {n m : Int} (hn : mayI n = true) (hm : mayI m = true) (hne : n ≠ m) : nameB 8 0 n ∉ farV v w m := by
  rw [farV_mem]
  have key : ∀ t : Tab, nameB 8 0 n ≠ nameB 7 t.2.1 t.1 := fun t h => by
    have h3 := far_may (h ▸ (name_chars (by decide) (by decide) (by decide) hn).2.2)
    exact kind_ne (by decide) (by decide) (by decide) (by decide) (by decide) hn h3.1 h3.2 (by decide) h
  rintro ((⟨t, _, _, h⟩ | ⟨t, _, h⟩) | ⟨_, h⟩)
  · exact key t h
  · exact key t h
  · rcases ((name_inj (by decide) (by decide) (by decide) (by decide) (by decide) hn hm).1 h).2 with h3 | h3
    · exact absurd h3 (by decide)
    · exact hne h3
theorem is_mark {v w : Ver} {m : Int} (hm : 0 < m) : nameB 8 0 m ∈ farV v w m := by
  rw [farV_mem]; exact .inr ⟨hm, rfl⟩
end
end Go.Eng.Bk
/- What the machine answers at some functions of the program: printed by the generator, each checked by the kernel. -/
namespace Go.Eng.Bk
open Go Go.Proofs Go.Eng
set_option linter.unusedVariables false
set_option maxRecDepth 100000
section
variable (call : CallT B) (inl : InlT) (m : Nat)
/-! function 6 -/
theorem t6 (a0 : (List Int)) (a1 : (List Int)) (a2 : ByteArray) (a3 : Int) (a4 : ByteArray) (a5 : (List ByteArray)) (a6 : Int) : stepN B call inl m 6 [argAV (.sl (.int .u8)) a0, argAV (.sl (.int .u8)) a1, argAV .str a2, argAV (.int .i64) a3, argAV .str a4, argAV (.sl .str) a5, argAV (.int .i64) a6] = (bif decide ((↑(ByteArray.size a2) : Int) > (200 : Int)) == false then (bif decide ((↑(ByteArray.size a4) : Int) > (200 : Int)) == false then (bif decide ((↑(List.length a5) : Int) > (60 : Int)) then ((call 13 []).bind fun (v0 : Bool) => some (v0)) else ((call 14 [(.v (.sl (.int .u8)) (a0))]).bind fun (v1 : Ver) => (call 14 [(.v (.sl (.int .u8)) (a1))]).bind fun (v2 : Ver) => (call 15 [(.agg [(.v (.int .i64) (v1.fst)), (.v (.int .i64) (v1.snd.fst)), (.v (.int .i64) (v1.snd.snd.fst)), (.v (.int .i64) (v1.snd.snd.snd.fst)), (.v (.sl TabT) (v1.snd.snd.snd.snd.fst))]), (.v .str (a2))]).bind fun (v3 : ((List ByteArray) × Int × Unit)) => (call 16 [(.agg [(.v (.int .i64) (v1.fst)), (.v (.int .i64) (v1.snd.fst)), (.v (.int .i64) (v1.snd.snd.fst)), (.v (.int .i64) (v1.snd.snd.snd.fst)), (.v (.sl TabT) (v1.snd.snd.snd.snd.fst))]), (.v .str (a2))]).bind fun (v4 : ((List ByteArray) × Int × Unit)) => (call 17 [(.v (.sl .str) (v3.fst)), (.v (.sl .str) (v4.fst))]).bind fun (v5 : Bool) => bif v5 == true then (bif (v3.snd.fst == v4.snd.fst) == true then ((call 18 [(.agg [(.v (.int .i64) (v1.fst)), (.v (.int .i64) (v1.snd.fst)), (.v (.int .i64) (v1.snd.snd.fst)), (.v (.int .i64) (v1.snd.snd.snd.fst)), (.v (.sl TabT) (v1.snd.snd.snd.snd.fst))]), (.agg [(.v (.int .i64) (v2.fst)), (.v (.int .i64) (v2.snd.fst)), (.v (.int .i64) (v2.snd.snd.fst)), (.v (.int .i64) (v2.snd.snd.snd.fst)), (.v (.sl TabT) (v2.snd.snd.snd.snd.fst))]), (.v (.int .i64) (a3))]).bind fun (v6 : (List ByteArray)) => (call 19 [(.agg [(.v (.int .i64) (v1.fst)), (.v (.int .i64) (v1.snd.fst)), (.v (.int .i64) (v1.snd.snd.fst)), (.v (.int .i64) (v1.snd.snd.snd.fst)), (.v (.sl TabT) (v1.snd.snd.snd.snd.fst))]), (.agg [(.v (.int .i64) (v2.fst)), (.v (.int .i64) (v2.snd.fst)), (.v (.int .i64) (v2.snd.snd.fst)), (.v (.int .i64) (v2.snd.snd.snd.fst)), (.v (.sl TabT) (v2.snd.snd.snd.snd.fst))]), (.v (.int .i64) (a3))]).bind fun (v7 : (List ByteArray)) => (call 17 [(.v (.sl .str) (v6)), (.v (.sl .str) (v7))]).bind fun (v8 : Bool) => bif v8 == true then ((call 20 [(.v .str (a4)), (.v (.sl .str) (a5)), (.v (.int .i64) (a6))]).bind fun (v9 : Bool) => (call 21 [(.v .str (a4)), (.v (.sl .str) (a5)), (.v (.int .i64) (a6))]).bind fun (v10 : Bool) => bif (v9 == v10) == true then ((call 13 []).bind fun (v11 : Bool) => some (v11)) else (some (false))) else (some (false))) else (some (false))) else (some (false)))) else ((call 13 []).bind fun (v12 : Bool) => some (v12))) else ((call 13 []).bind fun (v13 : Bool) => some (v13)) : Option Bool) := by kernel_rfl
end
end Go.Eng.Bk
/- What the machine answers at some functions of the program: printed by the generator, each checked by the kernel. -/
namespace Go.Eng.Bk
open Go Go.Proofs Go.Eng
set_option linter.unusedVariables false
set_option maxRecDepth 100000
section
variable (call : CallT B) (inl : InlT) (m : Nat)
/-! function 13 -/
theorem t13 : stepN B call inl m 13 [] = ((call 15 [(.agg [(.v (.int .i64) ((0 : Int))), (.v (.int .i64) ((0 : Int))), (.v (.int .i64) ((0 : Int))), (.v (.int .i64) ((0 : Int))), (.v (.sl TabT) ([]))]), (.v .str ((ByteArray.mk #[(108 : UInt8), (105 : UInt8), (115 : UInt8), (116 : UInt8), (45 : UInt8), (49 : UInt8)])))]).bind fun (v0 : ((List ByteArray) × Int × Unit)) => (call 18 [(.agg [(.v (.int .i64) ((0 : Int))), (.v (.int .i64) ((0 : Int))), (.v (.int .i64) ((0 : Int))), (.v (.int .i64) ((0 : Int))), (.v (.sl TabT) ([]))]), (.agg [(.v (.int .i64) ((0 : Int))), (.v (.int .i64) ((0 : Int))), (.v (.int .i64) ((0 : Int))), (.v (.int .i64) ((0 : Int))), (.v (.sl TabT) ([]))]), (.v (.int .i64) ((0 : Int)))]).bind fun (v1 : (List ByteArray)) => bif ((↑(List.length v1) : Int) == (0 : Int)) == true then (bif ((↑(List.length v0.fst) : Int) == (3 : Int)) == true then (if (0 : Int) ≤ (2 : Int) ∧ (2 : Int) < (↑(List.length v0.fst) : Int) then (some (ByteArray.toList (List.getD v0.fst (Int.toNat (2 : Int)) (ByteArray.mk #[])) == (ByteArray.mk #[(108 : UInt8), (105 : UInt8), (115 : UInt8), (116 : UInt8), (45 : UInt8), (49 : UInt8)]).toList)) else (none)) else (some (false))) else (some (false)) : Option Bool) := by kernel_rfl
end
end Go.Eng.Bk
/- refs: the law RefsAll answers true. -/
namespace Go.Eng.Bk
open Go Go.Proofs Go.Eng
set_option linter.unusedVariables false
set_option linter.unusedSimpArgs false
set_option maxRecDepth 100000
def L1 : ByteArray := ByteArray.mk #[(108 : UInt8), (105 : UInt8), (115 : UInt8), (116 : UInt8), (45 : UInt8), (49 : UInt8)]
def noV : Ver := ((0 : Int), (0 : Int), (0 : Int), (0 : Int), [], ())
theorem near_none (list : ByteArray) : nearV noV list = [nameB 6 0 0, nameB 4 0 0, list].foldl putS [] := (fold_rising _).symm
theorem near_L1 : nearV noV L1 = [cacS, curS, L1] := by
  rw [near_none]
  show [cacS, curS, L1].foldl putS [] = _
  have h1 : Lt cacS curS := by unfold Lt; decide
  have h2 : Lt curS L1 := by unfold Lt; decide
  have h3 : Lt cacS L1 := h1.trans h2
  simp [List.foldl, putS, h1, h2, h3]
theorem far_none : farV noV noV 0 = [] := by
  unfold farV
  show rising ([] ++ [] ++ _) = _
  rw [if_neg (by decide), ← fold_rising]
  rfl
theorem s13 {k : Nat} (hk : 20 ≤ k) : callN B k 13 [] = (some true : Option Bool) := by
  obtain ⟨k, rfl⟩ := Nat.exists_eq_add_of_le' (show 1 ≤ k by omega)
  refine (callS k 13 _).trans ((t13 (callN B k) (lvl B k).2 k).trans ?_)
  refine bnd (s15 (by omega) noV L1 (Nat.zero_le _)) (bnd (s18 (by omega) noV noV 0 (Nat.zero_le _) (Nat.zero_le _)) ?_)
  rw [near_L1, far_none]
  kernel_rfl
/-- A law's answer: true. -/
abbrev Yes (b : Bool) : Prop := b = true
theorem Ans.yes {x : Option Bool} (h : Ans x Yes) : x = some true := by
  obtain ⟨b, h1, rfl⟩ := h
  exact h1
theorem s6 {k : Nat} (hk : 100200 ≤ k) {ns ms : List Int} (hns : Bytes ns) (hms : Bytes ms) (list : ByteArray) (num : Int) (s : ByteArray) (names : List ByteArray) (log : Int) :
    callN B k 6 [.v (.sl (.int .u8)) ns, .v (.sl (.int .u8)) ms, .v .str list, .v i64 num, .v .str s, .v (.sl .str) names, .v i64 log] = (some true : Option Bool) := by
  obtain ⟨k, rfl⟩ := Nat.exists_eq_add_of_le' (show 1 ≤ k by omega)
  refine Ans.yes ?_
  refine Ans.of ((callS k 6 _).trans (t6 (callN B k) (lvl B k).2 k ns ms list num s names log)) ?_
  have ha : Ans (Option.bind (callN B k 13 [] : Option Bool) fun v => some v) Yes := Ans.bind (s13 (by omega)) (Ans.val rfl)
  refine Ans.cond (fun _ => ?_) (fun _ => ha)
  refine Ans.cond (fun hs => ?_) (fun _ => ha)
  refine Ans.cond (fun _ => ha) (fun hn => ?_)
  have hs' : s.size ≤ 200 := by
    by_cases h : (↑(ByteArray.size s) : Int) > (200 : Int)
    · rw [decide_eq_true h] at hs; exact nomatch hs
    · omega
  have hn' := of_decide_eq_false hn
  obtain ⟨v, hv, v1, _⟩ := s14 (k := k) (by omega) hns
  obtain ⟨w, hw, w1, _⟩ := s14 (k := k) (by omega) hms
  refine Ans.bind hv (Ans.bind hw ?_)
  refine Ans.bind (s15 (k := k) (by omega) v list (by omega)) (Ans.bind (s16 (k := k) (by omega) v list (by omega)) ?_)
  have l1 := nearV_len v list
  refine Ans.bind (s17 (k := k) (l := nearV v list) (by omega) (by omega)) ?_
  refine Ans.cond (fun _ => ?_) (fun h => nomatch h)
  refine Ans.cond (fun _ => ?_) (fun h => by simp at h)
  refine Ans.bind (s18 (k := k) (by omega) v w num (by omega) (by omega)) (Ans.bind (s19 (k := k) (by omega) v w num (by omega) (by omega)) ?_)
  have l2 := farV_len v w num
  refine Ans.bind (s17 (k := k) (l := farV v w num) (by omega) (by omega)) ?_
  refine Ans.cond (fun _ => ?_) (fun h => nomatch h)
  refine Ans.bind (s20 (k := k) s (by omega) log (by omega) (by omega)) (Ans.bind (s21 (k := k) s (by omega) log (by omega) (by omega)) ?_)
  exact Ans.cond (fun _ => ha) (fun h => by simp at h)
end Go.Eng.Bk
/- What the machine answers at some functions of the program: printed by the generator, each checked by the kernel. -/
namespace Go.Eng.Bk
open Go Go.Proofs Go.Eng
set_option linter.unusedVariables false
set_option maxRecDepth 100000
section
variable (call : CallT B) (inl : InlT) (m : Nat)
/-! function 7 -/
def s7_6 (a1 : Int) (a2 : Int) (v0 : Ver) (v1 : ((List ByteArray) × Int × Unit)) (v2 : ((List ByteArray) × Int × Unit)) (x4 : Int) : St := { t := [.bad, (.v (.int .u8) (a1)), .bad, .bad, .bad, .bad, .bad, (.ptr 0 0), (.ptr 1 0), (.ptr 2 0), (.own 1 9 .str (v1.fst)), (.v (.int .i64) (v1.snd.fst)), (.own 2 9 .str (v2.fst)), (.v (.int .i64) (v2.snd.fst)), (.v (.int .i64) (x4)), (.raw undef), (.raw undef), (.raw undef), (.raw undef), (.raw undef), .bad, .bad, .bad, .bad, .bad, .bad, .bad, .bad, .bad, .bad, .bad, .bad, .bad, .bad, .bad, .bad, .bad, .bad, .bad, .bad, .bad, .bad, .bad, .bad, .bad, .bad, .bad, .bad, .bad, .bad, .bad, .bad, .bad, .bad, .bad, .bad, .bad, .bad, .bad, .bad, .bad, .bad, .bad, .bad, .bad, .bad, (.raw undef), (.raw undef), (.raw undef), (.raw undef), (.raw undef), (.raw undef), (.raw undef), (.raw undef), (.raw undef), (.raw undef), (.raw undef), (.raw undef), (.raw undef), (.raw undef), (.raw undef), (.raw undef), (.raw undef), (.raw undef), (.raw undef), (.raw undef), (.raw undef), (.raw undef), (.raw undef), (.raw undef), (.raw undef), (.raw undef), (.raw undef), (.raw undef), (.raw undef), (.raw undef), (.raw undef), (.raw undef), (.raw undef), (.raw undef), (.raw undef), (.raw undef), (.raw undef), (.raw undef), (.raw undef), (.raw undef), (.raw undef), (.raw undef), (.raw undef), (.raw undef), (.raw undef), (.raw undef), (.raw undef), (.raw undef), (.raw undef), (.raw undef), (.raw undef), (.raw undef), (.raw undef), (.raw undef), (.raw undef), (.raw undef), (.raw undef), (.raw undef), (.raw undef), (.raw undef), (.raw undef), (.raw undef), (.raw undef), (.raw undef), (.raw undef), (.raw undef), (.raw undef), (.raw undef), (.raw undef), (.raw undef), (.raw undef), (.raw undef), (.raw undef), (.raw undef), (.raw undef), (.raw undef), (.raw undef), (.raw undef), (.raw undef), (.raw undef), (.raw undef), (.raw undef), (.raw undef), (.raw undef), (.raw undef), (.raw undef), (.raw undef), (.raw undef)], bx := [(some (36, [(.v (.int .i64) (v0.fst)), (.v (.int .i64) (v0.snd.fst)), (.v (.int .i64) (v0.snd.snd.fst)), (.v (.int .i64) (IntKind.i64.wrap a1)), (.v (.sl TabT) (v0.snd.snd.snd.snd.fst))])), (some (45, [(.v (.int .i64) (v0.snd.fst)), (.v (.int .i64) ((IntKind.i64.wrap a2).tmod (4 : Int))), (.v (.int .i64) ((0 : Int))), (.v .str ((ByteArray.mk #[(97 : UInt8)]))), (.v .str ((ByteArray.mk #[(98 : UInt8)]))), (.v (.int .i64) ((0 : Int))), (.v (.int .i64) ((1 : Int))), (.v .bool (true)), (.v .bool (true))])), (some (36, [(.v (.int .i64) (v0.fst)), (.v (.int .i64) (IntKind.i64.wrap (v0.snd.fst + (1 : Int)))), (.v (.int .i64) (v0.snd.snd.fst)), (.v (.int .i64) (IntKind.i64.wrap a1)), (.own 0 45 TabT ([(v0.snd.fst, (IntKind.i64.wrap a2).tmod (4 : Int), (0 : Int), (ByteArray.mk #[(97 : UInt8)]), (ByteArray.mk #[(98 : UInt8)]), (0 : Int), (1 : Int), true, true, ())] ++ v0.snd.snd.snd.snd.fst))])), none, none, none], live := 7, g := [] }
def s7_6x8 (y0 : Int) (y1 : Int) (y2 : Ver) (y3 : ((List ByteArray) × Int × Unit)) (y4 : ((List ByteArray) × Int × Unit)) : St := { t := [.bad, (.v (.int .u8) (y0)), .bad, .bad, .bad, .bad, (.v .bool (false)), (.ptr 0 0), (.ptr 1 0), (.ptr 2 0), (.own 1 9 .str (y3.fst)), (.v (.int .i64) (y3.snd.fst)), (.own 2 9 .str (y4.fst)), (.v (.int .i64) (y4.snd.fst)), .bad, (.raw undef), (.raw undef), (.raw undef), (.raw undef), (.raw undef), .bad, .bad, .bad, .bad, .bad, .bad, .bad, .bad, .bad, .bad, .bad, .bad, .bad, .bad, .bad, .bad, .bad, .bad, .bad, .bad, .bad, .bad, .bad, .bad, .bad, .bad, .bad, .bad, .bad, .bad, .bad, .bad, .bad, .bad, .bad, .bad, .bad, .bad, .bad, .bad, .bad, .bad, .bad, .bad, .bad, .bad, (.raw undef), (.raw undef), (.raw undef), (.raw undef), (.raw undef), (.raw undef), (.raw undef), (.raw undef), (.raw undef), (.raw undef), (.raw undef), (.raw undef), (.raw undef), (.raw undef), (.raw undef), (.raw undef), (.raw undef), (.raw undef), (.raw undef), (.raw undef), (.raw undef), (.raw undef), (.raw undef), (.raw undef), (.raw undef), (.raw undef), (.raw undef), (.raw undef), (.raw undef), (.raw undef), (.raw undef), (.raw undef), (.raw undef), (.raw undef), (.raw undef), (.raw undef), (.raw undef), (.raw undef), (.raw undef), (.raw undef), (.raw undef), (.raw undef), (.raw undef), (.raw undef), (.raw undef), (.raw undef), (.raw undef), (.raw undef), (.raw undef), (.raw undef), (.raw undef), (.raw undef), (.raw undef), (.raw undef), (.raw undef), (.raw undef), (.raw undef), (.raw undef), (.raw undef), (.raw undef), (.raw undef), (.raw undef), (.raw undef), (.raw undef), (.raw undef), (.raw undef), (.raw undef), (.raw undef), (.raw undef), (.raw undef), (.raw undef), (.raw undef), (.raw undef), (.raw undef), (.raw undef), (.raw undef), (.raw undef), (.raw undef), (.raw undef), (.raw undef), (.raw undef), (.raw undef), (.raw undef), (.raw undef), (.raw undef), (.raw undef), (.raw undef), (.raw undef)], bx := [(some (36, [(.v (.int .i64) (y2.fst)), (.v (.int .i64) (y2.snd.fst)), (.v (.int .i64) (y2.snd.snd.fst)), (.v (.int .i64) (IntKind.i64.wrap y0)), (.v (.sl TabT) (y2.snd.snd.snd.snd.fst))])), (some (45, [(.v (.int .i64) (y2.snd.fst)), (.v (.int .i64) ((IntKind.i64.wrap y1).tmod (4 : Int))), (.v (.int .i64) ((0 : Int))), (.v .str ((ByteArray.mk #[(97 : UInt8)]))), (.v .str ((ByteArray.mk #[(98 : UInt8)]))), (.v (.int .i64) ((0 : Int))), (.v (.int .i64) ((1 : Int))), (.v .bool (true)), (.v .bool (true))])), (some (36, [(.v (.int .i64) (y2.fst)), (.v (.int .i64) (IntKind.i64.wrap (y2.snd.fst + (1 : Int)))), (.v (.int .i64) (y2.snd.snd.fst)), (.v (.int .i64) (IntKind.i64.wrap y0)), (.own 0 45 TabT ([(y2.snd.fst, (IntKind.i64.wrap y1).tmod (4 : Int), (0 : Int), (ByteArray.mk #[(97 : UInt8)]), (ByteArray.mk #[(98 : UInt8)]), (0 : Int), (1 : Int), true, true, ())] ++ y2.snd.snd.snd.snd.fst))])), none, none, none, none, none, none, none, none, none, none, none, none, none, none, none, none], live := 7, g := [] }
def s7_6x9 (y0 : Int) (y1 : Int) (y2 : Ver) (y3 : ((List ByteArray) × Int × Unit)) (y4 : ((List ByteArray) × Int × Unit)) : St := { t := [.bad, (.v (.int .u8) (y0)), .bad, .bad, .bad, .bad, .bad, (.ptr 0 0), (.ptr 1 0), (.ptr 2 0), (.own 1 9 .str (y3.fst)), (.v (.int .i64) (y3.snd.fst)), (.own 2 9 .str (y4.fst)), (.v (.int .i64) (y4.snd.fst)), .bad, (.raw undef), (.raw undef), (.raw undef), (.raw undef), (.raw undef), .bad, .bad, .bad, .bad, .bad, .bad, .bad, .bad, .bad, .bad, .bad, .bad, .bad, .bad, .bad, .bad, .bad, .bad, .bad, .bad, .bad, .bad, .bad, .bad, .bad, .bad, .bad, .bad, .bad, .bad, .bad, .bad, .bad, .bad, .bad, .bad, .bad, .bad, .bad, .bad, .bad, .bad, .bad, .bad, .bad, .bad, (.raw undef), (.raw undef), (.raw undef), (.raw undef), (.raw undef), (.raw undef), (.raw undef), (.raw undef), (.raw undef), (.raw undef), (.raw undef), (.raw undef), (.raw undef), (.raw undef), (.raw undef), (.raw undef), (.raw undef), (.raw undef), (.raw undef), (.raw undef), (.raw undef), (.raw undef), (.raw undef), (.raw undef), (.raw undef), (.raw undef), (.raw undef), (.raw undef), (.raw undef), (.raw undef), (.raw undef), (.raw undef), (.raw undef), (.raw undef), (.raw undef), (.raw undef), (.raw undef), (.raw undef), (.raw undef), (.raw undef), (.raw undef), (.raw undef), (.raw undef), (.raw undef), (.raw undef), (.raw undef), (.raw undef), (.raw undef), (.raw undef), (.raw undef), (.raw undef), (.raw undef), (.raw undef), (.raw undef), (.raw undef), (.raw undef), (.raw undef), (.raw undef), (.raw undef), (.raw undef), (.raw undef), (.raw undef), (.raw undef), (.raw undef), (.raw undef), (.raw undef), (.raw undef), (.raw undef), (.raw undef), (.raw undef), (.raw undef), (.raw undef), (.raw undef), (.raw undef), (.raw undef), (.raw undef), (.raw undef), (.raw undef), (.raw undef), (.raw undef), (.raw undef), (.raw undef), (.raw undef), (.raw undef), (.raw undef), (.raw undef), (.raw undef), (.raw undef)], bx := [(some (36, [(.v (.int .i64) (y2.fst)), (.v (.int .i64) (y2.snd.fst)), (.v (.int .i64) (y2.snd.snd.fst)), (.v (.int .i64) (IntKind.i64.wrap y0)), (.v (.sl TabT) (y2.snd.snd.snd.snd.fst))])), (some (45, [(.v (.int .i64) (y2.snd.fst)), (.v (.int .i64) ((IntKind.i64.wrap y1).tmod (4 : Int))), (.v (.int .i64) ((0 : Int))), (.v .str ((ByteArray.mk #[(97 : UInt8)]))), (.v .str ((ByteArray.mk #[(98 : UInt8)]))), (.v (.int .i64) ((0 : Int))), (.v (.int .i64) ((1 : Int))), (.v .bool (true)), (.v .bool (true))])), (some (36, [(.v (.int .i64) (y2.fst)), (.v (.int .i64) (IntKind.i64.wrap (y2.snd.fst + (1 : Int)))), (.v (.int .i64) (y2.snd.snd.fst)), (.v (.int .i64) (IntKind.i64.wrap y0)), (.own 0 45 TabT ([(y2.snd.fst, (IntKind.i64.wrap y1).tmod (4 : Int), (0 : Int), (ByteArray.mk #[(97 : UInt8)]), (ByteArray.mk #[(98 : UInt8)]), (0 : Int), (1 : Int), true, true, ())] ++ y2.snd.snd.snd.snd.fst))])), none, none, none, none, none, none, none], live := 7, g := [] }
theorem s7_6_l {R : Type} (K : AEx → St → Option R) (a1 : Int) (a2 : Int) (v0 : Ver) (v1 : ((List ByteArray) × Int × Unit)) (v2 : ((List ByteArray) × Int × Unit)) (x4 : Int) : LP B call inl 7 (m + 1) [1, 1, 1, 1, 1, 1, 1, 1, 1, 0, 1] (s7_6 a1 a2 v0 v1 v2 x4) K = (bif decide (x4 < (↑(List.length v1.fst) : Int)) then (if (0 : Int) ≤ x4 ∧ x4 < (↑(List.length v1.fst) : Int) then ((call 20 [(.v .str (List.getD v1.fst x4.toNat (ByteArray.mk #[]))), (.v (.sl .str) (v2.fst)), (.v (.int .i64) (v2.snd.fst))]).bind fun (v7 : Bool) => bif !v7 then (K .ret (s7_6x8 a1 a2 v0 v1 v2)) else (LP B call inl 7 m [1, 1, 1, 1, 1, 1, 1, 1, 1, 0, 1] (s7_6 a1 a2 v0 v1 v2 (IntKind.i64.wrap (x4 + (1 : Int)))) K)) else (none)) else (K (.exit 0) (s7_6x9 a1 a2 v0 v1 v2))) := by kernel_rfl
theorem s7_6x8_k (a1 : Int) (a2 : Int) (v0 : Ver) (v1 : ((List ByteArray) × Int × Unit)) (v2 : ((List ByteArray) × Int × Unit)) : (KA B call inl 7 m [1, 1, 1, 1, 1, 1, 1, 1, 1, 0, 1] (FI B call inl 7)) .ret (s7_6x8 a1 a2 v0 v1 v2) = (some (false)) := by kernel_rfl
def s7_16 (a1 : Int) (a2 : Int) (v0 : Ver) (v1 : ((List ByteArray) × Int × Unit)) (v2 : ((List ByteArray) × Int × Unit)) (v11 : (List ByteArray)) (v12 : (List ByteArray)) (x14 : Int) : St := { t := [.bad, (.v (.int .u8) (a1)), .bad, .bad, .bad, .bad, .bad, .bad, (.ptr 0 0), .bad, (.own 0 9 .str (v1.fst)), (.v (.int .i64) (v1.snd.fst)), (.own 1 9 .str (v2.fst)), (.v (.int .i64) (v2.snd.fst)), .bad, (.own 2 9 .str (v11)), (.own 3 9 .str (v12)), (.v (.int .i64) (x14)), (.raw undef), (.raw undef), .bad, .bad, .bad, .bad, .bad, .bad, .bad, .bad, .bad, .bad, .bad, .bad, .bad, .bad, .bad, .bad, .bad, .bad, .bad, .bad, .bad, .bad, .bad, .bad, .bad, .bad, .bad, .bad, .bad, .bad, .bad, .bad, .bad, .bad, .bad, .bad, .bad, .bad, .bad, .bad, .bad, .bad, .bad, .bad, .bad, .bad, .bad, .bad, .bad, .bad, .bad, .bad, .bad, .bad, .bad, .bad, .bad, .bad, .bad, .bad, .bad, .bad, .bad, .bad, .bad, (.raw undef), (.raw undef), (.raw undef), (.raw undef), (.raw undef), (.raw undef), (.raw undef), (.raw undef), (.raw undef), (.raw undef), (.raw undef), (.raw undef), (.raw undef), (.raw undef), (.raw undef), (.raw undef), (.raw undef), (.raw undef), (.raw undef), (.raw undef), (.raw undef), (.raw undef), (.raw undef), (.raw undef), (.raw undef), (.raw undef), (.raw undef), (.raw undef), (.raw undef), (.raw undef), (.raw undef), (.raw undef), (.raw undef), (.raw undef), (.raw undef), (.raw undef), (.raw undef), (.raw undef), (.raw undef), (.raw undef), (.raw undef), (.raw undef), (.raw undef), (.raw undef), (.raw undef), (.raw undef), (.raw undef), (.raw undef), (.raw undef), (.raw undef), (.raw undef), (.raw undef), (.raw undef), (.raw undef), (.raw undef), (.raw undef), (.raw undef), (.raw undef), (.raw undef), (.raw undef), (.raw undef), (.raw undef), (.raw undef), (.raw undef), (.raw undef), (.raw undef), (.raw undef), (.raw undef), (.raw undef)], bx := [(some (45, [(.v (.int .i64) (v0.snd.fst)), (.v (.int .i64) ((IntKind.i64.wrap a2).tmod (4 : Int))), (.v (.int .i64) ((0 : Int))), (.v .str ((ByteArray.mk #[(97 : UInt8)]))), (.v .str ((ByteArray.mk #[(98 : UInt8)]))), (.v (.int .i64) ((0 : Int))), (.v (.int .i64) ((1 : Int))), (.v .bool (true)), (.v .bool (true))])), none, none, none, none], live := 15, g := [] }
def s7_16x18 (y0 : Int) (y1 : Int) (y2 : Ver) (y3 : ((List ByteArray) × Int × Unit)) (y4 : ((List ByteArray) × Int × Unit)) (y5 : (List ByteArray)) : St := { t := [.bad, (.v (.int .u8) (y0)), .bad, .bad, .bad, .bad, (.v .bool (false)), .bad, (.ptr 0 0), .bad, (.own 0 9 .str (y3.fst)), (.v (.int .i64) (y3.snd.fst)), (.own 1 9 .str (y4.fst)), (.v (.int .i64) (y4.snd.fst)), .bad, .bad, (.own 3 9 .str (y5)), .bad, (.raw undef), (.raw undef), .bad, .bad, .bad, .bad, .bad, .bad, .bad, .bad, .bad, .bad, .bad, .bad, .bad, .bad, .bad, .bad, .bad, .bad, .bad, .bad, .bad, .bad, .bad, .bad, .bad, .bad, .bad, .bad, .bad, .bad, .bad, .bad, .bad, .bad, .bad, .bad, .bad, .bad, .bad, .bad, .bad, .bad, .bad, .bad, .bad, .bad, .bad, .bad, .bad, .bad, .bad, .bad, .bad, .bad, .bad, .bad, .bad, .bad, .bad, .bad, .bad, .bad, .bad, .bad, .bad, (.raw undef), (.raw undef), (.raw undef), (.raw undef), (.raw undef), (.raw undef), (.raw undef), (.raw undef), (.raw undef), (.raw undef), (.raw undef), (.raw undef), (.raw undef), (.raw undef), (.raw undef), (.raw undef), (.raw undef), (.raw undef), (.raw undef), (.raw undef), (.raw undef), (.raw undef), (.raw undef), (.raw undef), (.raw undef), (.raw undef), (.raw undef), (.raw undef), (.raw undef), (.raw undef), (.raw undef), (.raw undef), (.raw undef), (.raw undef), (.raw undef), (.raw undef), (.raw undef), (.raw undef), (.raw undef), (.raw undef), (.raw undef), (.raw undef), (.raw undef), (.raw undef), (.raw undef), (.raw undef), (.raw undef), (.raw undef), (.raw undef), (.raw undef), (.raw undef), (.raw undef), (.raw undef), (.raw undef), (.raw undef), (.raw undef), (.raw undef), (.raw undef), (.raw undef), (.raw undef), (.raw undef), (.raw undef), (.raw undef), (.raw undef), (.raw undef), (.raw undef), (.raw undef), (.raw undef), (.raw undef)], bx := [(some (45, [(.v (.int .i64) (y2.snd.fst)), (.v (.int .i64) ((IntKind.i64.wrap y1).tmod (4 : Int))), (.v (.int .i64) ((0 : Int))), (.v .str ((ByteArray.mk #[(97 : UInt8)]))), (.v .str ((ByteArray.mk #[(98 : UInt8)]))), (.v (.int .i64) ((0 : Int))), (.v (.int .i64) ((1 : Int))), (.v .bool (true)), (.v .bool (true))])), none, none, none, none, none, none, none, none, none, none, none, none, none, none, none, none], live := 15, g := [] }
def s7_16x19 (y0 : Int) (y1 : Int) (y2 : Ver) (y3 : ((List ByteArray) × Int × Unit)) (y4 : ((List ByteArray) × Int × Unit)) (y5 : (List ByteArray)) : St := { t := [.bad, (.v (.int .u8) (y0)), .bad, .bad, .bad, .bad, .bad, .bad, (.ptr 0 0), .bad, (.own 0 9 .str (y3.fst)), (.v (.int .i64) (y3.snd.fst)), (.own 1 9 .str (y4.fst)), (.v (.int .i64) (y4.snd.fst)), .bad, .bad, (.own 3 9 .str (y5)), .bad, (.raw undef), (.raw undef), .bad, .bad, .bad, .bad, .bad, .bad, .bad, .bad, .bad, .bad, .bad, .bad, .bad, .bad, .bad, .bad, .bad, .bad, .bad, .bad, .bad, .bad, .bad, .bad, .bad, .bad, .bad, .bad, .bad, .bad, .bad, .bad, .bad, .bad, .bad, .bad, .bad, .bad, .bad, .bad, .bad, .bad, .bad, .bad, .bad, .bad, .bad, .bad, .bad, .bad, .bad, .bad, .bad, .bad, .bad, .bad, .bad, .bad, .bad, .bad, .bad, .bad, .bad, .bad, .bad, (.raw undef), (.raw undef), (.raw undef), (.raw undef), (.raw undef), (.raw undef), (.raw undef), (.raw undef), (.raw undef), (.raw undef), (.raw undef), (.raw undef), (.raw undef), (.raw undef), (.raw undef), (.raw undef), (.raw undef), (.raw undef), (.raw undef), (.raw undef), (.raw undef), (.raw undef), (.raw undef), (.raw undef), (.raw undef), (.raw undef), (.raw undef), (.raw undef), (.raw undef), (.raw undef), (.raw undef), (.raw undef), (.raw undef), (.raw undef), (.raw undef), (.raw undef), (.raw undef), (.raw undef), (.raw undef), (.raw undef), (.raw undef), (.raw undef), (.raw undef), (.raw undef), (.raw undef), (.raw undef), (.raw undef), (.raw undef), (.raw undef), (.raw undef), (.raw undef), (.raw undef), (.raw undef), (.raw undef), (.raw undef), (.raw undef), (.raw undef), (.raw undef), (.raw undef), (.raw undef), (.raw undef), (.raw undef), (.raw undef), (.raw undef), (.raw undef), (.raw undef), (.raw undef), (.raw undef), (.raw undef)], bx := [(some (45, [(.v (.int .i64) (y2.snd.fst)), (.v (.int .i64) ((IntKind.i64.wrap y1).tmod (4 : Int))), (.v (.int .i64) ((0 : Int))), (.v .str ((ByteArray.mk #[(97 : UInt8)]))), (.v .str ((ByteArray.mk #[(98 : UInt8)]))), (.v (.int .i64) ((0 : Int))), (.v (.int .i64) ((1 : Int))), (.v .bool (true)), (.v .bool (true))])), none, none, none, none, none, none, none, none], live := 15, g := [] }
theorem s7_16_l {R : Type} (K : AEx → St → Option R) (a1 : Int) (a2 : Int) (v0 : Ver) (v1 : ((List ByteArray) × Int × Unit)) (v2 : ((List ByteArray) × Int × Unit)) (v11 : (List ByteArray)) (v12 : (List ByteArray)) (x14 : Int) : LP B call inl 7 (m + 1) [1, 1, 1, 1, 1, 1, 1, 1, 1, 1, 1, 0, 1] (s7_16 a1 a2 v0 v1 v2 v11 v12 x14) K = (bif decide (x14 < (↑(List.length v11) : Int)) then (if (0 : Int) ≤ x14 ∧ x14 < (↑(List.length v11) : Int) then ((call 20 [(.v .str (List.getD v11 x14.toNat (ByteArray.mk #[]))), (.v (.sl .str) (v12)), (.v (.int .i64) ((0 : Int)))]).bind fun (v17 : Bool) => bif !v17 then (K .ret (s7_16x18 a1 a2 v0 v1 v2 v12)) else (LP B call inl 7 m [1, 1, 1, 1, 1, 1, 1, 1, 1, 1, 1, 0, 1] (s7_16 a1 a2 v0 v1 v2 v11 v12 (IntKind.i64.wrap (x14 + (1 : Int)))) K)) else (none)) else (K (.exit 2) (s7_16x19 a1 a2 v0 v1 v2 v12))) := by kernel_rfl
theorem s7_16x18_k (a1 : Int) (a2 : Int) (v0 : Ver) (v1 : ((List ByteArray) × Int × Unit)) (v2 : ((List ByteArray) × Int × Unit)) (v12 : (List ByteArray)) : (KA B call inl 7 m [1, 1, 1, 1, 1, 1, 1, 1, 1, 1, 1, 0, 1] (FI B call inl 7)) .ret (s7_16x18 a1 a2 v0 v1 v2 v12) = (some (false)) := by kernel_rfl
theorem s7_16x19_k (a1 : Int) (a2 : Int) (v0 : Ver) (v1 : ((List ByteArray) × Int × Unit)) (v2 : ((List ByteArray) × Int × Unit)) (v12 : (List ByteArray)) : (KA B call inl 7 m [1, 1, 1, 1, 1, 1, 1, 1, 1, 1, 1, 0, 1] (FI B call inl 7)) (.exit 2) (s7_16x19 a1 a2 v0 v1 v2 v12) = ((call 12 [(.v (.int .i64) ((2 : Int))), (.v (.int .i64) ((0 : Int))), (.v (.int .i64) (v0.snd.fst))]).bind fun (v21 : ByteArray) => (call 12 [(.v (.int .i64) ((7 : Int))), (.v (.int .i64) ((IntKind.i64.wrap a2).tmod (4 : Int))), (.v (.int .i64) (v0.snd.fst))]).bind fun (v22 : ByteArray) => bif (v1.snd.fst == IntKind.i64.wrap a1) == true then (bif (v2.snd.fst == v1.snd.fst) == true then ((call 20 [(.v .str (v21)), (.v (.sl .str) (v2.fst)), (.v (.int .i64) (v2.snd.fst))]).bind fun (v23 : Bool) => bif v23 == true then ((call 20 [(.v .str (v21)), (.v (.sl .str) (v1.fst)), (.v (.int .i64) (v1.snd.fst))]).bind fun (v24 : Bool) => bif (!v24) == true then ((call 20 [(.v .str (v22)), (.v (.sl .str) (v12)), (.v (.int .i64) ((0 : Int)))]).bind fun (v25 : Bool) => bif v25 == true then ((call 20 [(.v .str ((ByteArray.mk #[(109 : UInt8), (97 : UInt8), (114 : UInt8), (107 : UInt8), (45 : UInt8), (55 : UInt8)]))), (.v (.sl .str) (v12)), (.v (.int .i64) ((0 : Int)))]).bind fun (v26 : Bool) => bif v26 == true then ((call 20 [(.v .str ((ByteArray.mk #[(109 : UInt8), (97 : UInt8), (114 : UInt8), (107 : UInt8), (45 : UInt8), (54 : UInt8)]))), (.v (.sl .str) (v12)), (.v (.int .i64) ((0 : Int)))]).bind fun (v27 : Bool) => bif (!v27) == true then ((call 12 [(.v (.int .i64) ((1 : Int))), (.v (.int .i64) ((0 : Int))), (.v (.int .i64) (IntKind.i64.wrap a1))]).bind fun (v28 : ByteArray) => (call 20 [(.v .str (v28)), (.v (.sl .str) (v1.fst)), (.v (.int .i64) (v1.snd.fst))]).bind fun (v29 : Bool) => bif v29 == true then (bif (a1 == (0 : Int)) == false then ((call 12 [(.v (.int .i64) ((1 : Int))), (.v (.int .i64) ((0 : Int))), (.v (.int .i64) (IntKind.i64.wrap (IntKind.i64.wrap a1 - (1 : Int))))]).bind fun (v30 : ByteArray) => (call 20 [(.v .str (v30)), (.v (.sl .str) (v1.fst)), (.v (.int .i64) (v1.snd.fst))]).bind fun (v31 : Bool) => bif (!v31) == true then ((call 13 []).bind fun (v32 : Bool) => some (v32)) else (some (false))) else ((call 13 []).bind fun (v33 : Bool) => some (v33))) else (some (false))) else (some (false))) else (some (false))) else (some (false))) else (some (false))) else (some (false))) else (some (false))) else (some (false))) := by kernel_rfl
theorem s7_6x9_k (a1 : Int) (a2 : Int) (v0 : Ver) (v1 : ((List ByteArray) × Int × Unit)) (v2 : ((List ByteArray) × Int × Unit)) : (KA B call inl 7 m [1, 1, 1, 1, 1, 1, 1, 1, 1, 0, 1] (FI B call inl 7)) (.exit 0) (s7_6x9 a1 a2 v0 v1 v2) = ((call 18 [(.agg [(.v (.int .i64) (v0.fst)), (.v (.int .i64) (v0.snd.fst)), (.v (.int .i64) (v0.snd.snd.fst)), (.v (.int .i64) (IntKind.i64.wrap a1)), (.v (.sl TabT) (v0.snd.snd.snd.snd.fst))]), (.agg [(.v (.int .i64) ((0 : Int))), (.v (.int .i64) ((0 : Int))), (.v (.int .i64) ((0 : Int))), (.v (.int .i64) ((0 : Int))), (.v (.sl TabT) ([]))]), (.v (.int .i64) ((0 : Int)))]).bind fun (v11 : (List ByteArray)) => (call 18 [(.agg [(.v (.int .i64) (v0.fst)), (.v (.int .i64) (IntKind.i64.wrap (v0.snd.fst + (1 : Int)))), (.v (.int .i64) (v0.snd.snd.fst)), (.v (.int .i64) (IntKind.i64.wrap a1)), (.v (.sl TabT) ([(v0.snd.fst, (IntKind.i64.wrap a2).tmod (4 : Int), (0 : Int), (ByteArray.mk #[(97 : UInt8)]), (ByteArray.mk #[(98 : UInt8)]), (0 : Int), (1 : Int), true, true, ())] ++ v0.snd.snd.snd.snd.fst))]), (.agg [(.v (.int .i64) (v0.fst)), (.v (.int .i64) (v0.snd.fst)), (.v (.int .i64) (v0.snd.snd.fst)), (.v (.int .i64) (IntKind.i64.wrap a1)), (.v (.sl TabT) (v0.snd.snd.snd.snd.fst))]), (.v (.int .i64) ((7 : Int)))]).bind fun (v12 : (List ByteArray)) => LP B call inl 7 m [1, 1, 1, 1, 1, 1, 1, 1, 1, 1, 1, 0, 1] (s7_16 a1 a2 v0 v1 v2 v11 v12 ((0 : Int))) (KA B call inl 7 m [1, 1, 1, 1, 1, 1, 1, 1, 1, 1, 1, 0, 1] (FI B call inl 7))) := by kernel_rfl
theorem t7 (a0 : (List Int)) (a1 : Int) (a2 : Int) : stepN B call inl m 7 [argAV (.sl (.int .u8)) a0, argAV (.int .u8) a1, argAV (.int .u8) a2] = ((call 14 [(.v (.sl (.int .u8)) (a0))]).bind fun (v0 : Ver) => if ([(v0.snd.fst, (IntKind.i64.wrap a2).tmod (4 : Int), (0 : Int), (ByteArray.mk #[(97 : UInt8)]), (ByteArray.mk #[(98 : UInt8)]), (0 : Int), (1 : Int), true, true, ())].length + List.length v0.snd.snd.snd.snd.fst) * (80 : Nat) ≤ 140737488355328 then ((call 15 [(.agg [(.v (.int .i64) (v0.fst)), (.v (.int .i64) (v0.snd.fst)), (.v (.int .i64) (v0.snd.snd.fst)), (.v (.int .i64) (IntKind.i64.wrap a1)), (.v (.sl TabT) (v0.snd.snd.snd.snd.fst))]), (.v .str ((ByteArray.mk #[(108 : UInt8), (105 : UInt8), (115 : UInt8), (116 : UInt8), (45 : UInt8), (57 : UInt8)])))]).bind fun (v1 : ((List ByteArray) × Int × Unit)) => (call 15 [(.agg [(.v (.int .i64) (v0.fst)), (.v (.int .i64) (IntKind.i64.wrap (v0.snd.fst + (1 : Int)))), (.v (.int .i64) (v0.snd.snd.fst)), (.v (.int .i64) (IntKind.i64.wrap a1)), (.v (.sl TabT) ([(v0.snd.fst, (IntKind.i64.wrap a2).tmod (4 : Int), (0 : Int), (ByteArray.mk #[(97 : UInt8)]), (ByteArray.mk #[(98 : UInt8)]), (0 : Int), (1 : Int), true, true, ())] ++ v0.snd.snd.snd.snd.fst))]), (.v .str ((ByteArray.mk #[(108 : UInt8), (105 : UInt8), (115 : UInt8), (116 : UInt8), (45 : UInt8), (57 : UInt8)])))]).bind fun (v2 : ((List ByteArray) × Int × Unit)) => LP B call inl 7 m [1, 1, 1, 1, 1, 1, 1, 1, 1, 0, 1] (s7_6 a1 a2 v0 v1 v2 ((0 : Int))) (KA B call inl 7 m [1, 1, 1, 1, 1, 1, 1, 1, 1, 0, 1] (FI B call inl 7))) else (none) : Option Bool) := by kernel_rfl
end
end Go.Eng.Bk
/- refs: the law RefsMore answers true. -/
namespace Go.Eng.Bk
open Go Go.Proofs Go.Eng
set_option linter.unusedVariables false
set_option linter.unusedSimpArgs false
set_option maxRecDepth 100000
section
variable {k : Nat}
theorem l7a {R : Type} {K : AEx → St → Option R} {P : R → Prop} (hk : 100030 ≤ k) (a1 a2 : Int) (v0 : Ver) (v1 v2 : List ByteArray × Int × Unit) (hl : v1.1.length ≤ 1000) (hl2 : v2.1.length ≤ 1000)
    (hin : ∀ x ∈ v1.1, x ∈ v2.1 ∧ x.size < 400) (hx : Ans (K (.exit 0) (s7_6x9 a1 a2 v0 v1 v2)) P) (d : Nat) : ∀ (i m : Nat), i + d = v1.1.length → d < m →
    Ans (LP B (callN B k) (lvl B k).2 7 m [1, 1, 1, 1, 1, 1, 1, 1, 1, 0, 1] (s7_6 a1 a2 v0 v1 v2 (i : Int)) K) P := by
  induction d with
  | zero =>
    intro i m hd hm
    obtain ⟨m, rfl⟩ : ∃ k, m = k + 1 := ⟨m - 1, by omega⟩
    refine Ans.of (s7_6_l _ _ m _ _ _ _ _ _ _) ?_
    rw [decide_eq_false (show ¬ ((i : Int) < (↑(List.length v1.fst) : Int)) by omega)]
    exact hx
  | succ d ih =>
    intro i m hd hm
    obtain ⟨m, rfl⟩ : ∃ k, m = k + 1 := ⟨m - 1, by omega⟩
    have hin' : (0 : Int) ≤ (i : Int) ∧ (i : Int) < (↑(List.length v1.fst) : Int) := by omega
    have e1 : (i : Int) + 1 = ((i + 1 : Nat) : Int) := by omega
    refine Ans.of (s7_6_l _ _ m _ _ _ _ _ _ _) ?_
    rw [decide_eq_true hin'.2, if_pos hin', w1' (by omega) (by omega), e1, Int.toNat_natCast]
    have hmem : List.getD v1.fst i (ByteArray.mk #[]) ∈ v1.fst := by
      rw [List.getD_eq_getElem?_getD, List.getElem?_eq_getElem (show i < v1.fst.length by omega)]
      exact List.getElem_mem _
    have hi := hin _ hmem
    refine Ans.cond (fun _ => ?_) (fun h => nomatch h)
    refine Ans.bind (s20 (k := k) _ hi.2 v2.snd.fst (by omega) (by omega)) ?_
    rw [need_in _ hi.1]
    exact Ans.cond (fun h => nomatch h) (fun _ => ih (i + 1) m (by omega) (by omega))
theorem l7b {R : Type} {K : AEx → St → Option R} {P : R → Prop} (hk : 100030 ≤ k) (a1 a2 : Int) (v0 : Ver) (v1 v2 : List ByteArray × Int × Unit) (f g : List ByteArray) (hl : f.length ≤ 1000) (hl2 : g.length ≤ 1000)
    (hin : ∀ x ∈ f, x ∈ g ∧ x.size < 400) (hx : Ans (K (.exit 2) (s7_16x19 a1 a2 v0 v1 v2 g)) P) (d : Nat) : ∀ (i m : Nat), i + d = f.length → d < m →
    Ans (LP B (callN B k) (lvl B k).2 7 m [1, 1, 1, 1, 1, 1, 1, 1, 1, 1, 1, 0, 1] (s7_16 a1 a2 v0 v1 v2 f g (i : Int)) K) P := by
  induction d with
  | zero =>
    intro i m hd hm
    obtain ⟨m, rfl⟩ : ∃ k, m = k + 1 := ⟨m - 1, by omega⟩
    refine Ans.of (s7_16_l _ _ m _ _ _ _ _ _ _ _ _) ?_
    rw [decide_eq_false (show ¬ ((i : Int) < (↑(List.length f) : Int)) by omega)]
    exact hx
  | succ d ih =>
    intro i m hd hm
    obtain ⟨m, rfl⟩ : ∃ k, m = k + 1 := ⟨m - 1, by omega⟩
    have hin' : (0 : Int) ≤ (i : Int) ∧ (i : Int) < (↑(List.length f) : Int) := by omega
    have e1 : (i : Int) + 1 = ((i + 1 : Nat) : Int) := by omega
    refine Ans.of (s7_16_l _ _ m _ _ _ _ _ _ _ _ _) ?_
    rw [decide_eq_true hin'.2, if_pos hin', w1' (by omega) (by omega), e1, Int.toNat_natCast]
    have hmem : List.getD f i (ByteArray.mk #[]) ∈ f := by
      rw [List.getD_eq_getElem?_getD, List.getElem?_eq_getElem (show i < f.length by omega)]
      exact List.getElem_mem _
    have hi := hin _ hmem
    refine Ans.cond (fun _ => ?_) (fun h => nomatch h)
    refine Ans.bind (s20 (k := k) _ hi.2 0 (by omega) (by omega)) ?_
    rw [need_in _ hi.1]
    exact Ans.cond (fun h => nomatch h) (fun _ => ih (i + 1) m (by omega) (by omega))
end
theorem near_small {v : Ver} {x : ByteArray} (h : x ∈ nearV v L9) : x.size < 400 := by
  rw [nearV_mem, L9_name] at h
  rcases h with rfl | rfl | rfl | ⟨t, _, _, rfl⟩ <;> exact Nat.lt_of_le_of_lt (name_small _ _ _) (by decide)
theorem far_small {v w : Ver} {n : Int} {x : ByteArray} (h : x ∈ farV v w n) : x.size < 400 := by
  rw [farV_mem] at h
  rcases h with (⟨t, _, _, rfl⟩ | ⟨t, _, rfl⟩) | ⟨_, rfl⟩ <;> exact Nat.lt_of_le_of_lt (name_small _ _ _) (by decide)
theorem read_log {n : Int} (h : mayI n = true) : (readF (nameB 1 0 n)).2.2.1 = n := by
  rw [read_name (by decide) (by decide) (by decide) h]
  show (if headB 1 = noS then (0 : Int) else n) = n
  rw [if_neg (by decide)]
theorem read_kind {k e n : Int} (h1 : 1 ≤ k) (h8 : k ≤ 8) (he : mayI e = true) (hn : mayI n = true) : (readF (nameB k e n)).1 = k := by
  rw [read_name h1 h8 he hn]
theorem mark7 : ByteArray.mk #[(109 : UInt8), (97 : UInt8), (114 : UInt8), (107 : UInt8), (45 : UInt8), (55 : UInt8)] = nameB 8 0 7 := by kernel_rfl
theorem mark6 : ByteArray.mk #[(109 : UInt8), (97 : UInt8), (114 : UInt8), (107 : UInt8), (45 : UInt8), (54 : UInt8)] = nameB 8 0 6 := by kernel_rfl
theorem may_of {n : Int} (h0 : 0 ≤ n) (h1 : n ≤ 9007199254740992) : mayI n = true := by unfold mayI; exact decide_eq_true ⟨h0, h1⟩
theorem s7 {k : Nat} (hk : 100200 ≤ k) {ns : List Int} (hns : Bytes ns) {p q : Nat} (hp : p < 256) (hq : q < 256) :
    callN B k 7 [.v (.sl (.int .u8)) ns, .v u8 (p : Int), .v u8 (q : Int)] = (some true : Option Bool) := by
  obtain ⟨k, rfl⟩ := Nat.exists_eq_add_of_le' (show 1 ≤ k by omega)
  refine Ans.yes ?_
  refine Ans.of ((callS k 7 _).trans (t7 (callN B k) (lvl B k).2 k ns (p : Int) (q : Int))) ?_
  have ha : Ans (Option.bind (callN B k 13 [] : Option Bool) fun v => some v) Yes := Ans.bind (s13 (by omega)) (Ans.val rfl)
  obtain ⟨(v : Ver), hv, v1, v2, v3, v4⟩ := s14 (k := k) (by omega) hns
  refine Ans.bind hv ?_
  have e4 : Int.tmod (q : Int) 4 = ((q % 4 : Nat) : Int) := tmodN q 4
  have wp : IntKind.i64.wrap (p : Int) = (p : Int) := w64 (by omega) (by omega)
  have wq : IntKind.i64.wrap (q : Int) = (q : Int) := w64 (by omega) (by omega)
  have wn : IntKind.i64.wrap (v.snd.fst + 1) = v.snd.fst + 1 := w64 (by omega) (by omega)
  have hv1 : v.snd.snd.snd.snd.fst.length ≤ 256 := v1
  rw [wp, wq, wn, e4]
  refine Ans.ite (by rw [List.length_singleton]; omega) ?_
  obtain ⟨a, ea⟩ : ∃ a : Ver, a = (v.fst, v.snd.fst, v.snd.snd.fst, (p : Int), v.snd.snd.snd.snd.fst, ()) := ⟨_, rfl⟩
  obtain ⟨w, ew⟩ : ∃ w : Ver, w = (v.fst, v.snd.fst + 1, v.snd.snd.fst, (p : Int), oneMore v.tabs v.2.1 ((q % 4 : Nat) : Int), ()) := ⟨_, rfl⟩
  have ta : a.tabs = v.tabs := by rw [ea]
  have tw : w.tabs = oneMore v.tabs v.2.1 ((q % 4 : Nat) : Int) := by rw [ew]
  have la : a.tabs.length ≤ 256 := by rw [ta]; exact v1
  have lw : w.tabs.length ≤ 257 := by rw [tw]; unfold oneMore; rw [List.length_append, List.length_singleton]; omega
  have ha15 : callN B k 15 [argAV VerT a, .v .str L9] = (some (nearV a L9, ((p : Int), ())) : Option (List ByteArray × (Int × Unit))) := by
    have h := s15 (k := k) (by omega) a L9 (by omega)
    rw [show (p : Int) = a.2.2.2.1 by rw [ea]]; exact h
  have hw15 : callN B k 15 [argAV VerT w, .v .str L9] = (some (nearV w L9, ((p : Int), ())) : Option (List ByteArray × (Int × Unit))) := by
    have h := s15 (k := k) (by omega) w L9 (by omega)
    rw [show (p : Int) = w.2.2.2.1 by rw [ew]]; exact h
  have n1 := nearV_len a L9
  have n2 := nearV_len w L9
  rw [ea] at ha15
  rw [ew] at hw15
  refine Ans.bind ha15 (Ans.bind hw15 ?_)
  rw [← ea, ← ew]
  have hx13 : mayI v.2.1 = true := may_of (by omega) (by omega)
  have hpm : mayI (p : Int) = true := may_of (by omega) (by omega)
  have hqm : mayI ((q % 4 : Nat) : Int) = true := may_of (by omega) (by omega)
  have hbelow : ∀ t ∈ a.tabs, t.1 < v.2.1 := by rw [ta]; exact v2
  refine l7a (k := k) (by omega) _ _ v _ _ (by show (nearV a L9).length ≤ 1000; omega) (by show (nearV w L9).length ≤ 1000; omega) (fun x h => ⟨more_near ta tw h, near_small h⟩) ?_ (nearV a L9).length 0 k (by simp) (by omega)
  refine Ans.of (s7_6x9_k _ _ _ _ _ _ _ _) ?_
  have hf : callN B k 18 [argAV VerT a, argAV VerT noV, .v i64 0] = (some (farV a noV 0) : Option (List ByteArray)) := s18 (k := k) (by omega) a noV 0 (by omega) (Nat.zero_le _)
  have hg : callN B k 18 [argAV VerT w, argAV VerT a, .v i64 7] = (some (farV w a 7) : Option (List ByteArray)) := s18 (k := k) (by omega) w a 7 (by omega) (by omega)
  rw [wp, wq, wn, e4]
  rw [ea] at hf hg
  rw [ew] at hg
  refine Ans.bind hf (Ans.bind hg ?_)
  rw [← ea, ← ew]
  have m1 := farV_len a noV 0
  have m2 := farV_len w a 7
  have m0 : noV.tabs.length = 0 := rfl
  refine l7b (k := k) (by omega) _ _ v _ _ _ _ (by omega) (by omega) (fun x h => ⟨more_far ta tw rfl h, far_small h⟩) ?_ (farV a noV 0).length 0 k (by simp) (by omega)
  refine Ans.of (s7_16x19_k _ _ _ _ _ _ _ _ _) ?_
  rw [wp, wq, e4]
  have sm : ∀ k e n : Int, (nameB k e n).size < 400 := fun k e n => Nat.lt_of_le_of_lt (name_small _ _ _) (by decide)
  refine Ans.bind (s12 (k := k) (by omega) 2 0 v.2.1) (Ans.bind (s12 (k := k) (by omega) 7 _ v.2.1) ?_)
  refine Ans.cond (fun _ => ?_) (fun h => by simp at h)
  refine Ans.cond (fun _ => ?_) (fun h => by simp at h)
  refine Ans.bind (s20 (k := k) _ (sm _ _ _) (p : Int) (l := nearV w L9) (by omega) (by omega)) ?_
  rw [need_in _ (own_near tw L9)]
  refine Ans.cond (fun _ => ?_) (fun h => nomatch h)
  refine Ans.bind (s20 (k := k) _ (sm _ _ _) (p : Int) (l := nearV a L9) (by omega) (by omega)) ?_
  rw [need_not (no_near hbelow hx13) (.inl (by rw [read_kind (by decide) (by decide) (by decide) hx13]; decide))]
  refine Ans.cond (fun _ => ?_) (fun h => nomatch h)
  refine Ans.bind (s20 (k := k) _ (sm _ _ _) 0 (l := farV w a 7) (by omega) (by omega)) ?_
  rw [need_in _ (own_far tw 7)]
  refine Ans.cond (fun _ => ?_) (fun h => nomatch h)
  rw [mark7, mark6]
  refine Ans.bind (s20 (k := k) _ (sm _ _ _) 0 (l := farV w a 7) (by omega) (by omega)) ?_
  rw [need_in _ (is_mark (by decide))]
  refine Ans.cond (fun _ => ?_) (fun h => nomatch h)
  refine Ans.bind (s20 (k := k) _ (sm _ _ _) 0 (l := farV w a 7) (by omega) (by omega)) ?_
  rw [need_not (no_mark (by decide) (by decide) (by decide)) (.inl (by rw [read_kind (by decide) (by decide) (by decide) (by decide)]; decide))]
  refine Ans.cond (fun _ => ?_) (fun h => nomatch h)
  refine Ans.bind (s12 (k := k) (by omega) 1 0 (p : Int)) ?_
  refine Ans.bind (s20 (k := k) _ (sm _ _ _) (p : Int) (l := nearV a L9) (by omega) (by omega)) ?_
  rw [need_log hpm]
  refine Ans.cond (fun _ => ?_) (fun h => nomatch h)
  refine Ans.cond (fun hp0 => ?_) (fun _ => ha)
  have hp1 : 1 ≤ p := by
    rcases Nat.eq_zero_or_pos p with h | h
    · subst h; exact nomatch hp0
    · exact h
  have wl : IntKind.i64.wrap ((p : Int) - 1) = (p : Int) - 1 := w64 (by omega) (by omega)
  have hlm : mayI ((p : Int) - 1) = true := may_of (by omega) (by omega)
  rw [wl]
  refine Ans.bind (s12 (k := k) (by omega) 1 0 ((p : Int) - 1)) ?_
  refine Ans.bind (s20 (k := k) _ (sm _ _ _) (p : Int) (l := nearV a L9) (by omega) (by omega)) ?_
  rw [need_not (no_log hlm) (.inr (by rw [read_log hlm]; omega))]
  exact Ans.cond (fun _ => ha) (fun h => nomatch h)
end Go.Eng.Bk
/- refs.Far: its contract. -/
namespace Go.Eng.Bk
open Go Go.Proofs Go.Eng Go.RowKit
set_option linter.unusedVariables false
set_option linter.unusedSimpArgs false
set_option maxRecDepth 100000
section
variable {Γ : Ctx} {keep : Hints} {L : LoopK (AEx × St)} {w0 : World} {Nin : Env} {a b b' : Code} {s r : St} {m : Mp} {act : Act} {w : World} {Q : Exit → Act → World → Prop}
theorem seq_walk (hΓ : CallsOk Γ) (hL : LOk Γ L) (h : aCode Γ keep L (.seq a b) s pairK = some (.normal, r)) (hi : Inv w0 Nin (fun k => k < s.bx.length) s m act w)
    (hb : ∀ s' m' a' w', aCode Γ keep L b s' pairK = some (.normal, r) → Inv w0 Nin (fun k => k < s'.bx.length) s' m' a' w' → b'.wp Γ.P Q a' w') : (Code.seq a b').wp Γ.P Q act w := by
  refine wp_seq (wp_mono (aCode_sound hΓ hL a s _ h m act w hi) (fun e a1 w1 hq => ?_))
  obtain ⟨e', s', m', q1, q2, q3⟩ := hq
  cases e' with
  | normal =>
    cases e <;> first | exact q2.elim | skip
    exact hb s' m' a1 w1 q1 q3
  | _ => cases q1
theorem last_walk (hΓ : CallsOk Γ) (hL : LOk Γ L) (h : aCode Γ keep L a s pairK = some (.normal, r)) (hi : Inv w0 Nin (fun k => k < s.bx.length) s m act w)
    (hb : ∀ m' a' w', Inv w0 Nin (fun k => k < r.bx.length) r m' a' w' → b'.wp Γ.P Q a' w') : (Code.seq a b').wp Γ.P Q act w := by
  refine wp_seq (wp_mono (aCode_sound hΓ hL a s _ h m act w hi) (fun e a1 w1 hq => ?_))
  obtain ⟨e', s', m', q1, q2, q3⟩ := hq
  have q1' : some (e', s') = some (AEx.normal, r) := q1
  obtain ⟨rfl, rfl⟩ := Prod.mk.inj (Option.some.inj q1')
  cases e <;> first | exact q2.elim | skip
  exact hb m' a1 w1 q3
end
theorem reps_strs {w : World} {N : Nat → Prop} : ∀ (xs : List ByteArray) (cs : List Value), repsOf (rep w N .str) xs cs → cs = xs.map Value.string
  | [], _, h => h
  | x :: xs, _, ⟨c0, c1, e, h0, h1⟩ => by
    rw [e, reps_strs xs _ h1, show c0 = [.string x] from h0]
    rfl
theorem strs_reps {w : World} {N : Nat → Prop} : ∀ (xs : List ByteArray), repsOf (rep w N .str) xs (xs.map Value.string)
  | [] => rfl
  | x :: xs => ⟨[.string x], xs.map Value.string, rfl, rfl, strs_reps xs⟩
/-- One own slice, as an answer. -/
theorem res_own {w w' : World} {N : Nat → Prop} {T : TypeId} {e : Ty} {xs : List e.den} {v : Value} {inner : List Value} (ho : w'.ownsRow w.heap.size T e.sz v xs.length inner)
    (hr : repsOf (rep w' (fun b => b < w'.heap.size ∧ (b < w.heap.size → N b) ∧ b ∉ owned [(some T, .sl e)] [v]) e) xs inner) : ResV w w' N (.one (some T) (.sl e)) xs v := by
  refine ⟨⟨⟨inner, ho, hr⟩, rfl⟩, ?_⟩
  show (v.ownBlock.toList ++ []).Nodup
  cases v.ownBlock <;> simp
theorem owns_base {w : World} {B B' T sz n : Nat} {v : Value} {xs : List Value} (h : w.ownsRow B T sz v n xs) (hB : B' ≤ B) : w.ownsRow B' T sz v n xs :=
  ⟨h.1, h.2.imp id (fun ⟨g, c, cur, e1, e2, e3⟩ => ⟨g, c, cur, e1, Nat.le_trans hB e2, e3⟩)⟩
/-- What rising does with a row of the frame's own. -/
theorem rising_own {w0 w : World} {l : List ByteArray} {v : Value} {inner : List Value} (ho : w.ownsRow w0.heap.size 9 1 v l.length inner) {N : Nat → Prop} (hr : repsOf (rep w N .str) l inner) (hb : Below w0.heap.size w0 w) (hn : l.length * 16 ≤ 140737488355328) :
    Calls Tryd.prog 35 #[v] w fun e w' => ∃ u, e = .returned u ∧ Below w0.heap.size w0 w' ∧ w'.ownsRow w0.heap.size 9 1 u (rising l).length ((rising l).map Value.string) ∧ ∀ k, k < w.heap.size → v.ownBlock ≠ some k → w'.heap[k]? = w.heap[k]? := by
  have hin := reps_strs l inner hr
  subst hin
  refine (rising_calls ho hn).mono ?_
  rintro e w' ⟨u, rfl, h1, h2, h3⟩
  have h3' := owns_base h3 hb.size
  cases hv : v.ownBlock with
  | none =>
    have h := h2 hv
    exact ⟨u, rfl, hb.trans ⟨h.os, h.tape, h.output, h.size, fun k hk => h.block k (Nat.lt_of_lt_of_le hk hb.size)⟩, h3', fun k hk _ => h.block k hk⟩
  | some g =>
    have h := h1 g hv
    have hg : w0.heap.size ≤ g := by
      rcases ho.2 with ⟨rfl, _⟩ | ⟨g', c, cur, rfl, e2, _⟩
      · cases hv
      · have : g' = g := by simpa [Value.ownBlock] using hv
        subst this
        exact e2
    exact ⟨u, rfl, h.below hb hg hb.size, h3', fun k hk hne => h.block k hk (fun e => hne (by rw [e]))⟩
def opsOf : Code → Array Oper
  | .region _ ops _ => ops
  | _ => #[]
def noOper : Oper := { dst := none, op := .ready 0, type := 0, pos := "", after := #[], guard := none }
theorem wpOps_plain {P : Program} {ops : Array Oper} {Q : Exit → Act → World → Prop} {i : Nat} {rest : List Nat} {o : Oper} {a : Act} {w : World} (ho : ops[i]? = some o) (hg : o.guard = none) (h : o.wp P a w (wpOps P ops Q rest) Q) : wpOps P ops Q (i :: rest) a w := by
  simp only [wpOps, ho]
  rw [if_pos (by simp [Region.wanted, hg])]
  exact .inl h
theorem getD_put (A : Array Value) (d : Nat) (v : Value) (h : d < A.size) : (A.setIfInBounds d v).getD d undef = v := by
  rw [Array.getD_eq_getD_getElem?, Array.getElem?_setIfInBounds_self_of_lt h]; rfl
noncomputable def o18 (i : Nat) : Oper := ((opsOf end18)[i]?).getD noOper
theorem end18_eq : end18 = .region 15 (opsOf end18) false := by kernel_rfl
theorem end18_size : (opsOf end18).size = 3 := by kernel_rfl
theorem end18_0 : (opsOf end18)[0]? = some (o18 0) := by kernel_rfl
theorem end18_1 : (opsOf end18)[1]? = some (o18 1) := by kernel_rfl
theorem end18_2 : (opsOf end18)[2]? = some (o18 2) := by kernel_rfl
theorem o180_op : (o18 0).op = .move (.tmp 7) := by kernel_rfl
theorem o182_op : (o18 2).op = .assign (.tmp 54) := by kernel_rfl
theorem o181_op : ∃ c, (o18 1).op = .call c ∧ c.callee = .value (.func 35) ∧ c.args = #[.tmp 53] := ⟨(match (o18 1).op with | .call c => c | _ => { callee := .value (.func 0), args := #[], argTypes := #[] }), by kernel_rfl, by kernel_rfl, by kernel_rfl⟩
theorem o180_dst : (o18 0).dst = some 53 := by kernel_rfl
theorem o181_dst : (o18 1).dst = some 54 := by kernel_rfl
theorem o182_dst : (o18 2).dst = some 6 := by kernel_rfl
theorem o180_g : (o18 0).guard = none := by kernel_rfl
theorem o181_g : (o18 1).guard = none := by kernel_rfl
theorem o182_g : (o18 2).guard = none := by kernel_rfl
theorem fn35 : ∃ fn, Tryd.prog.funcs[35]? = some fn ∧ (fn.name == "runtime.NumGoroutine") = false ∧ fn.body.isNone = false := ⟨Tryd.f35, Tryd.func35, by kernel_rfl, rfl⟩
/-- A call of rising. -/
theorem call35 {o : Oper} {c : Call} {t : Tmp} {a : Act} {w : World} {v : Value} {K : Act → World → Prop} {Q : Exit → Act → World → Prop} {R : Ending → World → Prop} (hop : o.op = .call c) (hc : c.callee = .value (.func 35)) (hargs : c.args = #[.tmp t]) (ht : a.tmps.getD t undef = v)
    (hcall : Calls Tryd.prog 35 #[v] w R) (hK : ∀ e w', R e w' → ∃ u, e = .returned u ∧ K (a.put o.dst u) w') : o.wp Tryd.prog a w K Q := by
  obtain ⟨fn, hfn, hname, hbody⟩ := fn35
  have hname' : ¬ fn.name = "runtime.NumGoroutine" := by simpa using hname
  have hrun : (execOp a.eval o).run Tryd.prog w = .ok (.enter 35 #[v]) w := by
    simp only [execOp, hop, resolve, hc, hargs, Act.eval, Deferred.ofValue, Sem.run_bind, Sem.run_pure, Result.andThen_ok, invoke, callFunc, run_program]
    rw [hfn]
    simp only
    rw [if_neg (by simpa using hname'), if_neg (by simp [hbody])]
    simp [Act.eval, ht]
  unfold Oper.wp
  rw [hrun]
  show Calls Tryd.prog 35 _ w _
  refine hcall.mono ?_
  intro e w' hR
  obtain ⟨u, rfl, h⟩ := hK e w' hR
  exact h
theorem end18_walk {w : World} {a : Act} {v : Value} (hsz : a.tmps.size = 55) (hd : a.defers = []) (h7 : a.eval (.tmp 7) = v) {R : Ending → World → Prop}
    (hcall : Calls Tryd.prog 35 #[v] w fun e w' => ∃ u, e = .returned u ∧ R (.returned u) w') : (Code.seq end18 .ret).wp Tryd.prog (bodyPost Tryd.prog Tryd.f18 R) a w := by
  refine wp_seq ?_
  rw [end18_eq]
  refine wp_region ?_
  rw [end18_size]
  show wpOps Tryd.prog (opsOf end18) _ [0, 1, 2] a w
  refine wpOps_plain end18_0 o180_g (wp_value (v := a.eval (.tmp 7)) (w' := w) (by simp [execOp, o180_op]) ?_)
  rw [o180_dst, h7]
  refine wpOps_plain end18_1 o181_g ?_
  obtain ⟨c, hop, hc, hargs⟩ := o181_op
  refine call35 hop hc hargs (show (a.put (some 53) v).tmps.getD 53 undef = v from getD_put a.tmps 53 v (by omega)) hcall ?_
  rintro e w' ⟨u, rfl, hR⟩
  refine ⟨u, rfl, ?_⟩
  rw [o181_dst]
  show wpOps Tryd.prog (opsOf end18) _ [2] _ w'
  refine wpOps_plain end18_2 o182_g (wp_value (v := ((a.put (some 53) v).put (some 54) u).eval (.tmp 54)) (w' := w') (by simp [execOp, o182_op]) ?_)
  rw [o182_dst]
  have e54 : ((a.put (some 53) v).put (some 54) u).eval (.tmp 54) = u := getD_put _ 54 u (by show 54 < (a.tmps.setIfInBounds 53 v).size; rw [Array.size_setIfInBounds]; omega)
  rw [e54]
  show Code.ret.wp Tryd.prog _ _ w'
  refine wp_ret ?_
  refine ⟨hd, u, ?_, hR⟩
  have e6 : (((a.put (some 53) v).put (some 54) u).put (some 6) u).tmps.getD 6 undef = u := getD_put _ 6 u (by show 6 < ((a.tmps.setIfInBounds 53 v).setIfInBounds 54 u).size; rw [Array.size_setIfInBounds, Array.size_setIfInBounds]; omega)
  have hres : Tryd.f18.results = #[.tmp 6] := by kernel_rfl
  have := results_tmp hres (((a.put (some 53) v).put (some 54) u).put (some 6) u).tmps Tryd.prog w'
  rw [e6] at this
  exact this
theorem nt18 : Tryd.f18.ntmps = 55 := by kernel_rfl
theorem farTabs_len {call : CallT B} {all : Bool} : ∀ (ts : List Tab) (l : List ByteArray), farTabs call all ts = some l → l.length ≤ ts.length
  | [], l, h => by cases h; exact Nat.le_refl _
  | t :: r, l, h => by
    rw [farTabs_cons] at h
    split at h
    · obtain ⟨s, _, h⟩ := Option.bind_eq_some_iff.1 h
      obtain ⟨k, hk, rfl⟩ := Option.map_eq_some_iff.1 h
      have := farTabs_len r k hk
      show k.length + 1 ≤ r.length + 1
      omega
    · have := farTabs_len r l h
      show l.length ≤ r.length + 1
      omega
theorem far_a {call : CallT B} {inl : InlT} {n : Nat} {v x : Ver} {num : Int} {l : List ByteArray} (hv : v.tabs.length ≤ 1000000) (hn : v.tabs.length < n) (h : farTabs call false v.tabs = some l) :
    aCode (mkC B call inl) (B.keep 18) (iter (mkC B call inl) (B.keep 18) n) pre18 (st0 [argAV VerT v, argAV VerT x, argAV i64 num] 55) pairK = LP B call inl 18 n [1, 1, 1, 0, 1] (s18_12 x num l 0) (k18b call inl n) := by
  refine (p18 call inl n v x num).trans ?_
  have e := l18a (call := call) (inl := inl) (k18a call inl n) v x num hv v.tabs.length 0 n [] (by omega) (by simp) (by omega)
  rw [List.drop_zero, h, show ((0 : Nat) : Int) = 0 from rfl] at e
  refine e.trans ?_
  exact q18a call inl n x num l
theorem far_b {call : CallT B} {inl : InlT} {n : Nat} {x : Ver} {num : Int} {l k : List ByteArray} (hx : x.tabs.length ≤ 1000000) (hn : x.tabs.length < n) (hl : l.length ≤ 1000000) (h : farTabs call true x.tabs = some k) :
    LP B call inl 18 n [1, 1, 1, 0, 1] (s18_12 x num l 0) (k18b call inl n) = k18b call inl n (.exit 2) (s18_12x14 num (l ++ k)) := by
  have e := l18b (call := call) (inl := inl) (k18b call inl n) x num hx x.tabs.length 0 n l (by omega) (by omega) (by omega)
  rw [List.drop_zero, h, show ((0 : Nat) : Int) = 0 from rfl] at e
  exact e
theorem far_c {call : CallT B} {inl : InlT} {n : Nat} {num : Int} {l : List ByteArray} {s : ByteArray} (hn : (0 : Int) < num) (hl : (l.length + 1) * 16 ≤ 140737488355328) (hs : call 11 [.v i64 (8 : Int), .v i64 (0 : Int), .v i64 num] = some s) :
    k18b call inl n (.exit 2) (s18_12x14 num l) = some (.normal, sE1 num l s) := by
  refine (q18b call inl n num l).trans ?_
  rw [bT (show num > (0 : Int) from hn)]
  exact bnd hs (if_pos hl)
theorem far_d {call : CallT B} {inl : InlT} {n : Nat} {num : Int} {l : List ByteArray} (hn : ¬ (0 : Int) < num) : k18b call inl n (.exit 2) (s18_12x14 num l) = some (.normal, sE0 num l) := by
  refine (q18b call inl n num l).trans ?_
  rw [bF (show ¬ num > (0 : Int) from hn)]
/-- What the machine says of Far up to its last region. -/
theorem far_reckon {call : CallT B} {inl : InlT} {n : Nat} {v x : Ver} {num : Int} {r : List ByteArray} (hv : v.tabs.length ≤ 1000000) (hx : x.tabs.length ≤ 1000000) (hn1 : v.tabs.length < n) (hn2 : x.tabs.length < n) (h : farN call v x num = some r) :
    ∃ (l : List ByteArray) (s : St), r = rising l ∧ l.length * 16 ≤ 140737488355328 ∧ aCode (mkC B call inl) (B.keep 18) (iter (mkC B call inl) (B.keep 18) n) pre18 (st0 [argAV VerT v, argAV VerT x, argAV i64 num] 55) pairK = some (.normal, s) ∧ ((s = sE0 num l) ∨ ∃ k c, l = k ++ [c] ∧ s = sE1 num k c) := by
  obtain ⟨l1, h1, h⟩ := Option.bind_eq_some_iff.1 (show (farTabs call false v.tabs).bind _ = some r from h)
  obtain ⟨l2, h2, h⟩ := Option.bind_eq_some_iff.1 h
  have n1 : l1.length ≤ v.tabs.length := farTabs_len _ _ h1
  have n2 : l2.length ≤ x.tabs.length := farTabs_len _ _ h2
  have nn : (l1 ++ l2).length = l1.length + l2.length := List.length_append
  have e := (far_a (inl := inl) (x := x) (num := num) hv hn1 h1).trans (far_b (num := num) hx hn2 (by omega) h2)
  by_cases hn : (0 : Int) < num
  · rw [if_pos hn] at h
    obtain ⟨s, hs, rfl⟩ := Option.map_eq_some_iff.1 h
    exact ⟨l1 ++ l2 ++ [s], sE1 num (l1 ++ l2) s, rfl, (by rw [List.length_append]; show ((l1 ++ l2).length + 1) * 16 ≤ _; omega), e.trans (far_c hn (by omega) hs), .inr ⟨l1 ++ l2, s, rfl, rfl⟩⟩
  · rw [if_neg hn] at h
    cases h
    exact ⟨l1 ++ l2, _, rfl, by omega, e.trans (far_d hn), .inl rfl⟩
theorem con18 {call : CallT B} {inl : InlT} (hΓ : CallsOk (mkC B call inl)) {v x : Ver} {num : Int} {r : List ByteArray} (hv : v.tabs.length ≤ 1000000) (hx : x.tabs.length ≤ 1000000) (h : farN call v x num = some r) : CallOk Tryd.prog (shOf 18) 18 [argAV VerT v, argAV VerT x, argAV i64 num] r := by
  refine .inl ⟨⟨Tryd.f18, Tryd.func18, by kernel_rfl, rfl⟩, fun w N vargs hok hvs => ?_⟩
  have hst := start_inv hok hvs 55
  refine calls_of_wp Tryd.func18 code18_eq ?_
  rw [nt18]
  obtain ⟨l, s, rfl, hlen, hrun, hs⟩ := far_reckon (inl := inl) (n := v.tabs.length + x.tabs.length + 1) hv hx (by omega) (by omega) h
  have hL : LOk (mkC B call inl) (iter (R := AEx × St) (mkC B call inl) (B.keep 18) (v.tabs.length + x.tabs.length + 1)) := iter_ok hΓ (v.tabs.length + x.tabs.length + 1)
  refine seq_walk hΓ hL hrun hst (fun s1 m1 a1 w1 hrun hst => ?_)
  refine seq_walk hΓ hL hrun hst (fun s1 m1 a1 w1 hrun hst => ?_)
  refine seq_walk hΓ hL hrun hst (fun s1 m1 a1 w1 hrun hst => ?_)
  refine seq_walk hΓ hL hrun hst (fun s1 m1 a1 w1 hrun hst => ?_)
  refine last_walk hΓ hL hrun hst (fun m1 a1 w1 hq => ?_)
  have hown : ∃ inner, w1.ownsRow w.heap.size 9 1 (a1.eval (.tmp 7)) l.length inner ∧ repsOf (rep w1 (vw w ⟨N, [], []⟩ s m1 w1).N .str) l inner ∧ a1.tmps.size = 55 := by
    rcases hs with rfl | ⟨k, c, rfl, rfl⟩
    · obtain ⟨_, _, hO⟩ := (show _ ∧ _ ∧ _ from hq.ev (.tmp 7))
      obtain ⟨inner, ho, _, hr, _⟩ := hO (show hasBit 1 0 = true by decide)
      exact ⟨inner, ho, hr, hq.tlen⟩
    · obtain ⟨_, _, hO⟩ := (show _ ∧ _ ∧ _ from hq.ev (.tmp 7))
      obtain ⟨inner, ho, _, hr, _⟩ := hO (show hasBit 18518801667747479552 64 = true by decide)
      exact ⟨inner, ho, hr, hq.tlen⟩
  obtain ⟨inner, ho, hr, hsz⟩ := hown
  refine end18_walk hsz hq.defers rfl ((rising_own ho hr hq.below hlen).mono (fun e w' ⟨u, h1, h2, h3, h4⟩ => ⟨u, h1, u, rfl, h2, ?_⟩))
  exact res_own (e := .str) (inner := (rising l).map Value.string) h3 (strs_reps _)
end Go.Eng.Bk
/- refs.Near: its contract. -/
namespace Go.Eng.Bk
open Go Go.Proofs Go.Eng Go.RowKit
set_option linter.unusedVariables false
set_option linter.unusedSimpArgs false
set_option maxRecDepth 100000
theorem end15_eq : end15 = Code.region 8
    #[{ dst := some 29, op := Op.move (Operand.tmp 6), type := 31, pos := "refs.go:25", after := #[], guard := none },
      { dst := some 30, op := Op.call { callee := Callee.value (Operand.func 35), args := #[Operand.tmp 29], argTypes := #[31] }, type := 31, pos := "refs.go:25", after := #[{ on := 0, ground := Ground.data }], guard := none },
      { dst := some 31, op := Op.fieldAddr 36 (Operand.tmp 2) 3, type := 0, pos := "refs.go:25", after := #[{ on := 4, ground := Ground.gcOnly Departure.lateStores }], guard := none },
      { dst := some 32, op := Op.load 3 (Operand.tmp 31), type := 3, pos := "refs.go:25", after := #[{ on := 2, ground := Ground.data }, { on := 4, ground := Ground.gcOnly Departure.lateStores }], guard := none },
      { dst := some 4, op := Op.assign (Operand.tmp 30), type := 31, pos := "refs.go:25", after := #[{ on := 1, ground := Ground.data }, { on := 1, ground := Ground.chain }, { on := 0, ground := Ground.phase }, { on := 1, ground := Ground.phase }, { on := 2, ground := Ground.textOnly Departure.lateStores }, { on := 3, ground := Ground.textOnly Departure.lateStores }], guard := none },
      { dst := some 5, op := Op.assign (Operand.tmp 32), type := 3, pos := "refs.go:25", after := #[{ on := 3, ground := Ground.data }, { on := 4, ground := Ground.chain }, { on := 0, ground := Ground.phase }, { on := 1, ground := Ground.phase }, { on := 2, ground := Ground.phase }, { on := 3, ground := Ground.phase }, { on := 4, ground := Ground.phase }], guard := none }] true := by kernel_rfl
theorem arr33 (A : Array Value) (h : A.size = 33) : ∃ x0 x1 x2 x3 x4 x5 x6 x7 x8 x9 x10 x11 x12 x13 x14 x15 x16 x17 x18 x19 x20 x21 x22 x23 x24 x25 x26 x27 x28 x29 x30 x31 x32, A = #[x0, x1, x2, x3, x4, x5, x6, x7, x8, x9, x10, x11, x12, x13, x14, x15, x16, x17, x18, x19, x20, x21, x22, x23, x24, x25, x26, x27, x28, x29, x30, x31, x32] := by
  obtain ⟨l⟩ := A
  have h' : l.length = 33 := h
  rcases l with _ | ⟨x0, l⟩
  · simp at h'
  rcases l with _ | ⟨x1, l⟩
  · simp at h'
  rcases l with _ | ⟨x2, l⟩
  · simp at h'
  rcases l with _ | ⟨x3, l⟩
  · simp at h'
  rcases l with _ | ⟨x4, l⟩
  · simp at h'
  rcases l with _ | ⟨x5, l⟩
  · simp at h'
  rcases l with _ | ⟨x6, l⟩
  · simp at h'
  rcases l with _ | ⟨x7, l⟩
  · simp at h'
  rcases l with _ | ⟨x8, l⟩
  · simp at h'
  rcases l with _ | ⟨x9, l⟩
  · simp at h'
  rcases l with _ | ⟨x10, l⟩
  · simp at h'
  rcases l with _ | ⟨x11, l⟩
  · simp at h'
  rcases l with _ | ⟨x12, l⟩
  · simp at h'
  rcases l with _ | ⟨x13, l⟩
  · simp at h'
  rcases l with _ | ⟨x14, l⟩
  · simp at h'
  rcases l with _ | ⟨x15, l⟩
  · simp at h'
  rcases l with _ | ⟨x16, l⟩
  · simp at h'
  rcases l with _ | ⟨x17, l⟩
  · simp at h'
  rcases l with _ | ⟨x18, l⟩
  · simp at h'
  rcases l with _ | ⟨x19, l⟩
  · simp at h'
  rcases l with _ | ⟨x20, l⟩
  · simp at h'
  rcases l with _ | ⟨x21, l⟩
  · simp at h'
  rcases l with _ | ⟨x22, l⟩
  · simp at h'
  rcases l with _ | ⟨x23, l⟩
  · simp at h'
  rcases l with _ | ⟨x24, l⟩
  · simp at h'
  rcases l with _ | ⟨x25, l⟩
  · simp at h'
  rcases l with _ | ⟨x26, l⟩
  · simp at h'
  rcases l with _ | ⟨x27, l⟩
  · simp at h'
  rcases l with _ | ⟨x28, l⟩
  · simp at h'
  rcases l with _ | ⟨x29, l⟩
  · simp at h'
  rcases l with _ | ⟨x30, l⟩
  · simp at h'
  rcases l with _ | ⟨x31, l⟩
  · simp at h'
  rcases l with _ | ⟨x32, l⟩
  · simp at h'
  cases l with
  | nil => exact ⟨x0, x1, x2, x3, x4, x5, x6, x7, x8, x9, x10, x11, x12, x13, x14, x15, x16, x17, x18, x19, x20, x21, x22, x23, x24, x25, x26, x27, x28, x29, x30, x31, x32, rfl⟩
  | cons y l => simp at h'
theorem res15 : Tryd.f15.results = #[.tmp 4, .tmp 5] := by kernel_rfl
theorem mixedT : Tryd.prog.follows .mixedOrders = true := lay194.mixed
theorem end15_walk {w : World} {a : Act} {v : Value} {b : Nat} {lg : Int} (hsz : a.tmps.size = 33) (hd : a.defers = []) (h6 : a.tmps.getD 6 undef = v) (h2 : a.tmps.getD 2 undef = .pointer (some ⟨b, 0, none⟩)) (hc : w.cell? ⟨b, 3, none⟩ = some (.int .i64 lg)) {R : Value → World → Prop}
    (hcall : Calls Tryd.prog 35 #[v] w.drew fun e w' => ∃ u, e = .returned u ∧ R u w' ∧ w'.cell? ⟨b, 3, none⟩ = some (.int .i64 lg)) : (Code.seq end15 .ret).wp Tryd.prog (bodyPost Tryd.prog Tryd.f15 fun e w' => ∃ u, e = .returned (.tuple #[u, .int .i64 lg]) ∧ R u w') a w := by
  obtain ⟨tmps, defers⟩ := a
  obtain ⟨x0, x1, x2, x3, x4, x5, x6, x7, x8, x9, x10, x11, x12, x13, x14, x15, x16, x17, x18, x19, x20, x21, x22, x23, x24, x25, x26, x27, x28, x29, x30, x31, x32, he⟩ := arr33 tmps hsz
  subst he
  have hd' : defers = [] := hd
  subst hd'
  have h6' : x6 = v := h6
  have h2' : x2 = .pointer (some ⟨b, 0, none⟩) := h2
  subst h6' h2'
  have hc1 : w.drew.cell? ⟨b, 3, none⟩ = some (.int .i64 lg) := hc
  refine wp_seq ?_
  rw [end15_eq]
  have mixed := mixedT
  go_region_with (go_at_call 35; refine hcall.mono ?_; rintro e w' ⟨u, rfl, hR, hc2⟩)
  all_goals (show Code.ret.wp Tryd.prog _ _ _; refine wp_ret ?_; exact ⟨rfl, _, results_tmp2 res15 _ _ _, u, rfl, hR⟩)
theorem nt15 : Tryd.f15.ntmps = 33 := by kernel_rfl
theorem nearTabs_len {call : CallT B} : ∀ (ts : List Tab) (l : List ByteArray), nearTabs call ts = some l → l.length ≤ ts.length
  | [], l, h => by cases h; exact Nat.le_refl _
  | t :: r, l, h => by
    rw [nearTabs_cons] at h
    split at h
    · obtain ⟨s, _, h⟩ := Option.bind_eq_some_iff.1 h
      obtain ⟨k, hk, rfl⟩ := Option.map_eq_some_iff.1 h
      have := nearTabs_len r k hk
      show k.length + 1 ≤ r.length + 1
      omega
    · have := nearTabs_len r l h
      show l.length ≤ r.length + 1
      omega
theorem near_a {call : CallT B} {inl : InlT} {n : Nat} {v : Ver} {list c d : ByteArray} {l : List ByteArray} (hv : v.tabs.length ≤ 1000000) (hn : v.tabs.length < n) (h1 : call 11 [.v i64 (6 : Int), .v i64 (0 : Int), .v i64 (0 : Int)] = some c) (h2 : call 11 [.v i64 (4 : Int), .v i64 (0 : Int), .v i64 (0 : Int)] = some d) (h : nearTabs call v.tabs = some l) :
    aCode (mkC B call inl) (B.keep 15) (iter (mkC B call inl) (B.keep 15) n) pre15 (st0 [argAV VerT v, argAV .str list] 33) pairK = some (.normal, s15_6x8 v (c :: d :: list :: l)) := by
  refine (p15 call inl n v list).trans ?_
  refine bnd h1 (bnd h2 ?_)
  have e := l15 (call := call) (inl := inl) (k15 call inl n) v hv v.tabs.length 0 n [c, d, list] (by omega) (by simp) (by omega)
  rw [List.drop_zero, h, show ((0 : Nat) : Int) = 0 from rfl] at e
  refine e.trans ?_
  exact q15 call inl n v (c :: d :: list :: l)
theorem con15 {call : CallT B} {inl : InlT} (hΓ : CallsOk (mkC B call inl)) {v : Ver} {list : ByteArray} {r : List ByteArray × (Int × Unit)} (hv : v.tabs.length ≤ 1000000) (h : nearN call v list = some r) : CallOk Tryd.prog (shOf 15) 15 [argAV VerT v, argAV .str list] r := by
  refine .inl ⟨⟨Tryd.f15, Tryd.func15, by kernel_rfl, rfl⟩, fun w N vargs hok hvs => ?_⟩
  have hst := start_inv hok hvs 33
  refine calls_of_wp Tryd.func15 code15_eq ?_
  rw [nt15]
  obtain ⟨(c : ByteArray), h1, h⟩ := Option.bind_eq_some_iff.1 (show (call 11 [.v i64 (6 : Int), .v i64 (0 : Int), .v i64 (0 : Int)]).bind _ = some r from h)
  obtain ⟨(d : ByteArray), h2, h⟩ := Option.bind_eq_some_iff.1 h
  obtain ⟨l, h3, rfl⟩ := Option.map_eq_some_iff.1 h
  have hlen : l.length ≤ v.tabs.length := nearTabs_len _ _ h3
  have hrun := near_a (inl := inl) (n := v.tabs.length + 1) (list := list) hv (by omega) h1 h2 h3
  obtain ⟨x, hx⟩ : ∃ x, c :: d :: list :: l = x := ⟨_, rfl⟩
  have hxl : x.length = l.length + 3 := by rw [← hx]; rfl
  rw [hx] at hrun ⊢
  have hL : LOk (mkC B call inl) (iter (R := AEx × St) (mkC B call inl) (B.keep 15) (v.tabs.length + 1)) := iter_ok hΓ (v.tabs.length + 1)
  refine seq_walk hΓ hL hrun hst (fun s1 m1 a1 w1 hrun hst => ?_)
  refine seq_walk hΓ hL hrun hst (fun s1 m1 a1 w1 hrun hst => ?_)
  refine last_walk hΓ hL hrun hst (fun m1 a1 w1 hq => ?_)
  obtain ⟨_, _, hO⟩ := (show _ ∧ _ ∧ _ from hq.ev (.tmp 6))
  obtain ⟨inner, ho, hob, hr, _⟩ := hO (show hasBit 1 0 = true by decide)
  have hbx : (s15_6x8 v x).bx[0]? = some (some (36, [.v i64 v.1, .v i64 v.2.1, .v i64 v.2.2.1, .v i64 v.2.2.2.1, .v (.sl TabT) v.2.2.2.2.1])) := rfl
  obtain ⟨hB, vs, hheap, hall, _⟩ := hq.boxes 0 36 _ hbx
  obtain ⟨u3, hu3, hV3⟩ := all2_get (i := 3) hall rfl
  have hu3' : u3 = .int .i64 v.2.2.2.1 := by
    have : [u3] = [_] := hV3
    exact (List.cons.inj this).1
  have hcell : w1.cell? ⟨m1.B 0, 3, none⟩ = some (.int .i64 v.2.2.2.1) := by
    simp only [World.cell?, hheap]
    rw [← hu3', ← hu3]
    simp
  have hblt : m1.B 0 < w1.heap.size := (Array.getElem?_eq_some_iff.1 hheap).1
  have hne : (a1.eval (.tmp 6)).ownBlock ≠ some (m1.B 0) := fun e => by
    have hb' : (a1.eval (.tmp 6)).ownBlock = m1.G 0 := hob
    exact hq.sep 0 (m1.B 0) 0 36 _ (show hasBit 1 0 = true by decide) (hb'.symm.trans e) hbx rfl
  have h2p : a1.tmps.getD 2 undef = .pointer (some ⟨m1.B 0, 0, none⟩) := (show _ ∧ _ from hq.ev (.tmp 2)).1
  have hcall := rising_own (w := w1.drew) (w0 := w) (N := fun _ => True) ho hr ⟨hq.below.os, hq.below.tape, hq.below.output, hq.below.size, hq.below.block⟩ (by omega)
  refine wp_mono (end15_walk (R := fun u w' => Below w.heap.size w w' ∧ w'.ownsRow w.heap.size 9 1 u (rising x).length ((rising x).map Value.string)) hq.tlen hq.defers rfl h2p hcell (hcall.mono ?_)) ?_
  · rintro e w' ⟨u, rfl, k1, k2, k3⟩
    refine ⟨u, rfl, ⟨k1, k2⟩, ?_⟩
    have hk := k3 (m1.B 0) hblt hne
    have hk' : w'.heap[m1.B 0]? = w1.heap[m1.B 0]? := hk
    simp only [World.cell?, hk']
    exact hcell
  · intro e a' w' hp
    cases e with
    | exit _ => exact hp.elim
    | goto _ => exact hp.elim
    | outgrown => obtain ⟨u, h, _⟩ := hp; cases h
    | panic c => obtain ⟨_, u, h, _⟩ := hp; cases h
    | _ =>
      obtain ⟨p1, vv, p2, u, p3, p4, p5⟩ := (show _ ∧ _ from hp)
      cases p3
      refine ⟨p1, _, p2, _, rfl, p4, ⟨[u, .int .i64 v.2.2.2.1], rfl, ⟨⟨(rising x).map Value.string, p5, strs_reps _⟩, ⟨_, rfl, rfl⟩, rfl⟩, ?_⟩⟩
      show (u.ownBlock.toList ++ []).Nodup
      cases u.ownBlock <;> simp
end Go.Eng.Bk
/- The functions that are answered for by hand have their contracts: the base is sound. -/
namespace Go.Eng.Bk
open Go Go.Proofs Go.Eng
set_option linter.unusedVariables false
theorem ite_some {c : Prop} [Decidable c] {α : Type} {x : Option α} {r : α} (h : (if c then x else none) = some r) : c ∧ x = some r := by
  by_cases hc : c
  · rw [if_pos hc] at h; exact ⟨hc, h⟩
  · rw [if_neg hc] at h; cases h
theorem spOk (f : FuncId) (g) (args : List AV) (r : (B.sh f).den) (h : B.sp f = some g) (h2 : g args = some r) : CallOk B.P (B.sh f) f args r := by
  have h' : spOf f = some g := h
  unfold spOf at h'
  split at h'
  · cases h'
    simp only at h2
    split at h2
    · obtain ⟨hn, h3⟩ := ite_some h2
      cases h3; exact con25 hn
    · cases h2
  · cases h'
    simp only at h2
    split at h2
    · obtain ⟨hn, h3⟩ := ite_some h2
      cases h3; exact con26 hn
    · cases h2
  · cases h'
    simp only at h2
    split at h2
    · obtain ⟨hn, h3⟩ := ite_some h2
      cases h3; exact con30 hn.1 hn.2
    · cases h2
  · cases h'
theorem spcOk (call : CallT B) (inl : InlT) (hΓ : CallsOk (mkC B call inl)) (f : FuncId) (g) (args : List AV) (r : (B.sh f).den) (h : B.spc f = some g) (h2 : g call args = some r) : CallOk B.P (B.sh f) f args r := by
  have h' : spcOf f = some g := h
  unfold spcOf at h'
  split at h'
  · cases h'
    simp only at h2
    split at h2
    · rename_i v1 v2 v3 v4 v5 list
      obtain ⟨hn, h3⟩ := ite_some h2
      exact con15 (v := (v1, v2, v3, v4, v5, ())) (list := list) hΓ hn h3
    · cases h2
  · cases h'
    simp only at h2
    split at h2
    · rename_i v1 v2 v3 v4 v5 m1 m2 m3 m4 m5 num
      obtain ⟨hn, h3⟩ := ite_some h2
      exact con18 (v := (v1, v2, v3, v4, v5, ())) (x := (m1, m2, m3, m4, m5, ())) (num := num) hΓ hn.1 hn.2 h3
    · cases h2
  · cases h'
theorem bok : BaseOk B := ⟨names_of (by kernel_rfl), spOk, (fun _ _ f g args s x s' h => by cases h), spcOk⟩
end Go.Eng.Bk
