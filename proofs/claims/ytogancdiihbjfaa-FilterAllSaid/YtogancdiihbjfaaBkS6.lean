/- What making entries by numbers answers. -/
import Derived.Test.YtogancdiihbjfaaBkS5
import Derived.Test.YtogancdiihbjfaaBkT4
namespace Go.Eng.Bk
open Go Go.Proofs Go.Eng
set_option linter.unusedVariables false
set_option linter.unusedSimpArgs false
abbrev keyB : ByteArray := ByteArray.mk #[(107 : UInt8), (101 : UInt8), (121 : UInt8)]
theorem lvl2 (k : Nat) : (lvl B (k + 1)).2 = inlN B (callN B k) (lvl B k).2 k := by kernel_rfl
theorem tw_len {p : En → Bool} {l : List En} : ∀ (j : Nat), j ≤ l.length → (∀ i, i < j → p (l.getD i d0) = true) → (j < l.length → p (l.getD j d0) = false) → (j : Nat) = (l.takeWhile p).length := by
  induction l with
  | nil => intro j hj _ _; simp at hj; subst hj; rfl
  | cons x l ih =>
    intro j hj h1 h2
    cases j with
    | zero =>
      have := h2 (by simp)
      have hx : p x = false := this
      rw [List.takeWhile_cons, hx]; rfl
    | succ j =>
      have hx : p x = true := h1 0 (by omega)
      rw [List.takeWhile_cons, hx]
      simp only [if_true, List.length_cons]
      rw [← ih j (by simpa using hj) (fun i hi => by simpa using h1 (i + 1) (by omega)) (fun h => by simpa using h2 (by simpa using h))]

theorem l66_21 {q : Nat} (hq : 1 ≤ q) {inl : InlT} (m0 : Nat) {R : Type} (K : AV → St → Option R) (a0 : List Int) (a1 : Int) (x4 : Nat) (hx4 : x4 < 1000000000) (l : List En) (hl : l.length ≤ 1000000000) (u w : ByteArray) (hne : ∀ x ∈ l, x.1.2.1 ≠ ((x4 + 1 : Nat) : Int)) (d : Nat) : ∀ (j m : Nat), j + d = l.length → d < m →
    (∀ i, i < j → before ((keyB ++ u, ((x4 + 1 : Nat) : Int), 2, ()), ⟨#[]⟩, ()) (l.getD i d0) = true) →
    LP B (callN B q) inl 66 m [1, 1, 1, 0] (s66_27 a0 a1 (x4 : Int) l u w (j : Int)) (KA B (callN B q) inl 66 m0 [1, 1, 1, 0] (FN B (callN B q) inl 66 49 K)) = K (.v .bool true) (c33_66_21r32 a0 a1 (x4 : Int) l u w (((l.takeWhile (before ((keyB ++ u, ((x4 + 1 : Nat) : Int), 2, ()), ⟨#[]⟩, ()))).length : Nat) : Int)) := by
  have hw : IntKind.i64.wrap ((1 : Int) + (x4 : Int)) = ((x4 + 1 : Nat) : Int) := by rw [w64 (by omega) (by omega)]; omega
  have fin : ∀ (j : Nat), j ≤ l.length → (∀ i, i < j → before ((keyB ++ u, ((x4 + 1 : Nat) : Int), 2, ()), ⟨#[]⟩, ()) (l.getD i d0) = true) → (j < l.length → before ((keyB ++ u, ((x4 + 1 : Nat) : Int), 2, ()), ⟨#[]⟩, ()) (l.getD j d0) = false) →
      KA B (callN B q) inl 66 m0 [1, 1, 1, 0] (FN B (callN B q) inl 66 49 K) (.exit 0) (s66_27x29 a0 a1 (x4 : Int) l u w (j : Int)) = K (.v .bool true) (c33_66_21r32 a0 a1 (x4 : Int) l u w (((l.takeWhile (before ((keyB ++ u, ((x4 + 1 : Nat) : Int), 2, ()), ⟨#[]⟩, ()))).length : Nat) : Int)) := by
    intro j hj h1 h2
    rw [← tw_len j hj h1 h2, s66_27x29_k]
    have hb1 : (List.drop 0 (List.take (Int.toNat (j : Int)) l)).length = j := by rw [List.drop_zero, Int.toNat_natCast, List.length_take]; omega
    have hb2 : (List.drop (Int.toNat (j : Int)) (List.take l.length l)).length = l.length - j := by rw [Int.toNat_natCast, List.take_length, List.length_drop]
    have c1 : (0 + (List.drop 0 (List.take (Int.toNat (j : Int)) l)).length) * 48 ≤ 140737488355328 := by rw [hb1]; omega
    have c2 : ∀ e : En, ((List.drop 0 (List.take (Int.toNat (j : Int)) l)).length + [e].length) * 48 ≤ 140737488355328 := by intro e; rw [hb1, List.length_singleton]; omega
    have c3 : ∀ e : En, ((List.drop 0 (List.take (Int.toNat (j : Int)) l) ++ [e]).length + (List.drop (Int.toNat (j : Int)) (List.take l.length l)).length) * 48 ≤ 140737488355328 := by intro e; rw [List.length_append, hb1, hb2, List.length_singleton]; omega
    by_cases hjl : j < l.length
    · have hk : ((l.getD j d0).1.2.1 == IntKind.i64.wrap ((1 : Int) + (x4 : Int))) = false := by
        rw [hw]; exact beq_eq_false_iff_ne.2 (hne _ (getD_mem hjl d0))
      rw [decide_eq_true (show (j : Int) < (l.length : Int) by omega), beq_self_eq_true, cond_true, if_pos (by omega), Int.toNat_natCast, hk, Bool.false_and, Bool.and_false, cond_false, if_pos (by omega)]
      rw [Int.toNat_natCast] at c1 c2 c3
      rw [if_pos c1, if_pos (c2 _), if_pos (by omega), if_pos (c3 _)]
    · rw [decide_eq_false (show ¬ (j : Int) < (l.length : Int) by omega), show (false == true) = false from rfl, cond_false, if_pos (by omega), if_pos c1, if_pos (c2 _), if_pos (by omega), if_pos (c3 _)]
  induction d with
  | zero =>
    intro j m hd hm h1
    obtain ⟨m, rfl⟩ : ∃ k, m = k + 1 := ⟨m - 1, by omega⟩
    rw [s66_27_l, decide_eq_false (show ¬ (j : Int) < (l.length : Int) by omega), show (false == true) = false from rfl, cond_false]
    exact fin j (by omega) h1 (fun h => by omega)
  | succ d ih =>
    intro j m hd hm h1
    obtain ⟨m, rfl⟩ : ∃ k, m = k + 1 := ⟨m - 1, by omega⟩
    rw [s66_27_l, decide_eq_true (show (j : Int) < (l.length : Int) by omega), beq_self_eq_true, cond_true, if_pos (by omega), Int.toNat_natCast, hw]
    refine bnd (s81 hq (l.getD j d0).1 (keyB ++ u, ((x4 + 1 : Nat) : Int), 2, ())) ?_
    by_cases hc : cmpKe (l.getD j d0).1 (keyB ++ u, ((x4 + 1 : Nat) : Int), 2, ()) < 0
    · rw [bT hc, w64 (x := (j : Int) + 1) (by omega) (by omega)]
      refine ih (j + 1) m (by omega) (by omega) (fun i hi => ?_)
      by_cases hij : i = j
      · subst hij; exact decide_eq_true hc
      · exact h1 i (by omega)
    · rw [bF hc]
      exact fin j (by omega) h1 (fun _ => decide_eq_false hc)
theorem i66_21 {q : Nat} (hq : 4 ≤ q) {inl : InlT} {mq : Nat} {R : Type} {call : CallT B} {inl' : InlT} {m33 : Nat} (K : AEx → St → Option R) (a0 : List Int) (a1 : Int) (x4 : Nat) (hx4 : x4 < 1000000000) (l : List En) (hl : l.length ≤ 1000000000) (hmq : l.length < mq) (u w : ByteArray) (hne : ∀ x ∈ l, x.1.2.1 ≠ ((x4 + 1 : Nat) : Int)) (hmay : mayE ((keyB ++ u, ((x4 + 1 : Nat) : Int), 2, ()), ⟨#[]⟩, ()) = true) :
    inlN B (callN B q) inl mq R 66 [(.ptr 0 0), (.agg [(.v .str (keyB ++ u)), (.v (.int .i64) (IntKind.i64.wrap ((1 : Int) + (x4 : Int)))), (.v (.int .i64) ((2 : Int))), (.v .str ((ByteArray.mk #[])))])] (c33_66_21 a0 a1 (x4 : Int) l u w) (IN B call inl' 33 m33 [1, 1, 0, 1] [1, 0, 1, 1, 1, 2] K) = LP B call inl' 33 m33 [1, 1, 0, 1] (s33_18 a0 a1 ((x4 + 1 : Nat) : Int) (ins l ((keyB ++ u, ((x4 + 1 : Nat) : Int), 2, ()), ⟨#[]⟩, ()))) K := by
  have hw : IntKind.i64.wrap ((1 : Int) + (x4 : Int)) = ((x4 + 1 : Nat) : Int) := by rw [w64 (by omega) (by omega)]; omega
  have hw2 : IntKind.i64.wrap ((x4 : Int) + (1 : Int)) = ((x4 + 1 : Nat) : Int) := by rw [w64 (by omega) (by omega)]; omega
  refine (c33_66_21_i (callN B q) inl mq _ a0 a1 (x4 : Int) l u w).trans ?_
  rw [hw]
  refine bnd (s96 (by omega) ((keyB ++ u, ((x4 + 1 : Nat) : Int), 2, ()), ⟨#[]⟩, ())) ?_
  rw [hmay, Bool.not_true, cond_false]
  have := l66_21 (show 1 ≤ q by omega) (inl := inl) mq (IN B call inl' 33 m33 [1, 1, 0, 1] [1, 0, 1, 1, 1, 2] K) a0 a1 x4 hx4 l hl u w hne l.length 0 mq (by omega) (by omega) (fun i hi => by omega)
  refine this.trans ?_
  rw [c33_66_21r32_k40, hw2, hw, List.drop_zero, List.take_length, Int.toNat_natCast]
  have e1 : l.take (l.takeWhile (before ((keyB ++ u, ((x4 + 1 : Nat) : Int), 2, ()), ⟨#[]⟩, ()))).length = l.takeWhile (before ((keyB ++ u, ((x4 + 1 : Nat) : Int), 2, ()), ⟨#[]⟩, ())) := by
    conv => lhs; arg 2; rw [← List.takeWhile_append_dropWhile (p := before ((keyB ++ u, ((x4 + 1 : Nat) : Int), 2, ()), ⟨#[]⟩, ())) (l := l)]
    exact List.take_left
  have e2 : l.drop (l.takeWhile (before ((keyB ++ u, ((x4 + 1 : Nat) : Int), 2, ()), ⟨#[]⟩, ()))).length = l.dropWhile (before ((keyB ++ u, ((x4 + 1 : Nat) : Int), 2, ()), ⟨#[]⟩, ())) := by
    conv => lhs; arg 2; rw [← List.takeWhile_append_dropWhile (p := before ((keyB ++ u, ((x4 + 1 : Nat) : Int), 2, ()), ⟨#[]⟩, ())) (l := l)]
    exact List.drop_left
  rw [e1, e2]
  unfold ins
  simp only [List.append_assoc, List.singleton_append]

theorem l66_41 {q : Nat} (hq : 1 ≤ q) {inl : InlT} (m0 : Nat) {R : Type} (K : AV → St → Option R) (a0 : List Int) (a1 : Int) (x4 : Nat) (hx4 : x4 < 1000000000) (l : List En) (hl : l.length ≤ 1000000000) (u w : ByteArray) (hne : ∀ x ∈ l, x.1.2.1 ≠ ((x4 + 1 : Nat) : Int)) (d : Nat) : ∀ (j m : Nat), j + d = l.length → d < m →
    (∀ i, i < j → before ((keyB ++ u, ((x4 + 1 : Nat) : Int), 1, ()), w, ()) (l.getD i d0) = true) →
    LP B (callN B q) inl 66 m [1, 1, 1, 0] (s66_47 a0 a1 (x4 : Int) l u w (j : Int)) (KA B (callN B q) inl 66 m0 [1, 1, 1, 0] (FN B (callN B q) inl 66 49 K)) = K (.v .bool true) (c33_66_41r52 a0 a1 (x4 : Int) l u w (((l.takeWhile (before ((keyB ++ u, ((x4 + 1 : Nat) : Int), 1, ()), w, ()))).length : Nat) : Int)) := by
  have hw : IntKind.i64.wrap ((1 : Int) + (x4 : Int)) = ((x4 + 1 : Nat) : Int) := by rw [w64 (by omega) (by omega)]; omega
  have fin : ∀ (j : Nat), j ≤ l.length → (∀ i, i < j → before ((keyB ++ u, ((x4 + 1 : Nat) : Int), 1, ()), w, ()) (l.getD i d0) = true) → (j < l.length → before ((keyB ++ u, ((x4 + 1 : Nat) : Int), 1, ()), w, ()) (l.getD j d0) = false) →
      KA B (callN B q) inl 66 m0 [1, 1, 1, 0] (FN B (callN B q) inl 66 49 K) (.exit 0) (s66_47x49 a0 a1 (x4 : Int) l u w (j : Int)) = K (.v .bool true) (c33_66_41r52 a0 a1 (x4 : Int) l u w (((l.takeWhile (before ((keyB ++ u, ((x4 + 1 : Nat) : Int), 1, ()), w, ()))).length : Nat) : Int)) := by
    intro j hj h1 h2
    rw [← tw_len j hj h1 h2, s66_47x49_k]
    have hb1 : (List.drop 0 (List.take (Int.toNat (j : Int)) l)).length = j := by rw [List.drop_zero, Int.toNat_natCast, List.length_take]; omega
    have hb2 : (List.drop (Int.toNat (j : Int)) (List.take l.length l)).length = l.length - j := by rw [Int.toNat_natCast, List.take_length, List.length_drop]
    have c1 : (0 + (List.drop 0 (List.take (Int.toNat (j : Int)) l)).length) * 48 ≤ 140737488355328 := by rw [hb1]; omega
    have c2 : ∀ e : En, ((List.drop 0 (List.take (Int.toNat (j : Int)) l)).length + [e].length) * 48 ≤ 140737488355328 := by intro e; rw [hb1, List.length_singleton]; omega
    have c3 : ∀ e : En, ((List.drop 0 (List.take (Int.toNat (j : Int)) l) ++ [e]).length + (List.drop (Int.toNat (j : Int)) (List.take l.length l)).length) * 48 ≤ 140737488355328 := by intro e; rw [List.length_append, hb1, hb2, List.length_singleton]; omega
    by_cases hjl : j < l.length
    · have hk : ((l.getD j d0).1.2.1 == IntKind.i64.wrap ((1 : Int) + (x4 : Int))) = false := by
        rw [hw]; exact beq_eq_false_iff_ne.2 (hne _ (getD_mem hjl d0))
      rw [decide_eq_true (show (j : Int) < (l.length : Int) by omega), beq_self_eq_true, cond_true, if_pos (by omega), Int.toNat_natCast, hk, Bool.false_and, Bool.and_false, cond_false, if_pos (by omega)]
      rw [Int.toNat_natCast] at c1 c2 c3
      rw [if_pos c1, if_pos (c2 _), if_pos (by omega), if_pos (c3 _)]
    · rw [decide_eq_false (show ¬ (j : Int) < (l.length : Int) by omega), show (false == true) = false from rfl, cond_false, if_pos (by omega), if_pos c1, if_pos (c2 _), if_pos (by omega), if_pos (c3 _)]
  induction d with
  | zero =>
    intro j m hd hm h1
    obtain ⟨m, rfl⟩ : ∃ k, m = k + 1 := ⟨m - 1, by omega⟩
    rw [s66_47_l, decide_eq_false (show ¬ (j : Int) < (l.length : Int) by omega), show (false == true) = false from rfl, cond_false]
    exact fin j (by omega) h1 (fun h => by omega)
  | succ d ih =>
    intro j m hd hm h1
    obtain ⟨m, rfl⟩ : ∃ k, m = k + 1 := ⟨m - 1, by omega⟩
    rw [s66_47_l, decide_eq_true (show (j : Int) < (l.length : Int) by omega), beq_self_eq_true, cond_true, if_pos (by omega), Int.toNat_natCast, hw]
    refine bnd (s81 hq (l.getD j d0).1 (keyB ++ u, ((x4 + 1 : Nat) : Int), 1, ())) ?_
    by_cases hc : cmpKe (l.getD j d0).1 (keyB ++ u, ((x4 + 1 : Nat) : Int), 1, ()) < 0
    · rw [bT hc, w64 (x := (j : Int) + 1) (by omega) (by omega)]
      refine ih (j + 1) m (by omega) (by omega) (fun i hi => ?_)
      by_cases hij : i = j
      · subst hij; exact decide_eq_true hc
      · exact h1 i (by omega)
    · rw [bF hc]
      exact fin j (by omega) h1 (fun _ => decide_eq_false hc)
theorem i66_41 {q : Nat} (hq : 4 ≤ q) {inl : InlT} {mq : Nat} {R : Type} {call : CallT B} {inl' : InlT} {m33 : Nat} (K : AEx → St → Option R) (a0 : List Int) (a1 : Int) (x4 : Nat) (hx4 : x4 < 1000000000) (l : List En) (hl : l.length ≤ 1000000000) (hmq : l.length < mq) (u w : ByteArray) (hne : ∀ x ∈ l, x.1.2.1 ≠ ((x4 + 1 : Nat) : Int)) (hmay : mayE ((keyB ++ u, ((x4 + 1 : Nat) : Int), 1, ()), w, ()) = true) :
    inlN B (callN B q) inl mq R 66 [(.ptr 0 0), (.agg [(.v .str (keyB ++ u)), (.v (.int .i64) (IntKind.i64.wrap ((1 : Int) + (x4 : Int)))), (.v (.int .i64) ((1 : Int))), (.v .str (w))])] (c33_66_41 a0 a1 (x4 : Int) l u w) (IN B call inl' 33 m33 [1, 1, 0, 1] [1, 0, 1, 1, 1, 2] K) = LP B call inl' 33 m33 [1, 1, 0, 1] (s33_18 a0 a1 ((x4 + 1 : Nat) : Int) (ins l ((keyB ++ u, ((x4 + 1 : Nat) : Int), 1, ()), w, ()))) K := by
  have hw : IntKind.i64.wrap ((1 : Int) + (x4 : Int)) = ((x4 + 1 : Nat) : Int) := by rw [w64 (by omega) (by omega)]; omega
  have hw2 : IntKind.i64.wrap ((x4 : Int) + (1 : Int)) = ((x4 + 1 : Nat) : Int) := by rw [w64 (by omega) (by omega)]; omega
  refine (c33_66_41_i (callN B q) inl mq _ a0 a1 (x4 : Int) l u w).trans ?_
  rw [hw]
  refine bnd (s96 (by omega) ((keyB ++ u, ((x4 + 1 : Nat) : Int), 1, ()), w, ())) ?_
  rw [hmay, Bool.not_true, cond_false]
  have := l66_41 (show 1 ≤ q by omega) (inl := inl) mq (IN B call inl' 33 m33 [1, 1, 0, 1] [1, 0, 1, 1, 1, 2] K) a0 a1 x4 hx4 l hl u w hne l.length 0 mq (by omega) (by omega) (fun i hi => by omega)
  refine this.trans ?_
  rw [c33_66_41r52_k60, hw2, hw, List.drop_zero, List.take_length, Int.toNat_natCast]
  have e1 : l.take (l.takeWhile (before ((keyB ++ u, ((x4 + 1 : Nat) : Int), 1, ()), w, ()))).length = l.takeWhile (before ((keyB ++ u, ((x4 + 1 : Nat) : Int), 1, ()), w, ())) := by
    conv => lhs; arg 2; rw [← List.takeWhile_append_dropWhile (p := before ((keyB ++ u, ((x4 + 1 : Nat) : Int), 1, ()), w, ())) (l := l)]
    exact List.take_left
  have e2 : l.drop (l.takeWhile (before ((keyB ++ u, ((x4 + 1 : Nat) : Int), 1, ()), w, ()))).length = l.dropWhile (before ((keyB ++ u, ((x4 + 1 : Nat) : Int), 1, ()), w, ())) := by
    conv => lhs; arg 2; rw [← List.takeWhile_append_dropWhile (p := before ((keyB ++ u, ((x4 + 1 : Nat) : Int), 1, ()), w, ())) (l := l)]
    exact List.drop_left
  rw [e1, e2]
  unfold ins
  simp only [List.append_assoc, List.singleton_append]

/-- The i-th entry by numbers; all of them. -/
def mkE (sp i n : Nat) : En := if n % 7 = 0 then ((keyB ++ dg (n % (3 + sp % 40)), ((i + 1 : Nat) : Int), 2, ()), ⟨#[]⟩, ()) else ((keyB ++ dg (n % (3 + sp % 40)), ((i + 1 : Nat) : Int), 1, ()), dg n, ())
def mkA (sp : Nat) (ns : List Int) : Nat → Nat → List En → List En
  | 0, _, acc => acc
  | d + 1, i, acc => mkA sp ns d (i + 1) (ins acc (mkE sp i (ns.getD i 0).toNat))
def mkL (ns : List Int) (sp : Nat) : List En := mkA sp ns ns.length 0 []
theorem mkE_seq (sp i n : Nat) : (mkE sp i n).1.2.1 = ((i + 1 : Nat) : Int) := by unfold mkE; split <;> rfl
theorem mkE_may {sp i n : Nat} (hn : n < 256) (hi : i < 1000000000) : mayE (mkE sp i n) = true := by
  have hd : (dg (n % (3 + sp % 40))).size ≤ 3 := dg_size (by have := Nat.mod_lt n (show 3 + sp % 40 > 0 by omega); omega)
  have hd2 : (dg n).size ≤ 3 := dg_size (by omega)
  have hk : keyB.size = 3 := rfl
  have hs : (keyB ++ dg (n % (3 + sp % 40))).size ≤ 6 := by rw [ByteArray.size_append]; omega
  unfold mkE
  split
  · unfold mayE mayK mayB
    simp only [Bool.and_eq_true, decide_eq_true_eq, Bool.or_eq_true, beq_iff_eq]
    refine ⟨⟨⟨by omega, by omega, by omega, ?_⟩, by decide⟩, ?_⟩ <;> first | exact .inl trivial | exact .inr trivial | simp
  · unfold mayE mayK mayB
    simp only [Bool.and_eq_true, decide_eq_true_eq, Bool.or_eq_true, beq_iff_eq]
    refine ⟨⟨⟨by omega, by omega, by omega, ?_⟩, by omega⟩, ?_⟩ <;> first | exact .inl trivial | exact .inr trivial | simp
def Good (acc : List En) (i : Nat) : Prop := (∀ e ∈ acc, mayE e = true) ∧ acc.Pairwise LtE ∧ (∀ e ∈ acc, e.1.2.1 ≤ (i : Int)) ∧ acc.length = i
theorem Good.ins {acc : List En} {i sp n : Nat} (h : Good acc i) (hn : n < 256) (hi : i < 1000000000) : Good (ins acc (mkE sp i n)) (i + 1) := by
  obtain ⟨h1, h2, h3, h4⟩ := h
  have hs := mkE_seq sp i n
  refine ⟨fun e he => ?_, ins_pair h2 (fun x hx => by have := h3 x hx; rw [hs]; omega), fun e he => ?_, by rw [ins_length, h4]⟩
  · rcases ins_mem.1 he with rfl | he
    · exact mkE_may hn hi
    · exact h1 e he
  · rcases ins_mem.1 he with rfl | he
    · rw [hs]; omega
    · have := h3 e he; omega
theorem mkA_good {sp : Nat} {ns : List Int} (hb : Bytes ns) : ∀ (d i : Nat) (acc : List En), i + d < 1000000000 → Good acc i → Good (mkA sp ns d i acc) (i + d)
  | 0, i, acc, _, h => h
  | d + 1, i, acc, hd, h => by
    have hn : (ns.getD i 0).toNat < 256 := by
      by_cases hi : i < ns.length
      · have := hb _ (getD_mem hi 0); omega
      · rw [List.getD_eq_getElem?_getD, List.getElem?_eq_none (by omega)]; simp
    have := mkA_good (sp := sp) hb d (i + 1) _ (by omega) (h.ins (sp := sp) hn (by omega))
    rw [show i + 1 + d = i + (d + 1) by omega] at this
    exact this
theorem mkL_good {ns : List Int} (hb : Bytes ns) (hl : ns.length < 1000000000) (sp : Nat) : Good (mkL ns sp) ns.length := by
  have := mkA_good (sp := sp) hb ns.length 0 [] (by omega) ⟨(fun e h => by cases h), List.Pairwise.nil, (fun e h => by cases h), rfl⟩
  rwa [Nat.zero_add] at this
theorem mkL_rising {ns : List Int} (hb : Bytes ns) (hl : ns.length < 1000000000) (sp : Nat) : rising (mkL ns sp) = true := rising_of (mkL_good hb hl sp).1 (mkL_good hb hl sp).2.1
theorem l33 {q : Nat} (hq : 30 ≤ q) {inl : InlT} {mq : Nat} (m0 : Nat) {ns : List Int} (hb : Bytes ns) (hlen : ns.length < 1000000000) (hmq : ns.length < mq) (sp : Nat) (hsp : sp < 256) (d : Nat) : ∀ (i m : Nat) (acc : List En), i + d = ns.length → d < m → Good acc i →
    LP B (callN B (q + 1)) (inlN B (callN B q) inl mq) 33 m [1, 1, 0, 1] (s33_18 ns (sp : Int) (i : Int) acc) (KA B (callN B (q + 1)) (inlN B (callN B q) inl mq) 33 m0 [1, 1, 0, 1] (FI B (callN B (q + 1)) (inlN B (callN B q) inl mq) 33)) = (some (mkA sp ns d i acc) : Option (List En)) := by
  induction d with
  | zero =>
    intro i m acc hd hm hg
    obtain ⟨m, rfl⟩ : ∃ k, m = k + 1 := ⟨m - 1, by omega⟩
    rw [s33_18_l, bF (by omega), s33_18x61_k]
    rfl
  | succ d ih =>
    intro i m acc hd hm hg
    obtain ⟨m, rfl⟩ : ∃ k, m = k + 1 := ⟨m - 1, by omega⟩
    have hmem := hb _ (getD_mem (show i < ns.length by omega) 0)
    obtain ⟨n, hn⟩ : ∃ n : Nat, ns.getD i 0 = n := ⟨(ns.getD i 0).toNat, by omega⟩
    have hn256 : n < 256 := by omega
    have hwa : IntKind.i64.wrap (sp : Int) = (sp : Int) := w64 (by omega) (by omega)
    have hwn : IntKind.i64.wrap (ns.getD i 0) = (n : Int) := by rw [hn]; exact w64 (by omega) (by omega)
    have hms : IntKind.i64.wrap ((3 : Int) + (sp : Int).tmod 40) = ((3 + sp % 40 : Nat) : Int) := by
      rw [show (sp : Int).tmod 40 = ((sp % 40 : Nat) : Int) from rfl, w64 (by omega) (by omega)]; omega
    have htm : (n : Int).tmod ((3 + sp % 40 : Nat) : Int) = ((n % (3 + sp % 40) : Nat) : Int) := rfl
    have ht7 : (n : Int).tmod 7 = ((n % 7 : Nat) : Int) := rfl
    have hml : n % (3 + sp % 40) < 256 := by have := Nat.mod_lt n (show 3 + sp % 40 > 0 by omega); omega
    have hds := dg_size (n := n % (3 + sp % 40)) (by omega)
    have hne : ∀ x ∈ acc, x.1.2.1 ≠ ((i + 1 : Nat) : Int) := fun x hx => by have := hg.2.2.1 x hx; omega
    have hgn := hg.ins (sp := sp) hn256 (by omega)
    have hnext := ih (i + 1) m (ins acc (mkE sp i n)) (by omega) (by omega) hgn
    have hmay := mkE_may (sp := sp) (i := i) hn256 (by omega)
    have hmk : mkA sp ns (d + 1) i acc = mkA sp ns d (i + 1) (ins acc (mkE sp i n)) := by
      show mkA sp ns d (i + 1) (ins acc (mkE sp i (ns.getD i 0).toNat)) = _
      rw [hn, Int.toNat_natCast]
    rw [hmk]
    rw [s33_18_l, bT (by omega), if_pos (by omega), hwa, hms, if_neg (by omega), Int.toNat_natCast, hwn, htm, ht7]
    refine bnd (s42 (by omega) (n % (3 + sp % 40)) (by omega)) ?_
    rw [if_neg (by rw [i64max, show (ByteArray.mk #[(107 : UInt8), (101 : UInt8), (121 : UInt8)]).size = 3 from rfl]; omega)]
    refine bnd (s42 (by omega) n (by omega)) ?_
    have hgl := hg.2.2.2
    by_cases h7 : n % 7 = 0
    · have hbq : (((n % 7 : Nat) : Int) == (0 : Int)) = true := by rw [h7]; rfl
      have he : mkE sp i n = ((keyB ++ dg (n % (3 + sp % 40)), ((i + 1 : Nat) : Int), 2, ()), ⟨#[]⟩, ()) := by unfold mkE; rw [if_pos h7]
      rw [he] at hnext hmay ⊢
      rw [hbq, cond_true]
      exact (i66_21 (by omega) _ ns (sp : Int) i (by omega) acc (by omega) (by omega) (dg (n % (3 + sp % 40))) (dg n) hne hmay).trans hnext
    · have hbq : (((n % 7 : Nat) : Int) == (0 : Int)) = false := beq_eq_false_iff_ne.2 (by omega)
      have he : mkE sp i n = ((keyB ++ dg (n % (3 + sp % 40)), ((i + 1 : Nat) : Int), 1, ()), dg n, ()) := by unfold mkE; rw [if_neg h7]
      rw [he] at hnext hmay ⊢
      rw [hbq, cond_false]
      exact (i66_41 (by omega) _ ns (sp : Int) i (by omega) acc (by omega) (by omega) (dg (n % (3 + sp % 40))) (dg n) hne hmay).trans hnext
theorem s33 {k : Nat} {ns : List Int} (hb : Bytes ns) (hlen : ns.length < 1000000000) (hk : ns.length + 40 ≤ k) (sp : Nat) (hsp : sp < 256) : callN B k 33 [argAV (.sl u8) ns, .v (.int .u8) (sp : Int)] = (some (mkL ns sp) : Option (List En)) := by
  obtain ⟨k, rfl⟩ := Nat.exists_eq_add_of_le' (show 2 ≤ k by omega)
  refine (callS (k + 1) 33 _).trans ((t33 (callN B (k + 1)) (lvl B (k + 1)).2 (k + 1) ns (sp : Int)).trans ?_)
  rw [lvl2]
  exact l33 (by omega) (k + 1) hb hlen (by omega) sp hsp ns.length 0 (k + 1) [] (by omega) (by omega) ⟨(fun e h => by cases h), List.Pairwise.nil, (fun e h => by cases h), rfl⟩
theorem s18 {k : Nat} (h : 1 ≤ k) (x : Int) : callN B k 18 [.v i64 x] = (some x : Option Int) := by
  obtain ⟨k, rfl⟩ := Nat.exists_eq_add_of_le' h
  exact (callS k 18 _).trans (t18 (callN B k) (lvl B k).2 k x)
theorem putBlock_ok {l : List En} (h0 : l.length ≠ 0) (hr : rising l = true) (h64 : l.length ≤ 64) : putBlock l = finB (putB l l.length 0 [] []) := by
  unfold putBlock
  rw [if_neg (by simp [h0, hr]), if_neg (by omega)]
theorem awake_list : Bytes [(1 : Int), 2, 3] := fun x hx => by
  simp only [List.mem_cons, List.not_mem_nil, or_false] at hx
  omega
theorem finB_len' (x : List Int × List Int) : (finB x).1.length = x.1.length + x.2.length + 2 := finB_len x.1 x.2
theorem s19 {k : Nat} (hk : 100 ≤ k) : callN B k 19 [] = (some true : Option Bool) := by
  obtain ⟨k, rfl⟩ := Nat.exists_eq_add_of_le' (show 1 ≤ k by omega)
  refine (callS k 19 _).trans ((t19 (callN B k) (lvl B k).2 k).trans ?_)
  have hg := mkL_good awake_list (by decide) 0
  have hr := mkL_rising awake_list (by decide) 0
  have h3 : (mkL [(1 : Int), 2, 3] 0).length = 3 := hg.2.2.2
  have hp1 : putBlock [] = ([], 1, ()) := by unfold putBlock; rw [if_pos (.inl rfl)]
  have hp2 := putBlock_ok (by omega) hr (by omega)
  refine bnd (s17 (l := []) (by simp) (by simp; omega)) ?_
  refine bnd (s33 awake_list (by decide) (by simp; omega) 0 (by omega)) ?_
  refine bnd (s17 (by omega) (by omega)) ?_
  rw [hp1, hp2]
  refine bnd (s18 (by omega) _) ?_
  rw [show ((1 : Int) == (1 : Int)) = true from rfl, beq_self_eq_true, cond_true]
  refine bnd (s18 (by omega) _) ?_
  have : ((finB (putB (mkL [(1 : Int), 2, 3] 0) (mkL [(1 : Int), 2, 3] 0).length 0 [] [])).2.1 == (0 : Int)) = true := rfl
  rw [this, beq_self_eq_true, cond_true]
  refine congrArg some (decide_eq_true ?_)
  have hl := finB_len' (putB (mkL [(1 : Int), 2, 3] 0) (mkL [(1 : Int), 2, 3] 0).length 0 [] [])
  omega
end Go.Eng.Bk
