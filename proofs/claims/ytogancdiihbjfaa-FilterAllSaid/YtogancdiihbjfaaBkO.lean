/- Plain laws: entries in order. -/
import Derived.Test.YtogancdiihbjfaaBkS4
namespace Go.Eng.Bk
open Go Go.Proofs Go.Eng
set_option linter.unusedVariables false
set_option linter.unusedSimpArgs false
/-- ahead, in the keys' order -/
def LtKe (a b : Ke) : Prop := LtK a.1 a.2.1 a.2.2.1 b.1 b.2.1 b.2.2.1
theorem LtKe.irr {a : Ke} : ¬ LtKe a a := LtK.irr
theorem LtKe.trans {a b c : Ke} (h1 : LtKe a b) (h2 : LtKe b c) : LtKe a c := LtK.trans h1 h2
theorem cmpKe_lt {a b : Ke} : cmpKe a b < 0 ↔ LtKe a b := by
  unfold cmpKe LtKe
  rcases cmpK_iff a.1 a.2.1 a.2.2.1 b.1 b.2.1 b.2.2.1 with ⟨h, h1⟩ | ⟨h, h1, h2, h3⟩ | ⟨h, h1⟩
  · rw [h]; exact ⟨fun _ => h1, fun _ => by decide⟩
  · rw [h]; exact ⟨fun h => absurd h (by decide), fun h' => by rw [h1, h2, h3] at h'; exact (LtK.irr h').elim⟩
  · rw [h]; exact ⟨fun h => absurd h (by decide), fun h' => (LtK.irr (h'.trans h1)).elim⟩
theorem cmpKe_cases (a b : Ke) : LtKe a b ∨ (a.1 = b.1 ∧ a.2.1 = b.2.1 ∧ a.2.2.1 = b.2.2.1) ∨ LtKe b a := by
  rcases cmpK_iff a.1 a.2.1 a.2.2.1 b.1 b.2.1 b.2.2.1 with ⟨_, h1⟩ | ⟨_, h1, h2, h3⟩ | ⟨_, h1⟩
  · exact .inl h1
  · exact .inr (.inl ⟨h1, h2, h3⟩)
  · exact .inr (.inr h1)
abbrev LtE (a b : En) : Prop := LtKe a.1 b.1
theorem risA_iff {l : List En} : ∀ (d i : Nat), i + d = l.length → (risA l d i = true ↔ (∀ j, i ≤ j → j < l.length → mayE (l.getD j d0) = true) ∧ ∀ j, i ≤ j → j < l.length → 0 < j → LtE (l.getD (j - 1) d0) (l.getD j d0))
  | 0, i, h => ⟨fun _ => ⟨fun j h1 h2 => by omega, fun j h1 h2 => by omega⟩, fun _ => rfl⟩
  | d + 1, i, h => by
    have ih := risA_iff (l := l) d (i + 1) (by omega)
    simp only [risA, Bool.and_eq_true, ih, Bool.or_eq_true, beq_iff_eq, decide_eq_true_eq, cmpKe_lt]
    constructor
    · rintro ⟨⟨h1, h2⟩, h3, h4⟩
      refine ⟨fun j h5 h6 => ?_, fun j h5 h6 h7 => ?_⟩
      · by_cases hj : j = i
        · subst hj; exact h1
        · exact h3 j (by omega) h6
      · by_cases hj : j = i
        · subst hj; exact h2.resolve_left (by omega)
        · exact h4 j (by omega) h6 h7
    · rintro ⟨h1, h2⟩
      refine ⟨⟨h1 i (Nat.le_refl _) (by omega), ?_⟩, fun j h5 h6 => h1 j (by omega) h6, fun j h5 h6 h7 => h2 j (by omega) h6 h7⟩
      by_cases hi : i = 0
      · exact .inl hi
      · exact .inr (h2 i (Nat.le_refl _) (by omega) (by omega))
theorem getD_mem {α : Type} {l : List α} {i : Nat} (h : i < l.length) (d : α) : l.getD i d ∈ l := by
  rw [List.getD_eq_getElem?_getD, List.getElem?_eq_getElem h]
  exact List.getElem_mem h
theorem getD_lt' {α : Type} {l : List α} {i : Nat} (h : i < l.length) (d : α) : l.getD i d = l[i] := by
  rw [List.getD_eq_getElem?_getD, List.getElem?_eq_getElem h]; rfl
theorem rising_of {l : List En} (h1 : ∀ e ∈ l, mayE e = true) (h2 : l.Pairwise LtE) : rising l = true := by
  refine (risA_iff l.length 0 (by omega)).2 ⟨fun j _ hj => h1 _ (getD_mem hj d0), fun j _ hj h0 => ?_⟩
  rw [getD_lt' hj, getD_lt' (show j - 1 < l.length by omega)]
  exact List.pairwise_iff_getElem.1 h2 (j - 1) j (by omega) hj (by omega)
theorem rising_mem {l : List En} (h : rising l = true) : ∀ e ∈ l, mayE e = true := by
  intro e he
  obtain ⟨i, hi, rfl⟩ := List.getElem_of_mem he
  have := ((risA_iff l.length 0 (by omega)).1 h).1 i (by omega) hi
  rwa [getD_lt' hi] at this
theorem rising_pair {l : List En} (h : rising l = true) : l.Pairwise LtE := by
  have h2 := ((risA_iff l.length 0 (by omega)).1 h).2
  refine List.pairwise_iff_getElem.2 (fun i j hi hj hij => ?_)
  have key : ∀ n, i + 1 + n < l.length → LtE (l.getD i d0) (l.getD (i + 1 + n) d0) := by
    intro n
    induction n with
    | zero => intro hn; exact h2 (i + 1) (by omega) hn (by omega)
    | succ n ih => intro hn; exact (ih (by omega)).trans (h2 (i + 1 + (n + 1)) (by omega) hn (by omega))
  have := key (j - (i + 1)) (by omega)
  rw [show i + 1 + (j - (i + 1)) = j by omega, getD_lt' hi, getD_lt' hj] at this
  exact this
/-! ### an entry put in its place -/
def before (e x : En) : Bool := decide (cmpKe x.1 e.1 < 0)
def ins (l : List En) (e : En) : List En := l.takeWhile (before e) ++ e :: l.dropWhile (before e)
theorem ins_length (l : List En) (e : En) : (ins l e).length = l.length + 1 := by
  unfold ins
  have := congrArg List.length (List.takeWhile_append_dropWhile (p := before e) (l := l))
  rw [List.length_append] at this
  rw [List.length_append, List.length_cons]
  omega
theorem ins_mem {l : List En} {e x : En} : x ∈ ins l e ↔ x = e ∨ x ∈ l := by
  unfold ins
  have := congrArg (x ∈ ·) (List.takeWhile_append_dropWhile (p := before e) (l := l))
  simp only [List.mem_append, eq_iff_iff] at this
  rw [List.mem_append, List.mem_cons, ← this]
  constructor
  · rintro (h | h | h)
    · exact .inr (.inl h)
    · exact .inl h
    · exact .inr (.inr h)
  · rintro (h | h | h)
    · exact .inr (.inl h)
    · exact .inl h
    · exact .inr (.inr h)
theorem takeWhile_all {α : Type} {p : α → Bool} : ∀ {l : List α} {x : α}, x ∈ l.takeWhile p → p x = true
  | [], _, h => by cases h
  | y :: l, x, h => by
    rw [List.takeWhile_cons] at h
    split at h
    · rename_i hy
      rcases List.mem_cons.1 h with rfl | h
      · exact hy
      · exact takeWhile_all h
    · cases h
theorem dropWhile_head {α : Type} {p : α → Bool} : ∀ {l : List α} {y : α} {t : List α}, l.dropWhile p = y :: t → p y = false
  | [], _, _, h => by cases h
  | z :: l, y, t, h => by
    rw [List.dropWhile_cons] at h
    split at h
    · exact dropWhile_head h
    · rename_i hz
      cases h
      simpa using hz
theorem ins_pair {l : List En} {e : En} (h : l.Pairwise LtE) (hne : ∀ x ∈ l, x.1.2.1 ≠ e.1.2.1) : (ins l e).Pairwise LtE := by
  unfold ins
  have hl := List.takeWhile_append_dropWhile (p := before e) (l := l)
  have hp : (l.takeWhile (before e) ++ l.dropWhile (before e)).Pairwise LtE := by rw [hl]; exact h
  obtain ⟨h1, h2, h3⟩ := List.pairwise_append.1 hp
  have ha : ∀ a ∈ l.takeWhile (before e), LtE a e := fun a ha => by
    have h4 : before e a = true := takeWhile_all ha
    exact cmpKe_lt.1 (of_decide_eq_true h4)
  have hc : ∀ c ∈ l.dropWhile (before e), LtE e c := by
    cases hd : l.dropWhile (before e) with
    | nil => intro c hc; cases hc
    | cons y t =>
      have hy := dropWhile_head hd
      have hyl : y ∈ l := by rw [← hl, hd]; simp
      have hye : LtE e y := by
        rcases cmpKe_cases y.1 e.1 with h4 | ⟨_, h4, _⟩ | h4
        · have : before e y = true := decide_eq_true (cmpKe_lt.2 h4)
          rw [this] at hy; cases hy
        · exact absurd h4 (hne y hyl)
        · exact h4
      intro c hc
      rcases List.mem_cons.1 hc with rfl | hc
      · exact hye
      · rw [hd] at h2
        exact hye.trans ((List.pairwise_cons.1 h2).1 c hc)
  refine List.pairwise_append.2 ⟨h1, List.pairwise_cons.2 ⟨hc, h2⟩, fun a ha' b hb => ?_⟩
  rcases List.mem_cons.1 hb with rfl | hb
  · exact ha a ha'
  · exact h3 a ha' b hb
/-! ### digits -/
def dgA : Nat → Nat → ByteArray → ByteArray
  | 0, _, acc => acc
  | d + 1, n, acc => if n ≥ 10 then dgA d (n / 10) (strOf [((48 + n % 10 : Nat) : Int)] ++ acc) else strOf [((48 + n : Nat) : Int)] ++ acc
def dg (n : Nat) : ByteArray := dgA 20 n ⟨#[]⟩
theorem dgA_size : ∀ (d n : Nat) (acc : ByteArray) (k : Nat), n < 10 ^ k → (dgA d n acc).size ≤ acc.size + max k 1
  | 0, n, acc, k, _ => by simp only [dgA]; omega
  | d + 1, n, acc, k, h => by
    simp only [dgA]
    have h1 : ∀ x : Int, (strOf [x] ++ acc).size = acc.size + 1 := fun x => by rw [ByteArray.size_append, strOf_len]; simp; omega
    split
    · rename_i hn
      cases k with
      | zero => simp at h; omega
      | succ k =>
        have := dgA_size d (n / 10) (strOf [((48 + n % 10 : Nat) : Int)] ++ acc) k (by rw [Nat.pow_succ] at h; omega)
        rw [h1] at this
        cases k with
        | zero => simp at h; omega
        | succ k => omega
    · rw [h1]; omega
theorem dg_size {n : Nat} (h : n < 1000) : (dg n).size ≤ 3 := by
  have := dgA_size 20 n ⟨#[]⟩ 3 (by omega)
  have e : (ByteArray.mk #[]).size = 0 := rfl
  unfold dg
  omega
theorem l42 {call : CallT B} {inl : InlT} (m0 : Nat) (d : Nat) : ∀ (n m : Nat) (acc : ByteArray), n < 10 ^ (d + 1) → n < 9223372036854775808 → acc.size + d < 1000 → d < m → d < 20 →
    LP B call inl 42 m [1, 1, 0] (s42_2 (n : Int) acc) (KA B call inl 42 m0 [1, 1, 0] (FI B call inl 42)) = (some (dgA (d + 1) n acc) : Option ByteArray) := by
  have hmax : IntKind.i64.max = 9223372036854775807 := by decide
  have last : ∀ (d n m : Nat) (acc : ByteArray), n < 10 → acc.size < 1000 → LP B call inl 42 (m + 1) [1, 1, 0] (s42_2 (n : Int) acc) (KA B call inl 42 m0 [1, 1, 0] (FI B call inl 42)) = (some (dgA (d + 1) n acc) : Option ByteArray) := by
    intro d n m acc h ho
    have e1 : IntKind.u8.wrap (IntKind.i64.wrap ((48 : Int) + (n : Int))) = ((48 + n : Nat) : Int) := by rw [w64 (by omega) (by omega), wu8]; omega
    have e2 : (strOf [((48 + n : Nat) : Int)]).size = 1 := by rw [strOf_len]; rfl
    rw [s42_2_l, bF (by omega), s42_2x3_k, e1, if_neg (by rw [hmax, e2]; omega)]
    simp only [dgA]
    rw [if_neg (by omega)]
  induction d with
  | zero => 
    intro n m acc h hn ho hm hd
    obtain ⟨m, rfl⟩ : ∃ k, m = k + 1 := ⟨m - 1, by omega⟩
    exact last 0 n m acc (by simpa using h) (by omega)
  | succ d ih =>
    intro n m acc h hn ho hm hd
    obtain ⟨m, rfl⟩ : ∃ k, m = k + 1 := ⟨m - 1, by omega⟩
    by_cases h1 : n < 10
    · exact last (d + 1) n m acc h1 (by omega)
    · have e0 : Int.tmod (n : Int) (10 : Int) = ((n % 10 : Nat) : Int) := rfl
      have e3 : Int.tdiv (n : Int) (10 : Int) = ((n / 10 : Nat) : Int) := rfl
      have e1 : IntKind.u8.wrap (IntKind.i64.wrap ((48 : Int) + ((n % 10 : Nat) : Int))) = ((48 + n % 10 : Nat) : Int) := by rw [w64 (by omega) (by omega), wu8]; omega
      have e2 : (strOf [((48 + n % 10 : Nat) : Int)]).size = 1 := by rw [strOf_len]; rfl
      rw [s42_2_l, bT (by omega), e0, e3, e1, if_neg (by rw [hmax, e2]; omega), w64 (x := ((n / 10 : Nat) : Int)) (by omega) (by omega)]
      refine (ih (n / 10) m _ (by rw [Nat.pow_succ] at h; omega) (by omega) (by rw [ByteArray.size_append, e2]; omega) (by omega) (by omega)).trans ?_
      have : dgA (d + 1 + 1) n acc = dgA (d + 1) (n / 10) (strOf [((48 + n % 10 : Nat) : Int)] ++ acc) := by
        conv => lhs; unfold dgA
        rw [if_pos (by omega)]
      rw [this]
theorem s42 {k : Nat} (hk : 24 ≤ k) (n : Nat) (hn : n < 9223372036854775808) : callN B k 42 [.v i64 (n : Int)] = (some (dg n) : Option ByteArray) := by
  obtain ⟨k, rfl⟩ := Nat.exists_eq_add_of_le' (show 1 ≤ k by omega)
  refine (callS k 42 _).trans ((t42 (callN B k) (lvl B k).2 k (n : Int)).trans ?_)
  exact l42 k 19 n k ⟨#[]⟩ (by rw [show (10 : Nat) ^ (19 + 1) = 100000000000000000000 from by decide]; omega) hn (by decide) (by omega) (by omega)
end Go.Eng.Bk
