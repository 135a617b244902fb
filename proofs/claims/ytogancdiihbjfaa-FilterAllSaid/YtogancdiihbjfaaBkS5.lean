/- What reading a block answers, the program's and the document's. -/
import Derived.Test.YtogancdiihbjfaaBkO
namespace Go.Eng.Bk
open Go Go.Proofs Go.Eng
set_option linter.unusedVariables false
set_option linter.unusedSimpArgs false
theorem s99 {k : Nat} (h : 1 ≤ k) {n : Nat} (hn : n < 9223372036854775808) : callN B k 99 [.v i64 (n : Int)] = (some (((n / 2 : Nat) : Int), ((n % 2 + 1 : Nat) : Int), ()) : Option (Int × Int × Unit)) := by
  obtain ⟨k, rfl⟩ := Nat.exists_eq_add_of_le' h
  refine (callS k 99 _).trans ((t99 (callN B k) (lvl B k).2 k (n : Int)).trans (congrArg some ?_))
  have e1 : Int.tdiv (n : Int) 2 = ((n / 2 : Nat) : Int) := rfl
  have e2 : Int.tmod (n : Int) 2 = ((n % 2 : Nat) : Int) := rfl
  rw [e1, e2, w64 (x := ((n / 2 : Nat) : Int)) (by omega) (by omega), w64 (x := ((n % 2 : Nat) : Int) + 1) (by omega) (by omega)]
  rfl
/-- The entry that stands at a place, behind one of a user. -/
def entryM (l : List Int) (at_ : Int) (ahead : ByteArray) : En × Int × Bool × Unit :=
  if (getN l at_).2.2 = true ∧ (getN l at_).1 ≤ (ahead.size : Int) ∧ (getT l (getN l at_).2.1).2.2 = true ∧ (getN l (getT l (getN l at_).2.1).2.1).2.2 = true then
    (((ahead.extract 0 (getN l at_).1.toNat ++ (getT l (getN l at_).2.1).1, (((getN l (getT l (getN l at_).2.1).2.1).1.toNat / 2 : Nat) : Int), (((getN l (getT l (getN l at_).2.1).2.1).1.toNat % 2 + 1 : Nat) : Int), ()), (getT l (getN l (getT l (getN l at_).2.1).2.1).2.1).1, ()),
      (getT l (getN l (getT l (getN l at_).2.1).2.1).2.1).2.1, (getT l (getN l (getT l (getN l at_).2.1).2.1).2.1).2.2, ())
  else (d0, 0, false, ())
theorem getT_size {l : List Int} (hl : Bytes l) (at_ : Int) : (getT l at_).1.size ≤ l.length := by
  rcases getT_cases hl at_ with h | ⟨p, n, j, _, _, h, _, _, hle⟩
  · rw [h]; exact Nat.zero_le _
  · rw [h]; rw [strOf_len, List.length_drop, List.length_take]; omega
theorem i64max : IntKind.i64.max = 9223372036854775807 := by decide
theorem s68 {k : Nat} (hk : 15 ≤ k) {l : List Int} (hl : Bytes l) (hlen : l.length ≤ 140737488351232) (at_ : Int) {ahead : ByteArray} (ha : ahead.size ≤ 140737488351232) :
    callN B k 68 [.v (.sl u8) l, .v i64 at_, .v .str ahead] = (some (entryM l at_ ahead) : Option (En × Int × Bool × Unit)) := by
  obtain ⟨k, rfl⟩ := Nat.exists_eq_add_of_le' (show 1 ≤ k by omega)
  refine (callS k 68 _).trans ((t68 (callN B k) (lvl B k).2 k l at_ ahead).trans ?_)
  refine bnd (s97 (by omega) hl hlen at_) ?_
  have no : ∀ {c : Prop}, ¬ ((getN l at_).2.2 = true ∧ (getN l at_).1 ≤ (ahead.size : Int) ∧ (getT l (getN l at_).2.1).2.2 = true ∧ (getN l (getT l (getN l at_).2.1).2.1).2.2 = true) → (some (d0, (0 : Int), false, ()) : Option (En × Int × Bool × Unit)) = some (entryM l at_ ahead) := by
    intro _ h; unfold entryM; rw [if_neg h]
  change (bif (!(getN l at_).2.2) == false then (bif decide ((getN l at_).1 > (ahead.size : Int)) then _ else _) else _) = _
  cases h1 : (getN l at_).2.2 with
  | false => exact no (c := True) (fun h => by rw [h1] at h; cases h.1)
  | true =>
  rw [Bool.not_true, beq_self_eq_true, cond_true]
  by_cases h2 : (getN l at_).1 > (ahead.size : Int)
  · rw [bT h2]
    exact no (c := True) (fun h => by have := h.2.1; omega)
  rw [bF h2]
  refine bnd (s98 (by omega) hl hlen (getN l at_).2.1) ?_
  change (bif !(getT l (getN l at_).2.1).2.2 then _ else _) = _
  cases h3 : (getT l (getN l at_).2.1).2.2 with
  | false => exact no (c := True) (fun h => by rw [h3] at h; cases h.2.2.1)
  | true =>
  rw [Bool.not_true, cond_false]
  refine bnd (s97 (by omega) hl hlen (getT l (getN l at_).2.1).2.1) ?_
  change (bif !(getN l (getT l (getN l at_).2.1).2.1).2.2 then _ else _) = _
  cases h4 : (getN l (getT l (getN l at_).2.1).2.1).2.2 with
  | false => exact no (c := True) (fun h => by rw [h4] at h; cases h.2.2.2)
  | true =>
  rw [Bool.not_true, cond_false]
  refine bnd (s98 (by omega) hl hlen (getN l (getT l (getN l at_).2.1).2.1).2.1) ?_
  obtain ⟨n, hn, hn2⟩ := getN_num hl at_
  obtain ⟨t, ht, ht2⟩ := getN_num hl (getT l (getN l at_).2.1).2.1
  have hsz := getT_size hl (getN l at_).2.1
  change (if (0 : Int) ≤ (getN l at_).1 ∧ (getN l at_).1 ≤ (ahead.size : Int) then (if (((ahead.extract 0 (Int.toNat (getN l at_).1)).size + (getT l (getN l at_).2.1).1.size : Nat) : Int) > IntKind.i64.max then none else ((callN B k 99 [(.v i64 (getN l (getT l (getN l at_).2.1).2.1).1)]).bind _)) else none) = _
  rw [if_pos (by omega), if_neg (by rw [i64max, ByteArray.size_extract]; omega), ht]
  refine bnd (s99 (by omega) ht2) ?_
  unfold entryM
  rw [if_pos ⟨h1, by omega, h3, h4⟩, ht, Int.toNat_natCast]
theorem entry_cases {l : List Int} (hl : Bytes l) (p : Nat) (ahead : ByteArray) : (entryM l (p : Int) ahead).2.2.1 = false ∨ ∃ (e : En) (q : Nat), entryM l (p : Int) ahead = (e, (q : Int), true, ()) ∧ p + 4 ≤ q ∧ q ≤ l.length ∧ e.1.1.size ≤ ahead.size + (q - p) := by
  unfold entryM
  split
  · rename_i h
    obtain ⟨h1, h2, h3, h4⟩ := h
    rcases getN_cases hl (p : Int) with h5 | ⟨p', n, j, hp, _, h5, hn, hj, _, hle⟩
    · rw [h5] at h1; cases h1
    · have hpp : p' = p := by omega
      subst hpp
      rw [h5] at h2 h3 h4 ⊢
      simp only at h2 h3 h4 ⊢
      rcases getT_cases hl ((p' + j : Nat) : Int) with h6 | ⟨p2, n2, j2, hp2, _, h6, hj2, _, hle2⟩
      · rw [h6] at h3; cases h3
      · have hpp : p2 = p' + j := by omega
        subst hpp
        rw [h6] at h4 ⊢
        simp only at h4 ⊢
        rcases getN_cases hl ((p' + j + j2 + n2 : Nat) : Int) with h7 | ⟨p3, n3, j3, hp3, _, h7, _, hj3, _, hle3⟩
        · rw [h7] at h4; cases h4
        · have hpp : p3 = p' + j + j2 + n2 := by omega
          subst hpp
          rw [h7]
          simp only
          rcases getT_cases hl ((p' + j + j2 + n2 + j3 : Nat) : Int) with h8 | ⟨p4, n4, j4, hp4, _, h8, hj4, _, hle4⟩
          · left; rw [h8]
          · right
            have hpp : p4 = p' + j + j2 + n2 + j3 := by omega
            subst hpp
            rw [h8]
            refine ⟨_, p' + j + j2 + n2 + j3 + j4 + n4, rfl, by omega, by omega, ?_⟩
            show (ByteArray.extract ahead 0 _ ++ strOf _).size ≤ _
            rw [ByteArray.size_append, ByteArray.size_extract, strOf_len, List.length_drop, List.length_take]
            omega
  · exact .inl rfl
/-- Entry by entry; the bytes of the entries are l. -/
def getLoop (l : List Int) : Nat → Nat → ByteArray → List En → Option (List En)
  | 0, _, _, _ => none
  | d + 1, p, ahead, out => if p < l.length then (if (entryM l (p : Int) ahead).2.2.1 = true ∧ out.length ≤ 64 then getLoop l d (entryM l (p : Int) ahead).2.1.toNat (entryM l (p : Int) ahead).1.1.1 (out ++ [(entryM l (p : Int) ahead).1]) else none) else some out
def getRes (b : List Int) (o : Option (List En)) : List En × Bool × Unit := match o with
  | none => ([], false, ())
  | some out => if (putBlock out).2.1 = 0 ∧ (putBlock out).1 = b then (out, true, ()) else ([], false, ())
/-- The entries that bytes are a block of. -/
def getBlock (b : List Int) : List En × Bool × Unit :=
  if (gfx b ((b.length : Int) - 2) 2).2.1 = true ∧ 4 * (gfx b ((b.length : Int) - 2) 2).1 ≤ (b.length : Int) - 2 then
    getRes b (getLoop (b.take ((b.length : Int) - 2 - 4 * (gfx b ((b.length : Int) - 2) 2).1).toNat) (b.length + 1) 0 ⟨#[]⟩ [])
  else ([], false, ())
theorem finB_len (o p : List Int) : (finB (o, p)).1.length = o.length + p.length + 2 := by
  have : (finB (o, p)).1 = o ++ p ++ fx (p.length / 4) 2 := rfl
  rw [this, List.length_append, List.length_append, fx_length]
theorem finB_length (l : List En) (hm : ∀ j, j < l.length → mayE (l.getD j d0) = true) (d : Nat) : ∀ (i : Nat) (out pl : List Int), i + d = l.length → out.length ≤ i * 612 → pl.length ≤ i * 4 → (finB (putB l d i out pl)).1.length ≤ (i + d) * 616 + 2 := by
  induction d with
  | zero =>
    intro i out pl _ h1 h2
    have : putB l 0 i out pl = (out, pl) := rfl
    rw [this, finB_len]; omega
  | succ d ih =>
    intro i out pl hd h1 h2
    have hme := hm i (by omega)
    have hel := encE_length (shAt_le hme).2 hme
    have := ih (i + 1) (out ++ encE (shAt l i) (l.getD i d0)) (if i % 4 = 0 then pl ++ fx out.length 4 else pl) (by omega) (by rw [List.length_append]; omega) (by
      split
      · rw [List.length_append, fx_length]; omega
      · omega)
    have e : putB l (d + 1) i out pl = putB l d (i + 1) (out ++ encE (shAt l i) (l.getD i d0)) (if i % 4 = 0 then pl ++ fx out.length 4 else pl) := rfl
    rw [← e] at this
    refine Nat.le_trans this ?_
    rw [show i + 1 + d = i + (d + 1) from by omega]
    exact Nat.le_refl _
theorem putBlock_length (l : List En) : (putBlock l).1.length ≤ 40000 := by
  unfold putBlock
  split
  · simp
  · rename_i h
    have hr : rising l = true := by cases hr : rising l with
      | true => rfl
      | false => exact absurd (.inr hr) h
    split
    · simp
    · have := finB_length l (rising_may hr) l.length 0 [] [] (by omega) (by simp) (by simp)
      omega
theorem l34 {q : Nat} (hq : 50000 ≤ q) {inl : InlT} (m0 : Nat) {b : List Int} (hb : Bytes b) (hlen : b.length ≤ 1000000000) {v0 : Int × Bool × Unit} (c : Nat) (hv : v0.1 = (c : Int)) (hc : 4 * c + 2 ≤ b.length) (d : Nat) : ∀ (p m : Nat) (out : List En) (ahead : ByteArray),
    b.length + 1 ≤ d + p + (2 + 4 * c) → p + 2 + 4 * c ≤ b.length → d ≤ m → out.length ≤ 65 → ahead.size ≤ p →
    LP B (callN B q) inl 34 m [1, 1, 1, 1, 1, 1, 1, 0, 1] (s34_6 b v0 out ahead (p : Int)) (KA B (callN B q) inl 34 m0 [1, 1, 1, 1, 1, 1, 1, 0, 1] (FI B (callN B q) inl 34)) = (some (getRes b (getLoop (b.take (b.length - 2 - 4 * c)) d p ahead out)) : Option (List En × Bool × Unit)) := by
  have hw1 : IntKind.i64.wrap ((b.length : Int) - 2) = (b.length : Int) - 2 := w64 (by omega) (by omega)
  have hw2 : IntKind.i64.wrap ((4 : Int) * v0.1) = ((4 * c : Nat) : Int) := by rw [hv, w64 (by omega) (by omega)]; omega
  have hend : IntKind.i64.wrap (IntKind.i64.wrap ((b.length : Int) - 2) - IntKind.i64.wrap ((4 : Int) * v0.1)) = ((b.length - 2 - 4 * c : Nat) : Int) := by
    rw [hw1, hw2, w64 (by omega) (by omega)]; omega
  have hsub : List.drop 0 (List.take (IntKind.i64.wrap (IntKind.i64.wrap ((b.length : Int) - 2) - IntKind.i64.wrap ((4 : Int) * v0.1))).toNat b) = b.take (b.length - 2 - 4 * c) := by
    rw [hend, Int.toNat_natCast, List.drop_zero]
  have hsl : (b.take (b.length - 2 - 4 * c)).length = b.length - 2 - 4 * c := by rw [List.length_take]; omega
  induction d with
  | zero => intro p m out ahead h1 h2; omega
  | succ d ih =>
    intro p m out ahead h1 h2 hm ho ha
    obtain ⟨m, rfl⟩ : ∃ k, m = k + 1 := ⟨m - 1, by omega⟩
    rw [s34_6_l]
    simp only [getLoop]
    rw [hsl]
    by_cases hp : p < b.length - 2 - 4 * c
    · rw [bT (by rw [hend]; omega), if_pos (by rw [hend]; omega), hsub, if_pos hp]
      refine bnd (s68 (by omega) (hb.take _) (by omega) (p : Int) (by omega)) ?_
      rcases entry_cases (hb.take (b.length - 2 - 4 * c)) p ahead with h | ⟨e, q', h, hq1, hq2, hsz⟩
      · rw [h, show ((!false) == false) = false from rfl, cond_false, s34_6x8_k, if_neg (fun h => by cases h.1)]
        rfl
      · rw [h]
        rw [show ((!(e, (q' : Int), true, ()).snd.snd.fst) == false) = true from rfl, cond_true]
        by_cases h64 : out.length > 64
        · rw [bT (by omega), s34_6x8_k, if_neg (fun h => by have := h.2; omega)]
          rfl
        · rw [bF (by omega), if_pos (by simp only [List.length_cons, List.length_nil]; omega), if_pos ⟨rfl, by omega⟩]
          rw [hsl] at hq2
          have := ih q' m (out ++ [e]) e.1.1 (by omega) (by omega) (by omega) (by simp; omega) (by omega)
          simp only [Int.toNat_natCast]
          exact this
    · rw [bF (by rw [hend]; omega), s34_6x9_k, if_neg hp]
      refine bnd (s17 (by omega) (by omega)) ?_
      have hpl := putBlock_length out
      unfold getRes
      simp only
      by_cases he : (putBlock out).2.1 = 0
      · have : ((putBlock out).2.1 != (0 : Int)) = false := by simp [he]
        rw [this, beq_self_eq_true, cond_true]
        refine bnd (s69 (putBlock out).1 b (by omega) (by omega)) ?_
        by_cases hbb : (putBlock out).1 = b
        · rw [decide_eq_true hbb, if_pos ⟨he, hbb⟩]
          rfl
        · rw [decide_eq_false hbb, if_neg (fun h => hbb h.2)]
          rfl
      · have : ((putBlock out).2.1 != (0 : Int)) = true := by simpa using he
        rw [this, if_neg (fun h => he h.1)]
        rfl
theorem gfx_nat {l : List Int} (hl : Bytes l) (at_ : Int) (z : Nat) : ∃ c : Nat, (gfx l at_ z).1 = c := by
  unfold gfx
  split
  · exact ⟨0, rfl⟩
  · exact ⟨_, rfl⟩
theorem s34 {k : Nat} {b : List Int} (hb : Bytes b) (hlen : b.length ≤ 1000000000) (hk : b.length + 50010 ≤ k) : callN B k 34 [argAV (.sl u8) b] = (some (getBlock b) : Option (List En × Bool × Unit)) := by
  obtain ⟨k, rfl⟩ := Nat.exists_eq_add_of_le' (show 1 ≤ k by omega)
  refine (callS k 34 _).trans ((t34 (callN B k) (lvl B k).2 k b).trans ?_)
  have hw1 : IntKind.i64.wrap ((b.length : Int) - 2) = (b.length : Int) - 2 := w64 (by omega) (by omega)
  rw [hw1]
  refine bnd (s67 (by omega) hb (by omega) ((b.length : Int) - 2) (by omega) 2 (by omega) (by omega)) ?_
  obtain ⟨c, hc⟩ := gfx_nat hb ((b.length : Int) - 2) 2
  unfold getBlock
  generalize hr : gfx b ((b.length : Int) - 2) 2 = r at hc ⊢
  cases ho : r.2.1 with
  | false =>
    rw [if_neg (fun h => by cases h.1)]
    rfl
  | true =>
    rw [Bool.not_true, beq_self_eq_true, cond_true]
    have hcb : c < 65536 := by
      unfold gfx at hr
      split at hr
      · rw [← hr] at ho; cases ho
      · have := bval_lt ((b.drop ((b.length : Int) - 2).toNat).take 2) 0 0 ((hb.drop _).take 2) (by simp)
        have hll : ((b.drop ((b.length : Int) - 2).toNat).take 2).length ≤ 2 := by rw [List.length_take]; omega
        have hpw : 256 ^ (0 + ((b.drop ((b.length : Int) - 2).toNat).take 2).length) ≤ 256 ^ 2 := Nat.pow_le_pow_right (by omega) (by omega)
        have : (256 : Nat) ^ 2 = 65536 := by decide
        rw [← hr] at hc
        simp only at hc
        omega
    have hw2 : IntKind.i64.wrap ((4 : Int) * r.1) = 4 * (c : Int) := by rw [hc, w64 (by omega) (by omega)]
    by_cases h4 : 4 * r.1 > (b.length : Int) - 2
    · rw [bT (by rw [hw2, ← hc]; exact h4), if_neg (fun h => by have := h.2; omega)]
    · rw [bF (by rw [hw2, ← hc]; exact h4), if_pos ⟨rfl, by omega⟩]
      have hl := l34 (q := k) (by omega) (inl := (lvl B k).2) k hb hlen (v0 := r) c hc (by omega) (b.length + 1) 0 k [] ⟨#[]⟩ (by omega) (by omega) (by omega) (by simp) (Nat.zero_le _)
      have e : ((b.length : Int) - 2 - 4 * r.1).toNat = b.length - 2 - 4 * c := by rw [hc]; omega
      rw [e]
      exact hl
theorem s35 {k : Nat} {b : List Int} (hb : Bytes b) (hlen : b.length ≤ 1000000000) (hk : b.length + 50011 ≤ k) : callN B k 35 [argAV (.sl u8) b] = (some (getBlock b).1 : Option (List En)) := by
  obtain ⟨k, rfl⟩ := Nat.exists_eq_add_of_le' (show 1 ≤ k by omega)
  refine (callS k 35 _).trans ((t35 (callN B k) (lvl B k).2 k b).trans ?_)
  exact bnd (s34 hb hlen (by omega)) rfl
end Go.Eng.Bk
