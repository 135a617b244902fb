/- FilterGrows: the order of keys is no matter; more keys, more bits. -/
import Derived.Test.YtogancdiihbjfaaBkG15
import Derived.Test.YtogancdiihbjfaaBkF2
namespace Go.Eng.Bk
open Go Go.Proofs Go.Eng
set_option linter.unusedVariables false
set_option linter.unusedSimpArgs false
theorem byte_ext {x y : Nat} (hx : x < 256) (hy : y < 256) (h : ∀ r, r < 8 → x.testBit r = y.testBit r) : x = y := by
  refine Nat.eq_of_testBit_eq (fun r => ?_)
  by_cases hr : r < 8
  · exact h r hr
  · have hp : 2 ^ 8 ≤ 2 ^ r := Nat.pow_le_pow_right (by omega) (by omega)
    have h8 : (2 : Nat) ^ 8 = 256 := by decide
    rw [Nat.testBit_lt_two_pow (Nat.lt_of_lt_of_le hx (by omega)), Nat.testBit_lt_two_pow (Nat.lt_of_lt_of_le hy (by omega))]
theorem bit_iff {f : List Int} {p x : Nat} (h : f.getD (p / 8) 0 = (x : Int)) (hx : x < 256) : bitI f p = 1 ↔ x.testBit (p % 8) = true := by
  rw [bitI_eq h hx]
  split
  · rename_i h; exact ⟨fun _ => h, fun _ => rfl⟩
  · rename_i h; exact ⟨fun hh => (by cases hh), fun hh => absurd hh h⟩
/-- A byte whose bits are all another one's. -/
theorem andnot {x y : Nat} (hx : x < 256) (h : ∀ r, r < 8 → x.testBit r = true → y.testBit r = true) : (IntKind.u8.wrap (((BitVec.ofInt IntKind.u8.bits (x : Int) &&& ~~~BitVec.ofInt IntKind.u8.bits (y : Int)).toNat : Nat) : Int) != (0 : Int)) = false := by
  have hb : IntKind.u8.bits = 8 := rfl
  have e : BitVec.ofInt IntKind.u8.bits (x : Int) &&& ~~~BitVec.ofInt IntKind.u8.bits (y : Int) = 0#8 := by
    show BitVec.ofInt 8 (x : Int) &&& ~~~BitVec.ofInt 8 (y : Int) = 0#8
    refine BitVec.eq_of_getLsbD_eq (fun r hr => ?_)
    rw [BitVec.getLsbD_and, BitVec.getLsbD_not, BitVec.ofInt_natCast, BitVec.ofInt_natCast, BitVec.getLsbD_ofNat, BitVec.getLsbD_ofNat, BitVec.getLsbD_zero]
    have := h r hr
    cases hxr : x.testBit r with
    | false => simp
    | true => rw [this hxr]; simp [hr]
  rw [e]
  rfl
/-- The keys' bits alone say what a filter is. -/
theorem filt_ext {k1 k2 : List ByteArray} {x : Nat} (hl : k1.length = k2.length) (hn : k1.length ≤ 100) (h : ∀ s, (∃ u, u < k1.length ∧ k1.getD u noS = s) ↔ (∃ u, u < k2.length ∧ k2.getD u noS = s)) : filt k1 x = filt k2 x := by
  by_cases h0 : probes x = 0
  · unfold filt; rw [if_pos h0, if_pos h0]
  have hM := bitsM_range (bitsK_ok (n := k1.length) h0 hn)
  have hb1 := fun p => filt_bit (keys := k1) h0 hn (p := p)
  have hb2 := fun p => filt_bit (keys := k2) h0 (by omega) (p := p)
  have hl1 := filt_len (keys := k1) h0
  have hl2 := filt_len (keys := k2) h0
  have hz1 := filt_last (keys := k1) h0
  have hz2 := filt_last (keys := k2) h0
  rw [← hl] at hb2 hl2 hz2
  generalize bitsM (bitsK x k1.length) = M at hM hb1 hb2 hl1 hl2 hz1 hz2
  refine List.ext_getElem (by omega) (fun i h1 h2 => ?_)
  rw [← getD_lt' h1 0, ← getD_lt' h2 0]
  by_cases hi : i = M / 8
  · rw [hi, hz1, hz2]
  obtain ⟨a, ha, e1⟩ := byteD (filt_bytes k1 x) i
  obtain ⟨b, hb, e2⟩ := byteD (filt_bytes k2 x) i
  rw [e1, e2]
  congr 1
  refine byte_ext ha hb (fun r hr => ?_)
  have d8 : (8 * i + r) / 8 = i := by omega
  have m8 : (8 * i + r) % 8 = r := by omega
  have c1 := bit_iff (f := filt k1 x) (p := 8 * i + r) (x := a) (by rw [d8]; exact e1) ha
  have c2 := bit_iff (f := filt k2 x) (p := 8 * i + r) (x := b) (by rw [d8]; exact e2) hb
  rw [m8] at c1 c2
  have q1 := hb1 (8 * i + r) (by omega)
  have q2 := hb2 (8 * i + r) (by omega)
  refine Bool.eq_iff_iff.2 (c1.symm.trans (q1.trans (Iff.trans ?_ (q2.symm.trans c2))))
  constructor
  · rintro ⟨u, hu, t, ht, hp⟩
    obtain ⟨v, hv, e⟩ := (h _).1 ⟨u, hu, rfl⟩
    exact ⟨v, by omega, t, ht, by rw [e]; exact hp⟩
  · rintro ⟨u, hu, t, ht, hp⟩
    obtain ⟨v, hv, e⟩ := (h _).2 ⟨u, by omega, rfl⟩
    exact ⟨v, hv, t, ht, by rw [e]; exact hp⟩
theorem mem_getD {l : List ByteArray} (s : ByteArray) : (∃ u, u < l.length ∧ l.getD u noS = s) ↔ s ∈ l := by
  constructor
  · rintro ⟨u, hu, rfl⟩
    exact getD_mem hu noS
  · intro h
    obtain ⟨u, hu, e⟩ := List.mem_iff_getElem.1 h
    exact ⟨u, hu, by rw [getD_lt' hu]; exact e⟩
theorem filt_rev (keys : List ByteArray) (x : Nat) (hn : keys.length ≤ 100) : filt keys.reverse x = filt keys x :=
  filt_ext List.length_reverse (by rw [List.length_reverse]; exact hn) (fun s => by rw [mem_getD, mem_getD, List.mem_reverse])
/-- More keys, of a filter of the same size: no bit is lost. -/
theorem filt_more {keys : List ByteArray} {more : ByteArray} {x i : Nat} (hn : keys.length ≤ 99) (hl : (filt keys x).length = (filt (keys.reverse ++ [more]) x).length) (hi : i < (filt keys x).length) :
    (i < (filt keys x).length - 1 → (IntKind.u8.wrap (((BitVec.ofInt IntKind.u8.bits ((filt keys x).getD i 0) &&& ~~~BitVec.ofInt IntKind.u8.bits ((filt (keys.reverse ++ [more]) x).getD i 0)).toNat : Nat) : Int) != (0 : Int)) = false) ∧
    (i = (filt keys x).length - 1 → (filt keys x).getD i 0 = (filt (keys.reverse ++ [more]) x).getD i 0) := by
  by_cases h0 : probes x = 0
  · have : filt keys x = [] := by unfold filt; rw [if_pos h0]
    rw [this] at hi
    cases hi
  have hL : (keys.reverse ++ [more]).length = keys.length + 1 := by rw [List.length_append, List.length_reverse]; rfl
  have hM := bitsM_range (bitsK_ok (n := keys.length) h0 (by omega))
  have hM2 := bitsM_range (bitsK_ok (n := keys.length + 1) h0 (by omega))
  have hb1 := fun p => filt_bit (keys := keys) h0 (by omega) (p := p)
  have hb2 := fun p => filt_bit (keys := keys.reverse ++ [more]) h0 (by omega) (p := p)
  have hl1 := filt_len (keys := keys) h0
  have hl2 := filt_len (keys := keys.reverse ++ [more]) h0
  have hz1 := filt_last (keys := keys) h0
  have hz2 := filt_last (keys := keys.reverse ++ [more]) h0
  have hmem : ∀ u, u < keys.length → ∃ v, v < (keys.reverse ++ [more]).length ∧ (keys.reverse ++ [more]).getD v noS = keys.getD u noS := fun u hu =>
    (mem_getD _).2 (List.mem_append.2 (.inl (List.mem_reverse.2 (getD_mem hu noS))))
  generalize hk2 : keys.reverse ++ [more] = k2 at *
  rw [hL] at hb2 hl2 hz2
  have hMM : bitsM (bitsK x (keys.length + 1)) = bitsM (bitsK x keys.length) := by omega
  rw [hMM] at hb2 hl2 hz2
  generalize bitsM (bitsK x keys.length) = M at hM hb1 hb2 hl1 hl2 hz1 hz2
  rw [hl1] at hi ⊢
  refine ⟨fun hi2 => ?_, fun hi2 => ?_⟩
  · obtain ⟨a, ha, e1⟩ := byteD (filt_bytes keys x) i
    obtain ⟨b, hb, e2⟩ := byteD (filt_bytes k2 x) i
    rw [e1, e2]
    refine andnot ha (fun r hr => ?_)
    have d8 : (8 * i + r) / 8 = i := by omega
    have m8 : (8 * i + r) % 8 = r := by omega
    have c1 := bit_iff (f := filt keys x) (p := 8 * i + r) (x := a) (by rw [d8]; exact e1) ha
    have c2 := bit_iff (f := filt k2 x) (p := 8 * i + r) (x := b) (by rw [d8]; exact e2) hb
    rw [m8] at c1 c2
    intro hr1
    obtain ⟨u, hu, t, ht, hp⟩ := (hb1 _ (by omega)).1 (c1.2 hr1)
    obtain ⟨v, hv, e⟩ := hmem u hu
    exact c2.1 ((hb2 _ (by omega)).2 ⟨v, by omega, t, ht, by rw [e]; exact hp⟩)
  · rw [show i = M / 8 from by omega, hz1, hz2]
/-- With more keys a filter is not smaller. -/
theorem filt_len_more {keys : List ByteArray} {more : ByteArray} {x : Nat} (hn : keys.length ≤ 99) : (filt keys x).length ≤ (filt (keys.reverse ++ [more]) x).length := by
  by_cases h0 : probes x = 0
  · have : filt keys x = [] := by unfold filt; rw [if_pos h0]
    rw [this]
    exact Nat.zero_le _
  rw [filt_len h0, filt_len h0, List.length_append, List.length_reverse]
  have := bitsK_mono (x := x) (n := keys.length) (n' := keys.length + [more].length) h0 (by omega) (by simp only [List.length_cons, List.length_nil]; omega)
  unfold bitsM
  omega
end Go.Eng.Bk
