/- The bits of a filter: what a key sets is set, and nothing else; what Make made says of each of its keys that it may be there. -/
import Derived.Test.YtogancdiihbjfaaBkG11
namespace Go.Eng.Bk
open Go Go.Proofs Go.Eng
set_option linter.unusedVariables false
set_option linter.unusedSimpArgs false
def tab1 (x r : Nat) : Bool := IntKind.u8.wrap (((BitVec.ofInt IntKind.u8.bits (Int.fdiv (x : Int) ((2 : Int) ^ Min.min r IntKind.u8.bits)) &&& BitVec.ofInt IntKind.u8.bits (1 : Int)).toNat : Nat) : Int) == (if x.testBit r then 1 else 0)
theorem tab1_all : (List.range 256).all (fun x => (List.range 8).all (tab1 x)) = true := by decide +kernel
def tab2 (x r : Nat) : Bool := IntKind.u8.wrap (((BitVec.ofInt IntKind.u8.bits (x : Int) ||| BitVec.ofInt IntKind.u8.bits (IntKind.u8.wrap ((1 : Int) * (2 : Int) ^ Min.min r IntKind.u8.bits))).toNat : Nat) : Int) == ((x ||| 2 ^ r : Nat) : Int) && decide (x ||| 2 ^ r < 256)
theorem tab2_all : (List.range 256).all (fun x => (List.range 8).all (tab2 x)) = true := by decide +kernel
theorem bitI_eq {f : List Int} {p x : Nat} (h : f.getD (p / 8) 0 = (x : Int)) (hx : x < 256) : bitI f p = if x.testBit (p % 8) then 1 else 0 := by
  have := List.all_eq_true.1 (List.all_eq_true.1 tab1_all x (List.mem_range.2 hx)) (p % 8) (List.mem_range.2 (by omega))
  unfold bitI
  rw [h]
  exact eq_of_beq this
theorem orI_eq {f : List Int} {p x : Nat} (h : f.getD (p / 8) 0 = (x : Int)) (hx : x < 256) : orI f p = ((x ||| 2 ^ (p % 8) : Nat) : Int) ∧ x ||| 2 ^ (p % 8) < 256 := by
  have := List.all_eq_true.1 (List.all_eq_true.1 tab2_all x (List.mem_range.2 hx)) (p % 8) (List.mem_range.2 (by omega))
  unfold tab2 at this
  rw [Bool.and_eq_true] at this
  unfold orI
  rw [h]
  exact ⟨eq_of_beq this.1, of_decide_eq_true this.2⟩
theorem byteD {f : List Int} (hf : Bytes f) (i : Nat) : ∃ x : Nat, x < 256 ∧ f.getD i 0 = (x : Int) := by
  by_cases h : i < f.length
  · have := hf _ (getD_mem h 0)
    exact ⟨(f.getD i 0).toNat, by omega, by omega⟩
  · refine ⟨0, by omega, ?_⟩
    rw [List.getD_eq_getElem?_getD, List.getElem?_eq_none (by omega)]
    rfl
theorem getD_set {f : List Int} {i j : Nat} (x : Int) (hi : i < f.length) : (f.set i x).getD j 0 = if i = j then x else f.getD j 0 := by
  rw [List.getD_eq_getElem?_getD, List.getD_eq_getElem?_getD, List.getElem?_set]
  split
  · first | rfl | (rw [if_pos hi]; rfl)
  · rfl
theorem set_bytes {f : List Int} (hf : Bytes f) (i : Nat) {x : Int} (h0 : 0 ≤ x) (h1 : x ≤ 255) : Bytes (f.set i x) := fun y hy => by
  rcases List.mem_or_eq_of_mem_set hy with h | h
  · exact hf y h
  · omega
theorem setI_bytes {f : List Int} (hf : Bytes f) (q : Nat) : Bytes (setI f q) := by
  obtain ⟨x, hx, e⟩ := byteD hf (q / 8)
  have := orI_eq e hx
  exact set_bytes hf _ (by omega) (by omega)
theorem bit_setI {f : List Int} (hf : Bytes f) {q : Nat} (hq : q / 8 < f.length) (p : Nat) : bitI (setI f q) p = 1 ↔ bitI f p = 1 ∨ q = p := by
  obtain ⟨x, hx, e⟩ := byteD hf (q / 8)
  obtain ⟨y, hy, e2⟩ := byteD hf (p / 8)
  have ho := orI_eq e hx
  rw [bitI_eq e2 hy]
  by_cases h : q / 8 = p / 8
  · have hxy : x = y := by rw [h, e2] at e; omega
    subst hxy
    have e3 : (setI f q).getD (p / 8) 0 = ((x ||| 2 ^ (q % 8) : Nat) : Int) := by
      unfold setI
      rw [getD_set _ hq, if_pos h, ho.1]
    rw [bitI_eq e3 ho.2, Nat.testBit_or, Nat.testBit_two_pow]
    by_cases h8 : q % 8 = p % 8
    · have : q = p := by omega
      simp [h8, this]
    · have : q ≠ p := fun hh => h8 (by rw [hh])
      simp [h8, this]
  · have e3 : (setI f q).getD (p / 8) 0 = (y : Int) := by
      unfold setI
      rw [getD_set _ hq, if_neg h, e2]
    have : q ≠ p := fun hh => h (by rw [hh])
    rw [bitI_eq e3 hy]
    simp [this]
theorem setA_bytes {h : Int} {M : Nat} : ∀ (d j : Nat) {f : List Int}, Bytes f → Bytes (setA h M d j f)
  | 0, _, _, hf => hf
  | d + 1, j, f, hf => setA_bytes d (j + 1) (setI_bytes hf _)
theorem bit_setA {h : Int} {M : Nat} (hM : 0 < M) (h8 : M % 8 = 0) (p : Nat) : ∀ (d j : Nat) {f : List Int}, Bytes f → M / 8 ≤ f.length → (bitI (setA h M d j f) p = 1 ↔ bitI f p = 1 ∨ ∃ t, j ≤ t ∧ t < j + d ∧ posI h t M = p)
  | 0, j, f, hf, hl => ⟨fun hh => .inl hh, fun hh => hh.elim id (fun ⟨t, h1, h2, _⟩ => by omega)⟩
  | d + 1, j, f, hf, hl => by
    have hp := posI_lt h j hM
    have ih := bit_setA (h := h) hM h8 p d (j + 1) (f := setI f (posI h j M)) (setI_bytes hf _) (by rw [setI_len]; exact hl)
    show bitI (setA h M d (j + 1) (setI f (posI h j M))) p = 1 ↔ _
    rw [ih, bit_setI hf (by omega)]
    constructor
    · rintro ((h1 | h1) | ⟨t, h1, h2, h3⟩)
      · exact .inl h1
      · exact .inr ⟨j, by omega, by omega, h1⟩
      · exact .inr ⟨t, by omega, by omega, h3⟩
    · rintro (h1 | ⟨t, h1, h2, h3⟩)
      · exact .inl (.inl h1)
      · by_cases hj : t = j
        · subst hj; exact .inl (.inr h3)
        · exact .inr ⟨t, by omega, by omega, h3⟩
theorem mkF_bytes {keys : List ByteArray} {M N : Nat} : ∀ (d i : Nat) {f : List Int}, Bytes f → Bytes (mkF keys M N d i f)
  | 0, _, _, hf => hf
  | d + 1, i, f, hf => mkF_bytes d (i + 1) (setA_bytes _ _ hf)
theorem bit_mkF {keys : List ByteArray} {M N : Nat} (hM : 0 < M) (h8 : M % 8 = 0) (p : Nat) : ∀ (d i : Nat) {f : List Int}, Bytes f → M / 8 ≤ f.length → (bitI (mkF keys M N d i f) p = 1 ↔ bitI f p = 1 ∨ ∃ u, i ≤ u ∧ u < i + d ∧ ∃ t, t < N ∧ posI (hashS (keys.getD u noS)) t M = p)
  | 0, i, f, hf, hl => ⟨fun hh => .inl hh, fun hh => hh.elim id (fun ⟨t, h1, h2, _⟩ => by omega)⟩
  | d + 1, i, f, hf, hl => by
    have ih := bit_mkF (keys := keys) (N := N) hM h8 p d (i + 1) (f := setA (hashS (keys.getD i noS)) M N 0 f) (setA_bytes _ _ hf) (by rw [setA_len]; exact hl)
    show bitI (mkF keys M N d (i + 1) (setA (hashS (keys.getD i noS)) M N 0 f)) p = 1 ↔ _
    rw [ih, bit_setA hM h8 p N 0 hf hl]
    constructor
    · rintro ((h1 | ⟨t, h1, h2, h3⟩) | ⟨u, h1, h2, h3⟩)
      · exact .inl h1
      · exact .inr ⟨i, by omega, by omega, t, by omega, h3⟩
      · exact .inr ⟨u, by omega, by omega, h3⟩
    · rintro (h1 | ⟨u, h1, h2, t, h3, h4⟩)
      · exact .inl (.inl h1)
      · by_cases hj : u = i
        · subst hj; exact .inl (.inr ⟨t, by omega, by omega, h4⟩)
        · exact .inr ⟨u, by omega, by omega, t, h3, h4⟩
theorem mayA_iff (f : List Int) (h : Int) (M : Nat) : ∀ (d j : Nat), mayA f h M d j = true ↔ ∀ t, j ≤ t → t < j + d → bitI f (posI h t M) = 1
  | 0, j => ⟨fun _ t h1 h2 => by omega, fun _ => rfl⟩
  | d + 1, j => by
    show (bitI f (posI h j M) == 1 && mayA f h M d (j + 1)) = true ↔ _
    rw [Bool.and_eq_true, beq_iff_eq, mayA_iff f h M d (j + 1)]
    constructor
    · rintro ⟨h1, h2⟩ t h3 h4
      by_cases hj : t = j
      · subst hj; exact h1
      · exact h2 t (by omega) (by omega)
    · intro h1
      exact ⟨h1 j (by omega) (by omega), fun t h2 h3 => h1 t (by omega) (by omega)⟩
theorem bit_zero (n p : Nat) : bitI (List.replicate n 0) p = 0 := by
  have : (List.replicate n (0 : Int)).getD (p / 8) 0 = ((0 : Nat) : Int) := by
    rw [List.getD_eq_getElem?_getD, List.getElem?_replicate]
    split <;> rfl
  rw [bitI_eq this (by omega), Nat.zero_testBit]
  rfl
theorem rep_bytes (n : Nat) : Bytes (List.replicate n 0) := fun x hx => by
  have := List.eq_of_mem_replicate hx
  omega
/-! ### what Make made -/
theorem bitsK_ok {x n : Nat} (h : probes x ≠ 0) (hn : n ≤ 100) : bitsK x n ≤ 8192 := by
  obtain ⟨h1, h2⟩ := probes_ne h
  obtain ⟨v1, v2, kk, f1, f2, f3, f4, f5⟩ := bits_ok h1 h2 hn
  have : bitsK x n = kk := by unfold bitsK; rw [f1, Option.bind_some, f2, Option.bind_some, f5]; rfl
  omega
theorem filt_bytes (keys : List ByteArray) (x : Nat) : Bytes (filt keys x) := by
  unfold filt
  split
  · intro y hy; cases hy
  · obtain ⟨N, hN, hN2⟩ := probes_nat x
    exact set_bytes (mkF_bytes _ _ (rep_bytes _)) _ (by omega) (by omega)
theorem filt_len {keys : List ByteArray} {x : Nat} (h : probes x ≠ 0) : (filt keys x).length = bitsM (bitsK x keys.length) / 8 + 1 := by
  unfold filt
  rw [if_neg h, List.length_set, mkF_len, List.length_replicate]
theorem filt_last {keys : List ByteArray} {x : Nat} (h : probes x ≠ 0) : (filt keys x).getD (bitsM (bitsK x keys.length) / 8) 0 = probes x := by
  unfold filt
  rw [if_neg h, getD_set _ (by rw [mkF_len, List.length_replicate]; omega), if_pos rfl]
theorem filt_bit {keys : List ByteArray} {x : Nat} (h : probes x ≠ 0) (hn : keys.length ≤ 100) {p : Nat} (hp : p < bitsM (bitsK x keys.length)) : bitI (filt keys x) p = 1 ↔ ∃ u, u < keys.length ∧ ∃ t, t < (probes x).toNat ∧ posI (hashS (keys.getD u noS)) t (bitsM (bitsK x keys.length)) = p := by
  have hM := bitsM_range (bitsK_ok h hn)
  unfold filt
  rw [if_neg h]
  generalize bitsM (bitsK x keys.length) = M at hp hM ⊢
  have e : ∀ f : List Int, M / 8 < f.length → bitI (f.set (M / 8) (probes x)) p = bitI f p := by
    intro f hf
    unfold bitI
    rw [getD_set _ hf, if_neg (by omega)]
  rw [e _ (by rw [mkF_len, List.length_replicate]; omega), bit_mkF (by omega) hM.2.2 p keys.length 0 (rep_bytes _) (by rw [List.length_replicate]; omega), bit_zero]
  constructor
  · rintro (h1 | ⟨u, h1, h2, h3⟩)
    · cases h1
    · exact ⟨u, by omega, h3⟩
  · rintro ⟨u, h1, h3⟩
    exact .inr ⟨u, by omega, by omega, h3⟩
theorem filt_may {keys : List ByteArray} {x u : Nat} (hn : keys.length ≤ 100) (hu : u < keys.length) : may (filt keys x) (keys.getD u noS) = true := by
  by_cases h : probes x = 0
  · unfold filt
    rw [if_pos h]
    rfl
  have hM := bitsM_range (bitsK_ok h hn)
  have hl := filt_len (keys := keys) h
  have hb := fun p => filt_bit (keys := keys) h hn (p := p)
  have hL := filt_last (keys := keys) h
  generalize bitsM (bitsK x keys.length) = M at hM hl hb hL
  unfold may
  rw [hl, if_neg (by omega), show M / 8 + 1 - 1 = M / 8 from by omega, hL]
  obtain ⟨N, hN, hN2⟩ := probes_nat x
  rw [if_neg (by omega), show 8 * (M / 8) = M from by omega]
  refine (mayA_iff _ _ _ _ _).2 (fun t h1 h2 => ?_)
  exact (hb _ (posI_lt _ _ (by omega))).2 ⟨u, hu, t, by omega, rfl⟩
end Go.Eng.Bk
