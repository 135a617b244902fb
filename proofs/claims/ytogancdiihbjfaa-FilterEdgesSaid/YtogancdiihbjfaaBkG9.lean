/- What Make and MakeFilter answer. -/
import Derived.Test.YtogancdiihbjfaaBkG8
namespace Go.Eng.Bk
open Go Go.Proofs Go.Eng
set_option linter.unusedVariables false
set_option linter.unusedSimpArgs false
theorem getS_size {keys : List ByteArray} {L : Nat} (h : ∀ s ∈ keys, s.size ≤ L) (i : Nat) : (keys.getD i noS).size ≤ L := by
  by_cases hi : i < keys.length
  · exact h _ (getD_mem hi noS)
  · rw [List.getD_eq_getElem?_getD, List.getElem?_eq_none (by omega)]
    exact Nat.zero_le _
theorem l24 {q : Nat} {inl : InlT} {mq mq1 : Nat} (m0 : Nat) (keys : List ByteArray) (N k : Nat) (hN : N < 256) (hk : k ≤ 8192) (hmq : N < mq1) (hkl : keys.length ≤ 100000) (hks : ∀ s ∈ keys, s.size ≤ 1000) (hq : 1002 ≤ q) (d : Nat) : ∀ (i m : Nat) (f : List Int), i + d = keys.length → d < m → f.length = bitsM k / 8 + 1 →
    LP B (callN B (q + 2)) (inlN B (callN B (q + 1)) (inlN B (callN B q) inl mq) mq1) 24 m [1, 1, 1, 1, 1, 1, 0, 1] (s24_15 keys (N : Int) (k : Int) (i : Int) f) (KA B (callN B (q + 2)) (inlN B (callN B (q + 1)) (inlN B (callN B q) inl mq) mq1) 24 m0 [1, 1, 1, 1, 1, 1, 0, 1] (FI B (callN B (q + 2)) (inlN B (callN B (q + 1)) (inlN B (callN B q) inl mq) mq1) 24)) = (some ((mkF keys (bitsM k) N d i f).set (bitsM k / 8) (N : Int)) : Option (List Int)) := by
  have hM := bitsM_range hk
  induction d with
  | zero =>
    intro i m f hd hm hf
    obtain ⟨m, rfl⟩ : ∃ k, m = k + 1 := ⟨m - 1, by omega⟩
    rw [s24_15_l, bF (by omega), s24_15x32_k, bitsM_eq hk, t8d _ (by omega), if_pos (by omega), Int.toNat_natCast, wu8]
    rw [show ((N : Int) % 256) = (N : Int) from by omega]
    rfl
  | succ d ih =>
    intro i m f hd hm hf
    obtain ⟨m, rfl⟩ : ∃ k, m = k + 1 := ⟨m - 1, by omega⟩
    have hsz := getS_size hks i
    have hr := hashS_range (keys.getD i noS)
    have hu : IntKind.u32.wrap (hashS (keys.getD i noS)) = hashS (keys.getD i noS) := by rw [wu32]; omega
    rw [s24_15_l, bT (by omega), if_pos (by omega), c24_60_16_i, Int.toNat_natCast]
    refine bnd (s94 (s := keys.getD i noS) (by omega) (by omega)) ?_
    rw [hu]
    refine bnd (s95 (by omega) _ hr.1 hr.2) ?_
    refine l60_21 mq1 _ keys N k (i : Int) (hashS (keys.getD i noS)) hN hk _ N 0 mq1 f (by omega) (by omega) hf ?_
    rw [c24_60_16r26_k31, w64 (x := (i : Int) + 1) (by omega) (by omega)]
    exact ih (i + 1) m (setA (hashS (keys.getD i noS)) (bitsM k) N 0 f) (by omega) (by omega) (by rw [setA_len]; exact hf)
theorem l25 {q : Nat} {inl : InlT} (m0 : Nat) (keys : List ByteArray) (N k : Nat) (hN : N < 256) (hk : k ≤ 8192) (hkl : keys.length ≤ 100000) (hks : ∀ s ∈ keys, s.size ≤ 1000) (hq : 1002 ≤ q) (d : Nat) : ∀ (i m : Nat) (f : List Int), i + d = keys.length → d + N < m → f.length = bitsM k / 8 + 1 →
    LP B (callN B q) inl 25 m [1, 1, 1, 1, 1, 1, 1, 0, 1] (s25_13 keys (N : Int) (k : Int) f (i : Int)) (KA B (callN B q) inl 25 m0 [1, 1, 1, 1, 1, 1, 1, 0, 1] (FI B (callN B q) inl 25)) = (some (mkF keys (bitsM k) N d i f) : Option (List Int)) := by
  induction d with
  | zero =>
    intro i m f hd hm hf
    obtain ⟨m, rfl⟩ : ∃ k, m = k + 1 := ⟨m - 1, by omega⟩
    rw [s25_13_l, bF (by omega), s25_13x19_k]
    rfl
  | succ d ih =>
    intro i m f hd hm hf
    obtain ⟨m, rfl⟩ : ∃ k, m = k + 1 := ⟨m - 1, by omega⟩
    have hsz := getS_size hks i
    rw [s25_13_l, bT (by omega), if_pos (by omega), Int.toNat_natCast]
    refine bnd (s62 (s := keys.getD i noS) (by omega) (by omega)) ?_
    refine l25_17 _ keys N k (i : Int) (hashS (keys.getD i noS)) hN hk _ N 0 m f (by omega) (by omega) hf ?_
    rw [w64 (x := (i : Int) + 1) (by omega) (by omega)]
    exact ih (i + 1) m (setA (hashS (keys.getD i noS)) (bitsM k) N 0 f) (by omega) (by omega) (by rw [setA_len]; exact hf)
/-! ### the last byte, ahead or behind -/
theorem setI_comm (f : List Int) {p M : Nat} (hp : p / 8 < M) (x : Int) : setI (f.set M x) p = (setI f p).set M x := by
  have hne : M ≠ p / 8 := by omega
  have e : (f.set M x).getD (p / 8) 0 = f.getD (p / 8) 0 := by
    rw [List.getD_eq_getElem?_getD, List.getD_eq_getElem?_getD, List.getElem?_set_ne hne]
  unfold setI orI
  rw [e, List.set_comm _ _ hne]
theorem setA_comm (h : Int) {M : Nat} (hM : 0 < M) (h8 : M % 8 = 0) (x : Int) : ∀ (d j : Nat) (f : List Int), setA h M d j (f.set (M / 8) x) = (setA h M d j f).set (M / 8) x
  | 0, _, _ => rfl
  | d + 1, j, f => by
    show setA h M d (j + 1) (setI (f.set (M / 8) x) (posI h j M)) = (setA h M d (j + 1) (setI f (posI h j M))).set (M / 8) x
    have := posI_lt h j hM
    rw [setI_comm f (by omega), setA_comm h hM h8 x d]
theorem mkF_comm (keys : List ByteArray) {M : Nat} (N : Nat) (hM : 0 < M) (h8 : M % 8 = 0) (x : Int) : ∀ (d i : Nat) (f : List Int), mkF keys M N d i (f.set (M / 8) x) = (mkF keys M N d i f).set (M / 8) x
  | 0, _, _ => rfl
  | d + 1, i, f => by
    show mkF keys M N d (i + 1) (setA _ M N 0 (f.set (M / 8) x)) = (mkF keys M N d (i + 1) (setA _ M N 0 f)).set (M / 8) x
    rw [setA_comm _ hM h8, mkF_comm keys N hM h8 x d]
end Go.Eng.Bk
