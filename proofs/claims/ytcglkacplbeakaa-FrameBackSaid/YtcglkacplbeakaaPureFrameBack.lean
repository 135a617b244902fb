/- FrameBack: records in a row are told again, in order; cut anywhere, those that are whole are told. No condition. -/
import Derived.Test.YtcglkacplbeakaaQFrame
import Derived.Test.YtcglkacplbeakaaStmtFrameBack
import Derived.Test.YtcglkacplbeakaaPAx18
namespace Go.Proofs.Ytcglkacplbeakaa.Pure
open Go.RowKit Go.Proofs.Ytcglkacplbeakaa.PA Go.Proofs.YtcglkacplbeakaaW.PrintWords Go.Proofs.YtcglkacplbeakaaW.PrintLast
set_option linter.unusedVariables false
set_option linter.unusedSimpArgs false

theorem same_refl {l : List (List Int)} (hlen : l.length ≤ 140737488351232) (d : Nat) : ∀ (i k : Nat), i + d = l.length → d < k → iceboxlaw7_same.l0 k l l (i : Int) = some true := by
  induction d with
  | zero =>
    intro i k hi hk
    obtain ⟨k, rfl⟩ : ∃ m, k = m + 1 := ⟨k - 1, by omega⟩
    simp only [iceboxlaw7_same.l0]
    rw [if_neg (by omega)]
  | succ d ih =>
    intro i k hi hk
    obtain ⟨k, rfl⟩ : ∃ m, k = m + 1 := ⟨k - 1, by omega⟩
    simp only [iceboxlaw7_same.l0]
    have e1 : wrap64 ((i : Int) + 1) = ((i + 1 : Nat) : Int) := by rw [w64 (by omega) (by omega)]; omega
    rw [if_pos (by omega), if_pos (by omega), if_pos (by omega), if_pos trivial, e1]
    exact ih (i + 1) k (by omega) (by omega)
theorem same_eq {k : Nat} {l : List (List Int)} (hlen : l.length ≤ 140737488351232) (hk : l.length < k) : iceboxlaw7_same.f k l l = some true := by
  unfold iceboxlaw7_same.f
  rw [if_pos rfl]
  exact same_refl hlen l.length 0 k (by omega) hk

/-- All records in a row. -/
def row : List (List Int) → List Int
  | [] => []
  | p :: t => putF p ++ row t
theorem row_append : ∀ (a b : List (List Int)), row (a ++ b) = row a ++ row b
  | [], b => rfl
  | p :: a, b => by simp only [List.cons_append, row, row_append a b, List.append_assoc]
theorem row_bytes : ∀ (l : List (List Int)), (∀ p ∈ l, Bytes p) → Bytes (row l)
  | [], _ => Bytes.nil
  | p :: t, h => (putF_bytes (h p (by simp))).append (row_bytes t (fun q hq => h q (by simp [hq])))
theorem row_length : ∀ (l : List (List Int)), (∀ p ∈ l, p.length ≤ 200) → (row l).length ≤ 208 * l.length
  | [], _ => by simp [row]
  | p :: t, h => by
    have h1 := h p (by simp)
    have := row_length t (fun q hq => h q (by simp [hq]))
    have h2 := putF_length (p := p) (by omega)
    simp only [row, List.length_append, List.length_cons]
    omega
/-- Scanning through whole records. -/
theorem scan_row : ∀ (l : List (List Int)) (pre rest : List Int) (acc : List (List Int)) (d : Nat), (∀ p ∈ l, Bytes p ∧ p.length ≤ 200) →
    scanF (d + l.length) (pre ++ (row l ++ rest)) acc (pre.length : Int) = scanF d (pre ++ (row l ++ rest)) (acc ++ l) ((pre.length + (row l).length : Nat) : Int)
  | [], pre, rest, acc, d, _ => by simp [row]
  | p :: t, pre, rest, acc, d, h => by
    have hp := h p (by simp)
    have e : pre ++ (row (p :: t) ++ rest) = pre ++ (putF p ++ (row t ++ rest)) := by simp only [row, List.append_assoc]
    have e2 : pre ++ (row (p :: t) ++ rest) = (pre ++ putF p) ++ (row t ++ rest) := by simp only [row, List.append_assoc]
    have g := getF_put (p := p) hp.1 (by omega) pre (row t ++ rest)
    have h2 := putF_length (p := p) (by omega)
    rw [show d + (p :: t).length = d + t.length + 1 from by simp; omega, scanF]
    rw [← e] at g
    rw [g]
    show scanF (d + t.length) _ (acc ++ [p]) _ = _
    have := scan_row t (pre ++ putF p) rest (acc ++ [p]) d (fun q hq => h q (by simp [hq]))
    rw [← e2] at this
    have e3 : (((pre ++ putF p).length : Nat) : Int) = ((pre.length + 8 + p.length : Nat) : Int) := by rw [List.length_append, h2]; omega
    rw [e3] at this
    rw [this]
    have e4 : (pre ++ putF p).length + (row t).length = pre.length + (row (p :: t)).length := by simp only [row, List.length_append]; omega
    rw [e4]
    simp
/-- At the end, or where a record is cut, nothing is read. -/
theorem scan_stop {l : List Int} {at_ : Int} (acc : List (List Int)) (d : Nat) (h : getF l at_ = ([], 0, false)) : scanF (d + 1) l acc at_ = (acc, at_) := by
  rw [scanF, h]; rfl
theorem scan_go {l : List Int} {at_ : Int} {x : List Int} {n : Int} (acc : List (List Int)) (d : Nat) (h : getF l at_ = (x, n, true)) : scanF (d + 1) l acc at_ = scanF d l (acc ++ [x]) n := by
  rw [scanF, h]; rfl
theorem getF_cut {p : List Int} (hp : Bytes p) (hlen : p.length ≤ 200) (pre : List Int) (hpre : Bytes pre) (m : Nat) (hm : m < p.length + 8) : getF (pre ++ (putF p).take m) (pre.length : Int) = ([], 0, false) := by
  have hB : Bytes (pre ++ (putF p).take m) := hpre.append ((putF_bytes hp).take m)
  have hl := putF_length (p := p) (by omega)
  unfold getF
  rw [if_neg]
  intro hh
  obtain ⟨h1, h2, h3, _⟩ := hh
  obtain ⟨a0, a1⟩ := getFx_ok.1 h1
  simp only [List.length_append, List.length_take, hl] at a1 h3
  have hput : putF p = fix4 p.length ++ (fix4 (sumS p) ++ p) := by unfold putF; rw [if_neg (by omega)]
  have hm4 : 4 ≤ m := by omega
  have e : pre ++ (putF p).take m = pre ++ (fix4 p.length ++ (fix4 (sumS p) ++ p).take (m - 4)) := by
    rw [hput, List.take_append, List.take_of_length_le (by simp [fix4]; omega)]
    simp [fix4]
  have g1 := getFx_at (pre := pre) (s := fix4 p.length) (rest := (fix4 (sumS p) ++ p).take (m - 4)) (n := 4) rfl
  rw [beN_fix4 (by omega), ← e] at g1
  rw [g1] at h3
  simp only at h3
  omega
theorem getF_end (l : List Int) (hl : Bytes l) : getF l (l.length : Int) = ([], 0, false) := by
  rcases getF_cases hl (l.length : Int) with h | ⟨p, n, h1, h2, _⟩
  · exact h
  · omega
theorem scan_mono {l : List Int} (hl : Bytes l) (d : Nat) : ∀ (acc : List (List Int)) (p : Nat), p ≤ l.length → l.length - p ≤ d → ∀ e, d ≤ e → scanF (e + 1) l acc (p : Int) = scanF (d + 1) l acc (p : Int) := by
  induction d with
  | zero =>
    intro acc p hp hd e he
    obtain rfl : p = l.length := by omega
    rw [scan_stop acc e (getF_end l hl), scan_stop acc 0 (getF_end l hl)]
  | succ d ih =>
    intro acc p hp hd e he
    obtain ⟨e, rfl⟩ : ∃ m, e = m + 1 := ⟨e - 1, by omega⟩
    rcases getF_cases hl (p : Int) with h | ⟨q, n, hq, hle, _, h⟩
    · rw [scan_stop acc _ h, scan_stop acc _ h]
    · rw [scan_go _ _ h, scan_go _ _ h]
      obtain rfl : p = q := by omega
      exact ih _ (p + 8 + n) (by omega) (by omega) e (by omega)
/-- What is scanned of whole records, and of a beginning of one more, or of nothing. -/
theorem scan_all {l : List (List Int)} (h : ∀ p ∈ l, Bytes p ∧ p.length ≤ 200) (rest : List Int) (hr : Bytes rest) (hstop : getF (row l ++ rest) ((row l).length : Int) = ([], 0, false)) :
    scanF ((row l ++ rest).length + 1) (row l ++ rest) [] 0 = (l, ((row l).length : Int)) := by
  have hB : Bytes (row l ++ rest) := (row_bytes l (fun p hp => (h p hp).1)).append hr
  have h1 := scan_row l [] rest [] 1 h
  simp only [List.nil_append, List.length_nil, Nat.zero_add] at h1
  rw [scan_stop l 0 hstop] at h1
  have h2 := scan_mono hB (row l ++ rest).length [] 0 (by omega) (by omega) ((row l ++ rest).length + l.length) (by omega)
  rw [show ((0 : Nat) : Int) = 0 from rfl] at h2 h1
  rw [← h2]
  have h3 : ∀ e, scanF ((1 + l.length) + e) (row l ++ rest) [] 0 = (l, ((row l).length : Int)) := by
    intro e
    have h4 := scan_row l [] rest [] (1 + e) h
    simp only [List.nil_append, List.length_nil, Nat.zero_add] at h4
    rw [show ((0 : Nat) : Int) = 0 from rfl, Nat.add_comm 1 e, scan_stop l e hstop] at h4
    rw [show 1 + l.length + e = e + 1 + l.length from by omega]
    exact h4
  have := h3 (row l ++ rest).length
  rw [show (row l ++ rest).length + l.length + 1 = 1 + l.length + (row l ++ rest).length from by omega]
  exact this

/-- The places where records end. -/
def endsFrom : Nat → List (List Int) → List Int
  | _, [] => []
  | a, p :: t => ((a + (putF p).length : Nat) : Int) :: endsFrom (a + (putF p).length) t
theorem endsFrom_append : ∀ (a : Nat) (l m : List (List Int)), endsFrom a (l ++ m) = endsFrom a l ++ endsFrom (a + (row l).length) m
  | a, [], m => by simp [endsFrom, row]
  | a, p :: t, m => by
    simp only [List.cons_append, endsFrom, row, List.length_append]
    rw [endsFrom_append, Nat.add_assoc]
theorem endsFrom_length : ∀ (a : Nat) (l : List (List Int)), (endsFrom a l).length = l.length
  | _, [] => rfl
  | a, p :: t => by simp [endsFrom, endsFrom_length]
theorem take_succ_of {l : List (List Int)} {i : Nat} {c : List Int} {t : List (List Int)} (h : l.drop i = c :: t) : l.take (i + 1) = l.take i ++ [c] := by
  have h1 : l[i]? = some c := by
    have := congrArg (fun x => x[0]?) h
    simpa using this
  rw [List.take_add_one, h1]
  rfl
/-- The ends' loop, and what stands behind it. -/
theorem back_l1 {l : List (List Int)} (h : ∀ p ∈ l, Bytes p ∧ p.length ≤ 200) (hlen : l.length ≤ 30) (c : Nat) (hc : c ≤ (row l).length) (d : Nat) : ∀ (i k : Nat), i + d = l.length → (row (l.take i)).length ≤ c → 100000 + d < k →
    iceboxlaw7_FrameBack.l1 k l (row l) (endsFrom 0 l) (c : Int) (i : Int) ((row (l.take i)).length : Int) = some true := by
  have hrl := row_length l (fun p hp => (h p hp).2)
  have hrb := row_bytes l (fun p hp => (h p hp).1)
  have tail : ∀ (i k : Nat), i ≤ l.length → 99990 < k → (row (l.take i)).length ≤ c → getF (row (l.take i) ++ ((row l).take c).drop (row (l.take i)).length) ((row (l.take i)).length : Int) = ([], 0, false) →
      iceboxlaw7_FrameBack.j2 k l (row l) (c : Int) (i : Int) ((row (l.take i)).length : Int) = some true := by
    intro i k hi hk hle hstop
    obtain ⟨k, rfl⟩ : ∃ m, k = m + 1 := ⟨k - 1, by omega⟩
    simp only [iceboxlaw7_FrameBack.j2]
    have s1 := scan_all (l := l) h [] Bytes.nil (by rw [List.append_nil]; exact getF_end _ hrb)
    rw [List.append_nil] at s1
    have hsplit : row l = row (l.take i) ++ row (l.drop i) := by rw [← row_append, List.take_append_drop]
    have hcut : (row l).take c = row (l.take i) ++ ((row l).take c).drop (row (l.take i)).length := by
      have h1 : ((row l).take c).take (row (l.take i)).length = row (l.take i) := by
        rw [List.take_take, Nat.min_eq_left hle, hsplit, List.take_left]
      conv => lhs; rw [← List.take_append_drop (row (l.take i)).length ((row l).take c)]
      rw [h1]
    have s2 := scan_all (l := l.take i) (fun p hp => h p (List.mem_of_mem_take hp)) (((row l).take c).drop (row (l.take i)).length) ((hrb.take c).drop _) hstop
    rw [← hcut] at s2
    rw [frame_Scan_eq hrb (by omega) (by omega), Option.bind_some, s1, if_pos (by omega), if_pos (by omega), Int.toNat_natCast, frame_Scan_eq (hrb.take c) (by simp; omega) (by simp; omega), Option.bind_some, s2]
    simp only
    rw [same_eq (by omega) (by omega), Option.bind_some, if_pos rfl, if_pos (by trivial), if_pos (by omega), if_pos (by omega), Int.toNat_natCast, same_eq (by simp; omega) (by simp; omega), Option.bind_some, if_pos rfl, if_pos (by trivial), awake7_eq (by omega)]
    rfl
  induction d with
  | zero =>
    intro i k hi hle hk
    obtain ⟨k, rfl⟩ : ∃ m, k = m + 1 := ⟨k - 1, by omega⟩
    simp only [iceboxlaw7_FrameBack.l1]
    rw [endsFrom_length, if_neg (by omega)]
    refine tail i k (by omega) (by omega) hle ?_
    have ht : l.take i = l := List.take_of_length_le (by omega)
    rw [ht] at hle ⊢
    have : ((row l).take c).drop (row l).length = [] := List.drop_of_length_le (by simp; omega)
    rw [this, List.append_nil]
    exact getF_end _ hrb
  | succ d ih =>
    intro i k hi hle hk
    obtain ⟨k, rfl⟩ : ∃ m, k = m + 1 := ⟨k - 1, by omega⟩
    simp only [iceboxlaw7_FrameBack.l1]
    cases hd : l.drop i with
    | nil => have := congrArg List.length hd; simp at this; omega
    | cons p t =>
      have hp := h p (by have : p ∈ l.drop i := by rw [hd]; simp
                         exact List.mem_of_mem_drop this)
      have hput := putF_length (p := p) (by omega)
      have hnext : row (l.take (i + 1)) = row (l.take i) ++ putF p := by rw [take_succ_of hd, row_append]; simp [row]
      have hr : rd (endsFrom 0 l) (i : Int) = (((row (l.take (i + 1))).length : Nat) : Int) := by
        have e1 : l = l.take i ++ p :: t := by rw [← hd, List.take_append_drop]
        have e2 : endsFrom 0 l = endsFrom 0 (l.take i) ++ endsFrom (0 + (row (l.take i)).length) (p :: t) := by rw [← endsFrom_append, ← e1]
        unfold rd
        rw [e2, Int.toNat_natCast, List.getD_eq_getElem?_getD, List.getElem?_append_right (by rw [endsFrom_length]; simp; omega)]
        have e3 : i - (endsFrom 0 (l.take i)).length = 0 := by rw [endsFrom_length]; simp; omega
        rw [e3]
        simp only [endsFrom, List.getElem?_cons_zero, Option.getD_some, hnext, List.length_append]
        omega
      have e1 : wrap64 ((i : Int) + 1) = ((i + 1 : Nat) : Int) := by rw [w64 (by omega) (by omega)]; omega
      rw [endsFrom_length, if_pos (show (i : Int) < (l.length : Int) by omega), if_pos (Int.natCast_nonneg i), hr, e1]
      by_cases hle2 : (row (l.take (i + 1))).length ≤ c
      · rw [if_pos (by omega)]
        exact ih (i + 1) k (by omega) hle2 (by omega)
      · rw [if_neg (by omega)]
        refine tail i k (by omega) (by omega) hle ?_
        have hsplit : row l = row (l.take i) ++ (putF p ++ row t) := by
          have e1 : l = l.take i ++ p :: t := by rw [← hd, List.take_append_drop]
          conv => lhs; rw [e1]
          rw [row_append]; rfl
        rw [hnext, List.length_append] at hle2
        have hm : c - (row (l.take i)).length < p.length + 8 := by omega
        have hcut : ((row l).take c).drop (row (l.take i)).length = (putF p).take (c - (row (l.take i)).length) := by
          rw [hsplit, List.drop_take, List.drop_left, List.take_append_of_le_length (by omega)]
        rw [hcut]
        exact getF_cut hp.1 hp.2 _ (row_bytes _ (fun q hq => (h q (List.mem_of_mem_take hq)).1)) _ hm
/-- The building loop. -/
theorem back_l0 {l : List (List Int)} (hb : ∀ p ∈ l, Bytes p) (hlen : l.length ≤ 30) (c : Int) (hc : 0 ≤ c ∧ c ≤ 65535) (d : Nat) : ∀ (i k : Nat), i + d = l.length → (∀ p ∈ l.take i, p.length ≤ 200) → 200000 + d < k →
    iceboxlaw7_FrameBack.l0 k l c (row (l.take i)) (endsFrom 0 (l.take i)) (i : Int) = some true := by
  induction d with
  | zero =>
    intro i k hi hs hk
    obtain ⟨k, rfl⟩ : ∃ m, k = m + 1 := ⟨k - 1, by omega⟩
    simp only [iceboxlaw7_FrameBack.l0]
    have ht : l.take i = l := List.take_of_length_le (by omega)
    rw [ht] at hs ⊢
    have hrl := row_length l hs
    rw [if_neg (by omega), w64 (x := ((row l).length : Int) + 1) (by omega) (by omega), if_neg (by omega), w64 (x := c) (by omega) (by omega)]
    obtain ⟨cn, rfl⟩ : ∃ m : Nat, c = m := ⟨c.toNat, by omega⟩
    have hm : Int.tmod (cn : Int) (((row l).length : Int) + 1) = ((cn % ((row l).length + 1) : Nat) : Int) := rfl
    have hlt : cn % ((row l).length + 1) < (row l).length + 1 := Nat.mod_lt _ (by omega)
    rw [hm]
    have := back_l1 (l := l) (fun p hp => ⟨hb p hp, hs p hp⟩) hlen (cn % ((row l).length + 1)) (by omega) l.length 0 k (by omega) (by simp [row]) (by omega)
    exact this
  | succ d ih =>
    intro i k hi hs hk
    obtain ⟨k, rfl⟩ : ∃ m, k = m + 1 := ⟨k - 1, by omega⟩
    simp only [iceboxlaw7_FrameBack.l0]
    cases hd : l.drop i with
    | nil => have := congrArg List.length hd; simp at this; omega
    | cons p t =>
      have hpm : p ∈ l := by
        have : p ∈ l.drop i := by rw [hd]; simp
        exact List.mem_of_mem_drop this
      rw [if_pos (by omega), if_pos (by omega), rdL2_drop hd]
      by_cases h2 : (p.length : Int) > 200
      · rw [if_pos h2, awake7_eq (by omega)]; rfl
      · rw [if_neg h2]
        have hrl := row_length (l.take i) hs
        have htl : (l.take i).length ≤ 30 := by simp; omega
        have hput := putF_length (p := p) (by omega)
        have hel := endsFrom_length 0 (l.take i)
        have e1 : wrap64 ((i : Int) + 1) = ((i + 1 : Nat) : Int) := by rw [w64 (by omega) (by omega)]; omega
        rw [frame_Put_eq (hb p hpm) (by omega), Option.bind_some, if_pos (by omega), Option.bind_some, if_pos (by omega), e1]
        have hnext : row (l.take (i + 1)) = row (l.take i) ++ putF p := by rw [take_succ_of hd, row_append]; simp [row]
        have hends : endsFrom 0 (l.take (i + 1)) = endsFrom 0 (l.take i) ++ [(((row (l.take i) ++ putF p).length : Nat) : Int)] := by
          rw [take_succ_of hd, endsFrom_append]
          simp [endsFrom]
        rw [← hends, ← hnext]
        refine ih (i + 1) k (by omega) (fun q hq => ?_) (by omega)
        rw [take_succ_of hd] at hq
        rcases List.mem_append.1 hq with h | h
        · exact hs q h
        · rw [List.mem_singleton.1 h]; omega
theorem FrameBack : iceboxlaw7_FrameBack.PureX := by
  intro l c hb hc
  simp [Lit.wf, IntKind.min, IntKind.max, IntKind.signed, IntKind.bits] at hc
  refine ⟨300000, ?_⟩
  unfold iceboxlaw7_FrameBack.f
  by_cases h1 : (l.length : Int) > 30
  · rw [if_pos h1, awake7_eq (by omega)]; rfl
  · rw [if_neg h1]
    have := back_l0 (l := l) (fun p hp => Bytes.of_wf (hb p hp)) (by omega) c hc l.length 0 300000 (by omega) (by simp) (by omega)
    exact this
end Go.Proofs.Ytcglkacplbeakaa.Pure
