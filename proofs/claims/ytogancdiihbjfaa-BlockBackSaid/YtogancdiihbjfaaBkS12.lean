/- Reading what was written answers what was put in; BlockBack's function answers true. -/
import Derived.Test.YtogancdiihbjfaaBkS11
namespace Go.Eng.Bk
open Go Go.Proofs Go.Eng
set_option linter.unusedVariables false
set_option linter.unusedSimpArgs false
theorem entryM_enc {e : En} (he : mayE e = true) {n : Nat} (h64 : n ≤ 64) {ahead : ByteArray} (hn : n ≤ ahead.size) (hsp : ahead.extract 0 n ++ rest e.1.1 n = e.1.1) (pre more : List Int) :
    entryM (pre ++ (encE n e ++ more)) (pre.length : Int) ahead = (e, ((pre.length + (encE n e).length : Nat) : Int), true, ()) := by
  obtain ⟨h1, h2, h3⟩ := mayE_true he
  obtain ⟨_, k2, k3, k4⟩ := mayB_true h1
  obtain ⟨t1, t2⟩ := tail_bound h1
  have hrs := rest_size e.1.1 n
  have hL : pre ++ (encE n e ++ more) = pre ++ (enc n ++ (enc (rest e.1.1 n).size ++ (bytesOf (rest e.1.1 n) ++ (enc (tailN e.1) ++ (enc e.2.1.size ++ (bytesOf e.2.1 ++ more)))))) := by
    simp only [encE, List.append_assoc]
  have hlen : (encE n e).length = (enc n).length + (enc (rest e.1.1 n).size).length + (rest e.1.1 n).size + (enc (tailN e.1)).length + (enc e.2.1.size).length + e.2.1.size := by
    simp only [encE, List.length_append, bytesOf_length]; omega
  rw [hL, hlen]
  generalize hrr : rest e.1.1 n = rs at *
  have g1 := getN_enc (n := n) (by omega) pre (enc rs.size ++ (bytesOf rs ++ (enc (tailN e.1) ++ (enc e.2.1.size ++ (bytesOf e.2.1 ++ more)))))
  have g2 := getT_enc (s := rs) (by omega) (pre ++ enc n) (enc (tailN e.1) ++ (enc e.2.1.size ++ (bytesOf e.2.1 ++ more)))
  have g3 := getN_enc (n := tailN e.1) t1 (pre ++ enc n ++ enc rs.size ++ bytesOf rs) (enc e.2.1.size ++ (bytesOf e.2.1 ++ more))
  have g4 := getT_enc (s := e.2.1) (by omega) (pre ++ enc n ++ enc rs.size ++ bytesOf rs ++ enc (tailN e.1)) more
  simp only [List.append_assoc, List.length_append, bytesOf_length] at g1 g2 g3 g4
  generalize pre ++ (enc n ++ (enc rs.size ++ (bytesOf rs ++ (enc (tailN e.1) ++ (enc e.2.1.size ++ (bytesOf e.2.1 ++ more)))))) = L at *
  have p1 : (pre.length : Int) + ((enc n).length : Int) = ((pre.length + (enc n).length : Nat) : Int) := by omega
  have p2 : pre.length + (enc n).length + (enc rs.size).length + rs.size = pre.length + ((enc n).length + ((enc rs.size).length + rs.size)) := by omega
  have p3 : ((pre.length + ((enc n).length + ((enc rs.size).length + rs.size)) : Nat) : Int) + ((enc (tailN e.1)).length : Int) = ((pre.length + ((enc n).length + ((enc rs.size).length + (rs.size + (enc (tailN e.1)).length))) : Nat) : Int) := by omega
  rw [p1] at g1
  rw [p2] at g2
  rw [p3] at g3
  unfold entryM
  rw [g1]
  simp only
  rw [g2]
  simp only
  rw [g3]
  simp only
  rw [g4]
  simp only [Int.toNat_natCast]
  rw [if_pos ⟨trivial, by omega, trivial, trivial⟩, hsp]
  have e1 : ((tailN e.1 / 2 : Nat) : Int) = e.1.2.1 := by omega
  have e2 : ((tailN e.1 % 2 + 1 : Nat) : Int) = e.1.2.2.1 := by omega
  rw [e1, e2]
  refine Prod.ext rfl (Prod.ext ?_ rfl)
  show ((_ : Nat) : Int) = ((_ : Nat) : Int)
  omega
theorem bytesOf_take (s : ByteArray) (n : Nat) : bytesOf (s.extract 0 n) = (bytesOf s).take n := by
  unfold bytesOf
  rw [ByteArray.data_extract, Array.toList_extract, List.extract_eq_take_drop, List.drop_zero, Nat.sub_zero, List.map_take]
theorem extract_join (s : ByteArray) (n : Nat) : s.extract 0 n ++ rest s n = s := by
  apply bytesOf_inj
  have : bytesOf (s.extract 0 n ++ rest s n) = bytesOf (s.extract 0 n) ++ bytesOf (rest s n) := by
    unfold bytesOf; rw [ByteArray.data_append, Array.toList_append, List.map_append]
  rw [this, bytesOf_take]
  have h2 : bytesOf (rest s n) = (bytesOf s).drop n := by
    unfold bytesOf
    rw [ByteArray.data_extract, Array.toList_extract, List.extract_eq_take_drop, List.map_take, List.map_drop, List.take_of_length_le]
    rw [List.length_drop, List.length_map, Array.length_toList]
    exact Nat.le_refl _
  rw [h2, List.take_append_drop]
/-- The bytes of the entries from one place on. -/
def tl (l : List En) : Nat → Nat → List Int
  | 0, _ => []
  | d + 1, i => encE (shAt l i) (l.getD i d0) ++ tl l d (i + 1)
theorem putB_tl (l : List En) : ∀ (d i : Nat) (out pl : List Int), (putB l d i out pl).1 = out ++ tl l d i
  | 0, _, out, _ => (List.append_nil out).symm
  | d + 1, i, out, pl => by
    show (putB l d (i + 1) (out ++ encE (shAt l i) (l.getD i d0)) _).1 = out ++ (encE (shAt l i) (l.getD i d0) ++ tl l d (i + 1))
    rw [putB_tl l d (i + 1), List.append_assoc]
theorem getLoop_tl {l : List En} (h64 : l.length ≤ 64) (hm : ∀ j, j < l.length → mayE (l.getD j d0) = true) (x : List Int) (d : Nat) : ∀ (i n : Nat) (pre : List Int) (ahead : ByteArray) (out : List En), i + d = l.length → d < n → x = pre ++ tl l d i → out = l.take i → (0 < i → ahead = (l.getD (i - 1) d0).1.1) →
    getLoop x n pre.length ahead out = some l := by
  induction d with
  | zero =>
    intro i n pre ahead out hi hn hx ho _
    obtain ⟨n, rfl⟩ : ∃ k, n = k + 1 := ⟨n - 1, by omega⟩
    have : x = pre := by rw [hx]; exact List.append_nil pre
    simp only [getLoop]
    rw [if_neg (by rw [this]; omega), ho, List.take_of_length_le (by omega)]
  | succ d ih =>
    intro i n pre ahead out hi hn hx ho ha
    obtain ⟨n, rfl⟩ : ∃ k, n = k + 1 := ⟨n - 1, by omega⟩
    have he := hm i (by omega)
    have hsl := shAt_le he
    have hx2 : x = pre ++ (encE (shAt l i) (l.getD i d0) ++ tl l d (i + 1)) := hx
    have hnn : shAt l i ≤ ahead.size ∧ ahead.extract 0 (shAt l i) ++ rest (l.getD i d0).1.1 (shAt l i) = (l.getD i d0).1.1 := by
      by_cases h4 : i % 4 = 0
      · have h0 : shAt l i = 0 := by unfold shAt; rw [if_pos h4]
        rw [h0]
        refine ⟨Nat.zero_le _, ?_⟩
        have h1 : ahead.extract 0 0 = (l.getD i d0).1.1.extract 0 0 := by
          apply bytesOf_inj; rw [bytesOf_take, bytesOf_take]; rfl
        rw [h1, extract_join]
      · have h0 : shAt l i = shr (bytesOf (l.getD (i - 1) d0).1.1) (bytesOf (l.getD i d0).1.1) := by unfold shAt; rw [if_neg h4]
        have haa := ha (by omega)
        have hle := (shr_le (bytesOf (l.getD (i - 1) d0).1.1) (bytesOf (l.getD i d0).1.1)).1
        have htk := shr_take (bytesOf (l.getD (i - 1) d0).1.1) (bytesOf (l.getD i d0).1.1)
        rw [← haa, bytesOf_length] at hle
        rw [← haa] at htk h0
        refine ⟨by omega, ?_⟩
        have h1 : ahead.extract 0 (shAt l i) = (l.getD i d0).1.1.extract 0 (shAt l i) := by
          apply bytesOf_inj; rw [bytesOf_take, bytesOf_take, h0]; exact htk
        rw [h1, extract_join]
    have hE := entryM_enc he hsl.2 hnn.1 hnn.2 pre (tl l d (i + 1))
    have hpos : 1 ≤ (encE (shAt l i) (l.getD i d0)).length := by
      have := enc_length_pos (shAt l i)
      simp only [encE, List.length_append]; omega
    rw [← hx2] at hE
    simp only [getLoop]
    rw [if_pos (by rw [hx2, List.length_append, List.length_append]; omega), hE]
    have hol : out.length = i := by rw [ho, List.length_take]; omega
    rw [if_pos ⟨rfl, by omega⟩]
    have := ih (i + 1) n (pre ++ encE (shAt l i) (l.getD i d0)) (l.getD i d0).1.1 (out ++ [l.getD i d0]) (by omega) (by omega) (by rw [hx2, List.append_assoc]) (by rw [ho, List.take_add_one, getD_lt' (show i < l.length by omega), List.getElem?_eq_getElem (by omega)]; rfl) (fun _ => rfl)
    rw [List.length_append] at this
    simp only [Int.toNat_natCast]
    exact this
/-- What is read from a written block. -/
theorem getBlock_put {l : List En} (h0 : l.length ≠ 0) (hr : rising l = true) (h64 : l.length ≤ 64) : getBlock (putBlock l).1 = (l, true, ()) := by
  have hp := putBlock_ok h0 hr h64
  have hz : (putBlock l).2.1 = 0 := by rw [hp]; rfl
  obtain ⟨x, y, a, hb, hy, ha1, ha2, hx, hg⟩ := putBlock_end hz
  have hlen : (putBlock l).1.length = x.length + 4 * a + 2 := by rw [hb, List.length_append, List.length_append, fx_length, hy]
  have hgl := getLoop_tl (l := l) h64 (rising_may hr) x l.length 0 ((putBlock l).1.length + 1) [] ⟨#[]⟩ [] (by omega) (by
    have := putB_tl l l.length 0 [] []
    have h2 : ∀ d i, d ≤ (tl l d i).length := by
      intro d
      induction d with
      | zero => intro i; exact Nat.zero_le _
      | succ d ih =>
        intro i
        have := ih (i + 1)
        have hp := enc_length_pos (shAt l i)
        show d + 1 ≤ (encE (shAt l i) (l.getD i d0) ++ tl l d (i + 1)).length
        simp only [encE, List.length_append]; omega
    have h3 := h2 l.length 0
    rw [hx, this, List.nil_append] at hlen
    omega) (by rw [hx, putB_tl]) rfl (fun h => absurd h (by omega))
  unfold getBlock
  rw [hg]
  simp only
  rw [if_pos ⟨trivial, by omega⟩]
  have e1 : (((putBlock l).1.length : Int) - 2 - 4 * (a : Int)).toNat = x.length := by omega
  have e2 : (putBlock l).1.take x.length = x := by rw [hb, List.append_assoc, List.take_left]
  rw [e1, e2]
  have hgl' : getLoop x ((putBlock l).1.length + 1) 0 ⟨#[]⟩ [] = some l := hgl
  rw [hgl']
  unfold getRes
  simp only
  rw [if_pos ⟨hz, trivial⟩]
theorem cmpKe_self (a : Ke) : cmpKe a a = 0 := cmpK_self _ _ _
theorem above_self {l : List En} (h : l.Pairwise LtE) {i : Nat} (hi : i < l.length) : above (l.getD i d0).1 l = (l.getD i d0, true, ()) := by
  rw [← above_drop l i (fun j hj hl => cmpKe_lt.2 (pair_lt h hj hi))]
  obtain ⟨e, t, hdr, _⟩ := drop_cons (l := l) (i := i) hi
  rw [hdr, dgetD hdr]
  show (if cmpKe e.1 e.1 ≥ 0 then (e, true, ()) else above e.1 t) = _
  rw [if_pos (by rw [cmpKe_self]; omega)]
theorem s10 {k : Nat} (hk : 100000 ≤ k) {a0 : List Int} (h0 : Bytes a0) (a1 a2 a3 a4 : Nat) (h1 : a1 < 256) (h2 : a2 < 256) (h3 : a3 < 256) (h4 : a4 < 256) : callN B k 10 [argAV (.sl u8) a0, argAV u8 (a1 : Int), argAV u8 (a2 : Int), argAV u8 (a3 : Int), argAV u8 (a4 : Int)] = (some true : Option Bool) := by
  obtain ⟨k, rfl⟩ := Nat.exists_eq_add_of_le' (show 1 ≤ k by omega)
  refine (callS k 10 _).trans ((t10 (callN B k) (lvl B k).2 k a0 (a1 : Int) (a2 : Int) (a3 : Int) (a4 : Int)).trans ?_)
  have aw : (((callN B k 19 []).bind fun (v0 : Bool) => some (v0)) : Option Bool) = some true := bnd (s19 (by omega)) rfl
  by_cases c1 : (((a0.length : Int) == (0 : Int)) == false) = true
  case neg => rw [Bool.not_eq_true] at c1; rw [c1]; exact aw
  rw [c1, cond_true]
  by_cases c2 : (a0.length : Int) > 64
  · rw [decide_eq_true c2]; exact aw
  rw [decide_eq_false c2, cond_false]
  have hpos : 0 < a0.length := by
    cases h : a0.length with
    | zero => rw [h] at c1; exact absurd c1 (by decide)
    | succ n => omega
  have hm := mkL_good h0 (by omega) a1
  have hr := mkL_rising h0 (by omega) a1
  have hml : (mkL a0 a1).length = a0.length := hm.2.2.2
  refine bnd (s33 h0 (by omega) (by omega) a1 h1) ?_
  generalize mkL a0 a1 = l at hm hr hml ⊢
  have hp := putBlock_ok (l := l) (by omega) hr (by omega)
  have hz : (putBlock l).2.1 = 0 := by rw [hp]; rfl
  have hbl := putBlock_length l
  have hby := putBlock_bytes l
  have hgb := getBlock_put (l := l) (by omega) hr (by omega)
  refine bnd (s17 (l := l) (by omega) (by omega)) ?_
  rw [hz]
  generalize (putBlock l).1 = b at hbl hby hgb ⊢
  refine bnd (s34 hby (by omega) (by omega)) ?_
  rw [hgb]
  refine bnd (s18 (by omega) _) ?_
  rw [show (((0 : Int) != (0 : Int)) == false) = true from rfl, cond_true, Bool.not_true, beq_self_eq_true, cond_true]
  refine bnd (s41 (l := l) (by omega) (by omega)) ?_
  rw [Bool.not_true, cond_false, if_neg (by omega)]
  rw [w64 (x := (a2 : Int)) (by omega) (by omega), w64 (x := (a3 : Int)) (by omega) (by omega), w64 (x := (a4 : Int)) (by omega) (by omega)]
  have hmod : Int.tmod (a2 : Int) (l.length : Int) = ((a2 % l.length : Nat) : Int) := rfl
  rw [hmod]
  have hlt : a2 % l.length < l.length := Nat.mod_lt _ (by omega)
  rw [if_pos (by omega), Int.toNat_natCast]
  refine bnd (s39 hby (by omega) (by omega) (l.getD (a2 % l.length) d0).1) ?_
  have hmod5 : Int.tmod (a3 : Int) 50 = ((a3 % 50 : Nat) : Int) := rfl
  rw [hmod5]
  refine bnd (s42 (by omega) (a3 % 50) (by omega)) ?_
  have hds := dg_size (n := a3 % 50) (by omega)
  rw [if_neg (by rw [i64max]; have : (ByteArray.mk #[(107 : UInt8), (101 : UInt8), (121 : UInt8)]).size = 3 := rfl; omega)]
  refine bnd (s39 hby (by omega) (by omega) (keyB ++ dg (a3 % 50), (a4 : Int), 1, ())) ?_
  refine bnd (s40 (l := l) (by omega) (by omega) (keyB ++ dg (a3 % 50), (a4 : Int), 1, ())) ?_
  rw [hgb]
  simp only
  rw [above_self (rising_pair hr) hlt]
  have e1 := same_self ((l.getD (a2 % l.length) d0).1.1, (l.getD (a2 % l.length) d0).1.2.1, (l.getD (a2 % l.length) d0).1.2.2.1, (l.getD (a2 % l.length) d0).2.1)
  have e2 := same_self ((above (keyB ++ dg (a3 % 50), (a4 : Int), 1, ()) l).1.1.1, (above (keyB ++ dg (a3 % 50), (a4 : Int), 1, ()) l).1.1.2.1, (above (keyB ++ dg (a3 % 50), (a4 : Int), 1, ()) l).1.1.2.2.1, (above (keyB ++ dg (a3 % 50), (a4 : Int), 1, ()) l).1.2.1)
  simp only at e1 e2
  simp only
  rw [beq_self_eq_true, cond_true, e1, beq_self_eq_true, cond_true, e2, beq_self_eq_true, cond_true, beq_self_eq_true, beq_self_eq_true, cond_true]
  exact aw
end Go.Eng.Bk
