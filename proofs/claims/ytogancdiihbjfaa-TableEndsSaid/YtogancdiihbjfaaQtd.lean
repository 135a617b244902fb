/- Qt, part 4: several texts of mine, laid together. -/
import Derived.Test.YtogancdiihbjfaaQtc
import Derived.RangeFuncBox
import Derived.RangeFuncLeaves
import Derived.WalkKit
import Derived.OwnWalkIn
import Derived.TacticsInMore
import Derived.LoopNIn
import Derived.LoopIn
import Derived.RegionTactic
import Derived.OrdersIn
import Derived.RangeFuncIn
import Derived.RangeFuncRecord
set_option linter.unusedVariables false
set_option linter.unusedSimpArgs false
/- What is framed at a place; a table of its pieces: the functions' answers. -/
namespace Go.Eng.Bk
open Go Go.Proofs Go.Eng
set_option linter.unusedVariables false
set_option linter.unusedSimpArgs false
theorem unf_no {l : List Int} {p : Nat} (h : ¬ (p + 8 ≤ l.length ∧ bval 0 ((l.drop p).take 4) ≤ 1048576 ∧ p + 8 + bval 0 ((l.drop p).take 4) ≤ l.length ∧ bval 0 ((l.drop (p + 4)).take 4) = crc ((l.drop (p + 8)).take (bval 0 ((l.drop p).take 4))))) : unf l p = ([], 0, false, ()) := if_neg h
theorem unf_yes {l : List Int} {p n : Nat} (hn : bval 0 ((l.drop p).take 4) = n) (h1 : n ≤ 1048576) (h2 : p + 8 + n ≤ l.length) (h3 : bval 0 ((l.drop (p + 4)).take 4) = crc ((l.drop (p + 8)).take n)) : unf l p = ((l.drop (p + 8)).take n, ((p + 8 + n : Nat) : Int), true, ()) := by
  subst hn
  exact if_pos ⟨by omega, h1, h2, h3⟩
theorem s108 {k : Nat} {l : List Int} (hl : Bytes l) (hlen : l.length ≤ 1000000000) (p : Nat) (hp : p ≤ 1000000000000) (hk : l.length + 60 ≤ k) : callN B k 108 [.v (.sl u8) l, .v i64 (p : Int)] = (some (unf l p) : Option (List Int × Int × Bool × Unit)) := by
  obtain ⟨k, rfl⟩ := Nat.exists_eq_add_of_le' (show 1 ≤ k by omega)
  refine (callS k 108 _).trans ((t108 (callN B k) (lvl B k).2 k l (p : Int)).trans ?_)
  refine bnd (s67 (by omega) hl (by omega) (p : Int) (by omega) 4 (by omega) (by omega)) ?_
  by_cases h4 : p + 4 ≤ l.length
  · rw [gfx_yes h4]
    obtain ⟨n, hn⟩ : ∃ n, bval 0 ((l.drop p).take 4) = n := ⟨_, rfl⟩
    rw [hn]
    dsimp only
    rw [show ((!true) == false) = true from rfl, cond_true]
    by_cases hbig : n ≤ 1048576
    · rw [decide_eq_false (show ¬ ((n : Int) > 1048576) by omega), show (false == false) = true from rfl, cond_true, w64 (x := (l.length : Int) - (p : Int)) (by omega) (by omega), w64 (x := (l.length : Int) - (p : Int) - 8) (by omega) (by omega)]
      by_cases h8 : p + 8 + n ≤ l.length
      · rw [bF (by omega), w64 (x := (p : Int) + 4) (by omega) (by omega), show (p : Int) + 4 = ((p + 4 : Nat) : Int) from by omega]
        refine bnd (s67 (by omega) hl (by omega) ((p + 4 : Nat) : Int) (by omega) 4 (by omega) (by omega)) ?_
        rw [gfx_yes (show p + 4 + 4 ≤ l.length by omega)]
        dsimp only
        rw [w64 (x := (p : Int) + 8) (by omega) (by omega), w64 (x := (p : Int) + 8 + (n : Int)) (by omega) (by omega), if_pos (by omega), show ((p : Int) + 8).toNat = p + 8 from by omega, show ((p : Int) + 8 + (n : Int)).toNat = p + 8 + n from by omega, cut_sub]
        have hll : ((l.drop (p + 8)).take n).length = n := by rw [List.length_take, List.length_drop]; omega
        refine bnd (s120 (by omega) _ (by omega)) ?_
        rw [show ((!true) == false) = true from rfl, cond_true]
        refine bnd (s118 (by omega) (by omega)) ?_
        by_cases hc : bval 0 ((l.drop (p + 4)).take 4) = crc ((l.drop (p + 8)).take n)
        · rw [show (((bval 0 ((l.drop (p + 4)).take 4) : Nat) : Int) != ((crc ((l.drop (p + 8)).take n) : Nat) : Int)) = false from by rw [hc]; exact bne_self_eq_false _, cond_false, unf_yes hn hbig h8 hc, show (p : Int) + 8 + (n : Int) = ((p + 8 + n : Nat) : Int) from by omega]
        · rw [show (((bval 0 ((l.drop (p + 4)).take 4) : Nat) : Int) != ((crc ((l.drop (p + 8)).take n) : Nat) : Int)) = true from bne_iff_ne.2 (by omega), cond_true, unf_no (by rw [hn]; omega)]
      · rw [bT (by omega), unf_no (by rw [hn]; omega)]
    · rw [decide_eq_true (show ((n : Int) > 1048576) by omega), show (true == false) = false from rfl, cond_false, unf_no (by rw [hn]; omega)]
  · rw [gfx_no (.inr (by omega)), unf_no (by omega)]
    rfl
theorem s88 {k : Nat} {l : List Int} (hl : Bytes l) (hlen : l.length ≤ 1000000000) (p : Nat) (hp : p ≤ 1000000000000) (hk : l.length + 60 ≤ k) : callN B k 88 [.v (.sl u8) l, .v i64 (p : Int)] = (some (unf l p) : Option (List Int × Int × Bool × Unit)) := by
  obtain ⟨k, rfl⟩ := Nat.exists_eq_add_of_le' (show 1 ≤ k by omega)
  refine (callS k 88 _).trans ((t88 (callN B k) (lvl B k).2 k l (p : Int)).trans ?_)
  refine bnd (s75 (by omega) hl (by omega) (p : Int) (by omega) 4 (by omega) (by omega)) ?_
  rw [w64 (x := (p : Int) + 4) (by omega) (by omega), show (p : Int) + 4 = ((p + 4 : Nat) : Int) from by omega]
  refine bnd (s75 (by omega) hl (by omega) ((p + 4 : Nat) : Int) (by omega) 4 (by omega) (by omega)) ?_
  by_cases h4 : p + 4 ≤ l.length
  · rw [gfx_yes h4]
    obtain ⟨n, hn⟩ : ∃ n, bval 0 ((l.drop p).take 4) = n := ⟨_, rfl⟩
    rw [hn]
    by_cases h44 : p + 4 + 4 ≤ l.length
    · rw [gfx_yes h44]
      dsimp only
      rw [show ((!true) == false) = true from rfl, cond_true, cond_true]
      by_cases hbig : n ≤ 1048576
      · rw [decide_eq_false (show ¬ ((n : Int) > 1048576) by omega), show (false == false) = true from rfl, cond_true, w64 (x := (l.length : Int) - (p : Int)) (by omega) (by omega), w64 (x := (l.length : Int) - (p : Int) - 8) (by omega) (by omega)]
        by_cases h8 : p + 8 + n ≤ l.length
        · rw [bF (by omega), w64 (x := (p : Int) + 8) (by omega) (by omega), w64 (x := (p : Int) + 8 + (n : Int)) (by omega) (by omega), if_pos (by omega), show ((p : Int) + 8).toNat = p + 8 from by omega, show ((p : Int) + 8 + (n : Int)).toNat = p + 8 + n from by omega, cut_sub]
          have hll : ((l.drop (p + 8)).take n).length = n := by rw [List.length_take, List.length_drop]; omega
          rw [if_pos (by omega)]
          refine bnd (s111 (by omega) (by omega)) ?_
          by_cases hc : bval 0 ((l.drop (p + 4)).take 4) = crc ((l.drop (p + 8)).take n)
          · rw [show (((crc ((l.drop (p + 8)).take n) : Nat) : Int) != ((bval 0 ((l.drop (p + 4)).take 4) : Nat) : Int)) = false from by rw [hc]; exact bne_self_eq_false _, cond_false, unf_yes hn hbig h8 hc, show (p : Int) + 8 + (n : Int) = ((p + 8 + n : Nat) : Int) from by omega]
          · rw [show (((crc ((l.drop (p + 8)).take n) : Nat) : Int) != ((bval 0 ((l.drop (p + 4)).take 4) : Nat) : Int)) = true from bne_iff_ne.2 (by omega), cond_true, unf_no (by rw [hn]; omega)]
        · rw [bT (by omega), unf_no (by rw [hn]; omega)]
      · rw [decide_eq_true (show ((n : Int) > 1048576) by omega), show (true == false) = false from rfl, cond_false, unf_no (by rw [hn]; omega)]
    · rw [gfx_no (.inr (by omega)), unf_no (by omega)]
      rfl
  · rw [gfx_no (.inr (by omega)), unf_no (by omega)]
    rfl
abbrev magicL : List Int := [105, 99, 98, 49]
/-- A table of its pieces. -/
def wholeL (a f p : List Int) (n : Nat) : List Int := a ++ frm f ++ frm p ++ fx a.length 4 ++ fx (a ++ frm f).length 4 ++ fx n 4 ++ magicL
theorem s83 {k : Nat} {a f p : List Int} (n : Nat) (ha : a.length ≤ 100000000) (hf : f.length ≤ 100000000) (hp : p.length ≤ 100000000) (hk : f.length + p.length + 60 ≤ k) : callN B k 83 [.v (.sl u8) a, .v (.sl u8) f, .v (.sl u8) p, .v i64 (n : Int)] = (some (wholeL a f p n) : Option (List Int)) := by
  obtain ⟨k, rfl⟩ := Nat.exists_eq_add_of_le' (show 1 ≤ k by omega)
  refine (callS k 83 _).trans ((t83 (callN B k) (lvl B k).2 k a f p (n : Int)).trans ?_)
  have hff := frm_le f
  have hpp := frm_le p
  refine bnd (s104 (by omega) (by omega)) ?_
  have e1 : ([a, frm f] : List (List Int)).flatten = a ++ frm f := by simp
  refine bnd ((s106 (ls := [a, frm f]) (by simp) (by rw [e1, List.length_append]; omega) (by simp only [List.length_cons, List.length_nil]; omega)).trans (congrArg some e1)) ?_
  refine bnd (s104 (by omega) (by omega)) ?_
  refine bnd (s53 (by omega) a.length 4 (by omega) (by omega)) ?_
  refine bnd (s53 (by omega) (a ++ frm f).length 4 (by omega) (by omega)) ?_
  refine bnd (s53 (by omega) n 4 (by omega) (by omega)) ?_
  have e2 : ([a ++ frm f, frm p, fx a.length 4, fx (a ++ frm f).length 4, fx n 4, magicL] : List (List Int)).flatten = wholeL a f p n := by
    unfold wholeL
    simp only [List.flatten_cons, List.flatten_nil, List.append_nil, List.append_assoc]
  refine bnd ((s106 (ls := [a ++ frm f, frm p, fx a.length 4, fx (a ++ frm f).length 4, fx n 4, magicL]) (by simp) (by simp only [List.flatten_cons, List.flatten_nil, List.length_append, fx_length, List.length_nil, List.length_cons]; omega) (by simp only [List.length_cons, List.length_nil]; omega)).trans (congrArg some e2)) ?_
  rfl
end Go.Eng.Bk
/- What the machine answers at some functions of the program: printed by the generator, each checked by the kernel. -/
namespace Go.Eng.Bk
open Go Go.Proofs Go.Eng
set_option linter.unusedVariables false
set_option maxRecDepth 100000
section
variable (call : CallT B) (inl : InlT) (m : Nat)
/-! function 86 -/
def s86_13 (a0 : (List En)) (a1 : Int) (a2 : (List Int)) (x5 : (List Int)) (x6 : (List Int)) (x7 : Int) : St := { t := [(.v (.sl EntryT) (a0)), (.v (.int .i64) (a1)), (.v (.sl (.int .u8)) (a2)), .bad, .bad, .bad, .nilS, (.own 0 5 (.int .u8) (x5)), (.own 1 5 (.int .u8) (x6)), (.v (.int .i64) (x7)), .bad, .bad, .bad, .bad, (.raw undef), (.raw undef), .bad, .bad, .bad, .bad, .bad, .bad, .bad, .bad, .bad, .bad, .bad, .bad, .bad, .bad, .bad, .bad, .bad, .bad, .bad, .bad, .bad, .bad, .bad, .bad, .bad, .bad, .bad, .bad, .bad, .bad, .bad, .bad, .bad, .bad, .bad, .bad, .bad, .bad, .bad, .bad, .bad, .bad, .bad, .bad, .bad, .bad, (.raw undef), (.raw undef), (.raw undef), (.raw undef), (.raw undef), (.raw undef), (.raw undef), (.raw undef), (.raw undef), (.raw undef), (.raw undef), (.raw undef), (.raw undef), (.raw undef), (.raw undef), (.raw undef), (.raw undef), (.raw undef), (.raw undef), (.raw undef), (.raw undef), (.raw undef), (.raw undef), (.raw undef), (.raw undef), (.raw undef), (.raw undef)], bx := [none, none], live := 3, g := [] }
def s86_13x19 (y0 : (List En)) (y1 : (List Int)) (y2 : (List Int)) (y3 : (List Int)) : St := { t := [(.v (.sl EntryT) (y0)), .bad, (.v (.sl (.int .u8)) (y1)), .bad, .bad, .bad, .nilS, (.own 0 5 (.int .u8) (y2)), (.own 1 5 (.int .u8) (y3)), .bad, .bad, .bad, .bad, .bad, (.raw undef), (.raw undef), .bad, .bad, .bad, .bad, .bad, .bad, .bad, .bad, .bad, .bad, .bad, .bad, .bad, .bad, .bad, .bad, .bad, .bad, .bad, .bad, .bad, .bad, .bad, .bad, .bad, .bad, .bad, .bad, .bad, .bad, .bad, .bad, .bad, .bad, .bad, .bad, .bad, .bad, .bad, .bad, .bad, .bad, .bad, .bad, .bad, .bad, (.raw undef), (.raw undef), (.raw undef), (.raw undef), (.raw undef), (.raw undef), (.raw undef), (.raw undef), (.raw undef), (.raw undef), (.raw undef), (.raw undef), (.raw undef), (.raw undef), (.raw undef), (.raw undef), (.raw undef), (.raw undef), (.raw undef), (.raw undef), (.raw undef), (.raw undef), (.raw undef), (.raw undef), (.raw undef), (.raw undef), (.raw undef)], bx := [none, none, none, none, none, none], live := 3, g := [] }
theorem s86_13_l {R : Type} (K : AEx → St → Option R) (a0 : (List En)) (a1 : Int) (a2 : (List Int)) (x5 : (List Int)) (x6 : (List Int)) (x7 : Int) : LP B call inl 86 (m + 1) [1, 1, 0, 1] (s86_13 a0 a1 a2 x5 x6 x7) K = (bif decide (x7 < (↑(List.length a0) : Int)) then (if (0 : Int) ≤ x7 ∧ x7 ≤ minI (↑(List.length a0) : Int) (IntKind.i64.wrap (x7 + a1)) ∧ minI (↑(List.length a0) : Int) (IntKind.i64.wrap (x7 + a1)) ≤ (↑(List.length a0) : Int) then ((call 37 [(.v (.sl EntryT) (List.drop x7.toNat (List.take (minI (↑(List.length a0) : Int) (IntKind.i64.wrap (x7 + a1))).toNat a0)))]).bind fun (v14 : ((List Int) × Int × Unit)) => (call 109 [(.v (.sl (.int .u8)) (v14.fst))]).bind fun (v15 : (List Int)) => if (0 : Int) ≤ IntKind.i64.wrap ((↑(List.drop x7.toNat (List.take (minI (↑(List.length a0) : Int) (IntKind.i64.wrap (x7 + a1))).toNat a0)).length : Int) - (1 : Int)) ∧ IntKind.i64.wrap ((↑(List.drop x7.toNat (List.take (minI (↑(List.length a0) : Int) (IntKind.i64.wrap (x7 + a1))).toNat a0)).length : Int) - (1 : Int)) < (↑(List.drop x7.toNat (List.take (minI (↑(List.length a0) : Int) (IntKind.i64.wrap (x7 + a1))).toNat a0)).length : Int) then ((call 110 [(.agg [(.v .str (((List.drop x7.toNat (List.take (minI (↑(List.length a0) : Int) (IntKind.i64.wrap (x7 + a1))).toNat a0)).getD (IntKind.i64.wrap ((↑(List.drop x7.toNat (List.take (minI (↑(List.length a0) : Int) (IntKind.i64.wrap (x7 + a1))).toNat a0)).length : Int) - (1 : Int))).toNat (((ByteArray.mk #[]), (0 : Int), (0 : Int), ()), (ByteArray.mk #[]), ())).fst.fst)), (.v (.int .i64) (((List.drop x7.toNat (List.take (minI (↑(List.length a0) : Int) (IntKind.i64.wrap (x7 + a1))).toNat a0)).getD (IntKind.i64.wrap ((↑(List.drop x7.toNat (List.take (minI (↑(List.length a0) : Int) (IntKind.i64.wrap (x7 + a1))).toNat a0)).length : Int) - (1 : Int))).toNat (((ByteArray.mk #[]), (0 : Int), (0 : Int), ()), (ByteArray.mk #[]), ())).fst.snd.fst)), (.v (.int .i64) (((List.drop x7.toNat (List.take (minI (↑(List.length a0) : Int) (IntKind.i64.wrap (x7 + a1))).toNat a0)).getD (IntKind.i64.wrap ((↑(List.drop x7.toNat (List.take (minI (↑(List.length a0) : Int) (IntKind.i64.wrap (x7 + a1))).toNat a0)).length : Int) - (1 : Int))).toNat (((ByteArray.mk #[]), (0 : Int), (0 : Int), ()), (ByteArray.mk #[]), ())).fst.snd.snd.fst))])]).bind fun (v16 : (List Int)) => if (x6.length + List.length v16) * (1 : Nat) ≤ 140737488355328 then ((call 73 [(.v (.int .i64) ((↑x5.length : Int)))]).bind fun (v17 : (List Int)) => if ((x6 ++ v16).length + List.length v17) * (1 : Nat) ≤ 140737488355328 then ((call 73 [(.v (.int .i64) ((↑(List.length v15) : Int)))]).bind fun (v18 : (List Int)) => if ((x6 ++ v16 ++ v17).length + List.length v18) * (1 : Nat) ≤ 140737488355328 then (if (x5.length + List.length v15) * (1 : Nat) ≤ 140737488355328 then (LP B call inl 86 m [1, 1, 0, 1] (s86_13 a0 a1 a2 (x5 ++ v15) (x6 ++ v16 ++ v17 ++ v18) (IntKind.i64.wrap (x7 + a1))) K) else (none)) else (none)) else (none)) else (none)) else (none)) else (none)) else (K (.exit 0) (s86_13x19 a0 a2 x5 x6))) := by kernel_rfl
theorem s86_13x19_k (a0 : (List En)) (a2 : (List Int)) (x5 : (List Int)) (x6 : (List Int)) : (KA B call inl 86 m [1, 1, 0, 1] (FI B call inl 86)) (.exit 0) (s86_13x19 a0 a2 x5 x6) = ((call 109 [(.v (.sl (.int .u8)) (a2))]).bind fun (v25 : (List Int)) => if (x5.length + List.length v25) * (1 : Nat) ≤ 140737488355328 then ((call 109 [(.v (.sl (.int .u8)) (x6))]).bind fun (v26 : (List Int)) => if ((x5 ++ v25).length + List.length v26) * (1 : Nat) ≤ 140737488355328 then ((call 71 [(.v (.int .i64) ((↑x5.length : Int))), (.v (.int .i64) ((4 : Int)))]).bind fun (v27 : (List Int)) => if ((x5 ++ v25 ++ v26).length + List.length v27) * (1 : Nat) ≤ 140737488355328 then ((call 71 [(.v (.int .i64) ((↑(x5 ++ v25).length : Int))), (.v (.int .i64) ((4 : Int)))]).bind fun (v28 : (List Int)) => if ((x5 ++ v25 ++ v26 ++ v27).length + List.length v28) * (1 : Nat) ≤ 140737488355328 then ((call 71 [(.v (.int .i64) ((↑(List.length a0) : Int))), (.v (.int .i64) ((4 : Int)))]).bind fun (v29 : (List Int)) => if ((x5 ++ v25 ++ v26 ++ v27 ++ v28).length + List.length v29) * (1 : Nat) ≤ 140737488355328 then (if ((x5 ++ v25 ++ v26 ++ v27 ++ v28 ++ v29).length + (ByteArray.mk #[(105 : UInt8), (99 : UInt8), (98 : UInt8), (49 : UInt8)]).size) * (1 : Nat) ≤ 140737488355328 then (some (x5 ++ v25 ++ v26 ++ v27 ++ v28 ++ v29 ++ bytesOf (ByteArray.mk #[(105 : UInt8), (99 : UInt8), (98 : UInt8), (49 : UInt8)]))) else (none)) else (none)) else (none)) else (none)) else (none)) else (none)) := by kernel_rfl
theorem t86 (a0 : (List En)) (a1 : Int) (a2 : (List Int)) : stepN B call inl m 86 [argAV (.sl EntryT) a0, argAV (.int .i64) a1, argAV (.sl (.int .u8)) a2] = (LP B call inl 86 m [1, 1, 0, 1] (s86_13 a0 a1 a2 ([]) ([]) ((0 : Int))) (KA B call inl 86 m [1, 1, 0, 1] (FI B call inl 86)) : Option (List Int)) := by kernel_rfl
/-! function 87 -/
def s87_2 (a0 : (List En)) (x0 : (List ByteArray)) (x1 : Int) : St := { t := [(.v (.sl EntryT) (a0)), .bad, .nilS, (.own 0 9 .str (x0)), (.v (.int .i64) (x1)), .bad, .bad, .bad, .bad, .bad, .bad, .bad, .bad, .bad, .bad, .bad, .bad, .bad, .bad, .bad, .bad, .bad, .bad, .bad, .bad, .bad, .bad, .bad, .bad, .bad, .bad, .bad, .bad, .bad, .bad, .bad, .bad, .bad, (.raw undef)], bx := [none], live := 1, g := [] }
def s87_2x3 (y0 : (List ByteArray)) : St := { t := [.bad, .bad, .nilS, (.own 0 9 .str (y0)), .bad, .bad, .bad, .bad, .bad, .bad, .bad, .bad, .bad, .bad, .bad, .bad, .bad, .bad, .bad, .bad, .bad, .bad, .bad, .bad, .bad, .bad, .bad, .bad, .bad, .bad, .bad, .bad, .bad, .bad, .bad, .bad, .bad, .bad, (.raw undef)], bx := [none, none, none, none, none], live := 1, g := [] }
theorem s87_2_l {R : Type} (K : AEx → St → Option R) (a0 : (List En)) (x0 : (List ByteArray)) (x1 : Int) : LP B call inl 87 (m + 1) [1, 1, 0, 1] (s87_2 a0 x0 x1) K = (bif decide (x1 < (↑(List.length a0) : Int)) then (bif (x1 == (0 : Int)) == false then (if (0 : Int) ≤ x1 ∧ x1 < (↑(List.length a0) : Int) then (if (0 : Int) ≤ IntKind.i64.wrap (x1 - (1 : Int)) ∧ IntKind.i64.wrap (x1 - (1 : Int)) < (↑(List.length a0) : Int) then (bif !ByteArray.toList (List.getD a0 x1.toNat (((ByteArray.mk #[]), (0 : Int), (0 : Int), ()), (ByteArray.mk #[]), ())).fst.fst == ByteArray.toList (List.getD a0 (IntKind.i64.wrap (x1 - (1 : Int))).toNat (((ByteArray.mk #[]), (0 : Int), (0 : Int), ()), (ByteArray.mk #[]), ())).fst.fst then (if (0 : Int) ≤ x1 ∧ x1 < (↑(List.length a0) : Int) then (if (x0.length + [(List.getD a0 x1.toNat (((ByteArray.mk #[]), (0 : Int), (0 : Int), ()), (ByteArray.mk #[]), ())).fst.fst].length) * (16 : Nat) ≤ 140737488355328 then (LP B call inl 87 m [1, 1, 0, 1] (s87_2 a0 (x0 ++ [(List.getD a0 x1.toNat (((ByteArray.mk #[]), (0 : Int), (0 : Int), ()), (ByteArray.mk #[]), ())).fst.fst]) (IntKind.i64.wrap (x1 + (1 : Int)))) K) else (none)) else (none)) else (LP B call inl 87 m [1, 1, 0, 1] (s87_2 a0 (x0) (IntKind.i64.wrap (x1 + (1 : Int)))) K)) else (none)) else (none)) else (if (0 : Int) ≤ x1 ∧ x1 < (↑(List.length a0) : Int) then (if (x0.length + [(List.getD a0 x1.toNat (((ByteArray.mk #[]), (0 : Int), (0 : Int), ()), (ByteArray.mk #[]), ())).fst.fst].length) * (16 : Nat) ≤ 140737488355328 then (LP B call inl 87 m [1, 1, 0, 1] (s87_2 a0 (x0 ++ [(List.getD a0 x1.toNat (((ByteArray.mk #[]), (0 : Int), (0 : Int), ()), (ByteArray.mk #[]), ())).fst.fst]) (IntKind.i64.wrap (x1 + (1 : Int)))) K) else (none)) else (none))) else (K (.exit 0) (s87_2x3 x0))) := by kernel_rfl
theorem s87_2x3_k (x0 : (List ByteArray)) : (KA B call inl 87 m [1, 1, 0, 1] (FI B call inl 87)) (.exit 0) (s87_2x3 x0) = (some (x0)) := by kernel_rfl
theorem t87 (a0 : (List En)) : stepN B call inl m 87 [argAV (.sl EntryT) a0] = (LP B call inl 87 m [1, 1, 0, 1] (s87_2 a0 ([]) ((0 : Int))) (KA B call inl 87 m [1, 1, 0, 1] (FI B call inl 87)) : Option (List ByteArray)) := by kernel_rfl
end
end Go.Eng.Bk
/- slices.Chunk's iterator: for each part in order yield is called. -/
namespace Go.Eng.Bk
open Go Go.Proofs Go.RowKit
set_option linter.unusedVariables false
set_option linter.unusedSimpArgs false
attribute [local go_sem] Oper.semAt_some
theorem wi64' {n : Int} (h0 : 0 ≤ n) (h1 : n < 140737488355328) : IntKind.i64.wrap n = n := by
  unfold IntKind.wrap
  have hb : IntKind.i64.bits = 64 := rfl
  have hs : IntKind.i64.signed = true := rfl
  rw [hb, hs]
  simp
  omega
set_option maxRecDepth 100000 in
set_option maxHeartbeats 4000000 in
theorem chunk_calls (n L B1 B2 : Nat) (A : Addr) (len cap per : Nat) (hper : 1 ≤ per) (hper2 : per ≤ 1000000) (hlen : len ≤ 1000000) (hcap : len ≤ cap)
    (J : Nat → World → Prop) (hJ : ∀ k W, J k W → W.cell? ⟨B1, 0, none⟩ = some (.slice (some A) len cap) ∧ W.cell? ⟨B2, 0, none⟩ = some (.int .i64 per))
    (hY : ∀ k W, J k W → k * per < len → YieldAt Fence.wide (n - 1) Try.prog L #[.slice (some (A.add (k * per * 4))) (min per (len - k * per)) (min per (len - k * per))] W (fun e W' => e = .returned (.bool true) ∧ J (k + 1) W'))
    (hJd : ∀ k W, J k W → J k W.drew) (W : World) (h0 : J 0 W) :
    CallsIn Fence.wide n Try.prog 117 #[.func (.yield L) #[] #[], .pointer (some ⟨B1, 0, none⟩), .pointer (some ⟨B2, 0, none⟩)] W fun e W' => (∃ v, e = .returned v) ∧ ∃ k, len ≤ k * per ∧ (k = 0 ∨ (k - 1) * per < len) ∧ J k W' := by
  refine callsIn_of_wp Try.func117 rfl trivial ?_ rfl
  simp only [Try.ntmps117, List.size_toArray, List.length_cons, List.length_nil, Nat.reduceAdd, Nat.reduceSub, Array.replicate_succ, Array.replicate_zero, List.push_toArray, List.append_toArray, List.nil_append, List.cons_append]
  gi_wp2
  gi_loopw [4] (fun i wr => ∃ k : Nat, (k = 0 ∨ (k - 1) * per < len) ∧ i = .int .i64 ((k * per : Nat) : Int) ∧ J k wr) (fun i _ => len + per - (intOf i).toNat)
  case atStart => exact ⟨0, .inl rfl, by simp, h0⟩
  case round =>
    obtain ⟨k, hk, rfl, hJs⟩ := hrel
    obtain ⟨hb1, hb2⟩ := hJ k wr hJs
    obtain ⟨i, hi⟩ : ∃ i, k * per = i := ⟨_, rfl⟩
    rw [hi]
    by_cases hlt : i < len
    · obtain ⟨fn, tmps, assign, body, hy, hR⟩ := hY k wr.drew (hJd k wr hJs) (by omega)
      rw [hi] at hy
      have hb1d : wr.drew.cell? ⟨B1, 0, none⟩ = some (.slice (some A) len cap) := hb1
      have hb2d : wr.drew.cell? ⟨B2, 0, none⟩ = some (.int .i64 per) := hb2
      gi_wp2
      refine wpIn_wide.2 ?_
      go_region
      have hm : (if len - i < per then ((len - i : Nat) : Int) else (per : Int)) = ((min per (len - i) : Nat) : Int) := by split <;> omega
      rw [hm]
      obtain ⟨e, he⟩ : ∃ e, min per (len - i) = e := ⟨_, rfl⟩
      have he1 : e ≤ len - i := by omega
      have he2 : e ≤ per := by omega
      have hw1 : IntKind.i64.wrap ((i : Int) + (e : Int)) = ((i + e : Nat) : Int) := by rw [wi64' (by omega) (by omega)]; omega
      have hw2 : IntKind.i64.wrap ((i : Int) + (per : Int)) = ((i + per : Nat) : Int) := by rw [wi64' (by omega) (by omega)]; omega
      rw [he] at hy ⊢
      gi_wp2
      refine ⟨fun hh => (by cases hh), hR.mono ?_⟩
      rintro e W3 ⟨rfl, hJ3⟩
      obtain ⟨hb1, hb2⟩ := hJ _ _ hJ3
      gi_wp2
      refine ⟨⟨k + 1, .inr (by rw [Nat.add_sub_cancel, hi]; exact hlt), ?_, hJ3⟩, ?_⟩
      · rw [Nat.succ_mul, hi]; simp
      · simp [intOf]; omega
    · gi_wp2
      go_end0
      exact ⟨⟨_, rfl⟩, k, by omega, hk, hJs⟩
end Go.Eng.Bk
/- ENGINE, part W: what reckonings by hand lean on: a body's start and its end; blocks that are no cells may turn; code in a round of a range over a function. -/
namespace Go.Eng
open Go Go.RowKit
abbrev mp0 : Mp := { G := fun _ => none, E := fun _ => 0, U := fun _ => False, B := fun _ => 0 }
abbrev st0 (args : List AV) (n : Nat) : St := { t := args ++ List.replicate (n - args.length) (.raw undef), bx := [], live := 0, g := [] }
theorem start_inv {w : World} {N : Nat → Prop} {args : List AV} {vargs : List Value} (hv : all2 (V (argVw w N)) args vargs) (n : Nat) :
    Inv w ⟨N, [], []⟩ (fun k => k < 0) (st0 args n) mp0 { tmps := vargs.toArray ++ Array.replicate (n - vargs.toArray.size) undef, defers := [] } w := by
  have hlen := all2_len hv
  have hto : (argVw w N).To (vw w ⟨N, [], []⟩ (st0 args n) mp0 w) := by
    have hNN : ∀ b, (argVw w N).N b → (vw w ⟨N, [], []⟩ (st0 args n) mp0 w).N b :=
      fun b hb => ⟨hb.1, fun _ => hb.2, (fun τ _ h => by cases h), (fun i T cs hi => by simp at hi)⟩
    exact ⟨rfl, fun b hb => ⟨hNN b hb, rfl⟩, fun b hi hb => ⟨hb.imp (hNN b) (fun ⟨_, h, _⟩ => h.elim), fun _ _ => rfl⟩, fun τ h => h.elim, fun b h => h.elim⟩
  refine ⟨Below.refl _ _, rfl, ?_, ?_, ?_, ?_, ?_, ?_, ?_, ?_, ?_, ?_, trivial, fun p hp => by cases hp⟩
  · simp [hlen]
  · intro i x v hx hu
    have hu' : (vargs ++ List.replicate (n - vargs.length) undef)[i]? = some v := by
      rw [← Array.getElem?_toList] at hu
      simpa using hu
    have hx' : (args ++ List.replicate (n - args.length) (.raw undef))[i]? = some x := hx
    by_cases hi : i < args.length
    · rw [List.getElem?_append_left hi] at hx'
      rw [List.getElem?_append_left (by omega)] at hu'
      obtain ⟨u, e1, e2⟩ := all2_get hv hx'
      rw [hu'] at e1
      cases e1
      exact hto.v e2
    · rw [List.getElem?_append_right (by omega), List.getElem?_replicate] at hx'
      rw [List.getElem?_append_right (by omega), List.getElem?_replicate] at hu'
      split at hx'
      · split at hu'
        · cases hx'; cases hu'; rfl
        · cases hu'
      · cases hx'
  · intro τ k hl; simp [hasBit] at hl
  · intro τ τ' k hl; simp [hasBit] at hl
  · intro b T cs hb; simp at hb
  · intro b T cs b' T' cs' hb; simp at hb
  · intro τ k b T cs hl; simp [hasBit] at hl
  · intro τ h; exact h.elim
  · intro b T cs hb; simp at hb
  · intro τ hl; simp [hasBit] at hl
/-- A body's end: what the machine answers. -/
theorem fin_ret {Γ : Ctx} {w w' : World} {N : Nat → Prop} {fn : Func} {sh : Sh} {r : sh.den} {D : Nat → Prop} {s : St} {m : Mp} {a : Act} {xs : List AV} (hi : Inv w ⟨N, [], []⟩ D s m a w') (h1 : resL Γ s fn.results.toList = some xs) (h2 : toSh s.live sh xs = some r) :
    ∃ v, (results fn a.tmps).run Γ.P w' = .ok v w' ∧ Below w.heap.size w w' ∧ ResV w w' N sh r v := by
  obtain ⟨vs, hvs1, hvs2⟩ := resL_sound hi h1
  exact ⟨_, run_results fn a.tmps hvs1, hi.below, toSh_sound hi h2 hvs2⟩
theorem fin_post {Γ : Ctx} {w : World} {N : Nat → Prop} {fn : Func} {sh : Sh} {r : sh.den} {e : Exit} {a' : Act} {w' : World} (hq : CPost (finA Γ fn sh) r w ⟨N, [], []⟩ e a' w') :
    bodyPost Γ.P fn (fun e w' => ∃ v, e = .returned v ∧ Below w.heap.size w w' ∧ ResV w w' N sh r v) e a' w' := by
  obtain ⟨e', s', m', h1, h2, h3⟩ := hq
  have fin : ∀ {e' : AEx}, finA Γ fn sh e' s' = some r → a'.defers = [] ∧ ∃ v, (results fn a'.tmps).run Γ.P w' = .ok v w' ∧ ∃ v', Ending.returned v = .returned v' ∧ Below w.heap.size w w' ∧ ResV w w' N sh r v' := by
    intro e' h1
    have h1' : ∃ xs, resL Γ s' fn.results.toList = some xs ∧ toSh s'.live sh xs = some r := by
      cases e' with
      | exit _ => cases h1
      | normal =>
        simp only [finA] at h1
        split at h1
        · rename_i xs hxs; exact ⟨xs, hxs, h1⟩
        · cases h1
      | ret =>
        simp only [finA] at h1
        split at h1
        · rename_i xs hxs; exact ⟨xs, hxs, h1⟩
        · cases h1
    obtain ⟨xs, hxs, hr⟩ := h1'
    obtain ⟨v, k1, k2, k3⟩ := fin_ret h3 hxs hr
    exact ⟨h3.defers, v, k1, v, rfl, k2, k3⟩
  cases e with
  | normal => exact fin h1
  | ret => exact fin h1
  | exit id => cases e' <;> first | exact h2.elim | skip; cases h1
  | _ => cases e' <;> exact h2.elim
end Go.Eng
/- ENGINE, part Y: code in a round of a range over a function. -/
namespace Go.Eng
open Go Go.RowKit
abbrev rdF (l : Nat) : Fence := Fence.wide.inRound l
theorem oper_round {P : Program} {o : Oper} {a : Act} {w : World} {next next' : Act → World → Prop} {Q : Exit → Act → World → Prop} {l n : Nat} (hd : ∀ c, o.op ≠ .defer c) (hn : ∀ a w, next a w → next' a w) (h : o.wp P a w next Q) : o.wpIn (rdF l) n P a w next' Q := by
  unfold Oper.wp at h
  refine ⟨fun _ _ => trivial, ?_⟩
  rw [Oper.semAt_eq _ _ _ hd]
  generalize (execOp a.eval o).run P w = res at h
  cases res with
  | ok x w' =>
    cases x with
    | value v => exact hn _ _ h
    | skip => exact hn _ _ h
    | defer d => exact hn _ _ h
    | enter f args =>
      have h' : Calls P f args w' _ := h
      refine ⟨fun hh => (by cases hh), ?_⟩
      have h2 : CallsIn Fence.wide (n - 1) P f args w' _ := callsIn_wide.2 h'
      refine CallsIn.mono (F := rdF l) h2 ?_
      intro e w'' he
      cases e with
      | returned v => exact hn _ _ he
      | panicked c => exact he
      | outgrown => exact he
    | row row args =>
      have h' : Rows P row args w' _ := h
      refine ⟨fun hh => (by cases hh), fun c cs _ => ?_⟩
      obtain ⟨v, w'', r, s⟩ := h' c cs
      exact ⟨v, w'', hn _ _ r, stepsIn_wide.2 s⟩
    | _ => exact h.elim
  | halt x w' =>
    cases x with
    | panic v => exact h
    | _ => exact h.elim
section
variable {P : Program} {ops : Array Oper} {Q : Exit → Act → World → Prop} {l n : Nat}
theorem wpOps_round (hQ : ¬ LetsOut Q) (hd : ∀ (i : Nat) (o : Oper), ops[i]? = some o → ∀ c, o.op ≠ .defer c) : ∀ (is : List Nat) (a : Act) (w : World), wpOps P ops Q is a w → wpOpsIn (rdF l) n P ops Q is a w
  | [], _, _, h => h
  | i :: is, a, w, h => by
    simp only [wpOps] at h
    simp only [wpOpsIn]
    cases ho : ops[i]? with
    | none =>
      simp only [ho] at h ⊢
      exact wpOps_round hQ hd is a w h
    | some o =>
      simp only [ho] at h ⊢
      split at h
      · rename_i hw
        rw [if_pos hw]
        rcases h with h | h
        · exact oper_round (hd i o ho) (wpOps_round hQ hd is) h
        · exact absurd h.2 hQ
      · rename_i hw
        rw [if_neg hw]
        exact ⟨fun _ _ => trivial, wpOps_round hQ hd is _ w h⟩
theorem wpAny_round (hQ : ¬ LetsOut Q) (hd : ∀ (i : Nat) (o : Oper), ops[i]? = some o → ∀ c, o.op ≠ .defer c) {md : Region.Mode} : ∀ (k : Nat) (listed : Array Bool) (a : Act) (w : World), wpAny P md ops Q k listed a w → wpAnyIn (rdF l) n P md ops Q k listed a w
  | 0, _, _, _, h => h
  | k + 1, listed, a, w, h => by
    refine ⟨h.1, fun i hi => ?_⟩
    have h2 := h.2 i hi
    unfold wpOp at h2
    unfold wpOpIn
    cases ho : ops[i]? with
    | none =>
      simp only [ho] at h2 ⊢
      exact wpAny_round hQ hd k _ a w h2
    | some o =>
      simp only [ho] at h2 ⊢
      split at h2
      · rename_i hw
        rw [if_pos hw]
        rcases h2 with h2 | h2
        · exact oper_round (hd i o ho) (wpAny_round hQ hd k _) h2
        · exact absurd h2.2 hQ
      · rename_i hw
        rw [if_neg hw]
        exact ⟨fun _ _ => trivial, wpAny_round hQ hd k _ _ w h2⟩
end
/-- No deferred calls. -/
def noDefer : Code → Bool
  | .region _ ops _ => ops.toList.all fun o => match o.op with | .defer _ => false | _ => true
  | .seq x y => noDefer x && noDefer y
  | .cond _ x y => noDefer x && noDefer y
  | .block _ x => noDefer x
  | .skip => true
  | .exit _ => true
  | .ret => true
  | _ => false
section
variable {R : Type} {Γ : Ctx} {keep : Hints} {w0 : World} {Nin : Env} {l n : Nat}
theorem noOut {K : AEx → St → Option R} {r : R} : ¬ LetsOut (CPost K r w0 Nin) := by
  rintro ⟨a, w, e', s', m', _, h, _⟩
  cases e' <;> exact h.elim
theorem region_round (hΓ : CallsOk Γ) {id : Nat} {ops : Array Oper} {draw : Bool} {K : AEx → St → Option R} {r : R} {s : St} {m : Mp} {a : Act} {w : World} (hd : noDefer (.region id ops draw) = true)
    (h : (if !draw || (Γ.P.follows .mixedOrders && regionOk Γ ops) then
      aOps Γ ops s.bx.length (List.range ops.size) { s with bx := s.bx ++ List.replicate ops.size none } (K .normal) else none) = some r)
    (hi : Inv w0 Nin (fun k => k < s.bx.length) s m a w) : (Code.region id ops draw).wpIn (rdF l) n Γ.P (CPost K r w0 Nin) a w := by
  have hd' : ∀ (i : Nat) (o : Oper), ops[i]? = some o → ∀ c, o.op ≠ .defer c := by
    intro i o ho c hc
    have := List.all_eq_true.1 hd o (by simpa using Array.mem_of_getElem? ho)
    rw [hc] at this
    cases this
  split at h
  · rename_i hc
    rw [aOps_nat hΓ] at h
    obtain ⟨send, h1, h2⟩ := bind_some h
    have hQ : ∀ a' w', (∃ m', Inv w0 Nin (fun k => k < send.bx.length) send m' a' w') → CPost K r w0 Nin .normal a' w' := fun a' w' ⟨m', h4⟩ => ⟨.normal, send, m', h2, trivial, h4⟩
    have hB : ∀ k, k < s.bx.length → k < (s.bx ++ List.replicate ops.size (none : Option (TypeId × List AV))).length := fun k hk => by simp only [List.length_append]; omega
    cases draw with
    | false =>
      refine wpIn_region (wpOps_round noOut hd' _ _ _ ?_)
      exact seq_sound hΓ (List.range ops.size) s.bx.length (D := fun k => k < s.bx.length) h1 (fun i hi => ⟨fun hd => by have hd' : s.bx.length + i < s.bx.length := hd; omega, List.mem_range.1 hi⟩) List.nodup_range hB (by simp) (ext_sound hi ops.size) hQ
    | true =>
      simp only [Bool.not_true, Bool.false_or, Bool.and_eq_true] at hc
      refine wpIn_region_any hc.1 (wpAny_round noOut hd' _ _ _ _ ?_)
      have hrem : remaining ops (Array.replicate ops.size false) = List.range ops.size := by
        unfold remaining
        refine List.filter_eq_self.2 (fun i hi => ?_)
        have : i < ops.size := List.mem_range.1 hi
        simp [this]
      refine any_sound (send := send) hΓ hc.2 hQ ops.size _ s.bx.length (fun k => k < s.bx.length) { s with bx := s.bx ++ List.replicate ops.size none } m a _ (by simp) (by rw [hrem]; simp) (fun j hj hl => ?_) (by rw [hrem]; exact h1) (fun i _ hd => by have hd' : s.bx.length + i < s.bx.length := hd; omega) hB (by simp) (drew_sound (ext_sound hi ops.size))
      simp [hj] at hl
  · cases h
theorem code_round (hΓ : CallsOk Γ) {r : R} : ∀ (c : Code), noDefer c = true → ∀ (s : St) (K : AEx → St → Option R), aCode Γ keep (fun _ _ _ => none) c s K = some r →
    ∀ (m : Mp) (a : Act) (w : World), Inv w0 Nin (fun k => k < s.bx.length) s m a w → c.wpIn (rdF l) n Γ.P (CPost K r w0 Nin) a w := by
  intro c
  induction c with
  | skip => intro _ s K h m a w hi; exact wpIn_skip ⟨.normal, s, m, h, trivial, hi⟩
  | exit id => intro _ s K h m a w hi; exact wpIn_exit ⟨.exit id, s, m, h, rfl, hi⟩
  | ret => intro _ s K h m a w hi; exact wpIn_ret ⟨.ret, s, m, h, trivial, hi⟩
  | seq x y ihx ihy =>
    intro hd s K h m a w hi
    simp only [noDefer, Bool.and_eq_true] at hd
    refine wpIn_seq (wpIn_mono (ihx hd.1 s _ h m a w hi) (fun e a' w' hq => ?_))
    obtain ⟨e', s', m', h1, h2, h3⟩ := hq
    cases e with
    | normal =>
      cases e' <;> first | exact h2.elim | skip
      exact ihy hd.2 s' K h1 m' a' w' h3
    | exit id =>
      cases e' <;> first | exact h2.elim | skip
      exact ⟨_, s', m', h1, h2, h3⟩
    | ret =>
      cases e' <;> first | exact h2.elim | skip
      exact ⟨_, s', m', h1, h2, h3⟩
    | _ => cases e' <;> exact h2.elim
  | cond c x y ihx ihy =>
    intro hd s K h m a w hi
    simp only [noDefer, Bool.and_eq_true] at hd
    simp only [aCode] at h
    split at h
    · rename_i b hb
      have hc := hi.ev c
      rw [hb] at hc
      have hc' := V_bool hc
      cases b with
      | true => exact wpIn_cond_true hc' (ihx hd.1 s K h m a w hi)
      | false => exact wpIn_cond_false hc' (ihy hd.2 s K h m a w hi)
    · cases h
  | block id c ih =>
    intro hd s K h m a w hi
    refine wpIn_block (wpIn_mono (ih hd s _ h m a w hi) (fun e a' w' hq => ?_))
    obtain ⟨e', s', m', h1, h2, h3⟩ := hq
    cases e with
    | normal =>
      cases e' <;> first | exact h2.elim | skip
      exact ⟨_, s', m', h1, h2, h3⟩
    | exit j =>
      cases e' <;> first | exact h2.elim | skip
      have hj : j = _ := h2
      subst hj
      simp only at h1
      unfold Exit.inBlock
      simp only
      split at h1
      · rename_i hb
        have := Nat.eq_of_beq_eq_true hb
        subst this
        rw [if_pos rfl]
        exact ⟨.normal, s', m', h1, trivial, h3⟩
      · rename_i hb
        rw [if_neg (fun he => hb (by rw [he]; exact Nat.beq_refl _))]
        exact ⟨_, s', m', h1, rfl, h3⟩
    | ret =>
      cases e' <;> first | exact h2.elim | skip
      exact ⟨_, s', m', h1, h2, h3⟩
    | _ => cases e' <;> exact h2.elim
  | region id ops draw => intro hd s K h m a w hi; exact region_round hΓ hd h hi
  | _ => intro hd s K h; simp [noDefer] at hd
end
end Go.Eng
/- table.body: the walk of its rounds. -/
namespace Go.Eng.Bk
open Go Go.Proofs Go.RowKit
set_option linter.unusedVariables false
set_option linter.unusedSimpArgs false
set_option maxRecDepth 100000 in
set_option maxHeartbeats 4000000 in
theorem calls103 (A : Option Addr) (len cap per : Nat) (hper : 1 ≤ per) (w : World) (R : Ending → World → Prop)
    (hR : R (.returned (.func (.func 117) #[] #[.pointer (some ⟨w.heap.size, 0, none⟩), .pointer (some ⟨w.heap.size + 1, 0, none⟩)])) ((w.alloc (.cells #[.slice A len cap] 22)).alloc (.cells #[.int .i64 per] 3))) :
    Calls Try.prog 103 #[.slice A len cap, .int .i64 per] w R := by
  have d1 : decide ((per : Int) < 1) = false := decide_eq_false (by omega)
  go_enter Try.func103, Try.ntmps103
  go_wp2
  exact hR
end Go.Eng.Bk
/- table.body: its code in parts, the states at its loop. -/
namespace Go.Eng.Bk
open Go Go.Proofs Go.RowKit
set_option linter.unusedVariables false
set_option linter.unusedSimpArgs false
set_option maxRecDepth 100000
def sq1 : Code → Code
  | .seq a _ => a
  | c => c
def sq2 : Code → Code
  | .seq _ b => b
  | c => c
def inB : Code → Code
  | .block _ c => c
  | c => c
def rfA : Code → Code
  | .rangeFunc _ _ a _ => a
  | c => c
def rfB : Code → Code
  | .rangeFunc _ _ _ b => b
  | c => c
noncomputable def code82 : Code := (Try.f82.body).getD .skip
noncomputable def r0 : Code := sq1 code82
noncomputable def r1 : Code := sq1 (sq1 (sq2 code82))
noncomputable def asg : Code := rfA (inB (sq2 (sq1 (sq2 code82))))
noncomputable def bd : Code := rfB (inB (sq2 (sq1 (sq2 code82))))
noncomputable def r9 : Code := sq1 (sq2 (sq2 code82))
theorem code82_eq : Try.f82.body = some (.seq r0 (.seq (.seq r1 (.block 0 (.rangeFunc (.tmp 12) #[13] asg bd))) (.seq r9 .ret))) := by kernel_rfl
def rawU (n : Nat) : List AV := List.replicate n (.raw undef)
def t0L (l : List En) (per : Int) : List AV := [.v (.sl EntryT) l, .v i64 per, .raw undef, .raw undef, .ptr 0 0, .ptr 1 0] ++ rawU 40
def tL (l : List En) (per : Int) : List AV := [.v (.sl EntryT) l, .v i64 per, .raw undef, .raw undef, .ptr 0 0, .ptr 1 0] ++ rawU 4 ++ [.v (.sl EntryT) l, .v i64 per, .bad] ++ rawU 33
def bxL (bl pl : List Int) : List (Option (TypeId × List AV)) := [some (27, [.own 0 5 (.int .u8) bl]), some (27, [.own 1 5 (.int .u8) pl]), none, none]
def sL (l : List En) (per : Int) (bl pl : List Int) : St := ⟨tL l per, bxL bl pl, 3, []⟩
def sR0 (l : List En) (per : Int) (part : List En) (bl pl : List Int) : St := ⟨(tL l per).set 13 (.v (.sl EntryT) part), bxL bl pl, 3, tL l per⟩
def sR1 (l : List En) (per : Int) (part : List En) (bl pl : List Int) : St := ⟨((tL l per).set 13 (.v (.sl EntryT) part)).set 6 (.v (.sl EntryT) part), bxL bl pl ++ [none], 3, tL l per⟩
def kp : Hints := fun _ => (0, 0, [], [(0, 0, 5, .int .u8), (1, 0, 5, .int .u8)])
def popK (s : St) : St := canon kp .skip ⟨s.g.take 46, s.bx, s.live, s.g.drop 46⟩
def endK (e : AEx) (s : St) : Option St := match e with
  | .normal => some (popK s)
  | _ => none
section
variable (call : CallT B) (inl : InlT)
theorem r0_eq {R : Type} (l : List En) (per : Int) (K : AEx → St → Option R) : aCode (mkC B call inl) noHints (fun _ _ _ => none) r0 (st0 [.v (.sl EntryT) l, .v i64 per] 46) K =
    K .normal ⟨t0L l per, [some (27, [.nilS]), some (27, [.nilS])], 0, []⟩ := by kernel_rfl
theorem asg_eq {R : Type} (l : List En) (per : Int) (part : List En) (bl pl : List Int) (K : AEx → St → Option R) : aCode (mkC B call inl) noHints (fun _ _ _ => none) asg (sR0 l per part bl pl) K = K .normal (sR1 l per part bl pl) := by kernel_rfl
theorem start_eq (l : List En) (per : Int) : canon kp .skip ⟨tL l per, [some (27, [.nilS]), some (27, [.nilS])], 0, []⟩ = sL l per [] [] := by kernel_rfl
/-- One round, over what the calls answer. -/
def bodyS (l : List En) (per : Int) (part : List En) (bl pl : List Int) : Option St :=
  (call 17 [.v (.sl EntryT) part]).bind fun (b : List Int × Int × Unit) =>
  (call 104 [.v (.sl (.int .u8)) b.1]).bind fun (f : List Int) =>
  if (0 : Int) ≤ IntKind.i64.wrap ((part.length : Int) - 1) ∧ IntKind.i64.wrap ((part.length : Int) - 1) < (part.length : Int) then
  (call 105 [.agg [.v .str (part.getD (IntKind.i64.wrap ((part.length : Int) - 1)).toNat noEn).1.1, .v (.int .i64) (part.getD (IntKind.i64.wrap ((part.length : Int) - 1)).toNat noEn).1.2.1, .v (.int .i64) (part.getD (IntKind.i64.wrap ((part.length : Int) - 1)).toNat noEn).1.2.2.1]]).bind fun (k : List Int) =>
  if (pl.length + k.length) * 1 ≤ 140737488355328 then
  (call 55 [.v (.int .i64) (bl.length : Int)]).bind fun (n1 : List Int) =>
  if ((pl ++ k).length + n1.length) * 1 ≤ 140737488355328 then
  (call 55 [.v (.int .i64) (f.length : Int)]).bind fun (n2 : List Int) =>
  if ((pl ++ k ++ n1).length + n2.length) * 1 ≤ 140737488355328 then
  if (bl.length + f.length) * 1 ≤ 140737488355328 then some (sL l per (bl ++ f) (pl ++ k ++ n1 ++ n2)) else none else none else none else none else none
theorem bd_eq (l : List En) (per : Int) (part : List En) (bl pl : List Int) : aCode (mkC B call inl) noHints (fun _ _ _ => none) bd (sR1 l per part bl pl) endK = bodyS call l per part bl pl := by kernel_rfl
end
end Go.Eng.Bk
/- table.body: small laws for its contract. -/
namespace Go.Eng
open Go Go.RowKit
set_option linter.unusedVariables false
section
variable {w0 : World} {N : Nat → Prop} {gv : List Value} {fr fr' : List (Nat × Obj)} {D : Nat → Prop} {s : St} {m : Mp} {a : Act} {w w' : World}
theorem Inv.frame (h : Inv w0 ⟨N, gv, fr⟩ D s m a w) (hf : ∀ p ∈ fr', (vw w0 ⟨N, gv, fr⟩ s m w).N p.1 ∧ w.heap[p.1]? = some p.2) : Inv w0 ⟨N, gv, fr'⟩ D s m a w :=
  ⟨h.below, h.defers, h.tlen, h.tmps, h.toks, h.inj, h.boxes, h.binj, h.sep, h.uD, h.bD, h.liveU, h.ghost, hf⟩
theorem Inv.push (h : Inv w0 ⟨N, gv, fr⟩ D s m a w) : Inv w0 ⟨N, a.tmps.toList ++ gv, fr⟩ D ⟨s.t, s.bx, s.live, s.t ++ s.g⟩ m a w :=
  ⟨h.below, h.defers, h.tlen, h.tmps, h.toks, h.inj, h.boxes, h.binj, h.sep, h.uD, h.bD, h.liveU,
    all2_append (all2_of_get (by rw [Array.length_toList]; exact h.tlen.symm) (fun i x y hx hy => h.tmps i x y hx (by simpa using hy))) h.ghost, h.frz⟩
theorem Inv.pop {a' : Act} {k : Nat} (hk : k = a.tmps.size) (hd : a.defers = []) (h : Inv w0 ⟨N, a.tmps.toList ++ gv, fr⟩ D s m a' w) : Inv w0 ⟨N, gv, fr⟩ D ⟨s.g.take k, s.bx, s.live, s.g.drop k⟩ m a w := by
  have hgl := all2_len h.ghost
  have hgl' : s.g.length = a.tmps.toList.length + gv.length := by rw [hgl]; simp
  have hk' : k = a.tmps.toList.length := by rw [Array.length_toList]; exact hk
  refine ⟨h.below, hd, ?_, ?_, h.toks, h.inj, h.boxes, h.binj, h.sep, h.uD, h.bD, h.liveU, ?_, h.frz⟩
  · show a.tmps.size = (s.g.take k).length
    rw [List.length_take]
    rw [Array.length_toList] at hk' hgl'
    omega
  · intro i y v hy hu
    have hy' : (s.g.take k)[i]? = some y := hy
    obtain ⟨u, e1, e2⟩ := all2_get (all2_take k h.ghost) hy'
    have e3 : a.tmps.toList[i]? = some u := by
      have : (a.tmps.toList ++ gv).take k = a.tmps.toList := by rw [hk']; simp
      rw [← this]; exact e1
    have e4 : a.tmps[i]? = some u := by simpa using e3
    rw [hu] at e4
    cases e4
    exact e2
  · have := all2_drop k h.ghost
    have e1 : (a.tmps.toList ++ gv).drop k = gv := by rw [hk']; simp
    show all2 _ (s.g.drop k) gv
    rw [← e1]
    exact this
/-- New blocks. -/
theorem Inv.grow (h : Inv w0 ⟨N, gv, fr⟩ D s m a w) (hg : w.grownBy w' none) : Inv w0 ⟨N, gv, fr⟩ D s m a w' ∧ ∀ b, w.heap.size ≤ b → b < w'.heap.size → (vw w0 ⟨N, gv, fr⟩ s m w').N b := by
  obtain ⟨_, hI⟩ := grow_step (s' := s) (m' := m) (w' := w') (D' := D) h rfl rfl rfl none (fun τ hτ => by cases hτ) hg (h.below.grown hg (by have := h.below.size; omega) (fun k hk => by cases hk)) (fun τ h => h) (fun τ _ => ⟨rfl, rfl⟩)
    (fun τ _ hl => ⟨hl, by simp⟩) (fun τ hl _ => hl) (fun τ k hu hl => absurd (h.liveU τ hl) hu) (fun τ τ' k hu _ hl => absurd (h.liveU τ hl) hu) (fun τ k hτ => by cases hτ) h.uD (fun n h => h) h.liveU
  refine ⟨hI, fun b h1 h2 => ⟨h2, fun hlt => absurd hlt (by have := h.below.size; omega), fun τ hτ hk => ?_, fun i T cs hb he => ?_⟩⟩
  · have := (h.toks τ b hτ hk).2
    omega
  · obtain ⟨_, vs, hh, _⟩ := h.boxes i T cs hb
    have := (Array.getElem?_eq_some_iff.1 hh).1
    have he' : m.B i = b := he
    omega
/-- A block that is no cells turns. -/
theorem Inv.obj (h : Inv w0 ⟨N, gv, fr⟩ D s m a w) {L : Nat} {o o' : Obj} (ho : w.heap[L]? = some o) (hnc : ∀ cs T f, o ≠ .cells cs T f) (hL : (vw w0 ⟨N, gv, fr⟩ s m w).N L) (hb : w0.heap.size ≤ L) (hf : ∀ p ∈ fr', p ∈ fr ∧ p.1 ≠ L) :
    Inv w0 ⟨N, gv, (L, o') :: fr'⟩ D s m a (w.putObj L o') := by
  have hlt := (Array.getElem?_eq_some_iff.1 ho).1
  have hcell : ∀ b k u, w.cell? ⟨b, k, none⟩ = some u → (w.putObj L o').cell? ⟨b, k, none⟩ = some u := fun b k u hu => by
    by_cases hbL : b = L
    · subst hbL
      simp only [World.cell?, ho] at hu
      cases o with
      | cells cs T f => exact absurd rfl (hnc cs T f)
      | _ => cases hu
    · rw [cell_of_heap (World.putObj_heap_other hbL)]
      exact hu
  have h1 : Inv w0 ⟨N, gv, fr'⟩ D s m a w := h.frame (fun p hp => h.frz p (hf p hp).1)
  obtain ⟨h2, _⟩ := h1.turn hcell (fun τ k hτ hk => World.putObj_heap_other (fun e => hL.2.2.1 τ hτ (e ▸ hk))) (fun b T cs hbx => World.putObj_heap_other (fun e => hL.2.2.2 b T cs hbx e))
    (fun p hp => World.putObj_heap_other (hf p hp).2) World.putObj_size
    (h.below.trans ⟨rfl, rfl, rfl, by simp, fun k hk => World.putObj_heap_other (by omega)⟩)
  refine h2.frame (fun p hp => ?_)
  rcases List.mem_cons.1 hp with rfl | hp
  · exact ⟨⟨by simpa using hL.1, hL.2⟩, World.putObj_heap_same hlt⟩
  · exact h2.frz p hp
end
/-- A part of a slice that may be read. -/
theorem rep_sub {w : World} {N : Nat → Prop} {e : Ty} {xs : List e.den} {ad : Addr} {c i k c' : Nat} (h : rep w N (.sl e) xs [.slice (some ad) xs.length c]) (hik : i + k ≤ xs.length) (hc : k ≤ c') (hk : 0 < k) (he : 0 < e.sz) :
    rep w N (.sl e) ((xs.drop i).take k) [.slice (some (ad.add (i * e.sz))) k c'] := by
  obtain ⟨A, c0, inner, h1, hle, hr, hcell⟩ := h
  have hl : ((xs.drop i).take k).length = k := by rw [List.length_take, List.length_drop]; omega
  have hA : A = some ad := by cases h1; rfl
  subst hA
  have hlen := reps_len xs inner hr
  refine ⟨_, c', (inner.drop (i * e.sz)).take (k * e.sz), by rw [hl], by rw [hl]; exact hc, repsOf_take (rep_len e) _ _ _ (repsOf_drop (rep_len e) _ _ _ hr), ?_⟩
  have hpos : 0 < inner.length := by rw [hlen]; exact Nat.mul_pos (by omega) he
  rcases hcell with hcell | ⟨ad', h2, hq, hcell⟩
  · rw [hcell] at hpos; cases hpos
  · cases h2
    refine .inr ⟨_, rfl, by rw [add_block]; exact hq, fun j u hj => ?_⟩
    rw [add_add]
    rw [List.getElem?_take] at hj
    split at hj
    · rw [List.getElem?_drop] at hj
      exact hcell _ u hj
    · cases hj
end Go.Eng
namespace Go.Eng.Bk
open Go Go.Proofs Go.RowKit
theorem chunksF_drop {α : Type} {p : Nat} (hp : 1 ≤ p) : ∀ (k f : Nat) (l : List α), l.length ≤ f → (chunksF p f l).drop k = chunksF p (f - k) (l.drop (k * p))
  | 0, f, l, _ => by simp
  | k + 1, 0, l, h => by
    have : l = [] := List.eq_nil_of_length_eq_zero (by omega)
    subst this
    simp [chunksF]
  | k + 1, f + 1, [], h => by
    rw [List.drop_nil]
    cases f + 1 - (k + 1) <;> simp [chunksF]
  | k + 1, f + 1, x :: l, h => by
    show (chunksF p f ((x :: l).drop p)).drop k = _
    rw [chunksF_drop hp k f _ (by rw [List.length_drop]; simp only [List.length_cons] at h ⊢; omega), List.drop_drop, show f + 1 - (k + 1) = f - k from by omega, show p + k * p = (k + 1) * p from by rw [Nat.succ_mul]; omega]
theorem chunks_at {α : Type} {p : Nat} (hp : 1 ≤ p) (l : List α) (k : Nat) (h : k * p < l.length) : (chunks p l).drop k = (l.drop (k * p)).take p :: (chunks p l).drop (k + 1) := by
  have hk : k < l.length := Nat.lt_of_le_of_lt (Nat.le_mul_of_pos_right k hp) h
  unfold chunks
  rw [chunksF_drop hp k _ _ (Nat.le_refl _), chunksF_drop hp (k + 1) _ _ (Nat.le_refl _)]
  obtain ⟨f, hf⟩ : ∃ f, l.length - k = f + 1 := ⟨l.length - k - 1, by omega⟩
  rw [hf, show l.length - (k + 1) = f from by omega]
  cases hd : l.drop (k * p) with
  | nil => have := List.drop_eq_nil_iff.1 hd; omega
  | cons x r =>
    show (x :: r).take p :: chunksF p f ((x :: r).drop p) = _
    rw [← hd, List.drop_drop, show k * p + p = (k + 1) * p from by rw [Nat.succ_mul]]
theorem chunks_end {α : Type} {p : Nat} (hp : 1 ≤ p) (l : List α) (k : Nat) (h : l.length ≤ k * p) : (chunks p l).drop k = [] := by
  unfold chunks
  rw [chunksF_drop hp k _ _ (Nat.le_refl _), List.drop_eq_nil_iff.2 h]
  cases l.length - k <;> rfl
theorem arr46 (A : Array Value) (h : A.size = 46) : ∃ x0 x1 x2 x3 x4 x5 x6 x7 x8 x9 x10 x11 x12 x13 x14 x15 x16 x17 x18 x19 x20 x21 x22 x23 x24 x25 x26 x27 x28 x29 x30 x31 x32 x33 x34 x35 x36 x37 x38 x39 x40 x41 x42 x43 x44 x45, A = #[x0, x1, x2, x3, x4, x5, x6, x7, x8, x9, x10, x11, x12, x13, x14, x15, x16, x17, x18, x19, x20, x21, x22, x23, x24, x25, x26, x27, x28, x29, x30, x31, x32, x33, x34, x35, x36, x37, x38, x39, x40, x41, x42, x43, x44, x45] := by
  obtain ⟨l⟩ := A
  have h : l.length = 46 := h
  obtain _ | ⟨x0, l⟩ := l
  · simp at h
  obtain _ | ⟨x1, l⟩ := l
  · simp at h
  obtain _ | ⟨x2, l⟩ := l
  · simp at h
  obtain _ | ⟨x3, l⟩ := l
  · simp at h
  obtain _ | ⟨x4, l⟩ := l
  · simp at h
  obtain _ | ⟨x5, l⟩ := l
  · simp at h
  obtain _ | ⟨x6, l⟩ := l
  · simp at h
  obtain _ | ⟨x7, l⟩ := l
  · simp at h
  obtain _ | ⟨x8, l⟩ := l
  · simp at h
  obtain _ | ⟨x9, l⟩ := l
  · simp at h
  obtain _ | ⟨x10, l⟩ := l
  · simp at h
  obtain _ | ⟨x11, l⟩ := l
  · simp at h
  obtain _ | ⟨x12, l⟩ := l
  · simp at h
  obtain _ | ⟨x13, l⟩ := l
  · simp at h
  obtain _ | ⟨x14, l⟩ := l
  · simp at h
  obtain _ | ⟨x15, l⟩ := l
  · simp at h
  obtain _ | ⟨x16, l⟩ := l
  · simp at h
  obtain _ | ⟨x17, l⟩ := l
  · simp at h
  obtain _ | ⟨x18, l⟩ := l
  · simp at h
  obtain _ | ⟨x19, l⟩ := l
  · simp at h
  obtain _ | ⟨x20, l⟩ := l
  · simp at h
  obtain _ | ⟨x21, l⟩ := l
  · simp at h
  obtain _ | ⟨x22, l⟩ := l
  · simp at h
  obtain _ | ⟨x23, l⟩ := l
  · simp at h
  obtain _ | ⟨x24, l⟩ := l
  · simp at h
  obtain _ | ⟨x25, l⟩ := l
  · simp at h
  obtain _ | ⟨x26, l⟩ := l
  · simp at h
  obtain _ | ⟨x27, l⟩ := l
  · simp at h
  obtain _ | ⟨x28, l⟩ := l
  · simp at h
  obtain _ | ⟨x29, l⟩ := l
  · simp at h
  obtain _ | ⟨x30, l⟩ := l
  · simp at h
  obtain _ | ⟨x31, l⟩ := l
  · simp at h
  obtain _ | ⟨x32, l⟩ := l
  · simp at h
  obtain _ | ⟨x33, l⟩ := l
  · simp at h
  obtain _ | ⟨x34, l⟩ := l
  · simp at h
  obtain _ | ⟨x35, l⟩ := l
  · simp at h
  obtain _ | ⟨x36, l⟩ := l
  · simp at h
  obtain _ | ⟨x37, l⟩ := l
  · simp at h
  obtain _ | ⟨x38, l⟩ := l
  · simp at h
  obtain _ | ⟨x39, l⟩ := l
  · simp at h
  obtain _ | ⟨x40, l⟩ := l
  · simp at h
  obtain _ | ⟨x41, l⟩ := l
  · simp at h
  obtain _ | ⟨x42, l⟩ := l
  · simp at h
  obtain _ | ⟨x43, l⟩ := l
  · simp at h
  obtain _ | ⟨x44, l⟩ := l
  · simp at h
  obtain _ | ⟨x45, l⟩ := l
  · simp at h
  obtain _ | ⟨y, l⟩ := l
  · exact ⟨x0, x1, x2, x3, x4, x5, x6, x7, x8, x9, x10, x11, x12, x13, x14, x15, x16, x17, x18, x19, x20, x21, x22, x23, x24, x25, x26, x27, x28, x29, x30, x31, x32, x33, x34, x35, x36, x37, x38, x39, x40, x41, x42, x43, x44, x45, rfl⟩
  · simp at h
end Go.Eng.Bk
/- A table's blocks and places, its users; the document's table: what the functions answer. -/
namespace Go.Eng.Bk
open Go Go.Proofs Go.Eng
set_option linter.unusedVariables false
set_option linter.unusedSimpArgs false
def bodyP : List (List En) → List Int → List Int → List Int × List Int
  | [], bl, pl => (bl, pl)
  | part :: r, bl, pl => bodyP r (bl ++ frm (putBlock part).1) (pl ++ putK (part.getD (part.length - 1) noEn).1 ++ enc bl.length ++ enc (frm (putBlock part).1).length)
theorem fpb_le (l : List En) : (frm (putBlock l).1).length ≤ 40008 := by
  have h1 := frm_le (putBlock l).1
  have h2 := putBlock_length l
  omega
theorem bodyL_eq {k : Nat} (hk : 60000 ≤ k) : ∀ (ls : List (List En)) (bl pl : List Int), (∀ part ∈ ls, part.length ≤ 1000) → bl.length + 50000 * ls.length ≤ 1000000000 → pl.length + 200 * ls.length ≤ 1000000000 →
    bodyL (callN B k) ls bl pl = some ((bodyP ls bl pl).1, (bodyP ls bl pl).2, ())
  | [], bl, pl, _, _, _ => rfl
  | part :: r, bl, pl, h, hb, hp => by
    have hpart := h part (by simp)
    have h1 := fpb_le part
    have h2 := putK_length (part.getD (part.length - 1) noEn).1
    rw [List.length_cons] at hb hp
    have h3 := enc_length9 (n := bl.length) (by omega)
    have h4 := enc_length9 (n := (frm (putBlock part).1).length) (by omega)
    have h5 := putBlock_length part
    refine bnd (s17 (k := k) (l := part) (by omega) (by omega)) ?_
    refine bnd (s104 (k := k) (l := (putBlock part).1) (by omega) (by omega)) ?_
    refine bnd (s105 (k := k) (by omega) (part.getD (part.length - 1) noEn).1) ?_
    rw [if_pos (by omega)]
    refine bnd (s55 (k := k) (by omega) (n := bl.length) (by omega)) ?_
    rw [if_pos (by rw [List.length_append]; omega)]
    refine bnd (s55 (k := k) (by omega) (n := (frm (putBlock part).1).length) (by omega)) ?_
    rw [if_pos (by rw [List.length_append, List.length_append]; omega), if_pos (by omega)]
    exact bodyL_eq hk r _ _ (fun q hq => h q (by simp [hq])) (by rw [List.length_append]; omega) (by simp only [List.length_append]; omega)
theorem chunksF_length {α : Type} {p : Nat} (hp : 1 ≤ p) : ∀ (f : Nat) (l : List α), (chunksF p f l).length ≤ f
  | 0, _ => Nat.le_refl _
  | f + 1, [] => Nat.zero_le _
  | f + 1, x :: l => by
    show ((x :: l).take p :: chunksF p f ((x :: l).drop p)).length ≤ _
    rw [List.length_cons]
    have := chunksF_length hp f ((x :: l).drop p)
    omega
theorem chunks_length {α : Type} {p : Nat} (hp : 1 ≤ p) (l : List α) : (chunks p l).length ≤ l.length := chunksF_length hp _ l
theorem chunksF_mem {α : Type} {p : Nat} : ∀ (f : Nat) (l : List α), ∀ q ∈ chunksF p f l, q.length ≤ l.length ∧ ∀ x ∈ q, x ∈ l
  | 0, _, q, h => by cases h
  | f + 1, [], q, h => by cases h
  | f + 1, x :: l, q, h => by
    rcases List.mem_cons.1 (show q ∈ (x :: l).take p :: chunksF p f ((x :: l).drop p) from h) with h | h
    · rw [h]
      exact ⟨by rw [List.length_take]; omega, fun y hy => List.mem_of_mem_take hy⟩
    · obtain ⟨h1, h2⟩ := chunksF_mem f _ q h
      rw [List.length_drop] at h1
      exact ⟨by omega, fun y hy => List.mem_of_mem_drop (h2 y hy)⟩
/-- A table's blocks, the places of them. -/
def bodyT (l : List En) (per : Nat) : List Int × List Int := bodyP (chunks per l) [] []
theorem s82 {k : Nat} (hk : 70000 ≤ k) {l : List En} (h1 : 1 ≤ l.length) (h2 : l.length ≤ 1000) (per : Nat) (hp : 1 ≤ per) (hp2 : per ≤ 1000) : callN B k 82 [argAV (.sl EntryT) l, argAV i64 (per : Int)] = (some ((bodyT l per).1, (bodyT l per).2, ()) : Option (List Int × List Int × Unit)) := by
  obtain ⟨k, rfl⟩ := Nat.exists_eq_add_of_le' (show 1 ≤ k by omega)
  have e : callN B (k + 1) 82 [argAV (.sl EntryT) l, argAV i64 (per : Int)] = (if (1 : Int) ≤ (per : Int) ∧ ((per : Int) : Int) ≤ 1000000 ∧ List.length l ≤ 1000000 ∧ 1 ≤ List.length l then bodyL (callN B k) (chunks (Int.toNat (per : Int)) l) [] [] else none : Option (List Int × List Int × Unit)) := by kernel_rfl
  refine e.trans ?_
  rw [if_pos (by omega), Int.toNat_natCast]
  have := chunks_length hp l
  exact bodyL_eq (by omega) _ _ _ (fun q hq => by have := (chunksF_mem l.length l q hq).1; omega) (by simp only [List.length_nil]; omega) (by simp only [List.length_nil]; omega)
theorem bodyP_len : ∀ (ls : List (List En)) (bl pl : List Int), (bodyP ls bl pl).1.length ≤ bl.length + 40008 * ls.length ∧ (pl.length + 50000 * ls.length ≤ 1000000000 → bl.length + 50000 * ls.length ≤ 1000000000 → (bodyP ls bl pl).2.length ≤ pl.length + 100 * ls.length)
  | [], bl, pl => by constructor <;> simp [bodyP]
  | part :: r, bl, pl => by
    have h1 := fpb_le part
    have h2 := putK_length (part.getD (part.length - 1) noEn).1
    obtain ⟨a, b⟩ := bodyP_len r (bl ++ frm (putBlock part).1) (pl ++ putK (part.getD (part.length - 1) noEn).1 ++ enc bl.length ++ enc (frm (putBlock part).1).length)
    rw [List.length_cons]
    constructor
    · refine Nat.le_trans a ?_
      rw [List.length_append]; omega
    · intro h5 h6
      have h3 := enc_length9 (n := bl.length) (by omega)
      have h4 := enc_length9 (n := (frm (putBlock part).1).length) (by omega)
      refine Nat.le_trans (b (by simp only [List.length_append]; omega) (by simp only [List.length_append]; omega)) ?_
      simp only [List.length_append]; omega
theorem bodyT_len {l : List En} {per : Nat} (hp : 1 ≤ per) (h : l.length ≤ 256) : (bodyT l per).1.length ≤ 11000000 ∧ (bodyT l per).2.length ≤ 30000 := by
  have h0 := chunks_length hp l
  obtain ⟨a, b⟩ := bodyP_len (chunks per l) [] []
  have := b (by simp only [List.length_nil]; omega) (by simp only [List.length_nil]; omega)
  simp only [List.length_nil] at a this
  unfold bodyT
  omega
/-- A table's bytes. -/
def tableL (l : List En) (per : Nat) (f : List Int) : List Int := wholeL (bodyT l per).1 f (bodyT l per).2 l.length
theorem take_min {α : Type} (l : List α) (q : Nat) : l.take (min l.length q) = l.take q := by
  by_cases h : q ≤ l.length
  · rw [Nat.min_eq_right h]
  · rw [Nat.min_eq_left (by omega), List.take_length, List.take_of_length_le (by omega)]
theorem minI_nat (a b : Nat) : minI (a : Int) (b : Int) = ((min a b : Nat) : Int) := by unfold minI; split <;> omega
theorem l86e {k : Nat} (hk : 1100000 ≤ k) {inl : InlT} (m : Nat) {l : List En} (hl : l.length ≤ 256) (per : Nat) {f : List Int} (hf : f.length ≤ 1048576) {bl pl : List Int} (hb : bl.length ≤ 100000000) (hp : pl.length ≤ 1000000) (i : Nat) (hi : l.length ≤ i) :
    LP B (callN B k) inl 86 (m + 1) [1, 1, 0, 1] (s86_13 l (per : Int) f bl pl (i : Int)) (KA B (callN B k) inl 86 k [1, 1, 0, 1] (FI B (callN B k) inl 86)) = (some (wholeL bl f pl l.length) : Option (List Int)) := by
  have h1 := frm_le f
  have h2 := frm_le pl
  rw [s86_13_l, bF (by omega), s86_13x19_k]
  refine bnd (s109 (by omega) (by omega)) ?_
  rw [if_pos (by omega)]
  refine bnd (s109 (by omega) (by omega)) ?_
  rw [if_pos (by simp only [List.length_append]; omega)]
  refine bnd (s71 (by omega) bl.length 4 (by omega) (by omega) (by omega)) ?_
  rw [if_pos (by simp only [List.length_append, fx_length]; omega)]
  refine bnd (s71 (by omega) (bl ++ frm f).length 4 (by omega) (by omega) (by rw [List.length_append]; omega)) ?_
  rw [if_pos (by simp only [List.length_append, fx_length]; omega)]
  refine bnd (s71 (by omega) l.length 4 (by omega) (by omega) (by omega)) ?_
  have hz : (ByteArray.mk #[(105 : UInt8), (99 : UInt8), (98 : UInt8), (49 : UInt8)]).size = 4 := rfl
  rw [if_pos (by simp only [List.length_append, fx_length]; omega), if_pos (by rw [hz]; simp only [List.length_append, fx_length]; omega)]
  rfl
theorem l86 {k : Nat} (hk : 1100000 ≤ k) {inl : InlT} {l : List En} (hl : l.length ≤ 256) (per : Nat) (hp1 : 1 ≤ per) (hp2 : per ≤ 1000) {f : List Int} (hf : f.length ≤ 1048576) (d : Nat) : ∀ (i m : Nat) (bl pl : List Int), i ≤ l.length → l.length ≤ i * per + d → d < m → bl.length ≤ i * 40008 → pl.length ≤ i * 100 →
    LP B (callN B k) inl 86 m [1, 1, 0, 1] (s86_13 l (per : Int) f bl pl ((i * per : Nat) : Int)) (KA B (callN B k) inl 86 k [1, 1, 0, 1] (FI B (callN B k) inl 86)) = (some (wholeL (bodyP ((chunks per l).drop i) bl pl).1 f (bodyP ((chunks per l).drop i) bl pl).2 l.length) : Option (List Int)) := by
  induction d with
  | zero =>
    intro i m bl pl hi hd hm hb hp
    obtain ⟨m, rfl⟩ : ∃ k, m = k + 1 := ⟨m - 1, by omega⟩
    rw [chunks_end hp1 l i (by omega)]
    exact l86e hk m hl per hf (by omega) (by omega) _ (by omega)
  | succ d ih =>
    intro i m bl pl hi hd hm hb hp
    obtain ⟨m, rfl⟩ : ∃ k, m = k + 1 := ⟨m - 1, by omega⟩
    by_cases hlt : l.length ≤ i * per
    · rw [chunks_end hp1 l i hlt]
      exact l86e hk m hl per hf (by omega) (by omega) _ hlt
    have hip : i ≤ i * per := Nat.le_mul_of_pos_right i hp1
    rw [chunks_at hp1 l i (by omega)]
    obtain ⟨j, hj⟩ : ∃ j, i * per = j := ⟨_, rfl⟩
    have hj1 : (i + 1) * per = j + per := by rw [Nat.succ_mul, hj]
    rw [hj] at hd hlt hip ⊢
    have hparts : List.drop j (List.take (min l.length (j + per)) l) = (l.drop j).take per := by rw [take_min, List.drop_take]; congr 1; omega
    obtain ⟨part, hpart⟩ : ∃ q, (l.drop j).take per = q := ⟨_, rfl⟩
    rw [hpart] at hparts ⊢
    have hpl : part.length = min per (l.length - j) := by rw [← hpart, List.length_take, List.length_drop]
    have h1 := fpb_le part
    have h2 := putK_length (part.getD (part.length - 1) noEn).1
    have h3 := enc_length9 (n := bl.length) (by omega)
    have h4 := enc_length9 (n := (frm (putBlock part).1).length) (by omega)
    have h5 := putBlock_length part
    have ew : IntKind.i64.wrap ((j : Int) + (per : Int)) = ((j + per : Nat) : Int) := by rw [w64 (by omega) (by omega)]; omega
    rw [s86_13_l, bT (by omega), ew, minI_nat, if_pos (by omega), Int.toNat_natCast, Int.toNat_natCast, hparts]
    refine bnd (s37 (k := k) (l := part) (by omega) (by omega)) ?_
    refine bnd (s109 (k := k) (l := (putBlock part).1) (by omega) (by omega)) ?_
    have el : IntKind.i64.wrap ((part.length : Int) - (1 : Int)) = ((part.length - 1 : Nat) : Int) := by rw [w64 (by omega) (by omega)]; omega
    rw [el, if_pos (by omega), Int.toNat_natCast]
    refine bnd (s110 (k := k) (by omega) (part.getD (part.length - 1) noEn).1) ?_
    rw [if_pos (by omega)]
    refine bnd (s73 (k := k) (by omega) (n := bl.length) (by omega)) ?_
    rw [if_pos (by rw [List.length_append]; omega)]
    refine bnd (s73 (k := k) (by omega) (n := (frm (putBlock part).1).length) (by omega)) ?_
    rw [if_pos (by rw [List.length_append, List.length_append]; omega), if_pos (by omega), ← hj1]
    exact ih (i + 1) m _ _ (by omega) (by omega) (by omega) (by rw [List.length_append]; omega) (by simp only [List.length_append]; omega)
theorem s86 {k : Nat} (hk : 1100001 ≤ k) {l : List En} (hl : l.length ≤ 256) (per : Nat) (hp1 : 1 ≤ per) (hp2 : per ≤ 1000) {f : List Int} (hf : f.length ≤ 1048576) : callN B k 86 [argAV (.sl EntryT) l, argAV i64 (per : Int), argAV (.sl u8) f] = (some (tableL l per f) : Option (List Int)) := by
  obtain ⟨k, rfl⟩ := Nat.exists_eq_add_of_le' (show 1 ≤ k by omega)
  refine (callS k 86 _).trans ((t86 (callN B k) (lvl B k).2 k l (per : Int) f).trans ?_)
  have := l86 (k := k) (by omega) (inl := (lvl B k).2) hl per hp1 hp2 hf l.length 0 k [] [] (Nat.zero_le _) (by omega) (by omega) (by simp) (by simp)
  rw [Nat.zero_mul] at this
  exact this
/-! ### users -/
def usrA (l : List En) : Array (List UInt8) := ((l.map fun e => e.1.1).map fun s => s.data.toList).toArray
def usr (l : List En) : List ByteArray := cmpct (l.map fun e => e.1.1)
theorem s84 {k : Nat} (hk : 1 ≤ k) {l : List En} (hl : l.length ≤ 1000) : callN B k 84 [argAV (.sl EntryT) l] = (some (usr l) : Option (List ByteArray)) := by
  obtain ⟨k, rfl⟩ := Nat.exists_eq_add_of_le' hk
  have e : callN B (k + 1) 84 [argAV (.sl EntryT) l] = (if List.length l * 16 ≤ 140737488355328 then some (cmpct (l.map fun e => e.1.1)) else none : Option (List ByteArray)) := by kernel_rfl
  exact e.trans (if_pos (by omega))
def usrU (l : List En) (i : Nat) : List ByteArray := (Lib.compactUpTo (usrA l) i).map fun u => ByteArray.mk u.toArray
theorem usrA_get {l : List En} {i : Nat} (h : i < l.length) : (usrA l)[i]! = (l.getD i noEn).1.1.data.toList := by
  rw [getD_lt' h, getElem!_pos (usrA l) i (by simp [usrA, h])]
  simp [usrA]
theorem usrU_len (l : List En) (i : Nat) : (usrU l i).length ≤ i := by
  unfold usrU Lib.compactUpTo
  rw [List.length_map, List.length_map]
  exact Nat.le_trans (List.length_filter_le _ _) (by rw [List.length_range]; exact Nat.le_refl _)
theorem usrU_yes {l : List En} {i : Nat} (h : i < l.length) (hk : Lib.keeps (usrA l) i = true) : usrU l i ++ [(l.getD i noEn).1.1] = usrU l (i + 1) := by
  unfold usrU
  rw [Lib.compactUpTo_succ, if_pos hk, List.map_append, List.map_cons, List.map_nil, usrA_get h]
theorem usrU_no {l : List En} {i : Nat} (hk : Lib.keeps (usrA l) i = false) : usrU l i = usrU l (i + 1) := by
  unfold usrU
  rw [Lib.compactUpTo_succ, if_neg (by rw [hk]; decide), List.append_nil]
theorem usr_all (l : List En) : usr l = usrU l l.length := by
  have h : ((l.map fun e => e.1.1).map fun s => s.data.toList).length = l.length := by rw [List.length_map, List.length_map]
  have e : Lib.compact ((l.map fun e => e.1.1).map fun s => s.data.toList) = Lib.compactUpTo (usrA l) l.length := by
    unfold Lib.compact
    rw [h]
    rfl
  unfold usr cmpct usrU
  rw [e]
theorem l87 {call : CallT B} {inl : InlT} (m0 : Nat) {l : List En} (hl : l.length ≤ 1000) (d : Nat) : ∀ (i m : Nat), i + d = l.length → d < m →
    LP B call inl 87 m [1, 1, 0, 1] (s87_2 l (usrU l i) (i : Int)) (KA B call inl 87 m0 [1, 1, 0, 1] (FI B call inl 87)) = (some (usr l) : Option (List ByteArray)) := by
  induction d with
  | zero =>
    intro i m hd hm
    obtain ⟨m, rfl⟩ : ∃ k, m = k + 1 := ⟨m - 1, by omega⟩
    rw [s87_2_l, bF (by omega), s87_2x3_k]
    rw [show i = l.length from by omega, usr_all]
  | succ d ih =>
    intro i m hd hm
    obtain ⟨m, rfl⟩ : ∃ k, m = k + 1 := ⟨m - 1, by omega⟩
    have hu := usrU_len l i
    rw [s87_2_l, bT (by omega)]
    have hA : ((usrU l i).length + [(l.getD i noEn).1.1].length) * (16 : Nat) ≤ 140737488355328 := by rw [List.length_singleton]; omega
    have hB : (0 : Int) ≤ (i : Int) ∧ (i : Int) < (l.length : Int) := by omega
    rw [w64 (x := (i : Int) + 1) (by omega) (by omega), Int.toNat_natCast, if_pos hB, if_pos hA]
    by_cases h0 : i = 0
    · subst h0
      rw [show (((0 : Nat) : Int) == (0 : Int)) = true from rfl, show (true == false) = false from rfl, cond_false]
      refine Eq.trans ?_ (ih 1 m (by omega) (by omega))
      rw [usrU_yes (l := l) (i := 0) (by omega) (Lib.keeps_lt_one _ 0 (by omega))]
      try rw [if_pos hB]
      try rw [if_pos hA]
      rfl
    · rw [show ((i : Int) == (0 : Int)) = false from beq_eq_false_iff_ne.2 (by omega), show (false == false) = true from rfl, cond_true, w64 (x := (i : Int) - 1) (by omega) (by omega), if_pos (show (0 : Int) ≤ (i : Int) - 1 ∧ (i : Int) - 1 < (l.length : Int) by omega), show ((i : Int) - 1).toNat = i - 1 from by omega]
      by_cases he : (l.getD i noEn).1.1 = (l.getD (i - 1) noEn).1.1
      · have hk : Lib.keeps (usrA l) i = false := Lib.keeps_neg (by omega) (by rw [usrA_get (by omega), usrA_get (by omega), he])
        have e1 : (!(ByteArray.toList (l.getD i noEn).1.1 == ByteArray.toList (l.getD (i - 1) noEn).1.1)) = false := by rw [he, beq_self_eq_true]; rfl
        rw [e1, cond_false, usrU_no hk]
        exact ih (i + 1) m (by omega) (by omega)
      · have hk : Lib.keeps (usrA l) i = true := Lib.keeps_pos (by rw [usrA_get (by omega), usrA_get (by omega), ← ba_toList, ← ba_toList]; exact fun h => he (ba_ext h))
        have e1 : (!(ByteArray.toList (l.getD i noEn).1.1 == ByteArray.toList (l.getD (i - 1) noEn).1.1)) = true := by rw [beq_eq_false_iff_ne.2 (fun h => he (ba_ext h))]; rfl
        rw [e1, cond_true]
        try rw [if_pos hB]
        try rw [if_pos hA]
        rw [usrU_yes (by omega) hk]
        exact ih (i + 1) m (by omega) (by omega)
theorem s87 {k : Nat} {l : List En} (hl : l.length ≤ 1000) (hk : l.length + 5 ≤ k) : callN B k 87 [argAV (.sl EntryT) l] = (some (usr l) : Option (List ByteArray)) := by
  obtain ⟨k, rfl⟩ := Nat.exists_eq_add_of_le' (show 1 ≤ k by omega)
  refine (callS k 87 _).trans ((t87 (callN B k) (lvl B k).2 k l).trans ?_)
  exact l87 k hl l.length 0 k (by omega) (by omega)
theorem usr_len (l : List En) : (usr l).length ≤ l.length := by
  have := usrU_len l l.length
  rw [usr_all]
  exact this
theorem usr_mem {l : List En} {s : ByteArray} (h : s ∈ usr l) : ∃ e ∈ l, s = e.1.1 := by
  rw [usr_all] at h
  unfold usrU Lib.compactUpTo at h
  rw [List.map_map] at h
  obtain ⟨j, hj, rfl⟩ := List.mem_map.1 h
  have hj2 := List.mem_range.1 (List.mem_filter.1 hj).1
  refine ⟨l.getD j noEn, getD_mem hj2 _, ?_⟩
  show ByteArray.mk (Array.mk ((usrA l)[j]!)) = _
  rw [usrA_get hj2]
end Go.Eng.Bk
/- What the machine answers at some functions of the program: printed by the generator, each checked by the kernel. -/
namespace Go.Eng.Bk
open Go Go.Proofs Go.Eng
set_option linter.unusedVariables false
set_option maxRecDepth 100000
section
variable (call : CallT B) (inl : InlT) (m : Nat)
/-! function 20 -/
def s20_1 (a0 : (List ByteArray)) (x0 : Int) : St := { t := [(.v (.sl .str) (a0)), .bad, .bad, (.v (.int .i64) (x0)), .bad, .bad, .bad, .bad, .bad, .bad, .bad, .bad, .bad, .bad, .bad, .bad, .bad, .bad, .bad, .bad, (.raw undef), (.raw undef), (.raw undef)], bx := [], live := 0, g := [] }
def s20_1x2 (y0 : (List ByteArray)) : St := { t := [(.v (.sl .str) (y0)), .bad, (.v .bool (true)), .bad, .bad, .bad, .bad, .bad, .bad, .bad, .bad, .bad, .bad, .bad, .bad, .bad, .bad, .bad, .bad, .bad, (.raw undef), (.raw undef), (.raw undef)], bx := [none, none, none, none, none, none, none, none, none, none, none, none, none, none, none], live := 0, g := [] }
def s20_1x3 (y0 : (List ByteArray)) : St := { t := [(.v (.sl .str) (y0)), .bad, .bad, .bad, .bad, .bad, .bad, .bad, .bad, .bad, .bad, .bad, .bad, .bad, .bad, .bad, .bad, .bad, .bad, .bad, (.raw undef), (.raw undef), (.raw undef)], bx := [none, none, none, none, none, none, none, none], live := 0, g := [] }
theorem s20_1_l {R : Type} (K : AEx → St → Option R) (a0 : (List ByteArray)) (x0 : Int) : LP B call inl 20 (m + 1) [1, 0, 1] (s20_1 a0 x0) K = (bif decide (x0 < (↑(List.length a0) : Int)) == true then (bif decide (x0 < (100 : Int)) then (if (0 : Int) ≤ x0 ∧ x0 < (↑(List.length a0) : Int) then (bif decide ((↑(ByteArray.size (List.getD a0 x0.toNat (ByteArray.mk #[]))) : Int) > (300 : Int)) then (K .ret (s20_1x2 a0)) else (LP B call inl 20 m [1, 0, 1] (s20_1 a0 (IntKind.i64.wrap (x0 + (1 : Int)))) K)) else (none)) else (K (.exit 0) (s20_1x3 a0))) else (K (.exit 0) (s20_1x3 a0))) := by kernel_rfl
theorem s20_1x2_k (a0 : (List ByteArray)) : (KA B call inl 20 m [1, 0, 1] (FI B call inl 20)) .ret (s20_1x2 a0) = (some (true)) := by kernel_rfl
theorem s20_1x3_k (a0 : (List ByteArray)) : (KA B call inl 20 m [1, 0, 1] (FI B call inl 20)) (.exit 0) (s20_1x3 a0) = (some (decide ((↑(List.length a0) : Int) > (80 : Int)))) := by kernel_rfl
theorem t20 (a0 : (List ByteArray)) : stepN B call inl m 20 [argAV (.sl .str) a0] = (LP B call inl 20 m [1, 0, 1] (s20_1 a0 ((0 : Int))) (KA B call inl 20 m [1, 0, 1] (FI B call inl 20)) : Option Bool) := by kernel_rfl
/-! function 21 -/
theorem t21 : stepN B call inl m 21 [] = ((call 22 [(.v (.flt .f64) ((4621819117588971520 : Nat)))]).bind fun (v0 : Int) => bif (v0 == (7 : Int)) == true then ((call 30 [(.v (.int .i64) ((1 : Int)))]).bind fun (v1 : Nat) => (call 22 [(.v (.flt .f64) (v1))]).bind fun (v2 : Int) => some (v2 == (12 : Int))) else (some (false)) : Option Bool) := by kernel_rfl
/-! function 22 -/
theorem t22 (a0 : Nat) : stepN B call inl m 22 [argAV (.flt .f64) a0] = ((call 28 [(.v (.flt .f64) (a0))]).bind fun (v0 : Bool) => bif v0 == false then (bif Go.FloatKind.f64.format.order a0 (4607182418800017408 : Nat) == Option.some Ordering.lt then (some ((0 : Int))) else ((call 58 [(.v (.flt .f64) (a0)), (.v (.int .i64) ((1 : Int)))]).bind fun (v1 : Bool) => bif v1 then (some ((12 : Int))) else ((Go.FloatKind.f64.format.mul (4604480259023595110 : Nat) a0).bind fun (v2 : Nat) => (call 59 [(.v (.flt .f64) (v2))]).bind fun (v3 : Nat) => (fm2 false Go.FloatKind.f64 (4622945017495814144 : Nat) v3).bind fun (v4 : Nat) => (fm2 true Go.FloatKind.f64 (4607182418800017408 : Nat) v4).bind fun (v5 : Nat) => (fToI Go.FloatKind.f64 v5 IntKind.i64).bind fun (v6 : Int) => some (v6)))) else (some ((0 : Int))) : Option Int) := by kernel_rfl
/-! function 23 -/
theorem t23 (a0 : Nat) : stepN B call inl m 23 [argAV (.flt .f64) a0] = ((call 28 [(.v (.flt .f64) (a0))]).bind fun (v0 : Bool) => bif v0 == false then (bif Go.FloatKind.f64.format.order a0 (4607182418800017408 : Nat) == Option.some Ordering.lt then (some ((0 : Int))) else ((Go.FloatKind.f64.format.mul (4604480259023595110 : Nat) a0).bind fun (v1 : Nat) => (call 59 [(.v (.flt .f64) (v1))]).bind fun (v2 : Nat) => (fm2 false Go.FloatKind.f64 (4622945017495814144 : Nat) v2).bind fun (v3 : Nat) => (fm2 true Go.FloatKind.f64 (4607182418800017408 : Nat) v3).bind fun (v4 : Nat) => (fToI Go.FloatKind.f64 v4 IntKind.i64).bind fun (v5 : Int) => some (v5))) else (some ((0 : Int))) : Option Int) := by kernel_rfl
/-! function 24 -/
def s24_15 (a0 : (List ByteArray)) (v0 : Int) (v4 : Int) (x9 : Int) (x10 : (List Int)) : St := { t := [.bad, .bad, .bad, .bad, .nilS, (.v (.int .i64) (v0)), (.v (.int .i64) (IntKind.i64.wrap (IntKind.i64.wrap ((IntKind.i64.wrap (maxI (64 : Int) v4 + (7 : Int))).tdiv (8 : Int)) * (8 : Int)))), (.ptr 0 0), .bad, .bad, .bad, .bad, .bad, .bad, .bad, .bad, .bad, .bad, .bad, .bad, .bad, .bad, .bad, .bad, .bad, .bad, .bad, .bad, .bad, .bad, .bad, (.v (.sl .str) (a0)), (.v (.int .i64) ((↑(List.length a0) : Int))), (.v (.int .i64) (x9)), .bad, .bad, .bad, .bad, .bad, .bad, .bad, .bad, .bad, (.raw undef), (.raw undef), (.raw undef), (.raw undef), (.raw undef), (.raw undef), (.raw undef)], bx := [(some (27, [(.own 0 5 (.int .u8) (x10))])), none], live := 1, g := [] }
def c24_60_16 (y0 : (List ByteArray)) (y1 : Int) (y2 : Int) (y3 : Int) (y4 : (List Int)) : St := { t := [.bad, .bad, .bad, .bad, .nilS, (.v (.int .i64) (y1)), (.v (.int .i64) (IntKind.i64.wrap (IntKind.i64.wrap ((IntKind.i64.wrap (maxI (64 : Int) y2 + (7 : Int))).tdiv (8 : Int)) * (8 : Int)))), (.ptr 0 0), .bad, (.v .str (List.getD y0 y3.toNat (ByteArray.mk #[]))), .bad, .bad, .bad, .bad, .bad, .bad, .bad, .bad, .bad, .bad, .bad, .bad, .bad, .bad, .bad, .bad, .bad, .bad, .bad, .bad, .bad, (.v (.sl .str) (y0)), (.v (.int .i64) ((↑(List.length y0) : Int))), (.v (.int .i64) (y3)), (.v .bool (decide (y3 < (↑(List.length y0) : Int)))), (.ro [(.v .str (List.getD y0 y3.toNat (ByteArray.mk #[])))]), (.v .str (List.getD y0 y3.toNat (ByteArray.mk #[]))), (.v .str (List.getD y0 y3.toNat (ByteArray.mk #[]))), (.v (.int .i64) (y1)), (.v (.int .i64) (IntKind.i64.wrap (IntKind.i64.wrap ((IntKind.i64.wrap (maxI (64 : Int) y2 + (7 : Int))).tdiv (8 : Int)) * (8 : Int)))), (.fn 61 [(.ptr 0 0)]), .bad, .bad, (.raw undef), (.raw undef), (.raw undef), (.raw undef), (.raw undef), (.raw undef), (.raw undef)], bx := [(some (27, [(.own 0 5 (.int .u8) (y4))])), none, none, none, none, none, none, none, none, none, none], live := 1, g := [] }
def s60_21 (a0 : (List ByteArray)) (v0 : Int) (v4 : Int) (x9 : Int) (v17 : Int) (v18 : Int) (x19 : Int) (x20 : (List Int)) : St := { t := [.bad, .bad, (.v (.int .i64) (IntKind.i64.wrap (IntKind.i64.wrap ((IntKind.i64.wrap (maxI (64 : Int) v4 + (7 : Int))).tdiv (8 : Int)) * (8 : Int)))), (.fn 61 [(.ptr 0 0)]), .bad, .bad, .bad, .bad, .bad, (.v (.int .u32) (IntKind.u32.wrap v17)), (.v (.int .u32) (v18)), .bad, .bad, .bad, .bad, .bad, .bad, (.v (.int .i64) (v0)), (.v (.int .i64) (x19)), .bad, .bad, .bad, .bad, .bad, .bad, .bad, .bad, .bad, .bad, .bad, .bad, .bad, .bad, .bad], bx := [(some (27, [(.own 0 5 (.int .u8) (x20))])), none], live := 1, g := [.bad, .bad, .bad, .bad, .nilS, (.v (.int .i64) (v0)), (.v (.int .i64) (IntKind.i64.wrap (IntKind.i64.wrap ((IntKind.i64.wrap (maxI (64 : Int) v4 + (7 : Int))).tdiv (8 : Int)) * (8 : Int)))), (.ptr 0 0), .bad, (.v .str (List.getD a0 x9.toNat (ByteArray.mk #[]))), .bad, .bad, .bad, .bad, .bad, .bad, .bad, .bad, .bad, .bad, .bad, .bad, .bad, .bad, .bad, .bad, .bad, .bad, .bad, .bad, .bad, (.v (.sl .str) (a0)), (.v (.int .i64) ((↑(List.length a0) : Int))), (.v (.int .i64) (x9)), (.v .bool (decide (x9 < (↑(List.length a0) : Int)))), .bad, (.v .str (List.getD a0 x9.toNat (ByteArray.mk #[]))), (.v .str (List.getD a0 x9.toNat (ByteArray.mk #[]))), (.v (.int .i64) (v0)), (.v (.int .i64) (IntKind.i64.wrap (IntKind.i64.wrap ((IntKind.i64.wrap (maxI (64 : Int) v4 + (7 : Int))).tdiv (8 : Int)) * (8 : Int)))), (.fn 61 [(.ptr 0 0)]), .bad, .bad, (.raw undef), (.raw undef), (.raw undef), (.raw undef), (.raw undef), (.raw undef), (.raw undef)] }
def c60_61_22 (y0 : (List ByteArray)) (y1 : Int) (y2 : Int) (y3 : Int) (y4 : Int) (y5 : Int) (y6 : Int) (y7 : (List Int)) : St := { t := [.bad, .bad, (.v (.int .i64) (IntKind.i64.wrap (IntKind.i64.wrap ((IntKind.i64.wrap (maxI (64 : Int) y2 + (7 : Int))).tdiv (8 : Int)) * (8 : Int)))), (.fn 61 [(.ptr 0 0)]), .bad, .bad, .bad, .bad, .bad, (.v (.int .u32) (IntKind.u32.wrap y4)), (.v (.int .u32) (y5)), (.v (.int .i64) (y6)), .bad, .bad, .bad, .bad, .bad, (.v (.int .i64) (y1)), (.v (.int .i64) (y6)), (.v .bool (decide (y6 < y1))), (.v (.int .i64) (y6)), (.fn 61 [(.ptr 0 0)]), (.v (.int .u32) (IntKind.u32.wrap y4)), (.v (.int .i64) (y6)), (.v (.int .u32) (IntKind.u32.wrap y6)), (.v (.int .u32) (y5)), (.v (.int .u32) (IntKind.u32.wrap (IntKind.u32.wrap y6 * y5))), (.v (.int .u32) (IntKind.u32.wrap (IntKind.u32.wrap y4 + IntKind.u32.wrap (IntKind.u32.wrap y6 * y5)))), (.v (.int .i64) (IntKind.i64.wrap (IntKind.i64.wrap ((IntKind.i64.wrap (maxI (64 : Int) y2 + (7 : Int))).tdiv (8 : Int)) * (8 : Int)))), (.v (.int .u32) (IntKind.u32.wrap (IntKind.i64.wrap (IntKind.i64.wrap ((IntKind.i64.wrap (maxI (64 : Int) y2 + (7 : Int))).tdiv (8 : Int)) * (8 : Int))))), (.v (.int .u32) ((IntKind.u32.wrap (IntKind.u32.wrap y4 + IntKind.u32.wrap (IntKind.u32.wrap y6 * y5))).tmod (IntKind.u32.wrap (IntKind.i64.wrap (IntKind.i64.wrap ((IntKind.i64.wrap (maxI (64 : Int) y2 + (7 : Int))).tdiv (8 : Int)) * (8 : Int)))))), (.v (.int .i64) (IntKind.i64.wrap ((IntKind.u32.wrap (IntKind.u32.wrap y4 + IntKind.u32.wrap (IntKind.u32.wrap y6 * y5))).tmod (IntKind.u32.wrap (IntKind.i64.wrap (IntKind.i64.wrap ((IntKind.i64.wrap (maxI (64 : Int) y2 + (7 : Int))).tdiv (8 : Int)) * (8 : Int))))))), .bad, .bad], bx := [(some (27, [(.own 0 5 (.int .u8) (y7))])), none, none, none, none, none, none, none, none, none, none, none, none, none, none, none, none], live := 1, g := [.bad, .bad, .bad, .bad, .nilS, (.v (.int .i64) (y1)), (.v (.int .i64) (IntKind.i64.wrap (IntKind.i64.wrap ((IntKind.i64.wrap (maxI (64 : Int) y2 + (7 : Int))).tdiv (8 : Int)) * (8 : Int)))), (.ptr 0 0), .bad, (.v .str (List.getD y0 y3.toNat (ByteArray.mk #[]))), .bad, .bad, .bad, .bad, .bad, .bad, .bad, .bad, .bad, .bad, .bad, .bad, .bad, .bad, .bad, .bad, .bad, .bad, .bad, .bad, .bad, (.v (.sl .str) (y0)), (.v (.int .i64) ((↑(List.length y0) : Int))), (.v (.int .i64) (y3)), (.v .bool (decide (y3 < (↑(List.length y0) : Int)))), .bad, (.v .str (List.getD y0 y3.toNat (ByteArray.mk #[]))), (.v .str (List.getD y0 y3.toNat (ByteArray.mk #[]))), (.v (.int .i64) (y1)), (.v (.int .i64) (IntKind.i64.wrap (IntKind.i64.wrap ((IntKind.i64.wrap (maxI (64 : Int) y2 + (7 : Int))).tdiv (8 : Int)) * (8 : Int)))), (.fn 61 [(.ptr 0 0)]), .bad, .bad, (.raw undef), (.raw undef), (.raw undef), (.raw undef), (.raw undef), (.raw undef), (.raw undef)] }
def c60_61_22r23 (y0 : (List ByteArray)) (y1 : Int) (y2 : Int) (y3 : Int) (y4 : Int) (y5 : Int) (y6 : Int) (y7 : (List Int)) : St := { t := [.bad, .bad, (.v (.int .i64) (IntKind.i64.wrap (IntKind.i64.wrap ((IntKind.i64.wrap (maxI (64 : Int) y2 + (7 : Int))).tdiv (8 : Int)) * (8 : Int)))), (.fn 61 [(.ptr 0 0)]), .bad, .bad, .bad, .bad, .bad, (.v (.int .u32) (IntKind.u32.wrap y4)), (.v (.int .u32) (y5)), (.v (.int .i64) (y6)), .bad, .bad, .bad, .bad, .bad, (.v (.int .i64) (y1)), (.v (.int .i64) (y6)), (.v .bool (decide (y6 < y1))), (.v (.int .i64) (y6)), (.fn 61 [(.ptr 0 0)]), (.v (.int .u32) (IntKind.u32.wrap y4)), (.v (.int .i64) (y6)), (.v (.int .u32) (IntKind.u32.wrap y6)), (.v (.int .u32) (y5)), (.v (.int .u32) (IntKind.u32.wrap (IntKind.u32.wrap y6 * y5))), (.v (.int .u32) (IntKind.u32.wrap (IntKind.u32.wrap y4 + IntKind.u32.wrap (IntKind.u32.wrap y6 * y5)))), (.v (.int .i64) (IntKind.i64.wrap (IntKind.i64.wrap ((IntKind.i64.wrap (maxI (64 : Int) y2 + (7 : Int))).tdiv (8 : Int)) * (8 : Int)))), (.v (.int .u32) (IntKind.u32.wrap (IntKind.i64.wrap (IntKind.i64.wrap ((IntKind.i64.wrap (maxI (64 : Int) y2 + (7 : Int))).tdiv (8 : Int)) * (8 : Int))))), (.v (.int .u32) ((IntKind.u32.wrap (IntKind.u32.wrap y4 + IntKind.u32.wrap (IntKind.u32.wrap y6 * y5))).tmod (IntKind.u32.wrap (IntKind.i64.wrap (IntKind.i64.wrap ((IntKind.i64.wrap (maxI (64 : Int) y2 + (7 : Int))).tdiv (8 : Int)) * (8 : Int)))))), (.v (.int .i64) (IntKind.i64.wrap ((IntKind.u32.wrap (IntKind.u32.wrap y4 + IntKind.u32.wrap (IntKind.u32.wrap y6 * y5))).tmod (IntKind.u32.wrap (IntKind.i64.wrap (IntKind.i64.wrap ((IntKind.i64.wrap (maxI (64 : Int) y2 + (7 : Int))).tdiv (8 : Int)) * (8 : Int))))))), .bad, .bad], bx := [(some (27, [(.own 0 5 (.int .u8) (y7.set (IntKind.i64.wrap ((IntKind.i64.wrap ((IntKind.u32.wrap (IntKind.u32.wrap y4 + IntKind.u32.wrap (IntKind.u32.wrap y6 * y5))).tmod (IntKind.u32.wrap (IntKind.i64.wrap (IntKind.i64.wrap ((IntKind.i64.wrap (maxI (64 : Int) y2 + (7 : Int))).tdiv (8 : Int)) * (8 : Int)))))).tdiv (8 : Int))).toNat (IntKind.u8.wrap (↑(BitVec.ofInt IntKind.u8.bits (y7.getD (IntKind.i64.wrap ((IntKind.i64.wrap ((IntKind.u32.wrap (IntKind.u32.wrap y4 + IntKind.u32.wrap (IntKind.u32.wrap y6 * y5))).tmod (IntKind.u32.wrap (IntKind.i64.wrap (IntKind.i64.wrap ((IntKind.i64.wrap (maxI (64 : Int) y2 + (7 : Int))).tdiv (8 : Int)) * (8 : Int)))))).tdiv (8 : Int))).toNat (0 : Int)) ||| BitVec.ofInt IntKind.u8.bits (IntKind.u8.wrap ((1 : Int) * (2 : Int) ^ Min.min ((IntKind.i64.wrap ((IntKind.u32.wrap (IntKind.u32.wrap y4 + IntKind.u32.wrap (IntKind.u32.wrap y6 * y5))).tmod (IntKind.u32.wrap (IntKind.i64.wrap (IntKind.i64.wrap ((IntKind.i64.wrap (maxI (64 : Int) y2 + (7 : Int))).tdiv (8 : Int)) * (8 : Int)))))).tmod (8 : Int)).toNat IntKind.u8.bits))).toNat : Int))))])), none, none, none, none, none, none, none, none, none, none, none, none, none, none, none, none, none, none, none, none, none, none, none, none, none, none, none, none, none], live := 1, g := [.bad, .bad, .bad, .bad, .nilS, (.v (.int .i64) (y1)), (.v (.int .i64) (IntKind.i64.wrap (IntKind.i64.wrap ((IntKind.i64.wrap (maxI (64 : Int) y2 + (7 : Int))).tdiv (8 : Int)) * (8 : Int)))), (.ptr 0 0), .bad, (.v .str (List.getD y0 y3.toNat (ByteArray.mk #[]))), .bad, .bad, .bad, .bad, .bad, .bad, .bad, .bad, .bad, .bad, .bad, .bad, .bad, .bad, .bad, .bad, .bad, .bad, .bad, .bad, .bad, (.v (.sl .str) (y0)), (.v (.int .i64) ((↑(List.length y0) : Int))), (.v (.int .i64) (y3)), (.v .bool (decide (y3 < (↑(List.length y0) : Int)))), .bad, (.v .str (List.getD y0 y3.toNat (ByteArray.mk #[]))), (.v .str (List.getD y0 y3.toNat (ByteArray.mk #[]))), (.v (.int .i64) (y1)), (.v (.int .i64) (IntKind.i64.wrap (IntKind.i64.wrap ((IntKind.i64.wrap (maxI (64 : Int) y2 + (7 : Int))).tdiv (8 : Int)) * (8 : Int)))), (.fn 61 [(.ptr 0 0)]), .bad, .bad, (.raw undef), (.raw undef), (.raw undef), (.raw undef), (.raw undef), (.raw undef), (.raw undef)] }
theorem c60_61_22_i {R : Type} (K : AV → St → Option R) (a0 : (List ByteArray)) (v0 : Int) (v4 : Int) (x9 : Int) (v17 : Int) (v18 : Int) (x19 : Int) (x20 : (List Int)) : inlN B call inl m R 61 [(.v (.int .i64) (IntKind.i64.wrap ((IntKind.u32.wrap (IntKind.u32.wrap v17 + IntKind.u32.wrap (IntKind.u32.wrap x19 * v18))).tmod (IntKind.u32.wrap (IntKind.i64.wrap (IntKind.i64.wrap ((IntKind.i64.wrap (maxI (64 : Int) v4 + (7 : Int))).tdiv (8 : Int)) * (8 : Int))))))), (.ptr 0 0)] (c60_61_22 a0 v0 v4 x9 v17 v18 x19 x20) K = (if (0 : Int) ≤ IntKind.i64.wrap ((IntKind.i64.wrap ((IntKind.u32.wrap (IntKind.u32.wrap v17 + IntKind.u32.wrap (IntKind.u32.wrap x19 * v18))).tmod (IntKind.u32.wrap (IntKind.i64.wrap (IntKind.i64.wrap ((IntKind.i64.wrap (maxI (64 : Int) v4 + (7 : Int))).tdiv (8 : Int)) * (8 : Int)))))).tdiv (8 : Int)) ∧ IntKind.i64.wrap ((IntKind.i64.wrap ((IntKind.u32.wrap (IntKind.u32.wrap v17 + IntKind.u32.wrap (IntKind.u32.wrap x19 * v18))).tmod (IntKind.u32.wrap (IntKind.i64.wrap (IntKind.i64.wrap ((IntKind.i64.wrap (maxI (64 : Int) v4 + (7 : Int))).tdiv (8 : Int)) * (8 : Int)))))).tdiv (8 : Int)) < (↑x20.length : Int) then (if (IntKind.i64.wrap ((IntKind.u32.wrap (IntKind.u32.wrap v17 + IntKind.u32.wrap (IntKind.u32.wrap x19 * v18))).tmod (IntKind.u32.wrap (IntKind.i64.wrap (IntKind.i64.wrap ((IntKind.i64.wrap (maxI (64 : Int) v4 + (7 : Int))).tdiv (8 : Int)) * (8 : Int)))))).tmod (8 : Int) < (0 : Int) then (none) else (if (0 : Int) ≤ IntKind.i64.wrap ((IntKind.i64.wrap ((IntKind.u32.wrap (IntKind.u32.wrap v17 + IntKind.u32.wrap (IntKind.u32.wrap x19 * v18))).tmod (IntKind.u32.wrap (IntKind.i64.wrap (IntKind.i64.wrap ((IntKind.i64.wrap (maxI (64 : Int) v4 + (7 : Int))).tdiv (8 : Int)) * (8 : Int)))))).tdiv (8 : Int)) ∧ IntKind.i64.wrap ((IntKind.i64.wrap ((IntKind.u32.wrap (IntKind.u32.wrap v17 + IntKind.u32.wrap (IntKind.u32.wrap x19 * v18))).tmod (IntKind.u32.wrap (IntKind.i64.wrap (IntKind.i64.wrap ((IntKind.i64.wrap (maxI (64 : Int) v4 + (7 : Int))).tdiv (8 : Int)) * (8 : Int)))))).tdiv (8 : Int)) < (↑x20.length : Int) then (K (.v .bool (true)) (c60_61_22r23 a0 v0 v4 x9 v17 v18 x19 x20)) else (none))) else (none)) := by kernel_rfl
theorem c60_61_22r23_k24 {R : Type} (K : AEx → St → Option R) (a0 : (List ByteArray)) (v0 : Int) (v4 : Int) (x9 : Int) (v17 : Int) (v18 : Int) (x19 : Int) (x20 : (List Int)) : (IN B call inl 60 m [1, 1, 1, 1, 0, 1] [1, 1, 0, 1, 0, 0, 11] K) (.v .bool (true)) (c60_61_22r23 a0 v0 v4 x9 v17 v18 x19 x20) = (LP B call inl 60 m [1, 1, 1, 1, 0, 1] (s60_21 a0 v0 v4 x9 v17 v18 (IntKind.i64.wrap (x19 + (1 : Int))) (x20.set (IntKind.i64.wrap ((IntKind.i64.wrap ((IntKind.u32.wrap (IntKind.u32.wrap v17 + IntKind.u32.wrap (IntKind.u32.wrap x19 * v18))).tmod (IntKind.u32.wrap (IntKind.i64.wrap (IntKind.i64.wrap ((IntKind.i64.wrap (maxI (64 : Int) v4 + (7 : Int))).tdiv (8 : Int)) * (8 : Int)))))).tdiv (8 : Int))).toNat (IntKind.u8.wrap (↑(BitVec.ofInt IntKind.u8.bits (x20.getD (IntKind.i64.wrap ((IntKind.i64.wrap ((IntKind.u32.wrap (IntKind.u32.wrap v17 + IntKind.u32.wrap (IntKind.u32.wrap x19 * v18))).tmod (IntKind.u32.wrap (IntKind.i64.wrap (IntKind.i64.wrap ((IntKind.i64.wrap (maxI (64 : Int) v4 + (7 : Int))).tdiv (8 : Int)) * (8 : Int)))))).tdiv (8 : Int))).toNat (0 : Int)) ||| BitVec.ofInt IntKind.u8.bits (IntKind.u8.wrap ((1 : Int) * (2 : Int) ^ Min.min ((IntKind.i64.wrap ((IntKind.u32.wrap (IntKind.u32.wrap v17 + IntKind.u32.wrap (IntKind.u32.wrap x19 * v18))).tmod (IntKind.u32.wrap (IntKind.i64.wrap (IntKind.i64.wrap ((IntKind.i64.wrap (maxI (64 : Int) v4 + (7 : Int))).tdiv (8 : Int)) * (8 : Int)))))).tmod (8 : Int)).toNat IntKind.u8.bits))).toNat : Int)))) K) := by kernel_rfl
def s60_21x25 (y0 : (List ByteArray)) (y1 : Int) (y2 : Int) (y3 : Int) (y4 : (List Int)) : St := { t := [.bad, .bad, .bad, .bad, .bad, .bad, .bad, .bad, .bad, .bad, .bad, .bad, .bad, .bad, .bad, .bad, .bad, .bad, .bad, .bad, .bad, .bad, .bad, .bad, .bad, .bad, .bad, .bad, .bad, .bad, .bad, .bad, .bad, .bad], bx := [(some (27, [(.own 0 5 (.int .u8) (y4))])), none, none], live := 1, g := [.bad, .bad, .bad, .bad, .nilS, (.v (.int .i64) (y1)), (.v (.int .i64) (IntKind.i64.wrap (IntKind.i64.wrap ((IntKind.i64.wrap (maxI (64 : Int) y2 + (7 : Int))).tdiv (8 : Int)) * (8 : Int)))), (.ptr 0 0), .bad, (.v .str (List.getD y0 y3.toNat (ByteArray.mk #[]))), .bad, .bad, .bad, .bad, .bad, .bad, .bad, .bad, .bad, .bad, .bad, .bad, .bad, .bad, .bad, .bad, .bad, .bad, .bad, .bad, .bad, (.v (.sl .str) (y0)), (.v (.int .i64) ((↑(List.length y0) : Int))), (.v (.int .i64) (y3)), (.v .bool (decide (y3 < (↑(List.length y0) : Int)))), .bad, (.v .str (List.getD y0 y3.toNat (ByteArray.mk #[]))), (.v .str (List.getD y0 y3.toNat (ByteArray.mk #[]))), (.v (.int .i64) (y1)), (.v (.int .i64) (IntKind.i64.wrap (IntKind.i64.wrap ((IntKind.i64.wrap (maxI (64 : Int) y2 + (7 : Int))).tdiv (8 : Int)) * (8 : Int)))), (.fn 61 [(.ptr 0 0)]), .bad, .bad, (.raw undef), (.raw undef), (.raw undef), (.raw undef), (.raw undef), (.raw undef), (.raw undef)] }
theorem s60_21_l {R : Type} (K : AEx → St → Option R) (a0 : (List ByteArray)) (v0 : Int) (v4 : Int) (x9 : Int) (v17 : Int) (v18 : Int) (x19 : Int) (x20 : (List Int)) : LP B call inl 60 (m + 1) [1, 1, 1, 1, 0, 1] (s60_21 a0 v0 v4 x9 v17 v18 x19 x20) K = (bif decide (x19 < v0) then (if IntKind.u32.wrap (IntKind.i64.wrap (IntKind.i64.wrap ((IntKind.i64.wrap (maxI (64 : Int) v4 + (7 : Int))).tdiv (8 : Int)) * (8 : Int))) = (0 : Int) then (none) else (inl _ 61 [(.v (.int .i64) (IntKind.i64.wrap ((IntKind.u32.wrap (IntKind.u32.wrap v17 + IntKind.u32.wrap (IntKind.u32.wrap x19 * v18))).tmod (IntKind.u32.wrap (IntKind.i64.wrap (IntKind.i64.wrap ((IntKind.i64.wrap (maxI (64 : Int) v4 + (7 : Int))).tdiv (8 : Int)) * (8 : Int))))))), (.ptr 0 0)] (c60_61_22 a0 v0 v4 x9 v17 v18 x19 x20) (IN B call inl 60 m [1, 1, 1, 1, 0, 1] [1, 1, 0, 1, 0, 0, 11] K))) else (K (.exit 0) (s60_21x25 a0 v0 v4 x9 x20))) := by kernel_rfl
def c24_60_16r26 (y0 : (List ByteArray)) (y1 : Int) (y2 : Int) (y3 : Int) (y4 : (List Int)) : St := { t := [.bad, .bad, .bad, .bad, .nilS, (.v (.int .i64) (y1)), (.v (.int .i64) (IntKind.i64.wrap (IntKind.i64.wrap ((IntKind.i64.wrap (maxI (64 : Int) y2 + (7 : Int))).tdiv (8 : Int)) * (8 : Int)))), (.ptr 0 0), .bad, (.v .str (List.getD y0 y3.toNat (ByteArray.mk #[]))), .bad, .bad, .bad, .bad, .bad, .bad, .bad, .bad, .bad, .bad, .bad, .bad, .bad, .bad, .bad, .bad, .bad, .bad, .bad, .bad, .bad, (.v (.sl .str) (y0)), (.v (.int .i64) ((↑(List.length y0) : Int))), (.v (.int .i64) (y3)), (.v .bool (decide (y3 < (↑(List.length y0) : Int)))), .bad, (.v .str (List.getD y0 y3.toNat (ByteArray.mk #[]))), (.v .str (List.getD y0 y3.toNat (ByteArray.mk #[]))), (.v (.int .i64) (y1)), (.v (.int .i64) (IntKind.i64.wrap (IntKind.i64.wrap ((IntKind.i64.wrap (maxI (64 : Int) y2 + (7 : Int))).tdiv (8 : Int)) * (8 : Int)))), (.fn 61 [(.ptr 0 0)]), .bad, .bad, (.raw undef), (.raw undef), (.raw undef), (.raw undef), (.raw undef), (.raw undef), (.raw undef)], bx := [(some (27, [(.own 0 5 (.int .u8) (y4))])), none, none, none], live := 1, g := [] }
theorem s60_21x25_k {R : Type} (K : AV → St → Option R) (a0 : (List ByteArray)) (v0 : Int) (v4 : Int) (x9 : Int) (x20 : (List Int)) : (KA B call inl 60 m [1, 1, 1, 1, 0, 1] (FN B call inl 60 50 K)) (.exit 0) (s60_21x25 a0 v0 v4 x9 x20) = (K (.v .bool (true)) (c24_60_16r26 a0 v0 v4 x9 x20)) := by kernel_rfl
theorem c24_60_16_i {R : Type} (K : AV → St → Option R) (a0 : (List ByteArray)) (v0 : Int) (v4 : Int) (x9 : Int) (x10 : (List Int)) : inlN B call inl m R 60 [(.v .str (List.getD a0 x9.toNat (ByteArray.mk #[]))), (.v (.int .i64) (v0)), (.v (.int .i64) (IntKind.i64.wrap (IntKind.i64.wrap ((IntKind.i64.wrap (maxI (64 : Int) v4 + (7 : Int))).tdiv (8 : Int)) * (8 : Int)))), (.fn 61 [(.ptr 0 0)])] (c24_60_16 a0 v0 v4 x9 x10) K = ((call 94 [(.v .str (List.getD a0 x9.toNat (ByteArray.mk #[])))]).bind fun (v17 : Int) => (call 95 [(.v (.int .u32) (IntKind.u32.wrap v17)), (.v (.int .i64) ((-17 : Int)))]).bind fun (v18 : Int) => LP B call inl 60 m [1, 1, 1, 1, 0, 1] (s60_21 a0 v0 v4 x9 v17 v18 ((0 : Int)) (x10)) (KA B call inl 60 m [1, 1, 1, 1, 0, 1] (FN B call inl 60 50 K))) := by kernel_rfl
theorem c24_60_16r26_k31 {R : Type} (K : AEx → St → Option R) (a0 : (List ByteArray)) (v0 : Int) (v4 : Int) (x9 : Int) (x30 : (List Int)) : (IN B call inl 24 m [1, 1, 1, 1, 1, 1, 0, 1] [1, 1, 0, 1, 4] K) (.v .bool (true)) (c24_60_16r26 a0 v0 v4 x9 x30) = (LP B call inl 24 m [1, 1, 1, 1, 1, 1, 0, 1] (s24_15 a0 v0 v4 (IntKind.i64.wrap (x9 + (1 : Int))) (x30)) K) := by kernel_rfl
def s24_15x32 (y0 : Int) (y1 : Int) (y2 : (List Int)) : St := { t := [.bad, .bad, .bad, .bad, .nilS, (.v (.int .i64) (y0)), (.v (.int .i64) (IntKind.i64.wrap (IntKind.i64.wrap ((IntKind.i64.wrap (maxI (64 : Int) y1 + (7 : Int))).tdiv (8 : Int)) * (8 : Int)))), (.ptr 0 0), .bad, .bad, .bad, .bad, .bad, .bad, .bad, .bad, .bad, .bad, .bad, .bad, .bad, .bad, .bad, .bad, .bad, .bad, .bad, .bad, .bad, .bad, .bad, .bad, .bad, .bad, .bad, .bad, .bad, .bad, .bad, .bad, .bad, .bad, .bad, (.raw undef), (.raw undef), (.raw undef), (.raw undef), (.raw undef), (.raw undef), (.raw undef)], bx := [(some (27, [(.own 0 5 (.int .u8) (y2))])), none, none], live := 1, g := [] }
theorem s24_15_l {R : Type} (K : AEx → St → Option R) (a0 : (List ByteArray)) (v0 : Int) (v4 : Int) (x9 : Int) (x10 : (List Int)) : LP B call inl 24 (m + 1) [1, 1, 1, 1, 1, 1, 0, 1] (s24_15 a0 v0 v4 x9 x10) K = (bif decide (x9 < (↑(List.length a0) : Int)) then (if (0 : Int) ≤ x9 ∧ x9 < (↑(List.length a0) : Int) then (inl _ 60 [(.v .str (List.getD a0 x9.toNat (ByteArray.mk #[]))), (.v (.int .i64) (v0)), (.v (.int .i64) (IntKind.i64.wrap (IntKind.i64.wrap ((IntKind.i64.wrap (maxI (64 : Int) v4 + (7 : Int))).tdiv (8 : Int)) * (8 : Int)))), (.fn 61 [(.ptr 0 0)])] (c24_60_16 a0 v0 v4 x9 x10) (IN B call inl 24 m [1, 1, 1, 1, 1, 1, 0, 1] [1, 1, 0, 1, 4] K)) else (none)) else (K (.exit 0) (s24_15x32 v0 v4 x10))) := by kernel_rfl
theorem s24_15x32_k (v0 : Int) (v4 : Int) (x10 : (List Int)) : (KA B call inl 24 m [1, 1, 1, 1, 1, 1, 0, 1] (FI B call inl 24)) (.exit 0) (s24_15x32 v0 v4 x10) = (if (0 : Int) ≤ IntKind.i64.wrap ((IntKind.i64.wrap (IntKind.i64.wrap ((IntKind.i64.wrap (maxI (64 : Int) v4 + (7 : Int))).tdiv (8 : Int)) * (8 : Int))).tdiv (8 : Int)) ∧ IntKind.i64.wrap ((IntKind.i64.wrap (IntKind.i64.wrap ((IntKind.i64.wrap (maxI (64 : Int) v4 + (7 : Int))).tdiv (8 : Int)) * (8 : Int))).tdiv (8 : Int)) < (↑x10.length : Int) then (some (x10.set (IntKind.i64.wrap ((IntKind.i64.wrap (IntKind.i64.wrap ((IntKind.i64.wrap (maxI (64 : Int) v4 + (7 : Int))).tdiv (8 : Int)) * (8 : Int))).tdiv (8 : Int))).toNat (IntKind.u8.wrap v0))) else (none)) := by kernel_rfl
theorem t24 (a0 : (List ByteArray)) (a1 : Nat) : stepN B call inl m 24 [argAV (.sl .str) a0, argAV (.flt .f64) a1] = ((call 22 [(.v (.flt .f64) (a1))]).bind fun (v0 : Int) => bif v0 == (0 : Int) then (some ([])) else ((fm2 false Go.FloatKind.f64 a1 (4634204016564240384 : Nat)).bind fun (v1 : Nat) => (Go.FloatKind.f64.format.mul v1 (Go.FloatKind.f64.nearest (↑(List.length a0) : Int))).bind fun (v2 : Nat) => (call 59 [(.v (.flt .f64) (v2))]).bind fun (v3 : Nat) => (fToI Go.FloatKind.f64 v3 IntKind.i64).bind fun (v4 : Int) => if (0 : Int) ≤ IntKind.i64.wrap (IntKind.i64.wrap ((IntKind.i64.wrap (IntKind.i64.wrap ((IntKind.i64.wrap (maxI (64 : Int) v4 + (7 : Int))).tdiv (8 : Int)) * (8 : Int))).tdiv (8 : Int)) + (1 : Int)) ∧ IntKind.i64.wrap (IntKind.i64.wrap ((IntKind.i64.wrap (IntKind.i64.wrap ((IntKind.i64.wrap (maxI (64 : Int) v4 + (7 : Int))).tdiv (8 : Int)) * (8 : Int))).tdiv (8 : Int)) + (1 : Int)) = IntKind.i64.wrap (IntKind.i64.wrap ((IntKind.i64.wrap (IntKind.i64.wrap ((IntKind.i64.wrap (maxI (64 : Int) v4 + (7 : Int))).tdiv (8 : Int)) * (8 : Int))).tdiv (8 : Int)) + (1 : Int)) ∧ IntKind.i64.wrap (IntKind.i64.wrap ((IntKind.i64.wrap (IntKind.i64.wrap ((IntKind.i64.wrap (maxI (64 : Int) v4 + (7 : Int))).tdiv (8 : Int)) * (8 : Int))).tdiv (8 : Int)) + (1 : Int)) * (↑(1 : Nat) : Int) ≤ (↑(140737488355328) : Int) then (LP B call inl 24 m [1, 1, 1, 1, 1, 1, 0, 1] (s24_15 a0 v0 v4 ((0 : Int)) (List.replicate (IntKind.i64.wrap (IntKind.i64.wrap ((IntKind.i64.wrap (IntKind.i64.wrap ((IntKind.i64.wrap (maxI (64 : Int) v4 + (7 : Int))).tdiv (8 : Int)) * (8 : Int))).tdiv (8 : Int)) + (1 : Int))).toNat (0 : Int))) (KA B call inl 24 m [1, 1, 1, 1, 1, 1, 0, 1] (FI B call inl 24))) else (none)) : Option (List Int)) := by kernel_rfl
/-! function 25 -/
def s25_13 (a0 : (List ByteArray)) (v0 : Int) (v4 : Int) (x8 : (List Int)) (x9 : Int) : St := { t := [(.v (.sl .str) (a0)), .bad, .bad, .bad, .nilS, (.v (.int .i64) (v0)), (.v (.int .i64) (IntKind.i64.wrap (IntKind.i64.wrap ((IntKind.i64.wrap (maxI (64 : Int) v4 + (7 : Int))).tdiv (8 : Int)) * (8 : Int)))), (.own 0 5 (.int .u8) (x8)), (.v (.int .i64) (x9)), .bad, .bad, .bad, .bad, .bad, .bad, .bad, .bad, .bad, .bad, .bad, .bad, .bad, .bad, .bad, .bad, .bad, .bad, .bad, .bad, .bad, .bad, .bad, .bad, .bad, .bad, .bad, .bad, .bad, .bad, .bad, .bad, .bad, .bad, .bad, .bad, .bad, .bad, .bad, .bad, .bad, .bad, .bad, .bad, .bad, .bad, .bad, .bad, .bad, .bad, .bad, .bad, .bad, .bad, .bad, .bad, .bad, .bad, .bad, .bad, .bad, .bad, .bad, .bad, .bad, .bad, .bad, .bad, .bad, .bad, .bad, .bad, .bad, .bad, .bad, .bad, .bad, (.raw undef)], bx := [none], live := 1, g := [] }
def s25_17 (a0 : (List ByteArray)) (v0 : Int) (v4 : Int) (x9 : Int) (v14 : Int) (x15 : (List Int)) (x16 : Int) : St := { t := [(.v (.sl .str) (a0)), .bad, .bad, .bad, .nilS, (.v (.int .i64) (v0)), (.v (.int .i64) (IntKind.i64.wrap (IntKind.i64.wrap ((IntKind.i64.wrap (maxI (64 : Int) v4 + (7 : Int))).tdiv (8 : Int)) * (8 : Int)))), (.own 0 5 (.int .u8) (x15)), (.v (.int .i64) (x9)), (.v (.int .u32) (IntKind.u32.wrap v14)), (.v (.int .u32) (IntKind.u32.wrap (↑(BitVec.ofInt IntKind.u32.bits ((IntKind.u32.wrap v14).fdiv ((2 : Int) ^ Min.min (Int.toNat (17 : Int)) IntKind.u32.bits)) ||| BitVec.ofInt IntKind.u32.bits (IntKind.u32.wrap (IntKind.u32.wrap v14 * (2 : Int) ^ Min.min (Int.toNat (15 : Int)) IntKind.u32.bits))).toNat : Int))), (.v (.int .i64) (x16)), .bad, .bad, .bad, .bad, .bad, .bad, .bad, .bad, .bad, .bad, .bad, .bad, .bad, .bad, .bad, .bad, .bad, .bad, .bad, .bad, .bad, .bad, .bad, .bad, .bad, .bad, .bad, .bad, (.v (.int .i64) (x9)), (.v (.sl .str) (a0)), (.v (.int .i64) ((↑(List.length a0) : Int))), (.v .bool (decide (x9 < (↑(List.length a0) : Int)))), .bad, .bad, (.v (.sl .str) (a0)), (.v (.int .i64) (x9)), .bad, (.v .str (List.getD a0 x9.toNat (ByteArray.mk #[]))), (.v (.int .i64) (v14)), (.v (.int .u32) (IntKind.u32.wrap v14)), (.v (.int .u32) (IntKind.u32.wrap v14)), (.v (.int .u32) ((IntKind.u32.wrap v14).fdiv ((2 : Int) ^ Min.min (Int.toNat (17 : Int)) IntKind.u32.bits))), (.v (.int .u32) (IntKind.u32.wrap v14)), (.v (.int .u32) (IntKind.u32.wrap (IntKind.u32.wrap v14 * (2 : Int) ^ Min.min (Int.toNat (15 : Int)) IntKind.u32.bits))), (.v (.int .u32) (IntKind.u32.wrap (↑(BitVec.ofInt IntKind.u32.bits ((IntKind.u32.wrap v14).fdiv ((2 : Int) ^ Min.min (Int.toNat (17 : Int)) IntKind.u32.bits)) ||| BitVec.ofInt IntKind.u32.bits (IntKind.u32.wrap (IntKind.u32.wrap v14 * (2 : Int) ^ Min.min (Int.toNat (15 : Int)) IntKind.u32.bits))).toNat : Int))), .bad, .bad, .bad, .bad, .bad, .bad, .bad, .bad, .bad, .bad, .bad, .bad, .bad, .bad, .bad, .bad, .bad, .bad, .bad, .bad, .bad, .bad, .bad, .bad, .bad, .bad, .bad, .bad, .bad, (.raw undef)], bx := [none], live := 1, g := [] }
def s25_17x18 (y0 : (List ByteArray)) (y1 : Int) (y2 : Int) (y3 : Int) (y4 : Int) (y5 : (List Int)) (y6 : Int) : St := { t := [(.v (.sl .str) (y0)), .bad, .bad, .bad, .nilS, (.v (.int .i64) (y1)), (.v (.int .i64) (IntKind.i64.wrap (IntKind.i64.wrap ((IntKind.i64.wrap (maxI (64 : Int) y2 + (7 : Int))).tdiv (8 : Int)) * (8 : Int)))), (.own 0 5 (.int .u8) (y5)), (.v (.int .i64) (y3)), (.v (.int .u32) (IntKind.u32.wrap y4)), (.v (.int .u32) (IntKind.u32.wrap (↑(BitVec.ofInt IntKind.u32.bits ((IntKind.u32.wrap y4).fdiv ((2 : Int) ^ Min.min (Int.toNat (17 : Int)) IntKind.u32.bits)) ||| BitVec.ofInt IntKind.u32.bits (IntKind.u32.wrap (IntKind.u32.wrap y4 * (2 : Int) ^ Min.min (Int.toNat (15 : Int)) IntKind.u32.bits))).toNat : Int))), (.v (.int .i64) (y6)), .bad, .bad, .bad, .bad, .bad, .bad, .bad, .bad, .bad, .bad, .bad, .bad, .bad, .bad, .bad, .bad, .bad, .bad, .bad, .bad, .bad, .bad, .bad, .bad, .bad, .bad, .bad, .bad, (.v (.int .i64) (y3)), (.v (.sl .str) (y0)), (.v (.int .i64) ((↑(List.length y0) : Int))), (.v .bool (decide (y3 < (↑(List.length y0) : Int)))), .bad, .bad, (.v (.sl .str) (y0)), (.v (.int .i64) (y3)), .bad, (.v .str (List.getD y0 y3.toNat (ByteArray.mk #[]))), (.v (.int .i64) (y4)), (.v (.int .u32) (IntKind.u32.wrap y4)), (.v (.int .u32) (IntKind.u32.wrap y4)), (.v (.int .u32) ((IntKind.u32.wrap y4).fdiv ((2 : Int) ^ Min.min (Int.toNat (17 : Int)) IntKind.u32.bits))), (.v (.int .u32) (IntKind.u32.wrap y4)), (.v (.int .u32) (IntKind.u32.wrap (IntKind.u32.wrap y4 * (2 : Int) ^ Min.min (Int.toNat (15 : Int)) IntKind.u32.bits))), (.v (.int .u32) (IntKind.u32.wrap (↑(BitVec.ofInt IntKind.u32.bits ((IntKind.u32.wrap y4).fdiv ((2 : Int) ^ Min.min (Int.toNat (17 : Int)) IntKind.u32.bits)) ||| BitVec.ofInt IntKind.u32.bits (IntKind.u32.wrap (IntKind.u32.wrap y4 * (2 : Int) ^ Min.min (Int.toNat (15 : Int)) IntKind.u32.bits))).toNat : Int))), (.v (.int .i64) (y6)), (.v (.int .i64) (y1)), (.v .bool (decide (y6 < y1))), .bad, .bad, .bad, .bad, .bad, .bad, .bad, .bad, .bad, .bad, .bad, .bad, .bad, .bad, .bad, .bad, .bad, .bad, .bad, .bad, .bad, .bad, .bad, .bad, .bad, .bad, (.raw undef)], bx := [none, none, none, none], live := 1, g := [] }
theorem s25_17_l {R : Type} (K : AEx → St → Option R) (a0 : (List ByteArray)) (v0 : Int) (v4 : Int) (x9 : Int) (v14 : Int) (x15 : (List Int)) (x16 : Int) : LP B call inl 25 (m + 1) [1, 1, 1, 1, 1, 1, 1, 0, 1, 0, 1, 0, 1, 1, 1] (s25_17 a0 v0 v4 x9 v14 x15 x16) K = (bif decide (x16 < v0) then (if IntKind.u32.wrap (IntKind.i64.wrap (IntKind.i64.wrap ((IntKind.i64.wrap (maxI (64 : Int) v4 + (7 : Int))).tdiv (8 : Int)) * (8 : Int))) = (0 : Int) then (none) else (if (0 : Int) ≤ IntKind.i64.wrap ((IntKind.i64.wrap ((IntKind.u32.wrap (IntKind.u32.wrap v14 + IntKind.u32.wrap (IntKind.u32.wrap x16 * IntKind.u32.wrap (↑(BitVec.ofInt IntKind.u32.bits ((IntKind.u32.wrap v14).fdiv ((2 : Int) ^ Min.min (Int.toNat (17 : Int)) IntKind.u32.bits)) ||| BitVec.ofInt IntKind.u32.bits (IntKind.u32.wrap (IntKind.u32.wrap v14 * (2 : Int) ^ Min.min (Int.toNat (15 : Int)) IntKind.u32.bits))).toNat : Int)))).tmod (IntKind.u32.wrap (IntKind.i64.wrap (IntKind.i64.wrap ((IntKind.i64.wrap (maxI (64 : Int) v4 + (7 : Int))).tdiv (8 : Int)) * (8 : Int)))))).tdiv (8 : Int)) ∧ IntKind.i64.wrap ((IntKind.i64.wrap ((IntKind.u32.wrap (IntKind.u32.wrap v14 + IntKind.u32.wrap (IntKind.u32.wrap x16 * IntKind.u32.wrap (↑(BitVec.ofInt IntKind.u32.bits ((IntKind.u32.wrap v14).fdiv ((2 : Int) ^ Min.min (Int.toNat (17 : Int)) IntKind.u32.bits)) ||| BitVec.ofInt IntKind.u32.bits (IntKind.u32.wrap (IntKind.u32.wrap v14 * (2 : Int) ^ Min.min (Int.toNat (15 : Int)) IntKind.u32.bits))).toNat : Int)))).tmod (IntKind.u32.wrap (IntKind.i64.wrap (IntKind.i64.wrap ((IntKind.i64.wrap (maxI (64 : Int) v4 + (7 : Int))).tdiv (8 : Int)) * (8 : Int)))))).tdiv (8 : Int)) < (↑x15.length : Int) then (if IntKind.u64.wrap ((IntKind.i64.wrap ((IntKind.u32.wrap (IntKind.u32.wrap v14 + IntKind.u32.wrap (IntKind.u32.wrap x16 * IntKind.u32.wrap (↑(BitVec.ofInt IntKind.u32.bits ((IntKind.u32.wrap v14).fdiv ((2 : Int) ^ Min.min (Int.toNat (17 : Int)) IntKind.u32.bits)) ||| BitVec.ofInt IntKind.u32.bits (IntKind.u32.wrap (IntKind.u32.wrap v14 * (2 : Int) ^ Min.min (Int.toNat (15 : Int)) IntKind.u32.bits))).toNat : Int)))).tmod (IntKind.u32.wrap (IntKind.i64.wrap (IntKind.i64.wrap ((IntKind.i64.wrap (maxI (64 : Int) v4 + (7 : Int))).tdiv (8 : Int)) * (8 : Int)))))).tmod (8 : Int)) < (0 : Int) then (none) else (if (0 : Int) ≤ IntKind.i64.wrap ((IntKind.i64.wrap ((IntKind.u32.wrap (IntKind.u32.wrap v14 + IntKind.u32.wrap (IntKind.u32.wrap x16 * IntKind.u32.wrap (↑(BitVec.ofInt IntKind.u32.bits ((IntKind.u32.wrap v14).fdiv ((2 : Int) ^ Min.min (Int.toNat (17 : Int)) IntKind.u32.bits)) ||| BitVec.ofInt IntKind.u32.bits (IntKind.u32.wrap (IntKind.u32.wrap v14 * (2 : Int) ^ Min.min (Int.toNat (15 : Int)) IntKind.u32.bits))).toNat : Int)))).tmod (IntKind.u32.wrap (IntKind.i64.wrap (IntKind.i64.wrap ((IntKind.i64.wrap (maxI (64 : Int) v4 + (7 : Int))).tdiv (8 : Int)) * (8 : Int)))))).tdiv (8 : Int)) ∧ IntKind.i64.wrap ((IntKind.i64.wrap ((IntKind.u32.wrap (IntKind.u32.wrap v14 + IntKind.u32.wrap (IntKind.u32.wrap x16 * IntKind.u32.wrap (↑(BitVec.ofInt IntKind.u32.bits ((IntKind.u32.wrap v14).fdiv ((2 : Int) ^ Min.min (Int.toNat (17 : Int)) IntKind.u32.bits)) ||| BitVec.ofInt IntKind.u32.bits (IntKind.u32.wrap (IntKind.u32.wrap v14 * (2 : Int) ^ Min.min (Int.toNat (15 : Int)) IntKind.u32.bits))).toNat : Int)))).tmod (IntKind.u32.wrap (IntKind.i64.wrap (IntKind.i64.wrap ((IntKind.i64.wrap (maxI (64 : Int) v4 + (7 : Int))).tdiv (8 : Int)) * (8 : Int)))))).tdiv (8 : Int)) < (↑x15.length : Int) then (LP B call inl 25 m [1, 1, 1, 1, 1, 1, 1, 0, 1, 0, 1, 0, 1, 1, 1] (s25_17 a0 v0 v4 x9 v14 (x15.set (IntKind.i64.wrap ((IntKind.i64.wrap ((IntKind.u32.wrap (IntKind.u32.wrap v14 + IntKind.u32.wrap (IntKind.u32.wrap x16 * IntKind.u32.wrap (↑(BitVec.ofInt IntKind.u32.bits ((IntKind.u32.wrap v14).fdiv ((2 : Int) ^ Min.min (Int.toNat (17 : Int)) IntKind.u32.bits)) ||| BitVec.ofInt IntKind.u32.bits (IntKind.u32.wrap (IntKind.u32.wrap v14 * (2 : Int) ^ Min.min (Int.toNat (15 : Int)) IntKind.u32.bits))).toNat : Int)))).tmod (IntKind.u32.wrap (IntKind.i64.wrap (IntKind.i64.wrap ((IntKind.i64.wrap (maxI (64 : Int) v4 + (7 : Int))).tdiv (8 : Int)) * (8 : Int)))))).tdiv (8 : Int))).toNat (IntKind.u8.wrap (↑(BitVec.ofInt IntKind.u8.bits (x15.getD (IntKind.i64.wrap ((IntKind.i64.wrap ((IntKind.u32.wrap (IntKind.u32.wrap v14 + IntKind.u32.wrap (IntKind.u32.wrap x16 * IntKind.u32.wrap (↑(BitVec.ofInt IntKind.u32.bits ((IntKind.u32.wrap v14).fdiv ((2 : Int) ^ Min.min (Int.toNat (17 : Int)) IntKind.u32.bits)) ||| BitVec.ofInt IntKind.u32.bits (IntKind.u32.wrap (IntKind.u32.wrap v14 * (2 : Int) ^ Min.min (Int.toNat (15 : Int)) IntKind.u32.bits))).toNat : Int)))).tmod (IntKind.u32.wrap (IntKind.i64.wrap (IntKind.i64.wrap ((IntKind.i64.wrap (maxI (64 : Int) v4 + (7 : Int))).tdiv (8 : Int)) * (8 : Int)))))).tdiv (8 : Int))).toNat (0 : Int)) ||| BitVec.ofInt IntKind.u8.bits (IntKind.u8.wrap ((1 : Int) * (2 : Int) ^ Min.min (IntKind.u64.wrap ((IntKind.i64.wrap ((IntKind.u32.wrap (IntKind.u32.wrap v14 + IntKind.u32.wrap (IntKind.u32.wrap x16 * IntKind.u32.wrap (↑(BitVec.ofInt IntKind.u32.bits ((IntKind.u32.wrap v14).fdiv ((2 : Int) ^ Min.min (Int.toNat (17 : Int)) IntKind.u32.bits)) ||| BitVec.ofInt IntKind.u32.bits (IntKind.u32.wrap (IntKind.u32.wrap v14 * (2 : Int) ^ Min.min (Int.toNat (15 : Int)) IntKind.u32.bits))).toNat : Int)))).tmod (IntKind.u32.wrap (IntKind.i64.wrap (IntKind.i64.wrap ((IntKind.i64.wrap (maxI (64 : Int) v4 + (7 : Int))).tdiv (8 : Int)) * (8 : Int)))))).tmod (8 : Int))).toNat IntKind.u8.bits))).toNat : Int))) (IntKind.i64.wrap (x16 + (1 : Int)))) K) else (none))) else (none))) else (K (.exit 2) (s25_17x18 a0 v0 v4 x9 v14 x15 x16))) := by kernel_rfl
theorem s25_17x18_k {R : Type} (K : AEx → St → Option R) (a0 : (List ByteArray)) (v0 : Int) (v4 : Int) (x9 : Int) (v14 : Int) (x15 : (List Int)) (x16 : Int) : (KN B call inl 25 m [1, 1, 1, 1, 1, 1, 1, 0, 1] [1, 0, 1, 1, 1] K) (.exit 2) (s25_17x18 a0 v0 v4 x9 v14 x15 x16) = (LP B call inl 25 m [1, 1, 1, 1, 1, 1, 1, 0, 1] (s25_13 a0 v0 v4 (x15) (IntKind.i64.wrap (x9 + (1 : Int)))) K) := by kernel_rfl
def s25_13x19 (y0 : (List Int)) : St := { t := [.bad, .bad, .bad, .bad, .nilS, .bad, .bad, (.own 0 5 (.int .u8) (y0)), .bad, .bad, .bad, .bad, .bad, .bad, .bad, .bad, .bad, .bad, .bad, .bad, .bad, .bad, .bad, .bad, .bad, .bad, .bad, .bad, .bad, .bad, .bad, .bad, .bad, .bad, .bad, .bad, .bad, .bad, .bad, .bad, .bad, .bad, .bad, .bad, .bad, .bad, .bad, .bad, .bad, .bad, .bad, .bad, .bad, .bad, .bad, .bad, .bad, .bad, .bad, .bad, .bad, .bad, .bad, .bad, .bad, .bad, .bad, .bad, .bad, .bad, .bad, .bad, .bad, .bad, .bad, .bad, .bad, .bad, .bad, .bad, .bad, .bad, .bad, .bad, .bad, .bad, (.raw undef)], bx := [none, none, none, none, none], live := 1, g := [] }
theorem s25_13_l {R : Type} (K : AEx → St → Option R) (a0 : (List ByteArray)) (v0 : Int) (v4 : Int) (x8 : (List Int)) (x9 : Int) : LP B call inl 25 (m + 1) [1, 1, 1, 1, 1, 1, 1, 0, 1] (s25_13 a0 v0 v4 x8 x9) K = (bif decide (x9 < (↑(List.length a0) : Int)) then (if (0 : Int) ≤ x9 ∧ x9 < (↑(List.length a0) : Int) then ((call 62 [(.v .str (List.getD a0 x9.toNat (ByteArray.mk #[])))]).bind fun (v14 : Int) => LP B call inl 25 m [1, 1, 1, 1, 1, 1, 1, 0, 1, 0, 1, 0, 1, 1, 1] (s25_17 a0 v0 v4 x9 v14 (x8) ((0 : Int))) (KN B call inl 25 m [1, 1, 1, 1, 1, 1, 1, 0, 1] [1, 0, 1, 1, 1] K)) else (none)) else (K (.exit 0) (s25_13x19 x8))) := by kernel_rfl
theorem s25_13x19_k (x8 : (List Int)) : (KA B call inl 25 m [1, 1, 1, 1, 1, 1, 1, 0, 1] (FI B call inl 25)) (.exit 0) (s25_13x19 x8) = (some (x8)) := by kernel_rfl
theorem t25 (a0 : (List ByteArray)) (a1 : Nat) : stepN B call inl m 25 [argAV (.sl .str) a0, argAV (.flt .f64) a1] = ((call 23 [(.v (.flt .f64) (a1))]).bind fun (v0 : Int) => bif v0 == (0 : Int) then (some ([])) else ((fm2 false Go.FloatKind.f64 a1 (4634204016564240384 : Nat)).bind fun (v1 : Nat) => (Go.FloatKind.f64.format.mul v1 (Go.FloatKind.f64.nearest (↑(List.length a0) : Int))).bind fun (v2 : Nat) => (call 59 [(.v (.flt .f64) (v2))]).bind fun (v3 : Nat) => (fToI Go.FloatKind.f64 v3 IntKind.i64).bind fun (v4 : Int) => if (0 : Int) ≤ IntKind.i64.wrap (IntKind.i64.wrap ((IntKind.i64.wrap (IntKind.i64.wrap ((IntKind.i64.wrap (maxI (64 : Int) v4 + (7 : Int))).tdiv (8 : Int)) * (8 : Int))).tdiv (8 : Int)) + (1 : Int)) ∧ IntKind.i64.wrap (IntKind.i64.wrap ((IntKind.i64.wrap (IntKind.i64.wrap ((IntKind.i64.wrap (maxI (64 : Int) v4 + (7 : Int))).tdiv (8 : Int)) * (8 : Int))).tdiv (8 : Int)) + (1 : Int)) = IntKind.i64.wrap (IntKind.i64.wrap ((IntKind.i64.wrap (IntKind.i64.wrap ((IntKind.i64.wrap (maxI (64 : Int) v4 + (7 : Int))).tdiv (8 : Int)) * (8 : Int))).tdiv (8 : Int)) + (1 : Int)) ∧ IntKind.i64.wrap (IntKind.i64.wrap ((IntKind.i64.wrap (IntKind.i64.wrap ((IntKind.i64.wrap (maxI (64 : Int) v4 + (7 : Int))).tdiv (8 : Int)) * (8 : Int))).tdiv (8 : Int)) + (1 : Int)) * (↑(1 : Nat) : Int) ≤ (↑(140737488355328) : Int) then (if (0 : Int) ≤ IntKind.i64.wrap ((IntKind.i64.wrap (IntKind.i64.wrap ((IntKind.i64.wrap (maxI (64 : Int) v4 + (7 : Int))).tdiv (8 : Int)) * (8 : Int))).tdiv (8 : Int)) ∧ IntKind.i64.wrap ((IntKind.i64.wrap (IntKind.i64.wrap ((IntKind.i64.wrap (maxI (64 : Int) v4 + (7 : Int))).tdiv (8 : Int)) * (8 : Int))).tdiv (8 : Int)) < (↑(List.replicate (IntKind.i64.wrap (IntKind.i64.wrap ((IntKind.i64.wrap (IntKind.i64.wrap ((IntKind.i64.wrap (maxI (64 : Int) v4 + (7 : Int))).tdiv (8 : Int)) * (8 : Int))).tdiv (8 : Int)) + (1 : Int))).toNat (0 : Int)).length : Int) then (LP B call inl 25 m [1, 1, 1, 1, 1, 1, 1, 0, 1] (s25_13 a0 v0 v4 ((List.replicate (IntKind.i64.wrap (IntKind.i64.wrap ((IntKind.i64.wrap (IntKind.i64.wrap ((IntKind.i64.wrap (maxI (64 : Int) v4 + (7 : Int))).tdiv (8 : Int)) * (8 : Int))).tdiv (8 : Int)) + (1 : Int))).toNat (0 : Int)).set (IntKind.i64.wrap ((IntKind.i64.wrap (IntKind.i64.wrap ((IntKind.i64.wrap (maxI (64 : Int) v4 + (7 : Int))).tdiv (8 : Int)) * (8 : Int))).tdiv (8 : Int))).toNat (IntKind.u8.wrap v0)) ((0 : Int))) (KA B call inl 25 m [1, 1, 1, 1, 1, 1, 1, 0, 1] (FI B call inl 25))) else (none)) else (none)) : Option (List Int)) := by kernel_rfl
/-! function 26 -/
def c26_60_0 (y0 : (List Int)) (y1 : ByteArray) : St := { t := [(.v (.sl (.int .u8)) (y0)), (.v .str (y1)), (.ptr 0 0), (.raw undef), (.v .bool (false)), (.v (.int .i64) (IntKind.i64.wrap ((↑(List.length y0) : Int) - (1 : Int)))), (.v (.sl (.int .u8)) (y0)), (.v (.int .i64) ((↑(List.length y0) : Int))), (.v (.int .i64) (IntKind.i64.wrap ((↑(List.length y0) : Int) - (1 : Int)))), (.v (.int .i64) (IntKind.i64.wrap ((↑(List.length y0) : Int) - (1 : Int)))), (.v .bool (decide (IntKind.i64.wrap ((↑(List.length y0) : Int) - (1 : Int)) < (1 : Int)))), (.v .bool (false)), (.v (.sl (.int .u8)) (y0)), (.v (.int .i64) (IntKind.i64.wrap ((↑(List.length y0) : Int) - (1 : Int)))), (.ro [(.v (.int .u8) (List.getD y0 (IntKind.i64.wrap ((↑(List.length y0) : Int) - (1 : Int))).toNat (0 : Int)))]), (.v (.int .u8) (List.getD y0 (IntKind.i64.wrap ((↑(List.length y0) : Int) - (1 : Int))).toNat (0 : Int))), (.v .bool (List.getD y0 (IntKind.i64.wrap ((↑(List.length y0) : Int) - (1 : Int))).toNat (0 : Int) == (0 : Int))), (.v .bool (List.getD y0 (IntKind.i64.wrap ((↑(List.length y0) : Int) - (1 : Int))).toNat (0 : Int) == (0 : Int))), (.v .bool (false)), (.v (.sl (.int .u8)) (y0)), (.v (.int .i64) (IntKind.i64.wrap ((↑(List.length y0) : Int) - (1 : Int)))), (.ro [(.v (.int .u8) (List.getD y0 (IntKind.i64.wrap ((↑(List.length y0) : Int) - (1 : Int))).toNat (0 : Int)))]), (.v (.int .u8) (List.getD y0 (IntKind.i64.wrap ((↑(List.length y0) : Int) - (1 : Int))).toNat (0 : Int))), (.v .bool (decide (List.getD y0 (IntKind.i64.wrap ((↑(List.length y0) : Int) - (1 : Int))).toNat (0 : Int) > (12 : Int)))), (.v .bool (decide (List.getD y0 (IntKind.i64.wrap ((↑(List.length y0) : Int) - (1 : Int))).toNat (0 : Int) > (12 : Int)))), (.v .str (y1)), (.v (.sl (.int .u8)) (y0)), (.v (.int .i64) (IntKind.i64.wrap ((↑(List.length y0) : Int) - (1 : Int)))), (.ro [(.v (.int .u8) (List.getD y0 (IntKind.i64.wrap ((↑(List.length y0) : Int) - (1 : Int))).toNat (0 : Int)))]), (.v (.int .u8) (List.getD y0 (IntKind.i64.wrap ((↑(List.length y0) : Int) - (1 : Int))).toNat (0 : Int))), (.v (.int .i64) (IntKind.i64.wrap (List.getD y0 (IntKind.i64.wrap ((↑(List.length y0) : Int) - (1 : Int))).toNat (0 : Int)))), (.v (.int .i64) (IntKind.i64.wrap ((↑(List.length y0) : Int) - (1 : Int)))), (.v (.int .i64) (IntKind.i64.wrap ((8 : Int) * IntKind.i64.wrap ((↑(List.length y0) : Int) - (1 : Int))))), (.fn 63 [(.ptr 0 0)]), (.raw undef)], bx := [(some (27, [(.v (.sl (.int .u8)) (y0))])), none, none, none, none, none, none, none, none, none, none, none, none, none, none, none, none, none, none, none, none, none, none, none, none, none, none, none, none, none, none, none, none], live := 0, g := [] }
def s60_4 (a0 : (List Int)) (a1 : ByteArray) (v1 : Int) (v2 : Int) (x3 : Int) : St := { t := [.bad, .bad, (.v (.int .i64) (IntKind.i64.wrap ((8 : Int) * IntKind.i64.wrap ((↑(List.length a0) : Int) - (1 : Int))))), (.fn 63 [(.ptr 0 0)]), .bad, .bad, .bad, .bad, .bad, (.v (.int .u32) (IntKind.u32.wrap v1)), (.v (.int .u32) (v2)), .bad, .bad, .bad, .bad, .bad, .bad, (.v (.int .i64) (IntKind.i64.wrap (List.getD a0 (IntKind.i64.wrap ((↑(List.length a0) : Int) - (1 : Int))).toNat (0 : Int)))), (.v (.int .i64) (x3)), .bad, .bad, .bad, .bad, .bad, .bad, .bad, .bad, .bad, .bad, .bad, .bad, .bad, .bad, .bad], bx := [(some (27, [(.v (.sl (.int .u8)) (a0))]))], live := 0, g := [(.v (.sl (.int .u8)) (a0)), (.v .str (a1)), (.ptr 0 0), (.raw undef), (.v .bool (false)), (.v (.int .i64) (IntKind.i64.wrap ((↑(List.length a0) : Int) - (1 : Int)))), (.v (.sl (.int .u8)) (a0)), (.v (.int .i64) ((↑(List.length a0) : Int))), (.v (.int .i64) (IntKind.i64.wrap ((↑(List.length a0) : Int) - (1 : Int)))), (.v (.int .i64) (IntKind.i64.wrap ((↑(List.length a0) : Int) - (1 : Int)))), (.v .bool (decide (IntKind.i64.wrap ((↑(List.length a0) : Int) - (1 : Int)) < (1 : Int)))), (.v .bool (false)), (.v (.sl (.int .u8)) (a0)), (.v (.int .i64) (IntKind.i64.wrap ((↑(List.length a0) : Int) - (1 : Int)))), .bad, (.v (.int .u8) (List.getD a0 (IntKind.i64.wrap ((↑(List.length a0) : Int) - (1 : Int))).toNat (0 : Int))), (.v .bool (List.getD a0 (IntKind.i64.wrap ((↑(List.length a0) : Int) - (1 : Int))).toNat (0 : Int) == (0 : Int))), (.v .bool (List.getD a0 (IntKind.i64.wrap ((↑(List.length a0) : Int) - (1 : Int))).toNat (0 : Int) == (0 : Int))), (.v .bool (false)), (.v (.sl (.int .u8)) (a0)), (.v (.int .i64) (IntKind.i64.wrap ((↑(List.length a0) : Int) - (1 : Int)))), .bad, (.v (.int .u8) (List.getD a0 (IntKind.i64.wrap ((↑(List.length a0) : Int) - (1 : Int))).toNat (0 : Int))), (.v .bool (decide (List.getD a0 (IntKind.i64.wrap ((↑(List.length a0) : Int) - (1 : Int))).toNat (0 : Int) > (12 : Int)))), (.v .bool (decide (List.getD a0 (IntKind.i64.wrap ((↑(List.length a0) : Int) - (1 : Int))).toNat (0 : Int) > (12 : Int)))), (.v .str (a1)), (.v (.sl (.int .u8)) (a0)), (.v (.int .i64) (IntKind.i64.wrap ((↑(List.length a0) : Int) - (1 : Int)))), .bad, (.v (.int .u8) (List.getD a0 (IntKind.i64.wrap ((↑(List.length a0) : Int) - (1 : Int))).toNat (0 : Int))), (.v (.int .i64) (IntKind.i64.wrap (List.getD a0 (IntKind.i64.wrap ((↑(List.length a0) : Int) - (1 : Int))).toNat (0 : Int)))), (.v (.int .i64) (IntKind.i64.wrap ((↑(List.length a0) : Int) - (1 : Int)))), (.v (.int .i64) (IntKind.i64.wrap ((8 : Int) * IntKind.i64.wrap ((↑(List.length a0) : Int) - (1 : Int))))), (.fn 63 [(.ptr 0 0)]), (.raw undef)] }
def c60_63_5 (y0 : (List Int)) (y1 : ByteArray) (y2 : Int) (y3 : Int) (y4 : Int) : St := { t := [.bad, .bad, (.v (.int .i64) (IntKind.i64.wrap ((8 : Int) * IntKind.i64.wrap ((↑(List.length y0) : Int) - (1 : Int))))), (.fn 63 [(.ptr 0 0)]), .bad, .bad, .bad, .bad, .bad, (.v (.int .u32) (IntKind.u32.wrap y2)), (.v (.int .u32) (y3)), (.v (.int .i64) (y4)), .bad, .bad, .bad, .bad, .bad, (.v (.int .i64) (IntKind.i64.wrap (List.getD y0 (IntKind.i64.wrap ((↑(List.length y0) : Int) - (1 : Int))).toNat (0 : Int)))), (.v (.int .i64) (y4)), (.v .bool (decide (y4 < IntKind.i64.wrap (List.getD y0 (IntKind.i64.wrap ((↑(List.length y0) : Int) - (1 : Int))).toNat (0 : Int))))), (.v (.int .i64) (y4)), (.fn 63 [(.ptr 0 0)]), (.v (.int .u32) (IntKind.u32.wrap y2)), (.v (.int .i64) (y4)), (.v (.int .u32) (IntKind.u32.wrap y4)), (.v (.int .u32) (y3)), (.v (.int .u32) (IntKind.u32.wrap (IntKind.u32.wrap y4 * y3))), (.v (.int .u32) (IntKind.u32.wrap (IntKind.u32.wrap y2 + IntKind.u32.wrap (IntKind.u32.wrap y4 * y3)))), (.v (.int .i64) (IntKind.i64.wrap ((8 : Int) * IntKind.i64.wrap ((↑(List.length y0) : Int) - (1 : Int))))), (.v (.int .u32) (IntKind.u32.wrap (IntKind.i64.wrap ((8 : Int) * IntKind.i64.wrap ((↑(List.length y0) : Int) - (1 : Int)))))), (.v (.int .u32) ((IntKind.u32.wrap (IntKind.u32.wrap y2 + IntKind.u32.wrap (IntKind.u32.wrap y4 * y3))).tmod (IntKind.u32.wrap (IntKind.i64.wrap ((8 : Int) * IntKind.i64.wrap ((↑(List.length y0) : Int) - (1 : Int))))))), (.v (.int .i64) (IntKind.i64.wrap ((IntKind.u32.wrap (IntKind.u32.wrap y2 + IntKind.u32.wrap (IntKind.u32.wrap y4 * y3))).tmod (IntKind.u32.wrap (IntKind.i64.wrap ((8 : Int) * IntKind.i64.wrap ((↑(List.length y0) : Int) - (1 : Int)))))))), .bad, .bad], bx := [(some (27, [(.v (.sl (.int .u8)) (y0))])), none, none, none, none, none, none, none, none, none, none, none, none, none, none, none], live := 0, g := [(.v (.sl (.int .u8)) (y0)), (.v .str (y1)), (.ptr 0 0), (.raw undef), (.v .bool (false)), (.v (.int .i64) (IntKind.i64.wrap ((↑(List.length y0) : Int) - (1 : Int)))), (.v (.sl (.int .u8)) (y0)), (.v (.int .i64) ((↑(List.length y0) : Int))), (.v (.int .i64) (IntKind.i64.wrap ((↑(List.length y0) : Int) - (1 : Int)))), (.v (.int .i64) (IntKind.i64.wrap ((↑(List.length y0) : Int) - (1 : Int)))), (.v .bool (decide (IntKind.i64.wrap ((↑(List.length y0) : Int) - (1 : Int)) < (1 : Int)))), (.v .bool (false)), (.v (.sl (.int .u8)) (y0)), (.v (.int .i64) (IntKind.i64.wrap ((↑(List.length y0) : Int) - (1 : Int)))), .bad, (.v (.int .u8) (List.getD y0 (IntKind.i64.wrap ((↑(List.length y0) : Int) - (1 : Int))).toNat (0 : Int))), (.v .bool (List.getD y0 (IntKind.i64.wrap ((↑(List.length y0) : Int) - (1 : Int))).toNat (0 : Int) == (0 : Int))), (.v .bool (List.getD y0 (IntKind.i64.wrap ((↑(List.length y0) : Int) - (1 : Int))).toNat (0 : Int) == (0 : Int))), (.v .bool (false)), (.v (.sl (.int .u8)) (y0)), (.v (.int .i64) (IntKind.i64.wrap ((↑(List.length y0) : Int) - (1 : Int)))), .bad, (.v (.int .u8) (List.getD y0 (IntKind.i64.wrap ((↑(List.length y0) : Int) - (1 : Int))).toNat (0 : Int))), (.v .bool (decide (List.getD y0 (IntKind.i64.wrap ((↑(List.length y0) : Int) - (1 : Int))).toNat (0 : Int) > (12 : Int)))), (.v .bool (decide (List.getD y0 (IntKind.i64.wrap ((↑(List.length y0) : Int) - (1 : Int))).toNat (0 : Int) > (12 : Int)))), (.v .str (y1)), (.v (.sl (.int .u8)) (y0)), (.v (.int .i64) (IntKind.i64.wrap ((↑(List.length y0) : Int) - (1 : Int)))), .bad, (.v (.int .u8) (List.getD y0 (IntKind.i64.wrap ((↑(List.length y0) : Int) - (1 : Int))).toNat (0 : Int))), (.v (.int .i64) (IntKind.i64.wrap (List.getD y0 (IntKind.i64.wrap ((↑(List.length y0) : Int) - (1 : Int))).toNat (0 : Int)))), (.v (.int .i64) (IntKind.i64.wrap ((↑(List.length y0) : Int) - (1 : Int)))), (.v (.int .i64) (IntKind.i64.wrap ((8 : Int) * IntKind.i64.wrap ((↑(List.length y0) : Int) - (1 : Int))))), (.fn 63 [(.ptr 0 0)]), (.raw undef)] }
def c60_63_5r6 (y0 : (List Int)) (y1 : ByteArray) (y2 : Int) (y3 : Int) (y4 : Int) : St := { t := [.bad, .bad, (.v (.int .i64) (IntKind.i64.wrap ((8 : Int) * IntKind.i64.wrap ((↑(List.length y0) : Int) - (1 : Int))))), (.fn 63 [(.ptr 0 0)]), .bad, .bad, .bad, .bad, .bad, (.v (.int .u32) (IntKind.u32.wrap y2)), (.v (.int .u32) (y3)), (.v (.int .i64) (y4)), .bad, .bad, .bad, .bad, .bad, (.v (.int .i64) (IntKind.i64.wrap (List.getD y0 (IntKind.i64.wrap ((↑(List.length y0) : Int) - (1 : Int))).toNat (0 : Int)))), (.v (.int .i64) (y4)), (.v .bool (decide (y4 < IntKind.i64.wrap (List.getD y0 (IntKind.i64.wrap ((↑(List.length y0) : Int) - (1 : Int))).toNat (0 : Int))))), (.v (.int .i64) (y4)), (.fn 63 [(.ptr 0 0)]), (.v (.int .u32) (IntKind.u32.wrap y2)), (.v (.int .i64) (y4)), (.v (.int .u32) (IntKind.u32.wrap y4)), (.v (.int .u32) (y3)), (.v (.int .u32) (IntKind.u32.wrap (IntKind.u32.wrap y4 * y3))), (.v (.int .u32) (IntKind.u32.wrap (IntKind.u32.wrap y2 + IntKind.u32.wrap (IntKind.u32.wrap y4 * y3)))), (.v (.int .i64) (IntKind.i64.wrap ((8 : Int) * IntKind.i64.wrap ((↑(List.length y0) : Int) - (1 : Int))))), (.v (.int .u32) (IntKind.u32.wrap (IntKind.i64.wrap ((8 : Int) * IntKind.i64.wrap ((↑(List.length y0) : Int) - (1 : Int)))))), (.v (.int .u32) ((IntKind.u32.wrap (IntKind.u32.wrap y2 + IntKind.u32.wrap (IntKind.u32.wrap y4 * y3))).tmod (IntKind.u32.wrap (IntKind.i64.wrap ((8 : Int) * IntKind.i64.wrap ((↑(List.length y0) : Int) - (1 : Int))))))), (.v (.int .i64) (IntKind.i64.wrap ((IntKind.u32.wrap (IntKind.u32.wrap y2 + IntKind.u32.wrap (IntKind.u32.wrap y4 * y3))).tmod (IntKind.u32.wrap (IntKind.i64.wrap ((8 : Int) * IntKind.i64.wrap ((↑(List.length y0) : Int) - (1 : Int)))))))), .bad, .bad], bx := [(some (27, [(.v (.sl (.int .u8)) (y0))])), none, none, none, none, none, none, none, none, none, none, none, none, none, none, none, none, none, none, none, none, none, none, none, none, none, none, none], live := 0, g := [(.v (.sl (.int .u8)) (y0)), (.v .str (y1)), (.ptr 0 0), (.raw undef), (.v .bool (false)), (.v (.int .i64) (IntKind.i64.wrap ((↑(List.length y0) : Int) - (1 : Int)))), (.v (.sl (.int .u8)) (y0)), (.v (.int .i64) ((↑(List.length y0) : Int))), (.v (.int .i64) (IntKind.i64.wrap ((↑(List.length y0) : Int) - (1 : Int)))), (.v (.int .i64) (IntKind.i64.wrap ((↑(List.length y0) : Int) - (1 : Int)))), (.v .bool (decide (IntKind.i64.wrap ((↑(List.length y0) : Int) - (1 : Int)) < (1 : Int)))), (.v .bool (false)), (.v (.sl (.int .u8)) (y0)), (.v (.int .i64) (IntKind.i64.wrap ((↑(List.length y0) : Int) - (1 : Int)))), .bad, (.v (.int .u8) (List.getD y0 (IntKind.i64.wrap ((↑(List.length y0) : Int) - (1 : Int))).toNat (0 : Int))), (.v .bool (List.getD y0 (IntKind.i64.wrap ((↑(List.length y0) : Int) - (1 : Int))).toNat (0 : Int) == (0 : Int))), (.v .bool (List.getD y0 (IntKind.i64.wrap ((↑(List.length y0) : Int) - (1 : Int))).toNat (0 : Int) == (0 : Int))), (.v .bool (false)), (.v (.sl (.int .u8)) (y0)), (.v (.int .i64) (IntKind.i64.wrap ((↑(List.length y0) : Int) - (1 : Int)))), .bad, (.v (.int .u8) (List.getD y0 (IntKind.i64.wrap ((↑(List.length y0) : Int) - (1 : Int))).toNat (0 : Int))), (.v .bool (decide (List.getD y0 (IntKind.i64.wrap ((↑(List.length y0) : Int) - (1 : Int))).toNat (0 : Int) > (12 : Int)))), (.v .bool (decide (List.getD y0 (IntKind.i64.wrap ((↑(List.length y0) : Int) - (1 : Int))).toNat (0 : Int) > (12 : Int)))), (.v .str (y1)), (.v (.sl (.int .u8)) (y0)), (.v (.int .i64) (IntKind.i64.wrap ((↑(List.length y0) : Int) - (1 : Int)))), .bad, (.v (.int .u8) (List.getD y0 (IntKind.i64.wrap ((↑(List.length y0) : Int) - (1 : Int))).toNat (0 : Int))), (.v (.int .i64) (IntKind.i64.wrap (List.getD y0 (IntKind.i64.wrap ((↑(List.length y0) : Int) - (1 : Int))).toNat (0 : Int)))), (.v (.int .i64) (IntKind.i64.wrap ((↑(List.length y0) : Int) - (1 : Int)))), (.v (.int .i64) (IntKind.i64.wrap ((8 : Int) * IntKind.i64.wrap ((↑(List.length y0) : Int) - (1 : Int))))), (.fn 63 [(.ptr 0 0)]), (.raw undef)] }
theorem c60_63_5_i {R : Type} (K : AV → St → Option R) (a0 : (List Int)) (a1 : ByteArray) (v1 : Int) (v2 : Int) (x3 : Int) : inlN B call inl m R 63 [(.v (.int .i64) (IntKind.i64.wrap ((IntKind.u32.wrap (IntKind.u32.wrap v1 + IntKind.u32.wrap (IntKind.u32.wrap x3 * v2))).tmod (IntKind.u32.wrap (IntKind.i64.wrap ((8 : Int) * IntKind.i64.wrap ((↑(List.length a0) : Int) - (1 : Int)))))))), (.ptr 0 0)] (c60_63_5 a0 a1 v1 v2 x3) K = (if (0 : Int) ≤ IntKind.i64.wrap ((IntKind.i64.wrap ((IntKind.u32.wrap (IntKind.u32.wrap v1 + IntKind.u32.wrap (IntKind.u32.wrap x3 * v2))).tmod (IntKind.u32.wrap (IntKind.i64.wrap ((8 : Int) * IntKind.i64.wrap ((↑(List.length a0) : Int) - (1 : Int))))))).tdiv (8 : Int)) ∧ IntKind.i64.wrap ((IntKind.i64.wrap ((IntKind.u32.wrap (IntKind.u32.wrap v1 + IntKind.u32.wrap (IntKind.u32.wrap x3 * v2))).tmod (IntKind.u32.wrap (IntKind.i64.wrap ((8 : Int) * IntKind.i64.wrap ((↑(List.length a0) : Int) - (1 : Int))))))).tdiv (8 : Int)) < (↑(List.length a0) : Int) then (if (IntKind.i64.wrap ((IntKind.u32.wrap (IntKind.u32.wrap v1 + IntKind.u32.wrap (IntKind.u32.wrap x3 * v2))).tmod (IntKind.u32.wrap (IntKind.i64.wrap ((8 : Int) * IntKind.i64.wrap ((↑(List.length a0) : Int) - (1 : Int))))))).tmod (8 : Int) < (0 : Int) then (none) else (K (.v .bool (IntKind.u8.wrap (↑(BitVec.ofInt IntKind.u8.bits (Int.fdiv (List.getD a0 (IntKind.i64.wrap ((IntKind.i64.wrap ((IntKind.u32.wrap (IntKind.u32.wrap v1 + IntKind.u32.wrap (IntKind.u32.wrap x3 * v2))).tmod (IntKind.u32.wrap (IntKind.i64.wrap ((8 : Int) * IntKind.i64.wrap ((↑(List.length a0) : Int) - (1 : Int))))))).tdiv (8 : Int))).toNat (0 : Int)) ((2 : Int) ^ Min.min ((IntKind.i64.wrap ((IntKind.u32.wrap (IntKind.u32.wrap v1 + IntKind.u32.wrap (IntKind.u32.wrap x3 * v2))).tmod (IntKind.u32.wrap (IntKind.i64.wrap ((8 : Int) * IntKind.i64.wrap ((↑(List.length a0) : Int) - (1 : Int))))))).tmod (8 : Int)).toNat IntKind.u8.bits)) &&& BitVec.ofInt IntKind.u8.bits (1 : Int)).toNat : Int) == (1 : Int))) (c60_63_5r6 a0 a1 v1 v2 x3))) else (none)) := by kernel_rfl
def s60_4x7 (y0 : (List Int)) (y1 : ByteArray) : St := { t := [.bad, .bad, .bad, .bad, .bad, .bad, .bad, .bad, (.v .bool (false)), .bad, .bad, .bad, .bad, .bad, .bad, .bad, .bad, .bad, .bad, .bad, .bad, .bad, .bad, .bad, .bad, .bad, .bad, .bad, .bad, .bad, .bad, .bad, .bad, .bad], bx := [(some (27, [(.v (.sl (.int .u8)) (y0))])), none, none, none, none, none, none, none, none, none, none, none, none, none, none, none, none, none, none, none, none, none, none, none, none, none, none, none, none, none, none, none, none, none, none, none, none, none, none, none, none], live := 0, g := [(.v (.sl (.int .u8)) (y0)), (.v .str (y1)), (.ptr 0 0), (.raw undef), (.v .bool (false)), (.v (.int .i64) (IntKind.i64.wrap ((↑(List.length y0) : Int) - (1 : Int)))), (.v (.sl (.int .u8)) (y0)), (.v (.int .i64) ((↑(List.length y0) : Int))), (.v (.int .i64) (IntKind.i64.wrap ((↑(List.length y0) : Int) - (1 : Int)))), (.v (.int .i64) (IntKind.i64.wrap ((↑(List.length y0) : Int) - (1 : Int)))), (.v .bool (decide (IntKind.i64.wrap ((↑(List.length y0) : Int) - (1 : Int)) < (1 : Int)))), (.v .bool (false)), (.v (.sl (.int .u8)) (y0)), (.v (.int .i64) (IntKind.i64.wrap ((↑(List.length y0) : Int) - (1 : Int)))), .bad, (.v (.int .u8) (List.getD y0 (IntKind.i64.wrap ((↑(List.length y0) : Int) - (1 : Int))).toNat (0 : Int))), (.v .bool (List.getD y0 (IntKind.i64.wrap ((↑(List.length y0) : Int) - (1 : Int))).toNat (0 : Int) == (0 : Int))), (.v .bool (List.getD y0 (IntKind.i64.wrap ((↑(List.length y0) : Int) - (1 : Int))).toNat (0 : Int) == (0 : Int))), (.v .bool (false)), (.v (.sl (.int .u8)) (y0)), (.v (.int .i64) (IntKind.i64.wrap ((↑(List.length y0) : Int) - (1 : Int)))), .bad, (.v (.int .u8) (List.getD y0 (IntKind.i64.wrap ((↑(List.length y0) : Int) - (1 : Int))).toNat (0 : Int))), (.v .bool (decide (List.getD y0 (IntKind.i64.wrap ((↑(List.length y0) : Int) - (1 : Int))).toNat (0 : Int) > (12 : Int)))), (.v .bool (decide (List.getD y0 (IntKind.i64.wrap ((↑(List.length y0) : Int) - (1 : Int))).toNat (0 : Int) > (12 : Int)))), (.v .str (y1)), (.v (.sl (.int .u8)) (y0)), (.v (.int .i64) (IntKind.i64.wrap ((↑(List.length y0) : Int) - (1 : Int)))), .bad, (.v (.int .u8) (List.getD y0 (IntKind.i64.wrap ((↑(List.length y0) : Int) - (1 : Int))).toNat (0 : Int))), (.v (.int .i64) (IntKind.i64.wrap (List.getD y0 (IntKind.i64.wrap ((↑(List.length y0) : Int) - (1 : Int))).toNat (0 : Int)))), (.v (.int .i64) (IntKind.i64.wrap ((↑(List.length y0) : Int) - (1 : Int)))), (.v (.int .i64) (IntKind.i64.wrap ((8 : Int) * IntKind.i64.wrap ((↑(List.length y0) : Int) - (1 : Int))))), (.fn 63 [(.ptr 0 0)]), (.raw undef)] }
theorem c60_63_5r6_k8 {R : Type} (K : AEx → St → Option R) (a0 : (List Int)) (a1 : ByteArray) (v1 : Int) (v2 : Int) (x3 : Int) : (IN B call inl 60 m [1, 1, 1, 1, 0, 1] [1, 1, 0, 1, 0, 0, 11] K) (.v .bool (IntKind.u8.wrap (↑(BitVec.ofInt IntKind.u8.bits (Int.fdiv (List.getD a0 (IntKind.i64.wrap ((IntKind.i64.wrap ((IntKind.u32.wrap (IntKind.u32.wrap v1 + IntKind.u32.wrap (IntKind.u32.wrap x3 * v2))).tmod (IntKind.u32.wrap (IntKind.i64.wrap ((8 : Int) * IntKind.i64.wrap ((↑(List.length a0) : Int) - (1 : Int))))))).tdiv (8 : Int))).toNat (0 : Int)) ((2 : Int) ^ Min.min ((IntKind.i64.wrap ((IntKind.u32.wrap (IntKind.u32.wrap v1 + IntKind.u32.wrap (IntKind.u32.wrap x3 * v2))).tmod (IntKind.u32.wrap (IntKind.i64.wrap ((8 : Int) * IntKind.i64.wrap ((↑(List.length a0) : Int) - (1 : Int))))))).tmod (8 : Int)).toNat IntKind.u8.bits)) &&& BitVec.ofInt IntKind.u8.bits (1 : Int)).toNat : Int) == (1 : Int))) (c60_63_5r6 a0 a1 v1 v2 x3) = (bif IntKind.u8.wrap (↑(BitVec.ofInt IntKind.u8.bits (Int.fdiv (List.getD a0 (IntKind.i64.wrap ((IntKind.i64.wrap ((IntKind.u32.wrap (IntKind.u32.wrap v1 + IntKind.u32.wrap (IntKind.u32.wrap x3 * v2))).tmod (IntKind.u32.wrap (IntKind.i64.wrap ((8 : Int) * IntKind.i64.wrap ((↑(List.length a0) : Int) - (1 : Int))))))).tdiv (8 : Int))).toNat (0 : Int)) ((2 : Int) ^ Min.min ((IntKind.i64.wrap ((IntKind.u32.wrap (IntKind.u32.wrap v1 + IntKind.u32.wrap (IntKind.u32.wrap x3 * v2))).tmod (IntKind.u32.wrap (IntKind.i64.wrap ((8 : Int) * IntKind.i64.wrap ((↑(List.length a0) : Int) - (1 : Int))))))).tmod (8 : Int)).toNat IntKind.u8.bits)) &&& BitVec.ofInt IntKind.u8.bits (1 : Int)).toNat : Int) == (1 : Int) then (LP B call inl 60 m [1, 1, 1, 1, 0, 1] (s60_4 a0 a1 v1 v2 (IntKind.i64.wrap (x3 + (1 : Int)))) K) else (K .ret (s60_4x7 a0 a1))) := by kernel_rfl
def s60_4x9 (y0 : (List Int)) (y1 : ByteArray) : St := { t := [.bad, .bad, .bad, .bad, .bad, .bad, .bad, .bad, .bad, .bad, .bad, .bad, .bad, .bad, .bad, .bad, .bad, .bad, .bad, .bad, .bad, .bad, .bad, .bad, .bad, .bad, .bad, .bad, .bad, .bad, .bad, .bad, .bad, .bad], bx := [(some (27, [(.v (.sl (.int .u8)) (y0))])), none], live := 0, g := [(.v (.sl (.int .u8)) (y0)), (.v .str (y1)), (.ptr 0 0), (.raw undef), (.v .bool (false)), (.v (.int .i64) (IntKind.i64.wrap ((↑(List.length y0) : Int) - (1 : Int)))), (.v (.sl (.int .u8)) (y0)), (.v (.int .i64) ((↑(List.length y0) : Int))), (.v (.int .i64) (IntKind.i64.wrap ((↑(List.length y0) : Int) - (1 : Int)))), (.v (.int .i64) (IntKind.i64.wrap ((↑(List.length y0) : Int) - (1 : Int)))), (.v .bool (decide (IntKind.i64.wrap ((↑(List.length y0) : Int) - (1 : Int)) < (1 : Int)))), (.v .bool (false)), (.v (.sl (.int .u8)) (y0)), (.v (.int .i64) (IntKind.i64.wrap ((↑(List.length y0) : Int) - (1 : Int)))), .bad, (.v (.int .u8) (List.getD y0 (IntKind.i64.wrap ((↑(List.length y0) : Int) - (1 : Int))).toNat (0 : Int))), (.v .bool (List.getD y0 (IntKind.i64.wrap ((↑(List.length y0) : Int) - (1 : Int))).toNat (0 : Int) == (0 : Int))), (.v .bool (List.getD y0 (IntKind.i64.wrap ((↑(List.length y0) : Int) - (1 : Int))).toNat (0 : Int) == (0 : Int))), (.v .bool (false)), (.v (.sl (.int .u8)) (y0)), (.v (.int .i64) (IntKind.i64.wrap ((↑(List.length y0) : Int) - (1 : Int)))), .bad, (.v (.int .u8) (List.getD y0 (IntKind.i64.wrap ((↑(List.length y0) : Int) - (1 : Int))).toNat (0 : Int))), (.v .bool (decide (List.getD y0 (IntKind.i64.wrap ((↑(List.length y0) : Int) - (1 : Int))).toNat (0 : Int) > (12 : Int)))), (.v .bool (decide (List.getD y0 (IntKind.i64.wrap ((↑(List.length y0) : Int) - (1 : Int))).toNat (0 : Int) > (12 : Int)))), (.v .str (y1)), (.v (.sl (.int .u8)) (y0)), (.v (.int .i64) (IntKind.i64.wrap ((↑(List.length y0) : Int) - (1 : Int)))), .bad, (.v (.int .u8) (List.getD y0 (IntKind.i64.wrap ((↑(List.length y0) : Int) - (1 : Int))).toNat (0 : Int))), (.v (.int .i64) (IntKind.i64.wrap (List.getD y0 (IntKind.i64.wrap ((↑(List.length y0) : Int) - (1 : Int))).toNat (0 : Int)))), (.v (.int .i64) (IntKind.i64.wrap ((↑(List.length y0) : Int) - (1 : Int)))), (.v (.int .i64) (IntKind.i64.wrap ((8 : Int) * IntKind.i64.wrap ((↑(List.length y0) : Int) - (1 : Int))))), (.fn 63 [(.ptr 0 0)]), (.raw undef)] }
theorem s60_4_l {R : Type} (K : AEx → St → Option R) (a0 : (List Int)) (a1 : ByteArray) (v1 : Int) (v2 : Int) (x3 : Int) : LP B call inl 60 (m + 1) [1, 1, 1, 1, 0, 1] (s60_4 a0 a1 v1 v2 x3) K = (bif decide (x3 < IntKind.i64.wrap (List.getD a0 (IntKind.i64.wrap ((↑(List.length a0) : Int) - (1 : Int))).toNat (0 : Int))) then (if IntKind.u32.wrap (IntKind.i64.wrap ((8 : Int) * IntKind.i64.wrap ((↑(List.length a0) : Int) - (1 : Int)))) = (0 : Int) then (none) else (inl _ 63 [(.v (.int .i64) (IntKind.i64.wrap ((IntKind.u32.wrap (IntKind.u32.wrap v1 + IntKind.u32.wrap (IntKind.u32.wrap x3 * v2))).tmod (IntKind.u32.wrap (IntKind.i64.wrap ((8 : Int) * IntKind.i64.wrap ((↑(List.length a0) : Int) - (1 : Int)))))))), (.ptr 0 0)] (c60_63_5 a0 a1 v1 v2 x3) (IN B call inl 60 m [1, 1, 1, 1, 0, 1] [1, 1, 0, 1, 0, 0, 11] K))) else (K (.exit 0) (s60_4x9 a0 a1))) := by kernel_rfl
def c26_60_0r10 (y0 : (List Int)) (y1 : ByteArray) : St := { t := [(.v (.sl (.int .u8)) (y0)), (.v .str (y1)), (.ptr 0 0), (.raw undef), (.v .bool (false)), (.v (.int .i64) (IntKind.i64.wrap ((↑(List.length y0) : Int) - (1 : Int)))), (.v (.sl (.int .u8)) (y0)), (.v (.int .i64) ((↑(List.length y0) : Int))), (.v (.int .i64) (IntKind.i64.wrap ((↑(List.length y0) : Int) - (1 : Int)))), (.v (.int .i64) (IntKind.i64.wrap ((↑(List.length y0) : Int) - (1 : Int)))), (.v .bool (decide (IntKind.i64.wrap ((↑(List.length y0) : Int) - (1 : Int)) < (1 : Int)))), (.v .bool (false)), (.v (.sl (.int .u8)) (y0)), (.v (.int .i64) (IntKind.i64.wrap ((↑(List.length y0) : Int) - (1 : Int)))), .bad, (.v (.int .u8) (List.getD y0 (IntKind.i64.wrap ((↑(List.length y0) : Int) - (1 : Int))).toNat (0 : Int))), (.v .bool (List.getD y0 (IntKind.i64.wrap ((↑(List.length y0) : Int) - (1 : Int))).toNat (0 : Int) == (0 : Int))), (.v .bool (List.getD y0 (IntKind.i64.wrap ((↑(List.length y0) : Int) - (1 : Int))).toNat (0 : Int) == (0 : Int))), (.v .bool (false)), (.v (.sl (.int .u8)) (y0)), (.v (.int .i64) (IntKind.i64.wrap ((↑(List.length y0) : Int) - (1 : Int)))), .bad, (.v (.int .u8) (List.getD y0 (IntKind.i64.wrap ((↑(List.length y0) : Int) - (1 : Int))).toNat (0 : Int))), (.v .bool (decide (List.getD y0 (IntKind.i64.wrap ((↑(List.length y0) : Int) - (1 : Int))).toNat (0 : Int) > (12 : Int)))), (.v .bool (decide (List.getD y0 (IntKind.i64.wrap ((↑(List.length y0) : Int) - (1 : Int))).toNat (0 : Int) > (12 : Int)))), (.v .str (y1)), (.v (.sl (.int .u8)) (y0)), (.v (.int .i64) (IntKind.i64.wrap ((↑(List.length y0) : Int) - (1 : Int)))), .bad, (.v (.int .u8) (List.getD y0 (IntKind.i64.wrap ((↑(List.length y0) : Int) - (1 : Int))).toNat (0 : Int))), (.v (.int .i64) (IntKind.i64.wrap (List.getD y0 (IntKind.i64.wrap ((↑(List.length y0) : Int) - (1 : Int))).toNat (0 : Int)))), (.v (.int .i64) (IntKind.i64.wrap ((↑(List.length y0) : Int) - (1 : Int)))), (.v (.int .i64) (IntKind.i64.wrap ((8 : Int) * IntKind.i64.wrap ((↑(List.length y0) : Int) - (1 : Int))))), (.fn 63 [(.ptr 0 0)]), (.raw undef)], bx := [(some (27, [(.v (.sl (.int .u8)) (y0))])), none, none, none, none, none, none, none, none, none, none, none, none, none, none, none, none, none, none, none, none, none, none, none, none, none, none, none, none, none, none, none, none, none, none, none, none, none, none, none, none], live := 0, g := [] }
theorem s60_4x7_k {R : Type} (K : AV → St → Option R) (a0 : (List Int)) (a1 : ByteArray) : (KA B call inl 60 m [1, 1, 1, 1, 0, 1] (FN B call inl 60 35 K)) .ret (s60_4x7 a0 a1) = (K (.v .bool (false)) (c26_60_0r10 a0 a1)) := by kernel_rfl
def c26_60_0r11 (y0 : (List Int)) (y1 : ByteArray) : St := { t := [(.v (.sl (.int .u8)) (y0)), (.v .str (y1)), (.ptr 0 0), (.raw undef), (.v .bool (false)), (.v (.int .i64) (IntKind.i64.wrap ((↑(List.length y0) : Int) - (1 : Int)))), (.v (.sl (.int .u8)) (y0)), (.v (.int .i64) ((↑(List.length y0) : Int))), (.v (.int .i64) (IntKind.i64.wrap ((↑(List.length y0) : Int) - (1 : Int)))), (.v (.int .i64) (IntKind.i64.wrap ((↑(List.length y0) : Int) - (1 : Int)))), (.v .bool (decide (IntKind.i64.wrap ((↑(List.length y0) : Int) - (1 : Int)) < (1 : Int)))), (.v .bool (false)), (.v (.sl (.int .u8)) (y0)), (.v (.int .i64) (IntKind.i64.wrap ((↑(List.length y0) : Int) - (1 : Int)))), .bad, (.v (.int .u8) (List.getD y0 (IntKind.i64.wrap ((↑(List.length y0) : Int) - (1 : Int))).toNat (0 : Int))), (.v .bool (List.getD y0 (IntKind.i64.wrap ((↑(List.length y0) : Int) - (1 : Int))).toNat (0 : Int) == (0 : Int))), (.v .bool (List.getD y0 (IntKind.i64.wrap ((↑(List.length y0) : Int) - (1 : Int))).toNat (0 : Int) == (0 : Int))), (.v .bool (false)), (.v (.sl (.int .u8)) (y0)), (.v (.int .i64) (IntKind.i64.wrap ((↑(List.length y0) : Int) - (1 : Int)))), .bad, (.v (.int .u8) (List.getD y0 (IntKind.i64.wrap ((↑(List.length y0) : Int) - (1 : Int))).toNat (0 : Int))), (.v .bool (decide (List.getD y0 (IntKind.i64.wrap ((↑(List.length y0) : Int) - (1 : Int))).toNat (0 : Int) > (12 : Int)))), (.v .bool (decide (List.getD y0 (IntKind.i64.wrap ((↑(List.length y0) : Int) - (1 : Int))).toNat (0 : Int) > (12 : Int)))), (.v .str (y1)), (.v (.sl (.int .u8)) (y0)), (.v (.int .i64) (IntKind.i64.wrap ((↑(List.length y0) : Int) - (1 : Int)))), .bad, (.v (.int .u8) (List.getD y0 (IntKind.i64.wrap ((↑(List.length y0) : Int) - (1 : Int))).toNat (0 : Int))), (.v (.int .i64) (IntKind.i64.wrap (List.getD y0 (IntKind.i64.wrap ((↑(List.length y0) : Int) - (1 : Int))).toNat (0 : Int)))), (.v (.int .i64) (IntKind.i64.wrap ((↑(List.length y0) : Int) - (1 : Int)))), (.v (.int .i64) (IntKind.i64.wrap ((8 : Int) * IntKind.i64.wrap ((↑(List.length y0) : Int) - (1 : Int))))), (.fn 63 [(.ptr 0 0)]), (.raw undef)], bx := [(some (27, [(.v (.sl (.int .u8)) (y0))])), none, none], live := 0, g := [] }
theorem s60_4x9_k {R : Type} (K : AV → St → Option R) (a0 : (List Int)) (a1 : ByteArray) : (KA B call inl 60 m [1, 1, 1, 1, 0, 1] (FN B call inl 60 35 K)) (.exit 0) (s60_4x9 a0 a1) = (K (.v .bool (true)) (c26_60_0r11 a0 a1)) := by kernel_rfl
theorem c26_60_0_i {R : Type} (K : AV → St → Option R) (a0 : (List Int)) (a1 : ByteArray) : inlN B call inl m R 60 [(.v .str (a1)), (.v (.int .i64) (IntKind.i64.wrap (List.getD a0 (IntKind.i64.wrap ((↑(List.length a0) : Int) - (1 : Int))).toNat (0 : Int)))), (.v (.int .i64) (IntKind.i64.wrap ((8 : Int) * IntKind.i64.wrap ((↑(List.length a0) : Int) - (1 : Int))))), (.fn 63 [(.ptr 0 0)])] (c26_60_0 a0 a1) K = ((call 94 [(.v .str (a1))]).bind fun (v1 : Int) => (call 95 [(.v (.int .u32) (IntKind.u32.wrap v1)), (.v (.int .i64) ((-17 : Int)))]).bind fun (v2 : Int) => LP B call inl 60 m [1, 1, 1, 1, 0, 1] (s60_4 a0 a1 v1 v2 ((0 : Int))) (KA B call inl 60 m [1, 1, 1, 1, 0, 1] (FN B call inl 60 35 K))) := by kernel_rfl
theorem c26_60_0r10_k15 (a0 : (List Int)) (a1 : ByteArray) : (IA B call inl 26 m [1, 1, 1, 0, 9] (FI B call inl 26)) (.v .bool (false)) (c26_60_0r10 a0 a1) = (some (false)) := by kernel_rfl
theorem c26_60_0r11_k16 (a0 : (List Int)) (a1 : ByteArray) : (IA B call inl 26 m [1, 1, 1, 0, 9] (FI B call inl 26)) (.v .bool (true)) (c26_60_0r11 a0 a1) = (some (true)) := by kernel_rfl
theorem t26 (a0 : (List Int)) (a1 : ByteArray) : stepN B call inl m 26 [argAV (.sl (.int .u8)) a0, argAV .str a1] = (bif decide (IntKind.i64.wrap ((↑(List.length a0) : Int) - (1 : Int)) < (1 : Int)) == false then (if (0 : Int) ≤ IntKind.i64.wrap ((↑(List.length a0) : Int) - (1 : Int)) ∧ IntKind.i64.wrap ((↑(List.length a0) : Int) - (1 : Int)) < (↑(List.length a0) : Int) then (bif (List.getD a0 (IntKind.i64.wrap ((↑(List.length a0) : Int) - (1 : Int))).toNat (0 : Int) == (0 : Int)) == false then (if (0 : Int) ≤ IntKind.i64.wrap ((↑(List.length a0) : Int) - (1 : Int)) ∧ IntKind.i64.wrap ((↑(List.length a0) : Int) - (1 : Int)) < (↑(List.length a0) : Int) then (bif decide (List.getD a0 (IntKind.i64.wrap ((↑(List.length a0) : Int) - (1 : Int))).toNat (0 : Int) > (12 : Int)) then (some (true)) else (if (0 : Int) ≤ IntKind.i64.wrap ((↑(List.length a0) : Int) - (1 : Int)) ∧ IntKind.i64.wrap ((↑(List.length a0) : Int) - (1 : Int)) < (↑(List.length a0) : Int) then (inl _ 60 [(.v .str (a1)), (.v (.int .i64) (IntKind.i64.wrap (List.getD a0 (IntKind.i64.wrap ((↑(List.length a0) : Int) - (1 : Int))).toNat (0 : Int)))), (.v (.int .i64) (IntKind.i64.wrap ((8 : Int) * IntKind.i64.wrap ((↑(List.length a0) : Int) - (1 : Int))))), (.fn 63 [(.ptr 0 0)])] (c26_60_0 a0 a1) (IA B call inl 26 m [1, 1, 1, 0, 9] (FI B call inl 26))) else (none))) else (none)) else (some (true))) else (none)) else (some (true)) : Option Bool) := by kernel_rfl
/-! function 27 -/
def s27_2 (a0 : (List Int)) (v0 : Int) (x1 : Int) : St := { t := [(.v (.sl (.int .u8)) (a0)), .bad, .bad, .bad, .bad, (.v (.int .i64) (IntKind.i64.wrap (List.getD a0 (IntKind.i64.wrap ((↑(List.length a0) : Int) - (1 : Int))).toNat (0 : Int)))), (.v (.int .i64) (IntKind.i64.wrap ((8 : Int) * IntKind.i64.wrap ((↑(List.length a0) : Int) - (1 : Int))))), (.v (.int .u32) (IntKind.u32.wrap v0)), (.v (.int .u32) (IntKind.u32.wrap (↑(BitVec.ofInt IntKind.u32.bits ((IntKind.u32.wrap v0).fdiv ((2 : Int) ^ Min.min (Int.toNat (17 : Int)) IntKind.u32.bits)) ||| BitVec.ofInt IntKind.u32.bits (IntKind.u32.wrap (IntKind.u32.wrap v0 * (2 : Int) ^ Min.min (Int.toNat (15 : Int)) IntKind.u32.bits))).toNat : Int))), (.v (.int .i64) (x1)), .bad, .bad, .bad, .bad, .bad, .bad, .bad, .bad, .bad, .bad, .bad, .bad, .bad, .bad, .bad, .bad, .bad, .bad, .bad, .bad, .bad, .bad, .bad, .bad, .bad, .bad, .bad, .bad, .bad, .bad, .bad, .bad, .bad, .bad, .bad, .bad, .bad, .bad, .bad, .bad, .bad, .bad, .bad, .bad, .bad, .bad, .bad, .bad, .bad, .bad, .bad, .bad, .bad, .bad, .bad], bx := [], live := 0, g := [] }
def s27_2x3 : St := { t := [.bad, .bad, .bad, .bad, (.v .bool (false)), .bad, .bad, .bad, .bad, .bad, .bad, .bad, .bad, .bad, .bad, .bad, .bad, .bad, .bad, .bad, .bad, .bad, .bad, .bad, .bad, .bad, .bad, .bad, .bad, .bad, .bad, .bad, .bad, .bad, .bad, .bad, .bad, .bad, .bad, .bad, .bad, .bad, .bad, .bad, .bad, .bad, .bad, .bad, .bad, .bad, .bad, .bad, .bad, .bad, .bad, .bad, .bad, .bad, .bad, .bad, .bad, .bad, .bad, .bad, .bad], bx := [none, none, none, none, none, none, none, none, none, none, none, none, none, none, none, none, none, none, none, none, none, none, none, none, none, none], live := 0, g := [] }
def s27_2x4 : St := { t := [.bad, .bad, .bad, .bad, .bad, .bad, .bad, .bad, .bad, .bad, .bad, .bad, .bad, .bad, .bad, .bad, .bad, .bad, .bad, .bad, .bad, .bad, .bad, .bad, .bad, .bad, .bad, .bad, .bad, .bad, .bad, .bad, .bad, .bad, .bad, .bad, .bad, .bad, .bad, .bad, .bad, .bad, .bad, .bad, .bad, .bad, .bad, .bad, .bad, .bad, .bad, .bad, .bad, .bad, .bad, .bad, .bad, .bad, .bad, .bad, .bad, .bad, .bad, .bad, .bad], bx := [none, none, none], live := 0, g := [] }
theorem s27_2_l {R : Type} (K : AEx → St → Option R) (a0 : (List Int)) (v0 : Int) (x1 : Int) : LP B call inl 27 (m + 1) [1, 1, 1, 1, 1, 1, 1, 0, 1] (s27_2 a0 v0 x1) K = (bif decide (x1 < IntKind.i64.wrap (List.getD a0 (IntKind.i64.wrap ((↑(List.length a0) : Int) - (1 : Int))).toNat (0 : Int))) then (if IntKind.u32.wrap (IntKind.i64.wrap ((8 : Int) * IntKind.i64.wrap ((↑(List.length a0) : Int) - (1 : Int)))) = (0 : Int) then (none) else (if (0 : Int) ≤ IntKind.i64.wrap ((IntKind.i64.wrap ((IntKind.u32.wrap (IntKind.u32.wrap v0 + IntKind.u32.wrap (IntKind.u32.wrap x1 * IntKind.u32.wrap (↑(BitVec.ofInt IntKind.u32.bits ((IntKind.u32.wrap v0).fdiv ((2 : Int) ^ Min.min (Int.toNat (17 : Int)) IntKind.u32.bits)) ||| BitVec.ofInt IntKind.u32.bits (IntKind.u32.wrap (IntKind.u32.wrap v0 * (2 : Int) ^ Min.min (Int.toNat (15 : Int)) IntKind.u32.bits))).toNat : Int)))).tmod (IntKind.u32.wrap (IntKind.i64.wrap ((8 : Int) * IntKind.i64.wrap ((↑(List.length a0) : Int) - (1 : Int))))))).tdiv (8 : Int)) ∧ IntKind.i64.wrap ((IntKind.i64.wrap ((IntKind.u32.wrap (IntKind.u32.wrap v0 + IntKind.u32.wrap (IntKind.u32.wrap x1 * IntKind.u32.wrap (↑(BitVec.ofInt IntKind.u32.bits ((IntKind.u32.wrap v0).fdiv ((2 : Int) ^ Min.min (Int.toNat (17 : Int)) IntKind.u32.bits)) ||| BitVec.ofInt IntKind.u32.bits (IntKind.u32.wrap (IntKind.u32.wrap v0 * (2 : Int) ^ Min.min (Int.toNat (15 : Int)) IntKind.u32.bits))).toNat : Int)))).tmod (IntKind.u32.wrap (IntKind.i64.wrap ((8 : Int) * IntKind.i64.wrap ((↑(List.length a0) : Int) - (1 : Int))))))).tdiv (8 : Int)) < (↑(List.length a0) : Int) then (if IntKind.u64.wrap ((IntKind.i64.wrap ((IntKind.u32.wrap (IntKind.u32.wrap v0 + IntKind.u32.wrap (IntKind.u32.wrap x1 * IntKind.u32.wrap (↑(BitVec.ofInt IntKind.u32.bits ((IntKind.u32.wrap v0).fdiv ((2 : Int) ^ Min.min (Int.toNat (17 : Int)) IntKind.u32.bits)) ||| BitVec.ofInt IntKind.u32.bits (IntKind.u32.wrap (IntKind.u32.wrap v0 * (2 : Int) ^ Min.min (Int.toNat (15 : Int)) IntKind.u32.bits))).toNat : Int)))).tmod (IntKind.u32.wrap (IntKind.i64.wrap ((8 : Int) * IntKind.i64.wrap ((↑(List.length a0) : Int) - (1 : Int))))))).tmod (8 : Int)) < (0 : Int) then (none) else (bif IntKind.u8.wrap (↑(BitVec.ofInt IntKind.u8.bits (Int.fdiv (List.getD a0 (IntKind.i64.wrap ((IntKind.i64.wrap ((IntKind.u32.wrap (IntKind.u32.wrap v0 + IntKind.u32.wrap (IntKind.u32.wrap x1 * IntKind.u32.wrap (↑(BitVec.ofInt IntKind.u32.bits ((IntKind.u32.wrap v0).fdiv ((2 : Int) ^ Min.min (Int.toNat (17 : Int)) IntKind.u32.bits)) ||| BitVec.ofInt IntKind.u32.bits (IntKind.u32.wrap (IntKind.u32.wrap v0 * (2 : Int) ^ Min.min (Int.toNat (15 : Int)) IntKind.u32.bits))).toNat : Int)))).tmod (IntKind.u32.wrap (IntKind.i64.wrap ((8 : Int) * IntKind.i64.wrap ((↑(List.length a0) : Int) - (1 : Int))))))).tdiv (8 : Int))).toNat (0 : Int)) ((2 : Int) ^ Min.min (IntKind.u64.wrap ((IntKind.i64.wrap ((IntKind.u32.wrap (IntKind.u32.wrap v0 + IntKind.u32.wrap (IntKind.u32.wrap x1 * IntKind.u32.wrap (↑(BitVec.ofInt IntKind.u32.bits ((IntKind.u32.wrap v0).fdiv ((2 : Int) ^ Min.min (Int.toNat (17 : Int)) IntKind.u32.bits)) ||| BitVec.ofInt IntKind.u32.bits (IntKind.u32.wrap (IntKind.u32.wrap v0 * (2 : Int) ^ Min.min (Int.toNat (15 : Int)) IntKind.u32.bits))).toNat : Int)))).tmod (IntKind.u32.wrap (IntKind.i64.wrap ((8 : Int) * IntKind.i64.wrap ((↑(List.length a0) : Int) - (1 : Int))))))).tmod (8 : Int))).toNat IntKind.u8.bits)) &&& BitVec.ofInt IntKind.u8.bits (1 : Int)).toNat : Int) == (0 : Int) then (K .ret (s27_2x3 )) else (LP B call inl 27 m [1, 1, 1, 1, 1, 1, 1, 0, 1] (s27_2 a0 v0 (IntKind.i64.wrap (x1 + (1 : Int)))) K))) else (none))) else (K (.exit 0) (s27_2x4 ))) := by kernel_rfl
theorem s27_2x3_k : (KA B call inl 27 m [1, 1, 1, 1, 1, 1, 1, 0, 1] (FI B call inl 27)) .ret (s27_2x3 ) = (some (false)) := by kernel_rfl
theorem s27_2x4_k : (KA B call inl 27 m [1, 1, 1, 1, 1, 1, 1, 0, 1] (FI B call inl 27)) (.exit 0) (s27_2x4 ) = (some (true)) := by kernel_rfl
theorem t27 (a0 : (List Int)) (a1 : ByteArray) : stepN B call inl m 27 [argAV (.sl (.int .u8)) a0, argAV .str a1] = (bif decide ((↑(List.length a0) : Int) < (2 : Int)) then (some (true)) else (if (0 : Int) ≤ IntKind.i64.wrap ((↑(List.length a0) : Int) - (1 : Int)) ∧ IntKind.i64.wrap ((↑(List.length a0) : Int) - (1 : Int)) < (↑(List.length a0) : Int) then (bif (IntKind.i64.wrap (List.getD a0 (IntKind.i64.wrap ((↑(List.length a0) : Int) - (1 : Int))).toNat (0 : Int)) == (0 : Int)) == false then (bif decide (IntKind.i64.wrap (List.getD a0 (IntKind.i64.wrap ((↑(List.length a0) : Int) - (1 : Int))).toNat (0 : Int)) > (12 : Int)) then (some (true)) else ((call 62 [(.v .str (a1))]).bind fun (v0 : Int) => LP B call inl 27 m [1, 1, 1, 1, 1, 1, 1, 0, 1] (s27_2 a0 v0 ((0 : Int))) (KA B call inl 27 m [1, 1, 1, 1, 1, 1, 1, 0, 1] (FI B call inl 27)))) else (some (true))) else (none)) : Option Bool) := by kernel_rfl
/-! function 28 -/
theorem t28 (a0 : Nat) : stepN B call inl m 28 [argAV (.flt .f64) a0] = (some (Go.FloatKind.f64.format.order a0 a0 != Option.some Ordering.eq) : Option Bool) := by kernel_rfl
/-! function 29 -/
theorem t29 : stepN B call inl m 29 [] = ((call 64 [(.v (.int .u64) ((9221120237041090561 : Int)))]).bind fun (v0 : Nat) => some (v0) : Option Nat) := by kernel_rfl
/-! function 30 -/
theorem t30 (a0 : Int) : stepN B call inl m 30 [argAV (.int .i64) a0] = (bif decide (a0 ≥ (0 : Int)) then ((call 64 [(.v (.int .u64) ((9218868437227405312 : Int)))]).bind fun (v0 : Nat) => some (v0)) else ((call 64 [(.v (.int .u64) ((18442240474082181120 : Int)))]).bind fun (v1 : Nat) => some (v1)) : Option Nat) := by kernel_rfl
/-! function 31 -/
theorem t31 (a0 : Nat) (a1 : Nat) : stepN B call inl m 31 [argAV (.flt .f64) a0, argAV (.flt .f64) a1] = ((call 65 [(.v (.flt .f64) (a0))]).bind fun (v0 : Int) => (call 65 [(.v (.flt .f64) (a1))]).bind fun (v1 : Int) => (call 64 [(.v (.int .u64) (IntKind.u64.wrap (↑(BitVec.ofInt IntKind.u64.bits (IntKind.u64.wrap (↑(BitVec.ofInt IntKind.u64.bits v0 &&& ~~~BitVec.ofInt IntKind.u64.bits (9223372036854775808 : Int)).toNat : Int)) ||| BitVec.ofInt IntKind.u64.bits (IntKind.u64.wrap (↑(BitVec.ofInt IntKind.u64.bits v1 &&& BitVec.ofInt IntKind.u64.bits (9223372036854775808 : Int)).toNat : Int))).toNat : Int)))]).bind fun (v2 : Nat) => some (v2) : Option Nat) := by kernel_rfl
/-! function 32 -/
theorem t32 (a0 : Nat) (a1 : Nat) : stepN B call inl m 32 [argAV (.flt .f64) a0, argAV (.flt .f64) a1] = ((call 28 [(.v (.flt .f64) (a0))]).bind fun (v0 : Bool) => bif v0 == false then ((call 28 [(.v (.flt .f64) (a1))]).bind fun (v1 : Bool) => bif v1 then ((call 29 []).bind fun (v2 : Nat) => some (v2)) else (bif Go.FloatKind.f64.format.order a0 a1 == Option.some Ordering.eq then (some (a0)) else (bif Go.FloatKind.f64.format.order a0 (0 : Nat) == Option.some Ordering.eq then ((call 64 [(.v (.int .u64) ((1 : Int)))]).bind fun (v3 : Nat) => (call 31 [(.v (.flt .f64) (v3)), (.v (.flt .f64) (a1))]).bind fun (v4 : Nat) => some (v4)) else (bif (Go.FloatKind.f64.format.order a1 a0 == Option.some Ordering.gt) == (Go.FloatKind.f64.format.order a0 (0 : Nat) == Option.some Ordering.gt) then ((call 65 [(.v (.flt .f64) (a0))]).bind fun (v5 : Int) => (call 64 [(.v (.int .u64) (IntKind.u64.wrap (v5 + (1 : Int))))]).bind fun (v6 : Nat) => some (v6)) else ((call 65 [(.v (.flt .f64) (a0))]).bind fun (v7 : Int) => (call 64 [(.v (.int .u64) (IntKind.u64.wrap (v7 - (1 : Int))))]).bind fun (v8 : Nat) => some (v8)))))) else ((call 29 []).bind fun (v9 : Nat) => some (v9)) : Option Nat) := by kernel_rfl
/-! function 58 -/
theorem t58 (a0 : Nat) (a1 : Int) : stepN B call inl m 58 [argAV (.flt .f64) a0, argAV (.int .i64) a1] = (bif a1 == (0 : Int) then ((call 91 [(.v (.flt .f64) (a0))]).bind fun (v0 : Nat) => some (Go.FloatKind.f64.format.order v0 (9218868437227405311 : Nat) == Option.some Ordering.gt)) else (bif decide (a1 < (0 : Int)) then (some (Go.FloatKind.f64.format.order (Op.negFloat Go.FloatKind.f64 a0) (9218868437227405311 : Nat) == Option.some Ordering.gt)) else (some (Go.FloatKind.f64.format.order a0 (9218868437227405311 : Nat) == Option.some Ordering.gt))) : Option Bool) := by kernel_rfl
/-! function 59 -/
theorem t59 (a0 : Nat) : stepN B call inl m 59 [argAV (.flt .f64) a0] = ((call 92 [(.v (.flt .f64) (a0))]).bind fun (v0 : Nat) => some (v0) : Option Nat) := by kernel_rfl
/-! function 62 -/
def s62_2 (a0 : ByteArray) (x0 : Int) (x1 : Int) : St := { t := [(.v .str (a0)), .bad, (.v (.int .i64) ((0 : Int))), (.v (.int .u32) (x0)), (.v (.int .i64) (x1)), .bad, .bad, .bad, .bad, .bad, .bad, .bad, .bad, .bad, .bad, .bad, .bad, .bad, (.raw undef), (.raw undef)], bx := [], live := 0, g := [] }
def s62_2x3 (y0 : Int) : St := { t := [.bad, .bad, (.v (.int .i64) ((0 : Int))), (.v (.int .u32) (y0)), .bad, .bad, .bad, .bad, .bad, .bad, .bad, .bad, .bad, .bad, .bad, .bad, .bad, .bad, (.raw undef), (.raw undef)], bx := [none, none, none, none], live := 0, g := [] }
theorem s62_2_l {R : Type} (K : AEx → St → Option R) (a0 : ByteArray) (x0 : Int) (x1 : Int) : LP B call inl 62 (m + 1) [1, 1, 0, 1] (s62_2 a0 x0 x1) K = (bif decide (x1 < (↑(ByteArray.size a0) : Int)) then (if (0 : Int) ≤ x1 ∧ x1 < (↑(ByteArray.size a0) : Int) then (LP B call inl 62 m [1, 1, 0, 1] (s62_2 a0 (IntKind.u32.wrap (IntKind.u32.wrap (↑(BitVec.ofInt IntKind.u32.bits x0 ^^^ BitVec.ofInt IntKind.u32.bits (IntKind.u32.wrap (byteAt a0 x1))).toNat : Int) * (16777619 : Int))) (IntKind.i64.wrap (x1 + (1 : Int)))) K) else (none)) else (K (.exit 0) (s62_2x3 x0))) := by kernel_rfl
theorem s62_2x3_k (x0 : Int) : (KA B call inl 62 m [1, 1, 0, 1] (FI B call inl 62)) (.exit 0) (s62_2x3 x0) = (some (IntKind.i64.wrap x0)) := by kernel_rfl
theorem t62 (a0 : ByteArray) : stepN B call inl m 62 [argAV .str a0] = (LP B call inl 62 m [1, 1, 0, 1] (s62_2 a0 ((2166136261 : Int)) ((0 : Int))) (KA B call inl 62 m [1, 1, 0, 1] (FI B call inl 62)) : Option Int) := by kernel_rfl
/-! function 94 -/
def s94_2 (a0 : ByteArray) (x0 : Int) (x1 : Int) : St := { t := [(.v .str (a0)), .bad, (.v (.int .i64) ((0 : Int))), (.v (.int .u32) (x0)), .bad, .bad, (.v (.int .i64) ((↑(ByteArray.size a0) : Int))), (.v (.int .i64) (x1)), .bad, .bad, .bad, .bad, .bad, .bad, .bad, .bad, .bad, .bad, (.raw undef), (.raw undef)], bx := [], live := 0, g := [] }
def s94_2x3 (y0 : Int) : St := { t := [.bad, .bad, (.v (.int .i64) ((0 : Int))), (.v (.int .u32) (y0)), .bad, .bad, .bad, .bad, .bad, .bad, .bad, .bad, .bad, .bad, .bad, .bad, .bad, .bad, (.raw undef), (.raw undef)], bx := [none], live := 0, g := [] }
theorem s94_2_l {R : Type} (K : AEx → St → Option R) (a0 : ByteArray) (x0 : Int) (x1 : Int) : LP B call inl 94 (m + 1) [1, 1, 0, 1] (s94_2 a0 x0 x1) K = (bif decide (x1 < (↑(ByteArray.size a0) : Int)) then (if (0 : Int) ≤ x1 ∧ x1 < (↑(ByteArray.size a0) : Int) then (LP B call inl 94 m [1, 1, 0, 1] (s94_2 a0 (IntKind.u32.wrap (IntKind.u32.wrap (↑(BitVec.ofInt IntKind.u32.bits x0 ^^^ BitVec.ofInt IntKind.u32.bits (IntKind.u32.wrap (byteAt a0 x1))).toNat : Int) * (16777619 : Int))) (IntKind.i64.wrap (x1 + (1 : Int)))) K) else (none)) else (K (.exit 0) (s94_2x3 x0))) := by kernel_rfl
theorem s94_2x3_k (x0 : Int) : (KA B call inl 94 m [1, 1, 0, 1] (FI B call inl 94)) (.exit 0) (s94_2x3 x0) = (some (IntKind.i64.wrap x0)) := by kernel_rfl
theorem t94 (a0 : ByteArray) : stepN B call inl m 94 [argAV .str a0] = (LP B call inl 94 m [1, 1, 0, 1] (s94_2 a0 ((2166136261 : Int)) ((0 : Int))) (KA B call inl 94 m [1, 1, 0, 1] (FI B call inl 94)) : Option Int) := by kernel_rfl
/-! function 95 -/
theorem t95 (a0 : Int) (a1 : Int) : stepN B call inl m 95 [argAV (.int .u32) a0, argAV (.int .i64) a1] = (if IntKind.u64.wrap ((32 : Int) - IntKind.u64.wrap (↑(BitVec.ofInt IntKind.u64.bits (IntKind.u64.wrap a1) &&& BitVec.ofInt IntKind.u64.bits (31 : Int)).toNat : Int)) < (0 : Int) then (none) else (some (IntKind.u32.wrap (↑(BitVec.ofInt IntKind.u32.bits (IntKind.u32.wrap (a0 * (2 : Int) ^ Min.min (IntKind.u64.wrap (↑(BitVec.ofInt IntKind.u64.bits (IntKind.u64.wrap a1) &&& BitVec.ofInt IntKind.u64.bits (31 : Int)).toNat : Int)).toNat IntKind.u32.bits)) ||| BitVec.ofInt IntKind.u32.bits (Int.fdiv a0 ((2 : Int) ^ Min.min (IntKind.u64.wrap ((32 : Int) - IntKind.u64.wrap (↑(BitVec.ofInt IntKind.u64.bits (IntKind.u64.wrap a1) &&& BitVec.ofInt IntKind.u64.bits (31 : Int)).toNat : Int))).toNat IntKind.u32.bits))).toNat : Int))) : Option Int) := by kernel_rfl
/-! function 4 -/
theorem t4 (a0 : (List ByteArray)) (a1 : Nat) (a2 : (List Int)) (a3 : ByteArray) : stepN B call inl m 4 [argAV (.sl .str) a0, argAV (.flt .f64) a1, argAV (.sl (.int .u8)) a2, argAV .str a3] = ((call 20 [(.v (.sl .str) (a0))]).bind fun (v0 : Bool) => bif v0 == false then (bif decide ((↑(List.length a2) : Int) > (2000 : Int)) == false then (bif decide ((↑(ByteArray.size a3) : Int) > (300 : Int)) then ((call 21 []).bind fun (v1 : Bool) => some (v1)) else ((call 22 [(.v (.flt .f64) (a1))]).bind fun (v2 : Int) => (call 23 [(.v (.flt .f64) (a1))]).bind fun (v3 : Int) => bif (v2 == v3) == true then ((call 24 [(.v (.sl .str) (a0)), (.v (.flt .f64) (a1))]).bind fun (v4 : (List Int)) => (call 25 [(.v (.sl .str) (a0)), (.v (.flt .f64) (a1))]).bind fun (v5 : (List Int)) => bif ((strOf v4).toList == (strOf v5).toList) == true then ((call 26 [(.v (.sl (.int .u8)) (a2)), (.v .str (a3))]).bind fun (v6 : Bool) => (call 27 [(.v (.sl (.int .u8)) (a2)), (.v .str (a3))]).bind fun (v7 : Bool) => bif (v6 == v7) == true then ((call 21 []).bind fun (v8 : Bool) => some (v8)) else (some (false))) else (some (false))) else (some (false)))) else ((call 21 []).bind fun (v9 : Bool) => some (v9))) else ((call 21 []).bind fun (v10 : Bool) => some (v10)) : Option Bool) := by kernel_rfl
/-! function 6 -/
def s6_17 (a0 : (List ByteArray)) (a1 : Nat) (v2 : Nat) (v3 : Nat) (v4 : Nat) (v5 : Nat) (x11 : Int) : St := { t := [(.v (.sl .str) (a0)), .bad, .bad, .bad, .bad, (.own 0 35 (.flt .f64) ([a1, v2, v3, v4, v5, (0 : Nat), (4607182418800017408 : Nat), (1 : Nat), (9214871658872686752 : Nat)])), (.v (.int .i64) (x11)), .bad, .bad, .bad, .bad, .bad, .bad, .bad, .bad, .bad, .bad, .bad, .bad, .bad, .bad, .bad, .bad, .bad, .bad, .bad, .bad, .bad, .bad, .bad, .bad, .bad, .bad, .bad, .bad, .bad, .bad, .bad, .bad, .bad, .bad, .bad, .bad, (.raw undef)], bx := [none], live := 1, g := [] }
def s6_22 (a0 : (List ByteArray)) (a1 : Nat) (v2 : Nat) (v3 : Nat) (v4 : Nat) (v5 : Nat) (x11 : Int) (v18 : (List Int)) (x20 : Int) : St := { t := [(.v (.sl .str) (a0)), .bad, .bad, .bad, .bad, (.own 0 35 (.flt .f64) ([a1, v2, v3, v4, v5, (0 : Nat), (4607182418800017408 : Nat), (1 : Nat), (9214871658872686752 : Nat)])), (.v (.int .i64) (x11)), (.own 1 5 (.int .u8) (v18)), (.v (.int .i64) (x20)), .bad, .bad, .bad, .bad, .bad, .bad, .bad, .bad, .bad, (.v (.int .i64) (x11)), (.own 0 35 (.flt .f64) ([a1, v2, v3, v4, v5, (0 : Nat), (4607182418800017408 : Nat), (1 : Nat), (9214871658872686752 : Nat)])), (.v (.int .i64) ((↑[a1, v2, v3, v4, v5, (0 : Nat), (4607182418800017408 : Nat), (1 : Nat), (9214871658872686752 : Nat)].length : Int))), (.v .bool (decide (x11 < (↑[a1, v2, v3, v4, v5, (0 : Nat), (4607182418800017408 : Nat), (1 : Nat), (9214871658872686752 : Nat)].length : Int)))), .bad, .bad, (.v (.sl .str) (a0)), (.own 0 35 (.flt .f64) ([a1, v2, v3, v4, v5, (0 : Nat), (4607182418800017408 : Nat), (1 : Nat), (9214871658872686752 : Nat)])), (.v (.int .i64) (x11)), .bad, (.v (.flt .f64) ([a1, v2, v3, v4, v5, (0 : Nat), (4607182418800017408 : Nat), (1 : Nat), (9214871658872686752 : Nat)].getD x11.toNat (0))), (.own 1 5 (.int .u8) (v18)), .bad, .bad, .bad, .bad, .bad, .bad, .bad, .bad, .bad, .bad, .bad, .bad, .bad, (.raw undef)], bx := [none, none], live := 3, g := [] }
def s6_22x24 (y0 : (List ByteArray)) (y1 : Nat) (y2 : Nat) (y3 : Nat) (y4 : Nat) (y5 : Nat) (y6 : Int) (y7 : (List Int)) (y8 : Int) (y9 : Bool) : St := { t := [(.v (.sl .str) (y0)), .bad, .bad, .bad, (.v .bool (false)), (.own 0 35 (.flt .f64) ([y1, y2, y3, y4, y5, (0 : Nat), (4607182418800017408 : Nat), (1 : Nat), (9214871658872686752 : Nat)])), (.v (.int .i64) (y6)), (.own 1 5 (.int .u8) (y7)), (.v (.int .i64) (y8)), .bad, .bad, .bad, .bad, .bad, .bad, .bad, .bad, .bad, (.v (.int .i64) (y6)), (.own 0 35 (.flt .f64) ([y1, y2, y3, y4, y5, (0 : Nat), (4607182418800017408 : Nat), (1 : Nat), (9214871658872686752 : Nat)])), (.v (.int .i64) ((↑[y1, y2, y3, y4, y5, (0 : Nat), (4607182418800017408 : Nat), (1 : Nat), (9214871658872686752 : Nat)].length : Int))), (.v .bool (decide (y6 < (↑[y1, y2, y3, y4, y5, (0 : Nat), (4607182418800017408 : Nat), (1 : Nat), (9214871658872686752 : Nat)].length : Int)))), .bad, .bad, (.v (.sl .str) (y0)), (.own 0 35 (.flt .f64) ([y1, y2, y3, y4, y5, (0 : Nat), (4607182418800017408 : Nat), (1 : Nat), (9214871658872686752 : Nat)])), (.v (.int .i64) (y6)), .bad, (.v (.flt .f64) ([y1, y2, y3, y4, y5, (0 : Nat), (4607182418800017408 : Nat), (1 : Nat), (9214871658872686752 : Nat)].getD y6.toNat (0))), (.own 1 5 (.int .u8) (y7)), (.v (.int .i64) (y8)), (.v (.sl .str) (y0)), (.v (.int .i64) ((↑(List.length y0) : Int))), (.v .bool (decide (y8 < (↑(List.length y0) : Int)))), .bad, .bad, (.own 1 5 (.int .u8) (y7)), (.v (.sl .str) (y0)), (.v (.int .i64) (y8)), (.ro [(.v .str (List.getD y0 y8.toNat (ByteArray.mk #[])))]), (.v .str (List.getD y0 y8.toNat (ByteArray.mk #[]))), (.v .bool (y9)), (.v .bool (!y9)), (.raw undef)], bx := [none, none, none, none, none, none, none, none, none, none, none, none, none, none], live := 3, g := [] }
def s6_22x25 (y0 : (List ByteArray)) (y1 : Nat) (y2 : Nat) (y3 : Nat) (y4 : Nat) (y5 : Nat) (y6 : Int) (y7 : (List Int)) (y8 : Int) : St := { t := [(.v (.sl .str) (y0)), .bad, .bad, .bad, .bad, (.own 0 35 (.flt .f64) ([y1, y2, y3, y4, y5, (0 : Nat), (4607182418800017408 : Nat), (1 : Nat), (9214871658872686752 : Nat)])), (.v (.int .i64) (y6)), (.own 1 5 (.int .u8) (y7)), (.v (.int .i64) (y8)), .bad, .bad, .bad, .bad, .bad, .bad, .bad, .bad, .bad, (.v (.int .i64) (y6)), (.own 0 35 (.flt .f64) ([y1, y2, y3, y4, y5, (0 : Nat), (4607182418800017408 : Nat), (1 : Nat), (9214871658872686752 : Nat)])), (.v (.int .i64) ((↑[y1, y2, y3, y4, y5, (0 : Nat), (4607182418800017408 : Nat), (1 : Nat), (9214871658872686752 : Nat)].length : Int))), (.v .bool (decide (y6 < (↑[y1, y2, y3, y4, y5, (0 : Nat), (4607182418800017408 : Nat), (1 : Nat), (9214871658872686752 : Nat)].length : Int)))), .bad, .bad, (.v (.sl .str) (y0)), (.own 0 35 (.flt .f64) ([y1, y2, y3, y4, y5, (0 : Nat), (4607182418800017408 : Nat), (1 : Nat), (9214871658872686752 : Nat)])), (.v (.int .i64) (y6)), .bad, (.v (.flt .f64) ([y1, y2, y3, y4, y5, (0 : Nat), (4607182418800017408 : Nat), (1 : Nat), (9214871658872686752 : Nat)].getD y6.toNat (0))), (.own 1 5 (.int .u8) (y7)), (.v (.int .i64) (y8)), (.v (.sl .str) (y0)), (.v (.int .i64) ((↑(List.length y0) : Int))), (.v .bool (decide (y8 < (↑(List.length y0) : Int)))), .bad, .bad, .bad, .bad, .bad, .bad, .bad, .bad, .bad, (.raw undef)], bx := [none, none, none, none, none, none], live := 3, g := [] }
theorem s6_22_l {R : Type} (K : AEx → St → Option R) (a0 : (List ByteArray)) (a1 : Nat) (v2 : Nat) (v3 : Nat) (v4 : Nat) (v5 : Nat) (x11 : Int) (v18 : (List Int)) (x20 : Int) : LP B call inl 6 (m + 1) [1, 1, 1, 0, 1, 0, 1, 0, 1, 1] (s6_22 a0 a1 v2 v3 v4 v5 x11 v18 x20) K = (bif decide (x20 < (↑(List.length a0) : Int)) then (if (0 : Int) ≤ x20 ∧ x20 < (↑(List.length a0) : Int) then ((call 26 [(.v (.sl (.int .u8)) (v18)), (.v .str (List.getD a0 x20.toNat (ByteArray.mk #[])))]).bind fun (v23 : Bool) => bif !v23 then (K .ret (s6_22x24 a0 a1 v2 v3 v4 v5 x11 v18 x20 v23)) else (LP B call inl 6 m [1, 1, 1, 0, 1, 0, 1, 0, 1, 1] (s6_22 a0 a1 v2 v3 v4 v5 x11 v18 (IntKind.i64.wrap (x20 + (1 : Int)))) K)) else (none)) else (K (.exit 2) (s6_22x25 a0 a1 v2 v3 v4 v5 x11 v18 x20))) := by kernel_rfl
def s6_17x27 : St := { t := [.bad, .bad, .bad, .bad, (.v .bool (false)), .bad, .bad, .bad, .bad, .bad, .bad, .bad, .bad, .bad, .bad, .bad, .bad, .bad, .bad, .bad, .bad, .bad, .bad, .bad, .bad, .bad, .bad, .bad, .bad, .bad, .bad, .bad, .bad, .bad, .bad, .bad, .bad, .bad, .bad, .bad, .bad, .bad, .bad, (.raw undef)], bx := [none, none, none, none, none, none, none, none, none, none, none, none, none, none], live := 3, g := [] }
theorem s6_22x24_k {R : Type} (K : AEx → St → Option R) (a0 : (List ByteArray)) (a1 : Nat) (v2 : Nat) (v3 : Nat) (v4 : Nat) (v5 : Nat) (x11 : Int) (v18 : (List Int)) (x20 : Int) (v26 : Bool) : (KN B call inl 6 m [1, 1, 1, 0, 1] [1, 0, 1, 1] K) .ret (s6_22x24 a0 a1 v2 v3 v4 v5 x11 v18 x20 v26) = (K .ret (s6_17x27 )) := by kernel_rfl
theorem s6_22x25_k {R : Type} (K : AEx → St → Option R) (a0 : (List ByteArray)) (a1 : Nat) (v2 : Nat) (v3 : Nat) (v4 : Nat) (v5 : Nat) (x11 : Int) (v18 : (List Int)) (x20 : Int) : (KN B call inl 6 m [1, 1, 1, 0, 1] [1, 0, 1, 1] K) (.exit 2) (s6_22x25 a0 a1 v2 v3 v4 v5 x11 v18 x20) = (LP B call inl 6 m [1, 1, 1, 0, 1] (s6_17 a0 a1 v2 v3 v4 v5 (IntKind.i64.wrap (x11 + (1 : Int)))) K) := by kernel_rfl
def s6_17x28 : St := { t := [.bad, .bad, .bad, .bad, .bad, .bad, .bad, .bad, .bad, .bad, .bad, .bad, .bad, .bad, .bad, .bad, .bad, .bad, .bad, .bad, .bad, .bad, .bad, .bad, .bad, .bad, .bad, .bad, .bad, .bad, .bad, .bad, .bad, .bad, .bad, .bad, .bad, .bad, .bad, .bad, .bad, .bad, .bad, (.raw undef)], bx := [none, none, none, none, none], live := 1, g := [] }
theorem s6_17_l {R : Type} (K : AEx → St → Option R) (a0 : (List ByteArray)) (a1 : Nat) (v2 : Nat) (v3 : Nat) (v4 : Nat) (v5 : Nat) (x11 : Int) : LP B call inl 6 (m + 1) [1, 1, 1, 0, 1] (s6_17 a0 a1 v2 v3 v4 v5 x11) K = (bif decide (x11 < (↑[a1, v2, v3, v4, v5, (0 : Nat), (4607182418800017408 : Nat), (1 : Nat), (9214871658872686752 : Nat)].length : Int)) then (if (0 : Int) ≤ x11 ∧ x11 < (↑[a1, v2, v3, v4, v5, (0 : Nat), (4607182418800017408 : Nat), (1 : Nat), (9214871658872686752 : Nat)].length : Int) then ((call 24 [(.v (.sl .str) (a0)), (.v (.flt .f64) ([a1, v2, v3, v4, v5, (0 : Nat), (4607182418800017408 : Nat), (1 : Nat), (9214871658872686752 : Nat)].getD x11.toNat (0)))]).bind fun (v18 : (List Int)) => LP B call inl 6 m [1, 1, 1, 0, 1, 0, 1, 0, 1, 1] (s6_22 a0 a1 v2 v3 v4 v5 x11 v18 ((0 : Int))) (KN B call inl 6 m [1, 1, 1, 0, 1] [1, 0, 1, 1] K)) else (none)) else (K (.exit 0) (s6_17x28 ))) := by kernel_rfl
theorem s6_17x27_k : (KA B call inl 6 m [1, 1, 1, 0, 1] (FI B call inl 6)) .ret (s6_17x27 ) = (some (false)) := by kernel_rfl
theorem s6_17x28_k : (KA B call inl 6 m [1, 1, 1, 0, 1] (FI B call inl 6)) (.exit 0) (s6_17x28 ) = ((call 21 []).bind fun (v34 : Bool) => some (v34)) := by kernel_rfl
theorem t6 (a0 : (List ByteArray)) (a1 : Nat) : stepN B call inl m 6 [argAV (.sl .str) a0, argAV (.flt .f64) a1] = ((call 20 [(.v (.sl .str) (a0))]).bind fun (v0 : Bool) => bif v0 then ((call 21 []).bind fun (v1 : Bool) => some (v1)) else ((call 29 []).bind fun (v2 : Nat) => (call 30 [(.v (.int .i64) ((1 : Int)))]).bind fun (v3 : Nat) => (call 30 [(.v (.int .i64) ((-1 : Int)))]).bind fun (v4 : Nat) => (call 31 [(.v (.flt .f64) ((0 : Nat))), (.v (.flt .f64) ((13830554455654793216 : Nat)))]).bind fun (v5 : Nat) => LP B call inl 6 m [1, 1, 1, 0, 1] (s6_17 a0 a1 v2 v3 v4 v5 ((0 : Int))) (KA B call inl 6 m [1, 1, 1, 0, 1] (FI B call inl 6))) : Option Bool) := by kernel_rfl
/-! function 7 -/
theorem t7 (a0 : Nat) (a1 : Nat) : stepN B call inl m 7 [argAV (.flt .f64) a0, argAV (.flt .f64) a1] = ((call 22 [(.v (.flt .f64) (a0))]).bind fun (v0 : Int) => (call 22 [(.v (.flt .f64) (a1))]).bind fun (v1 : Int) => (call 29 []).bind fun (v2 : Nat) => (call 22 [(.v (.flt .f64) (v2))]).bind fun (v3 : Int) => bif (v3 != (0 : Int)) == false then ((call 31 [(.v (.flt .f64) ((0 : Nat))), (.v (.flt .f64) ((13830554455654793216 : Nat)))]).bind fun (v4 : Nat) => (call 22 [(.v (.flt .f64) (v4))]).bind fun (v5 : Int) => bif (v5 != (0 : Int)) == false then ((call 30 [(.v (.int .i64) ((-1 : Int)))]).bind fun (v6 : Nat) => (call 22 [(.v (.flt .f64) (v6))]).bind fun (v7 : Int) => bif (v7 != (0 : Int)) == false then ((call 22 [(.v (.flt .f64) ((4607182418800017408 : Nat)))]).bind fun (v8 : Int) => bif (v8 != (1 : Int)) == false then ((call 32 [(.v (.flt .f64) ((4607182418800017408 : Nat))), (.v (.flt .f64) ((0 : Nat)))]).bind fun (v9 : Nat) => (call 22 [(.v (.flt .f64) (v9))]).bind fun (v10 : Int) => bif (v10 != (0 : Int)) == false then ((call 22 [(.v (.flt .f64) ((9094988921128908188 : Nat)))]).bind fun (v11 : Int) => bif v11 != (12 : Int) then (some (false)) else (bif decide (v0 ≥ (0 : Int)) == true then (bif decide (v0 ≤ (12 : Int)) == true then (bif (!(Go.FloatKind.f64.format.order a0 a1 == Option.some Ordering.lt || Go.FloatKind.f64.format.order a0 a1 == Option.some Ordering.eq)) == false then (bif decide (v0 ≤ v1) == true then ((call 24 [(.v (.sl .str) ([(ByteArray.mk #[(120 : UInt8)])])), (.v (.flt .f64) (a0))]).bind fun (v12 : (List Int)) => bif (((↑(List.length v12) : Int) == (0 : Int)) == (v0 == (0 : Int))) == true then ((call 21 []).bind fun (v13 : Bool) => some (v13)) else (some (false))) else (some (false))) else ((call 24 [(.v (.sl .str) ([(ByteArray.mk #[(120 : UInt8)])])), (.v (.flt .f64) (a0))]).bind fun (v14 : (List Int)) => bif (((↑(List.length v14) : Int) == (0 : Int)) == (v0 == (0 : Int))) == true then ((call 21 []).bind fun (v15 : Bool) => some (v15)) else (some (false)))) else (some (false))) else (some (false)))) else (some (false))) else (some (false))) else (some (false))) else (some (false))) else (some (false)) : Option Bool) := by kernel_rfl
end
end Go.Eng.Bk
/- What the filter's small functions answer: words of floating numbers, hashes, turns. -/
namespace Go.Eng.Bk
open Go Go.Proofs Go.Eng
set_option linter.unusedVariables false
set_option linter.unusedSimpArgs false
theorem s64 {k : Nat} (h : 1 ≤ k) (n : Int) : callN B k 64 [.v (.int .u64) n] = (some n.toNat : Option Nat) := by
  obtain ⟨k, rfl⟩ := Nat.exists_eq_add_of_le' h
  rfl
theorem s65 {k : Nat} (h : 1 ≤ k) (x : Nat) : callN B k 65 [.v (.flt .f64) x] = (some (x : Int) : Option Int) := by
  obtain ⟨k, rfl⟩ := Nat.exists_eq_add_of_le' h
  rfl
theorem s92 {k : Nat} (h : 1 ≤ k) (x : Nat) : callN B k 92 [.v (.flt .f64) x] = (if (FloatKind.f64.decode x).isNaN then none else some (floorF x) : Option Nat) := by
  obtain ⟨k, rfl⟩ := Nat.exists_eq_add_of_le' h
  rfl
theorem s59 {k : Nat} (h : 2 ≤ k) {x : Nat} (hx : (FloatKind.f64.decode x).isNaN = false) : callN B k 59 [.v (.flt .f64) x] = (some (floorF x) : Option Nat) := by
  obtain ⟨k, rfl⟩ := Nat.exists_eq_add_of_le' (show 1 ≤ k by omega)
  refine (callS k 59 _).trans ((t59 (callN B k) (lvl B k).2 k x).trans ?_)
  exact bnd ((s92 (by omega) x).trans (by rw [hx]; rfl)) rfl
theorem s28 {k : Nat} (h : 1 ≤ k) (x : Nat) : callN B k 28 [.v (.flt .f64) x] = (some (FloatKind.f64.format.order x x != some .eq) : Option Bool) := by
  obtain ⟨k, rfl⟩ := Nat.exists_eq_add_of_le' h
  exact (callS k 28 _).trans (t28 (callN B k) (lvl B k).2 k x)
theorem s29 {k : Nat} (h : 2 ≤ k) : callN B k 29 [] = (some 9221120237041090561 : Option Nat) := by
  obtain ⟨k, rfl⟩ := Nat.exists_eq_add_of_le' (show 1 ≤ k by omega)
  exact (callS k 29 _).trans ((t29 (callN B k) (lvl B k).2 k).trans (bnd (s64 (by omega) _) rfl))
theorem s30 {k : Nat} (h : 2 ≤ k) : callN B k 30 [.v i64 (1 : Int)] = (some 9218868437227405312 : Option Nat) := by
  obtain ⟨k, rfl⟩ := Nat.exists_eq_add_of_le' (show 1 ≤ k by omega)
  exact (callS k 30 _).trans ((t30 (callN B k) (lvl B k).2 k 1).trans (bnd (s64 (by omega) _) rfl))
theorem s30' {k : Nat} (h : 2 ≤ k) : callN B k 30 [.v i64 (-1 : Int)] = (some 18442240474082181120 : Option Nat) := by
  obtain ⟨k, rfl⟩ := Nat.exists_eq_add_of_le' (show 1 ≤ k by omega)
  exact (callS k 30 _).trans ((t30 (callN B k) (lvl B k).2 k (-1)).trans (bnd (s64 (by omega) _) rfl))
theorem s58 {k : Nat} (h : 1 ≤ k) (x : Nat) : callN B k 58 [.v (.flt .f64) x, .v i64 (1 : Int)] = (some (FloatKind.f64.format.order x 9218868437227405311 == some .gt) : Option Bool) := by
  obtain ⟨k, rfl⟩ := Nat.exists_eq_add_of_le' h
  exact (callS k 58 _).trans ((t58 (callN B k) (lvl B k).2 k x 1).trans rfl)
/-! ### the hash -/
def hstep (s : ByteArray) (x : Int) (i : Nat) : Int := IntKind.u32.wrap (IntKind.u32.wrap (((BitVec.ofInt IntKind.u32.bits x ^^^ BitVec.ofInt IntKind.u32.bits (IntKind.u32.wrap (byteAt s (i : Int)))).toNat : Nat) : Int) * (16777619 : Int))
def hashA (s : ByteArray) : Nat → Nat → Int → Int
  | 0, _, x => x
  | d + 1, i, x => hashA s d (i + 1) (hstep s x i)
def hashS (s : ByteArray) : Int := hashA s s.size 0 2166136261
theorem wu32 (x : Int) : IntKind.u32.wrap x = x % 4294967296 := by
  have hb : IntKind.u32.bits = 32 := rfl
  have hs : IntKind.u32.signed = false := rfl
  unfold IntKind.wrap
  rw [hb, hs]
  simp
theorem hashA_range (s : ByteArray) : ∀ (d i : Nat) (x : Int), 0 ≤ x → x < 4294967296 → 0 ≤ hashA s d i x ∧ hashA s d i x < 4294967296
  | 0, _, x, h1, h2 => ⟨h1, h2⟩
  | d + 1, i, x, h1, h2 => hashA_range s d (i + 1) _ (by unfold hstep; rw [wu32]; omega) (by unfold hstep; rw [wu32]; omega)
theorem hashS_range (s : ByteArray) : 0 ≤ hashS s ∧ hashS s < 4294967296 := hashA_range s _ _ _ (by decide) (by decide)
theorem l62 {call : CallT B} {inl : InlT} (m0 : Nat) {s : ByteArray} (hlen : s.size ≤ 140737488351232) (d : Nat) : ∀ (i m : Nat) (x : Int), i + d = s.size → d < m →
    LP B call inl 62 m [1, 1, 0, 1] (s62_2 s x (i : Int)) (KA B call inl 62 m0 [1, 1, 0, 1] (FI B call inl 62)) = (some (IntKind.i64.wrap (hashA s d i x)) : Option Int) := by
  induction d with
  | zero =>
    intro i m x hd hm
    obtain ⟨m, rfl⟩ : ∃ k, m = k + 1 := ⟨m - 1, by omega⟩
    rw [s62_2_l, bF (by omega), s62_2x3_k]
    rfl
  | succ d ih =>
    intro i m x hd hm
    obtain ⟨m, rfl⟩ : ∃ k, m = k + 1 := ⟨m - 1, by omega⟩
    rw [s62_2_l, bT (by omega), if_pos (by omega), w64 (x := (i : Int) + 1) (by omega) (by omega)]
    exact ih (i + 1) m (hstep s x i) (by omega) (by omega)
theorem s62 {k : Nat} {s : ByteArray} (hlen : s.size ≤ 140737488351232) (hk : s.size + 2 ≤ k) : callN B k 62 [.v .str s] = (some (hashS s) : Option Int) := by
  obtain ⟨k, rfl⟩ := Nat.exists_eq_add_of_le' (show 1 ≤ k by omega)
  refine (callS k 62 _).trans ((t62 (callN B k) (lvl B k).2 k s).trans ?_)
  have := hashS_range s
  refine (l62 k hlen s.size 0 k 2166136261 (by omega) (by omega)).trans (congrArg some ?_)
  show IntKind.i64.wrap (hashS s) = hashS s
  exact w64 (by omega) (by omega)
theorem l94 {call : CallT B} {inl : InlT} (m0 : Nat) {s : ByteArray} (hlen : s.size ≤ 140737488351232) (d : Nat) : ∀ (i m : Nat) (x : Int), i + d = s.size → d < m →
    LP B call inl 94 m [1, 1, 0, 1] (s94_2 s x (i : Int)) (KA B call inl 94 m0 [1, 1, 0, 1] (FI B call inl 94)) = (some (IntKind.i64.wrap (hashA s d i x)) : Option Int) := by
  induction d with
  | zero =>
    intro i m x hd hm
    obtain ⟨m, rfl⟩ : ∃ k, m = k + 1 := ⟨m - 1, by omega⟩
    rw [s94_2_l, bF (by omega), s94_2x3_k]
    rfl
  | succ d ih =>
    intro i m x hd hm
    obtain ⟨m, rfl⟩ : ∃ k, m = k + 1 := ⟨m - 1, by omega⟩
    rw [s94_2_l, bT (by omega), if_pos (by omega), w64 (x := (i : Int) + 1) (by omega) (by omega)]
    exact ih (i + 1) m (hstep s x i) (by omega) (by omega)
theorem s94 {k : Nat} {s : ByteArray} (hlen : s.size ≤ 140737488351232) (hk : s.size + 2 ≤ k) : callN B k 94 [.v .str s] = (some (hashS s) : Option Int) := by
  obtain ⟨k, rfl⟩ := Nat.exists_eq_add_of_le' (show 1 ≤ k by omega)
  refine (callS k 94 _).trans ((t94 (callN B k) (lvl B k).2 k s).trans ?_)
  have := hashS_range s
  refine (l94 k hlen s.size 0 k 2166136261 (by omega) (by omega)).trans (congrArg some ?_)
  show IntKind.i64.wrap (hashS s) = hashS s
  exact w64 (by omega) (by omega)
/-- The step from place to place. -/
def turnD (h : Int) : Int := IntKind.u32.wrap (((BitVec.ofInt IntKind.u32.bits ((IntKind.u32.wrap h).fdiv ((2 : Int) ^ Min.min (Int.toNat (17 : Int)) IntKind.u32.bits)) ||| BitVec.ofInt IntKind.u32.bits (IntKind.u32.wrap (IntKind.u32.wrap h * (2 : Int) ^ Min.min (Int.toNat (15 : Int)) IntKind.u32.bits))).toNat : Nat) : Int)
theorem s95 {k : Nat} (h : 1 ≤ k) (x : Int) (hx : 0 ≤ x) (hx2 : x < 4294967296) : callN B k 95 [.v (.int .u32) x, .v i64 (-17 : Int)] = (some (turnD x) : Option Int) := by
  obtain ⟨k, rfl⟩ := Nat.exists_eq_add_of_le' h
  refine (callS k 95 _).trans ((t95 (callN B k) (lvl B k).2 k x (-17)).trans ?_)
  have e1 : (IntKind.u64.wrap (((BitVec.ofInt IntKind.u64.bits (IntKind.u64.wrap (-17)) &&& BitVec.ofInt IntKind.u64.bits (31 : Int)).toNat : Nat) : Int)) = 15 := by decide
  rw [e1, show IntKind.u64.wrap ((32 : Int) - 15) = 17 from by decide, if_neg (by decide)]
  refine congrArg some ?_
  unfold turnD
  rw [show IntKind.u32.wrap x = x from by rw [wu32]; omega, BitVec.or_comm]
end Go.Eng.Bk
/- Floating numbers: what is not no number stays so; truncation between two bounds; how often a filter is asked. -/
namespace Go.Eng.Bk
open Go Go.Proofs Go.Eng
set_option linter.unusedVariables false
set_option linter.unusedSimpArgs false
open Ieee in
theorem cut_zero (s : Bool) (n drop : Nat) : Toward.cut .zero s n drop = n / 2 ^ min drop (n.log2 + 2) := by
  show n / (1 <<< min drop (n.log2 + 2)) + 0 = _
  rw [Nat.add_zero, Nat.shiftLeft_eq, Nat.one_mul]
open Ieee in
theorem trunc_le {s : Bool} {m : Nat} {i : Int} {c t : Nat} (ht : 0 ≤ i + (t : Int)) (h : m * 2 ^ (i + (t : Int)).toNat ≤ c * 2 ^ t) : Toward.cut .zero s (m <<< i.toNat) (-i).toNat ≤ c := by
  rw [cut_zero, Nat.shiftLeft_eq]
  rcases Int.eq_nat_or_neg i with ⟨j, rfl | rfl⟩
  · have e1 : ((j : Int) + (t : Int)).toNat = j + t := by omega
    rw [e1, Nat.pow_add, ← Nat.mul_assoc] at h
    have h2 : m * 2 ^ j ≤ c := Nat.le_of_mul_le_mul_right h (Nat.two_pow_pos t)
    rw [Int.toNat_natCast]
    exact Nat.le_trans (Nat.div_le_self _ _) h2
  · have e1 : (-(j : Int) + (t : Int)).toNat = t - j := by omega
    have e2 : (-(j : Int)).toNat = 0 := by omega
    have e3 : (-(-(j : Int))).toNat = j := by omega
    rw [e1] at h
    rw [e2, e3, Nat.pow_zero, Nat.mul_one]
    have h2 : m ≤ c * 2 ^ j := by
      have : c * 2 ^ t = c * 2 ^ j * 2 ^ (t - j) := by rw [Nat.mul_assoc, ← Nat.pow_add]; congr 2; omega
      rw [this] at h
      exact Nat.le_of_mul_le_mul_right h (Nat.two_pow_pos _)
    by_cases hj : j ≤ m.log2 + 2
    · rw [Nat.min_eq_left hj]
      exact Nat.div_le_of_le_mul (by rw [Nat.mul_comm]; exact h2)
    · rw [Nat.min_eq_right (by omega), Nat.div_eq_of_lt]
      · exact Nat.zero_le _
      · by_cases h0 : m = 0
        · subst h0; exact Nat.two_pow_pos _
        · exact Nat.lt_of_lt_of_le (Nat.lt_log2_self) (Nat.pow_le_pow_right (by omega) (by omega))
open Ieee in
theorem le_trunc {s : Bool} {m : Nat} {i : Int} {c t : Nat} (hc : 1 ≤ c) (ht : 0 ≤ i + (t : Int)) (h : c * 2 ^ t ≤ m * 2 ^ (i + (t : Int)).toNat) : c ≤ Toward.cut .zero s (m <<< i.toNat) (-i).toNat := by
  rw [cut_zero, Nat.shiftLeft_eq]
  rcases Int.eq_nat_or_neg i with ⟨j, rfl | rfl⟩
  · have e1 : ((j : Int) + (t : Int)).toNat = j + t := by omega
    have e2 : (-(j : Int)).toNat = 0 := by omega
    rw [e1, Nat.pow_add, ← Nat.mul_assoc] at h
    have h2 : c ≤ m * 2 ^ j := Nat.le_of_mul_le_mul_right h (Nat.two_pow_pos t)
    rw [Int.toNat_natCast, e2, Nat.zero_min, Nat.pow_zero, Nat.div_one]
    exact h2
  · have e1 : (-(j : Int) + (t : Int)).toNat = t - j := by omega
    have e2 : (-(j : Int)).toNat = 0 := by omega
    have e3 : (-(-(j : Int))).toNat = j := by omega
    rw [e1] at h
    rw [e2, e3, Nat.pow_zero, Nat.mul_one]
    have h2 : c * 2 ^ j ≤ m := by
      have : c * 2 ^ t = c * 2 ^ j * 2 ^ (t - j) := by rw [Nat.mul_assoc, ← Nat.pow_add]; congr 2; omega
      rw [this] at h
      exact Nat.le_of_mul_le_mul_right h (Nat.two_pow_pos _)
    have hj : j ≤ m.log2 + 2 := by
      have h3 : 2 ^ j ≤ m := Nat.le_trans (Nat.le_mul_of_pos_left _ hc) h2
      have h4 : m < 2 ^ (m.log2 + 1) := Nat.lt_log2_self
      have := (Nat.pow_lt_pow_iff_right (a := 2) (by omega)).1 (Nat.lt_of_le_of_lt h3 h4)
      omega
    rw [Nat.min_eq_left hj]
    exact (Nat.le_div_iff_mul_le (Nat.two_pow_pos _)).2 h2
open Ieee in
/-- A whole number against another one, in so many units. -/
theorem ord_num (c k m : Nat) (s : Bool) (i : Int) : ∃ t : Nat, 0 ≤ i + (t : Int) ∧ Datum.order (.number false (c * 2 ^ k) (-(k : Int))) (.number s m i) = some (compare ((c * 2 ^ t : Nat) : Int) (if s then -((m * 2 ^ (i + (t : Int)).toNat : Nat) : Int) else ((m * 2 ^ (i + (t : Int)).toNat : Nat) : Int))) := by
  refine ⟨(-(min (-(k : Int)) i)).toNat, by omega, ?_⟩
  have e1 : ((-(k : Int)) - min (-(k : Int)) i).toNat + k = (-(min (-(k : Int)) i)).toNat := by omega
  have e2 : (i - min (-(k : Int)) i).toNat = (i + ((-(min (-(k : Int)) i)).toNat : Int)).toNat := by omega
  show some (compare (signed false (c * 2 ^ k) ((-(k : Int)) - min (-(k : Int)) i).toNat) (signed s m (i - min (-(k : Int)) i).toNat)) = _
  unfold signed
  rw [e2, Nat.shiftLeft_eq, Nat.shiftLeft_eq, Nat.mul_assoc, ← Nat.pow_add, Nat.add_comm k, e1]
  rfl
abbrev FF : Ieee.Format := FloatKind.f64.format
abbrev one64 : Nat := 4607182418800017408
abbrev twelve64 : Nat := 4622945017495814144
theorem read_one : FF.read one64 = .number false (1 * 2 ^ 52) (-((52 : Nat) : Int)) := by decide +kernel
theorem read_twelve : FF.read twelve64 = .number false (12 * 2 ^ 49) (-((49 : Nat) : Int)) := by decide +kernel
open Ieee in
theorem between {d : Datum} (h1 : (FF.read one64).order d = some .lt) (h12 : (FF.read twelve64).order d ≠ some .lt) (hn : d.isNaN = false) : ∃ p : Nat, d.toInt .zero = some (p : Int) ∧ 1 ≤ p ∧ p ≤ 12 := by
  cases d with
  | nan s t => cases hn
  | infinity s =>
    rw [read_one] at h1
    rw [read_twelve] at h12
    cases s with
    | true => cases h1
    | false => exact absurd rfl h12
  | number s m i =>
    rw [read_one] at h1
    rw [read_twelve] at h12
    obtain ⟨t, ht, e⟩ := ord_num 1 52 m s i
    obtain ⟨u, hu, f⟩ := ord_num 12 49 m s i
    rw [e] at h1
    rw [f] at h12
    have h1' := Int.compare_eq_lt.1 (Option.some.inj h1)
    have h12' : ¬ _ := fun hh => h12 (congrArg some (Int.compare_eq_lt.2 hh))
    cases s with
    | true =>
      rw [if_pos rfl] at h1'
      omega
    | false =>
      rw [if_neg (by decide)] at h1' h12'
      refine ⟨_, rfl, le_trunc (s := false) (t := t) (by omega) ht (by omega), trunc_le (s := false) (t := u) hu (by omega)⟩
theorem sw : FF.signWeight = 9223372036854775808 := by decide +kernel
theorem ir : FF.infRung = 9218868437227405312 := by decide +kernel
theorem bn : FF.binade = 4503599627370496 := by decide +kernel
open Ieee in
theorem read_word (s : Bool) {r : Nat} (h : r ≤ FF.infRung) : (FF.read (FF.word s r)).isNaN = false := by
  have h1 : FF.word s r % FF.signWeight = r := by
    unfold Format.word
    rw [sw]
    rw [ir] at h
    split <;> omega
  unfold Format.read
  simp only
  rw [h1]
  split
  · rfl
  · split
    · rfl
    · split
      · rfl
      · omega
open Ieee in
theorem read_write {d : Datum} (h : d.isNaN = false) : (FF.read (FF.write d)).isNaN = false := by
  cases d with
  | nan s t => cases h
  | infinity s => exact read_word s (Nat.le_refl _)
  | number s m i =>
    show (FF.read (FF.nearest s m i)).isNaN = false
    unfold Format.nearest
    split
    · exact read_word s (Nat.zero_le _)
    · simp only
      exact read_word s (Nat.min_le_right _ _)
open Ieee in
theorem floor_num {x : Nat} (h : (FF.read x).isNaN = false) : (FF.read (floorF x)).isNaN = false := by
  refine read_write (d := (FF.read x).integral .down) ?_
  cases hd : FF.read x with
  | nan s t => rw [hd] at h; cases h
  | infinity s => rfl
  | number s m i => rfl
open Ieee in
theorem order_num {a b : Nat} (ha : (FF.read a).isNaN = false) (hb : (FF.read b).isNaN = false) : (FF.order a b).isSome = true := by
  unfold Format.order
  cases h1 : FF.read a with
  | nan s t => rw [h1] at ha; cases ha
  | infinity s => cases h2 : FF.read b with
    | nan s t => rw [h2] at hb; cases hb
    | infinity t => rfl
    | number t n j => rfl
  | number s m i => cases h2 : FF.read b with
    | nan s t => rw [h2] at hb; cases hb
    | infinity t => rfl
    | number t n j => rfl
open Ieee in
theorem num_of_eq {x : Nat} (h : FF.order x x = some .eq) : (FF.read x).isNaN = false := by
  unfold Format.order at h
  cases hd : FF.read x with
  | nan s t => rw [hd] at h; cases h
  | infinity s => rfl
  | number s m i => rfl
/-- How often: the rest behind the looks at what the bits are. -/
def prb (x : Nat) : Option Int := (FF.mul (4604480259023595110 : Nat) x).bind fun v2 => (if (FloatKind.f64.decode v2).isNaN then none else some (floorF v2)).bind fun v3 => (fm2 false FloatKind.f64 twelve64 v3).bind fun v4 => (fm2 true FloatKind.f64 one64 v4).bind fun v5 => fToI FloatKind.f64 v5 IntKind.i64
theorem read_c7 : ∃ m i, FF.read 4604480259023595110 = .number false m i ∧ m ≠ 0 := ⟨6305039478318694, -53, by decide +kernel, by decide⟩
open Ieee in
theorem mul_num {x : Nat} (h : (FF.read x).isNaN = false) : ∃ v, FF.mul 4604480259023595110 x = some v ∧ (FF.read v).isNaN = false := by
  obtain ⟨m, i, hc, hm⟩ := read_c7
  unfold Format.mul
  rw [hc]
  cases hd : FF.read x with
  | nan s t => rw [hd] at h; cases h
  | infinity s =>
    refine ⟨FF.write (Datum.infinity (s ^^ false)), ?_, read_write rfl⟩
    show Option.map FF.write (if m = 0 then none else some (Datum.infinity (s ^^ false))) = some (FF.write (Datum.infinity (s ^^ false)))
    rw [if_neg hm]
    rfl
  | number s n j => exact ⟨_, rfl, read_write rfl⟩
theorem fToI_of {v : Nat} {p : Int} (h : (FF.read v).toInt .zero = some p) (h1 : -9223372036854775808 ≤ p) (h2 : p ≤ 9223372036854775807) : fToI FloatKind.f64 v IntKind.i64 = some p := by
  unfold fToI
  have h' : (FloatKind.f64.decode v).toInt .zero = some p := h
  rw [h']
  simp only
  rw [if_pos]
  rw [show IntKind.i64.min = -9223372036854775808 from by decide, show IntKind.i64.max = 9223372036854775807 from by decide]
  exact ⟨h1, h2⟩
theorem prb_ok {x : Nat} (h : (FF.read x).isNaN = false) : ∃ p : Nat, prb x = some (p : Int) ∧ 1 ≤ p ∧ p ≤ 12 := by
  obtain ⟨v2, e2, n2⟩ := mul_num h
  have n3 := floor_num n2
  have n12 : (FF.read twelve64).isNaN = false := by decide +kernel
  have n1 : (FF.read one64).isNaN = false := by decide +kernel
  unfold prb
  rw [e2, Option.bind_some, if_neg (by rw [show (FloatKind.f64.decode v2).isNaN = (FF.read v2).isNaN from rfl, n2]; decide), Option.bind_some]
  generalize floorF v2 = v3 at n3 ⊢
  have s3 := order_num n12 n3
  have f3 : fm2 false FloatKind.f64 twelve64 v3 = some (minF FloatKind.f64 twelve64 v3) := by
    unfold fm2; rw [if_pos s3]; rfl
  rw [f3, Option.bind_some]
  have hmin : minF FloatKind.f64 twelve64 v3 = twelve64 ∨ (minF FloatKind.f64 twelve64 v3 = v3 ∧ FF.order twelve64 v3 ≠ some .lt) := by
    unfold minF
    split
    · exact .inl rfl
    · rename_i hne
      split
      · exact .inr ⟨rfl, hne⟩
      · split
        · exact .inl rfl
        · exact .inr ⟨rfl, hne⟩
  have t1 : fToI FloatKind.f64 one64 IntKind.i64 = some ((1 : Nat) : Int) := by decide +kernel
  have t12 : fToI FloatKind.f64 twelve64 IntKind.i64 = some ((12 : Nat) : Int) := by decide +kernel
  rcases hmin with hmin | ⟨hmin, hlt⟩
  · rw [hmin]
    have f4 : fm2 true FloatKind.f64 one64 twelve64 = some twelve64 := by decide +kernel
    rw [f4, Option.bind_some]
    exact ⟨12, t12, by omega, by omega⟩
  · rw [hmin]
    have s4 := order_num n1 n3
    have f4 : fm2 true FloatKind.f64 one64 v3 = some (maxF FloatKind.f64 one64 v3) := by
      unfold fm2; rw [if_pos s4]; rfl
    rw [f4, Option.bind_some]
    have hd1 : (FloatKind.f64.decode one64).neg = false := by decide +kernel
    have hmax : maxF FloatKind.f64 one64 v3 = one64 ∨ (maxF FloatKind.f64 one64 v3 = v3 ∧ FF.order one64 v3 = some .lt) := by
      unfold maxF
      split
      · exact .inl rfl
      · split
        · rename_i h1
          exact .inr ⟨rfl, h1⟩
        · rw [hd1, if_neg (by decide)]
          exact .inl rfl
    rcases hmax with hmax | ⟨hmax, hgt⟩
    · rw [hmax]
      exact ⟨1, t1, by omega, by omega⟩
    · rw [hmax]
      obtain ⟨p, hp, p1, p2⟩ := between (d := FF.read v3) hgt hlt n3
      exact ⟨p, fToI_of hp (by omega) (by omega), p1, p2⟩
end Go.Eng.Bk
/- How often a filter is asked, the program's and the document's. -/
namespace Go.Eng.Bk
open Go Go.Proofs Go.Eng
set_option linter.unusedVariables false
set_option linter.unusedSimpArgs false
def probes (x : Nat) : Int := if FF.order x x = some .eq ∧ FF.order x one64 ≠ some .lt then (prb x).getD 0 else 0
theorem probes_yes {x : Nat} (h1 : FF.order x x = some .eq) (h2 : FF.order x one64 ≠ some .lt) : ∃ p : Nat, probes x = (p : Int) ∧ prb x = some (p : Int) ∧ 1 ≤ p ∧ p ≤ 12 := by
  obtain ⟨p, hp, h3, h4⟩ := prb_ok (num_of_eq h1)
  exact ⟨p, by unfold probes; rw [if_pos ⟨h1, h2⟩, hp]; rfl, hp, h3, h4⟩
theorem probes_nat (x : Nat) : ∃ p : Nat, probes x = (p : Int) ∧ p ≤ 12 := by
  by_cases h : FF.order x x = some .eq ∧ FF.order x one64 ≠ some .lt
  · obtain ⟨p, h1, _, _, h2⟩ := probes_yes h.1 h.2
    exact ⟨p, h1, h2⟩
  · exact ⟨0, by unfold probes; rw [if_neg h]; rfl, by omega⟩
/-- The tail of the functions, with the calls done. -/
theorem prb_tree {k : Nat} (hk : 3 ≤ k) {x : Nat} (h : (FF.read x).isNaN = false) : ((FloatKind.f64.format.mul (4604480259023595110 : Nat) x).bind fun (v1 : Nat) => ((callN B k 59 [(.v (.flt .f64) (v1))]) : Option Nat).bind fun (v2 : Nat) => (fm2 false FloatKind.f64 (4622945017495814144 : Nat) v2).bind fun (v3 : Nat) => (fm2 true FloatKind.f64 (4607182418800017408 : Nat) v3).bind fun (v4 : Nat) => (fToI FloatKind.f64 v4 IntKind.i64).bind fun (v5 : Int) => some (v5)) = prb x := by
  obtain ⟨v2, e2, n2⟩ := mul_num h
  unfold prb
  have e2' : FloatKind.f64.format.mul (4604480259023595110 : Nat) x = some v2 := e2
  rw [e2', Option.bind_some, Option.bind_some]
  refine (bnd (s59 (by omega) n2) rfl).trans ?_
  rw [if_neg (by rw [show (FloatKind.f64.decode v2).isNaN = (FF.read v2).isNaN from rfl, n2]; decide), Option.bind_some]
  congr 1
  funext v3
  congr 1
  funext v4
  generalize fToI FloatKind.f64 v4 IntKind.i64 = o
  cases o <;> rfl
open Ieee in
theorem read_bound {x : Nat} {s : Bool} {m : Nat} {i : Int} (h : FF.read x = .number s m i) : m < 9007199254740992 ∧ i ≤ 971 := by
  unfold Format.read at h
  simp only at h
  rw [bn, ir] at h
  have lp : FF.leastPlace = -1074 := by decide +kernel
  rw [lp] at h
  split at h
  · cases h; omega
  · split at h
    · cases h; omega
    · split at h <;> cases h
open Ieee in
theorem inf_of {x : Nat} (h : FF.order x 9218868437227405311 = some .gt) : FF.read x = .infinity false := by
  unfold Format.order at h
  have hm : FF.read 9218868437227405311 = .number false 9007199254740991 971 := by decide +kernel
  rw [hm] at h
  cases hd : FF.read x with
  | nan s t => rw [hd] at h; cases h
  | infinity s => cases s with
    | true => rw [hd] at h; cases h
    | false => rfl
  | number s m i =>
    obtain ⟨hm, hi⟩ := read_bound hd
    rw [hd] at h
    have h2 : compare (signed s m (i - min i 971).toNat) (signed false 9007199254740991 (971 - min i 971).toNat) = .gt := Option.some.inj h
    have h3 := Int.compare_eq_gt.1 h2
    rw [Int.min_eq_left hi, show (i - i).toNat = 0 from by omega] at h3
    have h4 : (9007199254740991 : Nat) ≤ 9007199254740991 <<< (971 - i).toNat := by rw [Nat.shiftLeft_eq]; exact Nat.le_mul_of_pos_right _ (Nat.two_pow_pos _)
    cases s with
    | true =>
      have : signed true m 0 = -((m <<< 0 : Nat) : Int) := rfl
      have e2 : signed false 9007199254740991 (971 - i).toNat = ((9007199254740991 <<< (971 - i).toNat : Nat) : Int) := rfl
      rw [this, e2, Nat.shiftLeft_zero] at h3
      omega
    | false =>
      have : signed false m 0 = ((m <<< 0 : Nat) : Int) := rfl
      have e2 : signed false 9007199254740991 (971 - i).toNat = ((9007199254740991 <<< (971 - i).toNat : Nat) : Int) := rfl
      rw [this, e2, Nat.shiftLeft_zero] at h3
      omega
open Ieee in
theorem prb_inf {x : Nat} (h : FF.read x = .infinity false) : prb x = some 12 := by
  have hm : FF.mul 4604480259023595110 x = FF.mul 4604480259023595110 9218868437227405312 := by
    unfold Format.mul
    rw [h, show FF.read 9218868437227405312 = .infinity false from by decide +kernel]
  unfold prb
  rw [hm]
  decide +kernel
theorem s23 {k : Nat} (hk : 5 ≤ k) (x : Nat) : callN B k 23 [.v (.flt .f64) x] = (some (probes x) : Option Int) := by
  obtain ⟨k, rfl⟩ := Nat.exists_eq_add_of_le' (show 1 ≤ k by omega)
  refine (callS k 23 _).trans ((t23 (callN B k) (lvl B k).2 k x).trans ?_)
  refine bnd (s28 (by omega) x) ?_
  by_cases h1 : FF.order x x = some .eq
  · have e1 : (FloatKind.f64.format.order x x != some .eq) = false := by rw [show FloatKind.f64.format.order x x = some .eq from h1]; rfl
    rw [e1, beq_self_eq_true, cond_true]
    by_cases h2 : FF.order x one64 = some .lt
    · have e2 : (FloatKind.f64.format.order x (4607182418800017408 : Nat) == some .lt) = true := by rw [show FloatKind.f64.format.order x (4607182418800017408 : Nat) = some .lt from h2]; rfl
      rw [e2, cond_true]
      unfold probes
      rw [if_neg (fun h => h.2 h2)]
    · have e2 : (FloatKind.f64.format.order x (4607182418800017408 : Nat) == some .lt) = false := beq_eq_false_iff_ne.2 h2
      rw [e2, cond_false]
      obtain ⟨p, hp, hp2, _⟩ := probes_yes h1 h2
      refine (prb_tree (by omega) (num_of_eq h1)).trans ?_
      rw [hp2, hp]
  · have e1 : (FloatKind.f64.format.order x x != some .eq) = true := bne_iff_ne.2 h1
    rw [e1, show (true == false) = false from rfl, cond_false]
    unfold probes
    rw [if_neg (fun h => h1 h.1)]
theorem s22 {k : Nat} (hk : 5 ≤ k) (x : Nat) : callN B k 22 [.v (.flt .f64) x] = (some (probes x) : Option Int) := by
  obtain ⟨k, rfl⟩ := Nat.exists_eq_add_of_le' (show 1 ≤ k by omega)
  refine (callS k 22 _).trans ((t22 (callN B k) (lvl B k).2 k x).trans ?_)
  refine bnd (s28 (by omega) x) ?_
  by_cases h1 : FF.order x x = some .eq
  · have e1 : (FloatKind.f64.format.order x x != some .eq) = false := by rw [show FloatKind.f64.format.order x x = some .eq from h1]; rfl
    rw [e1, beq_self_eq_true, cond_true]
    by_cases h2 : FF.order x one64 = some .lt
    · have e2 : (FloatKind.f64.format.order x (4607182418800017408 : Nat) == some .lt) = true := by rw [show FloatKind.f64.format.order x (4607182418800017408 : Nat) = some .lt from h2]; rfl
      rw [e2, cond_true]
      unfold probes
      rw [if_neg (fun h => h.2 h2)]
    · have e2 : (FloatKind.f64.format.order x (4607182418800017408 : Nat) == some .lt) = false := beq_eq_false_iff_ne.2 h2
      rw [e2, cond_false]
      obtain ⟨p, hp, hp2, _⟩ := probes_yes h1 h2
      refine bnd (s58 (by omega) x) ?_
      by_cases h3 : FF.order x 9218868437227405311 = some .gt
      · have e3 : (FloatKind.f64.format.order x 9218868437227405311 == some .gt) = true := by rw [show FloatKind.f64.format.order x 9218868437227405311 = some .gt from h3]; rfl
        rw [e3, cond_true]
        have := prb_inf (inf_of h3)
        rw [this] at hp2
        rw [hp]
        exact hp2
      · have e3 : (FloatKind.f64.format.order x 9218868437227405311 == some .gt) = false := beq_eq_false_iff_ne.2 h3
        rw [e3, cond_false]
        refine (prb_tree (by omega) (num_of_eq h1)).trans ?_
        rw [hp2, hp]
  · have e1 : (FloatKind.f64.format.order x x != some .eq) = true := bne_iff_ne.2 h1
    rw [e1, show (true == false) = false from rfl, cond_false]
    unfold probes
    rw [if_neg (fun h => h1 h.1)]
theorem probes10 : probes 4621819117588971520 = 7 := by decide +kernel
theorem probesInf : probes 9218868437227405312 = 12 := by decide +kernel
theorem s21 {k : Nat} (hk : 8 ≤ k) : callN B k 21 [] = (some true : Option Bool) := by
  obtain ⟨k, rfl⟩ := Nat.exists_eq_add_of_le' (show 1 ≤ k by omega)
  refine (callS k 21 _).trans ((t21 (callN B k) (lvl B k).2 k).trans ?_)
  refine bnd (s22 (by omega) _) ?_
  rw [probes10]
  refine bnd (s30 (by omega)) ?_
  refine bnd (s22 (by omega) _) ?_
  rw [probesInf]
  rfl
end Go.Eng.Bk
/- What a filter's bytes say of a key, the program's and the document's. -/
namespace Go.Eng.Bk
open Go Go.Proofs Go.Eng
set_option linter.unusedVariables false
set_option linter.unusedSimpArgs false
/-- The place of a key's j-th bit. -/
def posI (h : Int) (j M : Nat) : Nat := (IntKind.u32.wrap (IntKind.u32.wrap h + IntKind.u32.wrap (IntKind.u32.wrap (j : Int) * turnD h))).toNat % M
theorem posI_lt (h : Int) (j : Nat) {M : Nat} (hM : 0 < M) : posI h j M < M := Nat.mod_lt _ hM
theorem posI_eq (h : Int) (j : Nat) {M : Nat} (hM : 0 < M) (hM2 : M < 4294967296) : IntKind.i64.wrap ((IntKind.u32.wrap (IntKind.u32.wrap h + IntKind.u32.wrap (IntKind.u32.wrap (j : Int) * turnD h))).tmod (IntKind.u32.wrap (M : Int))) = (posI h j M : Int) := by
  have hlt := posI_lt h j hM
  have hM3 : IntKind.u32.wrap (M : Int) = (M : Int) := by rw [wu32]; omega
  rw [hM3]
  unfold posI at hlt ⊢
  have h0 : 0 ≤ IntKind.u32.wrap (IntKind.u32.wrap h + IntKind.u32.wrap (IntKind.u32.wrap (j : Int) * turnD h)) := by rw [wu32]; omega
  generalize IntKind.u32.wrap (IntKind.u32.wrap h + IntKind.u32.wrap (IntKind.u32.wrap (j : Int) * turnD h)) = y at h0 hlt ⊢
  obtain ⟨y, rfl⟩ := Int.eq_ofNat_of_zero_le h0
  rw [Int.toNat_natCast] at hlt ⊢
  have : Int.tmod (y : Int) (M : Int) = ((y % M : Nat) : Int) := rfl
  rw [this, w64 (by omega) (by omega)]
def bitI (f : List Int) (p : Nat) : Int := IntKind.u8.wrap (((BitVec.ofInt IntKind.u8.bits (Int.fdiv (f.getD (p / 8) 0) ((2 : Int) ^ Min.min (p % 8) IntKind.u8.bits)) &&& BitVec.ofInt IntKind.u8.bits (1 : Int)).toNat : Nat) : Int)
theorem bitI_cases (f : List Int) (p : Nat) : bitI f p = 0 ∨ bitI f p = 1 := by
  unfold bitI
  have e : (BitVec.ofInt IntKind.u8.bits (Int.fdiv (f.getD (p / 8) 0) ((2 : Int) ^ Min.min (p % 8) IntKind.u8.bits)) &&& BitVec.ofInt IntKind.u8.bits (1 : Int)).toNat = (BitVec.ofInt IntKind.u8.bits (Int.fdiv (f.getD (p / 8) 0) ((2 : Int) ^ Min.min (p % 8) IntKind.u8.bits))).toNat % 2 := by
    rw [BitVec.toNat_and]
    exact Nat.and_one_is_mod _
  rw [e, wu8]
  omega
def mayA (f : List Int) (h : Int) (M : Nat) : Nat → Nat → Bool
  | 0, _ => true
  | d + 1, j => bitI f (posI h j M) == 1 && mayA f h M d (j + 1)
theorem t8d (p : Nat) (h : p < 4294967296) : IntKind.i64.wrap (Int.tdiv (p : Int) 8) = ((p / 8 : Nat) : Int) := by
  have : Int.tdiv (p : Int) 8 = ((p / 8 : Nat) : Int) := rfl
  rw [this, w64 (by omega) (by omega)]
theorem t8m (p : Nat) : Int.tmod (p : Int) 8 = ((p % 8 : Nat) : Int) := rfl
theorem l60_4 {q : Nat} {inl : InlT} {mq : Nat} {R : Type} (m0 : Nat) (K : AV → St → Option R) (f : List Int) (key : ByteArray) (h : Int) (n N : Nat) (hn : 0 < n) (hlen : f.length = n + 1) (hn2 : n < 100000000) (hN : N < 256) (hlast : f.getD n 0 = (N : Int))
    (r : Bool → Option R) (hK0 : K (.v .bool false) (c26_60_0r10 f key) = r false) (hK1 : K (.v .bool true) (c26_60_0r11 f key) = r true) (d : Nat) : ∀ (j m : Nat), j + d = N → d < m →
    LP B (callN B (q + 1)) (inlN B (callN B q) inl mq) 60 m [1, 1, 1, 1, 0, 1] (s60_4 f key h (turnD h) (j : Int)) (KA B (callN B (q + 1)) (inlN B (callN B q) inl mq) 60 m0 [1, 1, 1, 1, 0, 1] (FN B (callN B (q + 1)) (inlN B (callN B q) inl mq) 60 35 K)) = r (mayA f h (8 * n) d j) := by
  have hL : IntKind.i64.wrap ((f.length : Int) - 1) = (n : Int) := by rw [w64 (by omega) (by omega)]; omega
  have h8 : IntKind.i64.wrap ((8 : Int) * (n : Int)) = ((8 * n : Nat) : Int) := by rw [w64 (by omega) (by omega)]; omega
  have hNw : IntKind.i64.wrap (N : Int) = (N : Int) := w64 (by omega) (by omega)
  induction d with
  | zero =>
    intro j m hd hm
    obtain ⟨m, rfl⟩ : ∃ k, m = k + 1 := ⟨m - 1, by omega⟩
    rw [s60_4_l, hL, Int.toNat_natCast, hlast, hNw, bF (by omega), s60_4x9_k, hK1]
    rfl
  | succ d ih =>
    intro j m hd hm
    obtain ⟨m, rfl⟩ : ∃ k, m = k + 1 := ⟨m - 1, by omega⟩
    have hp := posI_lt h j (M := 8 * n) (by omega)
    rw [s60_4_l, c60_63_5_i, c60_63_5r6_k8, hL, Int.toNat_natCast, hlast, hNw, bT (by omega), h8, posI_eq h j (by omega) (by omega), t8d _ (by omega), t8m, if_neg (by rw [wu32]; omega), if_pos (by omega), if_neg (by omega), Int.toNat_natCast, Int.toNat_natCast, w64 (x := (j : Int) + 1) (by omega) (by omega), s60_4x7_k, hK0]
    have hnext := ih (j + 1) m (by omega) (by omega)
    have hm1 : mayA f h (8 * n) (d + 1) j = (bitI f (posI h j (8 * n)) == 1 && mayA f h (8 * n) d (j + 1)) := rfl
    rw [hm1]
    change (bif bitI f (posI h j (8 * n)) == 1 then _ else _) = _
    rcases bitI_cases f (posI h j (8 * n)) with hb | hb
    · rw [hb]; rfl
    · rw [hb]
      exact hnext
theorem l27 {call : CallT B} {inl : InlT} (m0 : Nat) (f : List Int) (h : Int) (n N : Nat) (hn : 0 < n) (hlen : f.length = n + 1) (hn2 : n < 100000000) (hN : N < 256) (hlast : f.getD n 0 = (N : Int)) (d : Nat) : ∀ (j m : Nat), j + d = N → d < m →
    LP B call inl 27 m [1, 1, 1, 1, 1, 1, 1, 0, 1] (s27_2 f h (j : Int)) (KA B call inl 27 m0 [1, 1, 1, 1, 1, 1, 1, 0, 1] (FI B call inl 27)) = (some (mayA f h (8 * n) d j) : Option Bool) := by
  have hL : IntKind.i64.wrap ((f.length : Int) - 1) = (n : Int) := by rw [w64 (by omega) (by omega)]; omega
  have h8 : IntKind.i64.wrap ((8 : Int) * (n : Int)) = ((8 * n : Nat) : Int) := by rw [w64 (by omega) (by omega)]; omega
  have hNw : IntKind.i64.wrap (N : Int) = (N : Int) := w64 (by omega) (by omega)
  induction d with
  | zero =>
    intro j m hd hm
    obtain ⟨m, rfl⟩ : ∃ k, m = k + 1 := ⟨m - 1, by omega⟩
    rw [s27_2_l, hL, Int.toNat_natCast, hlast, hNw, bF (by omega), s27_2x4_k]
    rfl
  | succ d ih =>
    intro j m hd hm
    obtain ⟨m, rfl⟩ : ∃ k, m = k + 1 := ⟨m - 1, by omega⟩
    have hp := posI_lt h j (M := 8 * n) (by omega)
    have hpe := posI_eq h j (M := 8 * n) (by omega) (by omega)
    unfold turnD at hpe
    have hu : IntKind.u64.wrap (((posI h j (8 * n)) % 8 : Nat) : Int) = (((posI h j (8 * n)) % 8 : Nat) : Int) := wu64 (by omega) (by omega)
    rw [s27_2_l, hL, Int.toNat_natCast, hlast, hNw, bT (by omega), h8, hpe, t8d _ (by omega), t8m, if_neg (by rw [wu32]; omega), if_pos (by omega), hu, if_neg (by omega), Int.toNat_natCast, Int.toNat_natCast, w64 (x := (j : Int) + 1) (by omega) (by omega), s27_2x3_k]
    have hnext := ih (j + 1) m (by omega) (by omega)
    have hm1 : mayA f h (8 * n) (d + 1) j = (bitI f (posI h j (8 * n)) == 1 && mayA f h (8 * n) d (j + 1)) := rfl
    rw [hm1]
    change (bif bitI f (posI h j (8 * n)) == 0 then _ else _) = _
    rcases bitI_cases f (posI h j (8 * n)) with hb | hb
    · rw [hb]; rfl
    · rw [hb]
      exact hnext
end Go.Eng.Bk
/- What a filter's bytes say of a key: the program's and the document's answer is one. -/
namespace Go.Eng.Bk
open Go Go.Proofs Go.Eng
set_option linter.unusedVariables false
set_option linter.unusedSimpArgs false
def may (f : List Int) (key : ByteArray) : Bool :=
  if f.length < 2 then true else if f.getD (f.length - 1) 0 = 0 ∨ f.getD (f.length - 1) 0 > 12 then true else mayA f (hashS key) (8 * (f.length - 1)) (f.getD (f.length - 1) 0).toNat 0
theorem lastB {f : List Int} (hf : Bytes f) : ∃ N : Nat, f.getD (f.length - 1) 0 = (N : Int) ∧ N < 256 := by
  by_cases h : f.length - 1 < f.length
  · have := hf _ (getD_mem h 0)
    exact ⟨(f.getD (f.length - 1) 0).toNat, by omega, by omega⟩
  · refine ⟨0, ?_, by omega⟩
    rw [List.getD_eq_getElem?_getD, List.getElem?_eq_none (by omega)]
    rfl
theorem s26 {k : Nat} {f : List Int} (hf : Bytes f) (hlen : f.length < 100000000) {key : ByteArray} (hkey : key.size ≤ 140737488351232) (hk : key.size + 300 ≤ k) : callN B k 26 [argAV (.sl u8) f, argAV .str key] = (some (may f key) : Option Bool) := by
  obtain ⟨k, rfl⟩ := Nat.exists_eq_add_of_le' (show 3 ≤ k by omega)
  refine (callS (k + 2) 26 _).trans ((t26 (callN B (k + 2)) (lvl B (k + 2)).2 (k + 2) f key).trans ?_)
  obtain ⟨N, hN, hN2⟩ := lastB hf
  unfold may
  have hw : IntKind.i64.wrap ((f.length : Int) - 1) = (f.length : Int) - 1 := w64 (by omega) (by omega)
  rw [hw]
  by_cases h2 : f.length < 2
  · rw [decide_eq_true (by omega), if_pos h2]
    rfl
  rw [decide_eq_false (by omega), beq_self_eq_true, cond_true, if_pos (by omega), if_neg h2]
  have e1 : ((f.length : Int) - 1).toNat = f.length - 1 := by omega
  rw [e1, hN]
  by_cases h0 : N = 0
  · subst h0
    rw [show (((0 : Nat) : Int) == (0 : Int)) = true from rfl, show (true == false) = false from rfl, cond_false, if_pos (.inl rfl)]
  have h0' : ((N : Int) == (0 : Int)) = false := beq_eq_false_iff_ne.2 (by omega)
  rw [h0', beq_self_eq_true, cond_true, if_pos (by omega)]
  by_cases h12 : N > 12
  · rw [bT (by omega), if_pos (.inr (by omega))]
  rw [bF (by omega), if_pos (by omega), if_neg (by omega), lvl2, lvl2]
  have hi := c26_60_0_i (callN B (k + 1)) (inlN B (callN B k) (lvl B k).2 k) (k + 1) (IA B (callN B (k + 2)) (inlN B (callN B (k + 1)) (inlN B (callN B k) (lvl B k).2 k) (k + 1)) 26 (k + 2) [1, 1, 1, 0, 9] (FI B (callN B (k + 2)) (inlN B (callN B (k + 1)) (inlN B (callN B k) (lvl B k).2 k) (k + 1)) 26)) f key
  rw [hw, e1, hN] at hi
  refine hi.trans ?_
  refine bnd (s94 hkey (by omega)) ?_
  have hr := hashS_range key
  have hu : IntKind.u32.wrap (hashS key) = hashS key := by rw [wu32]; omega
  rw [hu]
  refine bnd (s95 (by omega) _ hr.1 hr.2) ?_
  have := l60_4 (q := k) (inl := (lvl B k).2) (mq := k) (k + 1) (IA B (callN B (k + 2)) (inlN B (callN B (k + 1)) (inlN B (callN B k) (lvl B k).2 k) (k + 1)) 26 (k + 2) [1, 1, 1, 0, 9] (FI B (callN B (k + 2)) (inlN B (callN B (k + 1)) (inlN B (callN B k) (lvl B k).2 k) (k + 1)) 26)) f key (hashS key) (f.length - 1) N (by omega) (by omega) (by omega) hN2 hN
    (fun b => some b) (c26_60_0r10_k15 _ _ _ f key) (c26_60_0r11_k16 _ _ _ f key) N 0 (k + 1) (by omega) (by omega)
  exact this
theorem s27 {k : Nat} {f : List Int} (hf : Bytes f) (hlen : f.length < 100000000) {key : ByteArray} (hkey : key.size ≤ 140737488351232) (hk : key.size + 300 ≤ k) : callN B k 27 [argAV (.sl u8) f, argAV .str key] = (some (may f key) : Option Bool) := by
  obtain ⟨k, rfl⟩ := Nat.exists_eq_add_of_le' (show 1 ≤ k by omega)
  refine (callS k 27 _).trans ((t27 (callN B k) (lvl B k).2 k f key).trans ?_)
  obtain ⟨N, hN, hN2⟩ := lastB hf
  unfold may
  have hw : IntKind.i64.wrap ((f.length : Int) - 1) = (f.length : Int) - 1 := w64 (by omega) (by omega)
  rw [hw]
  by_cases h2 : f.length < 2
  · rw [bT (by omega), if_pos h2]
  rw [bF (by omega), if_pos (by omega), if_neg h2]
  have e1 : ((f.length : Int) - 1).toNat = f.length - 1 := by omega
  have hNw : IntKind.i64.wrap (N : Int) = (N : Int) := w64 (by omega) (by omega)
  rw [e1, hN, hNw]
  by_cases h0 : N = 0
  · subst h0
    rw [show (((0 : Nat) : Int) == (0 : Int)) = true from rfl, show (true == false) = false from rfl, cond_false, if_pos (.inl rfl)]
  have h0' : ((N : Int) == (0 : Int)) = false := beq_eq_false_iff_ne.2 (by omega)
  rw [h0', beq_self_eq_true, cond_true]
  by_cases h12 : N > 12
  · rw [bT (by omega), if_pos (.inr (by omega))]
  rw [bF (by omega), if_neg (by omega)]
  refine bnd (s62 hkey (by omega)) ?_
  exact l27 k f (hashS key) (f.length - 1) N (by omega) (by omega) (by omega) hN2 hN N 0 k (by omega) (by omega)
end Go.Eng.Bk
/- How many bits a filter has: a number that is not great. -/
namespace Go.Eng.Bk
open Go Go.Proofs Go.Eng
set_option linter.unusedVariables false
set_option linter.unusedSimpArgs false
theorem lp64 : FF.leastPlace = -1074 := by decide +kernel
theorem fb64 : FF.fractionBits = 52 := by decide +kernel
open Ieee in
theorem even_le (s : Bool) (n drop : Nat) : Toward.cut .even s n drop ≤ n / 2 ^ min drop (n.log2 + 2) + 1 := by
  show n / (1 <<< min drop (n.log2 + 2)) + Bool.toNat _ ≤ _
  rw [Nat.shiftLeft_eq, Nat.one_mul]
  exact Nat.add_le_add_left (Bool.toNat_le _) _
open Ieee in
theorem even_zero (s : Bool) (n : Nat) : Toward.cut .even s n 0 = n := by
  show n / (1 <<< min 0 (n.log2 + 2)) + Bool.toNat _ = _
  rw [Nat.zero_min, Nat.shiftLeft_eq, Nat.pow_zero, Nat.mul_one, Nat.div_one, Nat.mod_one]
  rfl
theorem div_small {m L drop B : Nat} (hm : m < 2 ^ (L + 1)) (hd : L ≤ drop + B) (hmin : L = m.log2) : m / 2 ^ min drop (m.log2 + 2) < 2 ^ (B + 1) := by
  subst hmin
  by_cases h : drop ≤ m.log2 + 2
  · rw [Nat.min_eq_left h, Nat.div_lt_iff_lt_mul (Nat.two_pow_pos _), ← Nat.pow_add]
    exact Nat.lt_of_lt_of_le hm (Nat.pow_le_pow_right (by omega) (by omega))
  · rw [Nat.min_eq_right (by omega), Nat.div_eq_of_lt]
    · exact Nat.two_pow_pos _
    · exact Nat.lt_of_lt_of_le hm (Nat.pow_le_pow_right (by omega) (by omega))
open Ieee in
/-- What is below 2 ^ (e + 1) has a word not above 2 ^ (e + 1)'s. -/
theorem nearest_le (e : Nat) {mag : Nat} {place : Int} (h : mag ≠ 0 → place + (mag.log2 : Int) ≤ (e : Int)) : ∃ r : Nat, FF.nearest false mag place = r ∧ r ≤ (1024 + e) * 4503599627370496 := by
  unfold Format.nearest
  by_cases h0 : mag = 0
  · rw [if_pos h0]
    exact ⟨0, rfl, by omega⟩
  rw [if_neg h0]
  have h := h h0
  simp only [lp64, fb64, bn, ir]
  rw [show ((52 : Nat) : Int) = 52 from rfl]
  have hm : mag < 2 ^ (mag.log2 + 1) := Nat.lt_log2_self
  have hkept : Toward.cut .even false (mag <<< (place - max (place + (mag.log2 : Int) - 52) (-1074)).toNat) (max (place + (mag.log2 : Int) - 52) (-1074) - place).toNat ≤ 2 ^ 53 := by
    by_cases hp : max (place + (mag.log2 : Int) - 52) (-1074) ≤ place
    · rw [show (max (place + (mag.log2 : Int) - 52) (-1074) - place).toNat = 0 from by omega, even_zero, Nat.shiftLeft_eq]
      have h1 : mag * 2 ^ (place - max (place + (mag.log2 : Int) - 52) (-1074)).toNat < 2 ^ (mag.log2 + 1) * 2 ^ (place - max (place + (mag.log2 : Int) - 52) (-1074)).toNat := Nat.mul_lt_mul_of_pos_right hm (Nat.two_pow_pos _)
      rw [← Nat.pow_add] at h1
      exact Nat.le_trans (Nat.le_of_lt h1) (Nat.pow_le_pow_right (by omega) (by omega))
    · rw [show (place - max (place + (mag.log2 : Int) - 52) (-1074)).toNat = 0 from by omega, Nat.shiftLeft_zero]
      have h2 := even_le false mag (max (place + (mag.log2 : Int) - 52) (-1074) - place).toNat
      have h3 := div_small (B := 52) hm (drop := (max (place + (mag.log2 : Int) - 52) (-1074) - place).toNat) (by omega) rfl
      omega
  have hw : ∀ r, FF.word false r = r := fun r => rfl
  rw [hw]
  refine ⟨_, rfl, Nat.le_trans (Nat.min_le_left _ _) ?_⟩
  have : (max (place + (mag.log2 : Int) - 52) (-1074) - -1074).toNat ≤ e + 1022 := by omega
  have h53 : (2 : Nat) ^ 53 = 2 * 4503599627370496 := by decide
  omega
open Ieee in
theorem down_cut (n drop : Nat) : Toward.cut .down false n drop = n / 2 ^ min drop (n.log2 + 2) := by
  show n / (1 <<< min drop (n.log2 + 2)) + 0 = _
  rw [Nat.add_zero, Nat.shiftLeft_eq, Nat.one_mul]
open Ieee in
theorem floor_key (e : Nat) (he : e ≤ 20) (hs : 4503599627370496 / 2 ^ min (51 - e) (Nat.log2 4503599627370496 + 2) ≤ 2 ^ (e + 1)) {r : Nat} (h : r ≤ (1024 + e) * 4503599627370496) : ∃ m i, FF.read r = .number false m i ∧ Toward.cut .down false (m <<< i.toNat) (-i).toNat ≤ 2 ^ (e + 1) := by
  have hsg : r / FF.signWeight = 0 := by rw [sw]; omega
  have hmd : r % FF.signWeight = r := by rw [sw]; omega
  have h2 : 2 ^ 1 ≤ 2 ^ (e + 1) := Nat.pow_le_pow_right (by omega) (by omega)
  unfold Format.read
  simp only
  rw [hsg, hmd, bn, ir, lp64]
  by_cases h1 : r < 4503599627370496
  · rw [if_pos h1]
    refine ⟨_, _, rfl, ?_⟩
    rw [down_cut, show (-1074 : Int).toNat = 0 from rfl, Nat.shiftLeft_zero, show (-(-1074) : Int).toNat = 1074 from rfl]
    have hl : r < 2 ^ (r.log2 + 1) := Nat.lt_log2_self
    have hl2 : r.log2 ≤ 52 := by
      by_cases h0 : r = 0
      · subst h0; decide
      · have := (Nat.log2_lt h0 (k := 52)).2 (by rw [show (2 : Nat) ^ 52 = 4503599627370496 from by decide]; exact h1)
        omega
    have := div_small (B := 0) hl (drop := 1074) (by omega) rfl
    omega
  · rw [if_neg h1, if_pos (by omega)]
    refine ⟨_, _, rfl, ?_⟩
    have hq : 1 ≤ r / 4503599627370496 ∧ r / 4503599627370496 ≤ 1024 + e := by omega
    have e1 : ((-1074 : Int) + ((r / 4503599627370496 - 1 : Nat) : Int)).toNat = 0 := by omega
    have e2 : (-((-1074 : Int) + ((r / 4503599627370496 - 1 : Nat) : Int))).toNat = 1075 - r / 4503599627370496 := by omega
    rw [e1, e2, Nat.shiftLeft_zero, down_cut]
    by_cases hq6 : r / 4503599627370496 = 1024 + e
    · have hr0 : r % 4503599627370496 = 0 := by omega
      rw [hr0, hq6, Nat.add_zero, show 1075 - (1024 + e) = 51 - e from by omega]
      exact hs
    · have hml : (4503599627370496 + r % 4503599627370496) < 2 ^ ((4503599627370496 + r % 4503599627370496).log2 + 1) := Nat.lt_log2_self
      have hll : (4503599627370496 + r % 4503599627370496).log2 ≤ 52 := by
        have := (Nat.log2_lt (n := 4503599627370496 + r % 4503599627370496) (by omega) (k := 53)).2 (by rw [show (2 : Nat) ^ 53 = 9007199254740992 from by decide]; omega)
        omega
      exact Nat.le_of_lt (div_small (B := e) hml (drop := 1075 - r / 4503599627370496) (by omega) rfl)
open Ieee in
theorem floor_small {r : Nat} (h : r ≤ 1038 * 4503599627370496) : (FF.read r).isNaN = false ∧ ∃ k : Nat, k ≤ 65536 ∧ fToI FloatKind.f64 (floorF r) IntKind.i64 = some (k : Int) := by
  obtain ⟨m, i, hr, hc⟩ := floor_key 14 (by omega) (by decide +kernel) h
  refine ⟨by rw [hr]; rfl, ?_⟩
  have hf : floorF r = FF.nearest false (Toward.cut .down false (m <<< i.toNat) (-i).toNat) 0 := by
    show FF.write ((FF.read r).integral .down) = _
    rw [hr]
    rfl
  generalize Toward.cut .down false (m <<< i.toNat) (-i).toNat = K at hc hf
  obtain ⟨w, hw1, hw2⟩ := nearest_le 15 (mag := K) (place := 0) (fun h0 => by
    have := (Nat.log2_lt h0 (k := 16)).2 (Nat.lt_of_le_of_lt hc (by decide))
    omega)
  obtain ⟨m', i', hr', hc'⟩ := floor_key 15 (by omega) (by decide +kernel) hw2
  refine ⟨_, hc', ?_⟩
  have hc2 : Toward.cut .down false (m' <<< i'.toNat) (-i').toNat ≤ 65536 := hc'
  rw [hf, hw1]
  refine fToI_of ?_ (by omega) (by omega)
  rw [hr']
  show some (signed false (Toward.cut .zero false (m' <<< i'.toNat) (-i').toNat) 0) = _
  refine congrArg some ?_
  show (((Toward.cut .zero false (m' <<< i'.toNat) (-i').toNat) <<< 0 : Nat) : Int) = _
  rw [Nat.shiftLeft_zero]
  rfl
end Go.Eng.Bk
/- How many bits a filter of so many keys has. -/
namespace Go.Eng.Bk
open Go Go.Proofs Go.Eng
set_option linter.unusedVariables false
set_option linter.unusedSimpArgs false
abbrev six64 : Nat := 4634204016564240384
open Ieee in
theorem ord_num' (c k m : Nat) (s : Bool) (i : Int) : ∃ t : Nat, 0 ≤ i + (t : Int) ∧ Datum.order (.number s m i) (.number false (c * 2 ^ k) (-(k : Int))) = some (compare (if s then -((m * 2 ^ (i + (t : Int)).toNat : Nat) : Int) else ((m * 2 ^ (i + (t : Int)).toNat : Nat) : Int)) ((c * 2 ^ t : Nat) : Int)) := by
  refine ⟨(-(min i (-(k : Int)))).toNat, by omega, ?_⟩
  have e1 : ((-(k : Int)) - min i (-(k : Int))).toNat + k = (-(min i (-(k : Int)))).toNat := by omega
  have e2 : (i - min i (-(k : Int))).toNat = (i + ((-(min i (-(k : Int)))).toNat : Int)).toNat := by omega
  show some (compare (signed s m (i - min i (-(k : Int))).toNat) (signed false (c * 2 ^ k) ((-(k : Int)) - min i (-(k : Int))).toNat)) = _
  unfold signed
  rw [e2, Nat.shiftLeft_eq, Nat.shiftLeft_eq, Nat.mul_assoc, ← Nat.pow_add, Nat.add_comm k, e1]
  rfl
theorem log_lt {m a b c e : Nat} (h0 : m ≠ 0) (h : m * 2 ^ a ≤ c * 2 ^ b) (hc : c < 2 ^ e) : m.log2 + a < e + b := by
  have h1 : 2 ^ m.log2 ≤ m := Nat.log2_self_le h0
  have h2 : 2 ^ (m.log2 + a) < 2 ^ (e + b) := by
    rw [Nat.pow_add, Nat.pow_add]
    refine Nat.lt_of_le_of_lt (Nat.mul_le_mul_right _ h1) (Nat.lt_of_le_of_lt h ?_)
    exact Nat.mul_lt_mul_of_pos_right hc (Nat.two_pow_pos _)
  exact (Nat.pow_lt_pow_iff_right (by omega)).1 h2
theorem read_six : FF.read six64 = .number false (64 * 2 ^ 46) (-((46 : Nat) : Int)) := by decide +kernel
def numOk (n : Nat) : Bool := match FF.read (FloatKind.f64.nearest (n : Int)) with
  | .number false M I => (decide (-52 ≤ I) && decide (M * 2 ^ (I + 52).toNat = n * 2 ^ 52)) || M == 0
  | _ => false
theorem nums : (List.range 257).all numOk = true := by decide +kernel
open Ieee in
theorem len_num {n : Nat} (h : n ≤ 256) : ∃ M I, FF.read (FloatKind.f64.nearest (n : Int)) = .number false M I ∧ (M = 0 ∨ (-52 ≤ I ∧ M * 2 ^ (I + 52).toNat = n * 2 ^ 52)) := by
  have := List.all_eq_true.1 nums n (List.mem_range.2 (by omega))
  unfold numOk at this
  split at this
  · rename_i M I hr
    refine ⟨M, I, hr, ?_⟩
    simp only [Bool.or_eq_true, Bool.and_eq_true, decide_eq_true_eq, beq_iff_eq] at this
    exact this.symm.imp id id
  · cases this
open Ieee in
/-- The smaller one of the bits and 64. -/
theorem min64 {x : Nat} (h1 : FF.order x x = some .eq) (h2 : FF.order x one64 ≠ some .lt) : ∃ v m i t, fm2 false FloatKind.f64 x six64 = some v ∧ FF.read v = .number false m i ∧ 0 ≤ i + ((t : Nat) : Int) ∧ m * 2 ^ (i + (t : Int)).toNat ≤ 64 * 2 ^ t := by
  have nx := num_of_eq h1
  have n6 : (FF.read six64).isNaN = false := by decide +kernel
  have so := order_num nx n6
  have f3 : fm2 false FloatKind.f64 x six64 = some (minF FloatKind.f64 x six64) := by
    unfold fm2; rw [if_pos so]; rfl
  have hmin : minF FloatKind.f64 x six64 = six64 ∨ (minF FloatKind.f64 x six64 = x ∧ FF.order x six64 ≠ some .gt) := by
    unfold minF
    split
    · rename_i hlt
      exact .inr ⟨rfl, fun hh => by rw [show FloatKind.f64.format.order x six64 = FF.order x six64 from rfl, hh] at hlt; cases hlt⟩
    · split
      · exact .inl rfl
      · rename_i hgt
        split
        · exact .inr ⟨rfl, hgt⟩
        · exact .inl rfl
  rw [f3]
  rcases hmin with hmin | ⟨hmin, hgt⟩
  · rw [hmin]
    refine ⟨_, _, _, 46, rfl, read_six, by omega, ?_⟩
    rw [show (-((46 : Nat) : Int) + ((46 : Nat) : Int)).toNat = 0 from by omega, Nat.pow_zero, Nat.mul_one]
    exact Nat.le_refl _
  · rw [hmin]
    unfold Format.order at hgt h2
    rw [read_six] at hgt
    rw [read_one] at h2
    cases hd : FF.read x with
    | nan s t => rw [hd] at nx; cases nx
    | infinity s => cases s with
      | true => rw [hd] at h2; exact absurd rfl h2
      | false => rw [hd] at hgt; exact absurd rfl hgt
    | number s m i =>
      rw [hd] at hgt h2
      obtain ⟨t, ht, e⟩ := ord_num' 64 46 m s i
      obtain ⟨u, hu, f⟩ := ord_num' 1 52 m s i
      rw [e] at hgt
      rw [f] at h2
      have hgt' : ¬ _ := fun hh => hgt (congrArg some (Int.compare_eq_gt.2 hh))
      have h2' : ¬ _ := fun hh => h2 (congrArg some (Int.compare_eq_lt.2 hh))
      cases s with
      | true =>
        rw [if_pos rfl] at h2'
        have := Nat.two_pow_pos u
        omega
      | false =>
        rw [if_neg (by decide)] at hgt'
        exact ⟨x, m, i, t, rfl, hd, ht, by omega⟩
open Ieee in
theorem bits_ok {x : Nat} (h1 : FF.order x x = some .eq) (h2 : FF.order x one64 ≠ some .lt) {n : Nat} (hn : n ≤ 256) : ∃ v1 v2 k : Nat, fm2 false FloatKind.f64 x six64 = some v1 ∧ FF.mul v1 (FloatKind.f64.nearest (n : Int)) = some v2 ∧ (FF.read v2).isNaN = false ∧ k ≤ 65536 ∧ fToI FloatKind.f64 (floorF v2) IntKind.i64 = some (k : Int) := by
  obtain ⟨v1, m, i, t, e1, hr, ht, hle⟩ := min64 h1 h2
  obtain ⟨M, I, hR, hM⟩ := len_num hn
  have hmul : FF.mul v1 (FloatKind.f64.nearest (n : Int)) = some (FF.nearest (false ^^ false) (m * M) (i + I)) := by
    unfold Format.mul
    rw [hr, hR]
    rfl
  obtain ⟨r, hr2, hr3⟩ := nearest_le 14 (mag := m * M) (place := i + I) (fun h0 => by
    rcases hM with hM | ⟨hI, hM⟩
    · rw [hM] at h0; exact absurd (Nat.mul_zero _) h0
    · have hprod : m * M * 2 ^ ((i + (t : Int)).toNat + (I + 52).toNat) ≤ 16384 * 2 ^ (t + 52) := by
        have hz := Nat.mul_le_mul hle (Nat.le_of_eq hM)
        have ez : m * 2 ^ (i + (t : Int)).toNat * (M * 2 ^ (I + 52).toNat) = m * M * 2 ^ ((i + (t : Int)).toNat + (I + 52).toNat) := by rw [Nat.pow_add]; ac_rfl
        have ez2 : 64 * 2 ^ t * (n * 2 ^ 52) = 64 * n * 2 ^ (t + 52) := by rw [Nat.pow_add]; ac_rfl
        rw [ez, ez2] at hz
        exact Nat.le_trans hz (Nat.mul_le_mul_right _ (by omega))
      have := log_lt (e := 15) h0 hprod (by decide)
      omega)
  obtain ⟨f1, k, hk, f2⟩ := floor_small hr3
  exact ⟨v1, r, k, e1, by rw [hmul, ← hr2]; rfl, f1, hk, f2⟩
end Go.Eng.Bk
/- The bytes of a filter of keys, the program's loops and the document's. -/
namespace Go.Eng.Bk
open Go Go.Proofs Go.Eng
set_option linter.unusedVariables false
set_option linter.unusedSimpArgs false
abbrev noS : ByteArray := ByteArray.mk #[]
def orI (f : List Int) (p : Nat) : Int := IntKind.u8.wrap (((BitVec.ofInt IntKind.u8.bits (f.getD (p / 8) (0 : Int)) ||| BitVec.ofInt IntKind.u8.bits (IntKind.u8.wrap ((1 : Int) * (2 : Int) ^ Min.min (p % 8) IntKind.u8.bits))).toNat : Nat) : Int)
def setI (f : List Int) (p : Nat) : List Int := f.set (p / 8) (orI f p)
def setA (h : Int) (M : Nat) : Nat → Nat → List Int → List Int
  | 0, _, f => f
  | d + 1, j, f => setA h M d (j + 1) (setI f (posI h j M))
def mkF (keys : List ByteArray) (M N : Nat) : Nat → Nat → List Int → List Int
  | 0, _, f => f
  | d + 1, i, f => mkF keys M N d (i + 1) (setA (hashS (keys.getD i noS)) M N 0 f)
theorem setI_len (f : List Int) (p : Nat) : (setI f p).length = f.length := List.length_set
theorem setA_len (h : Int) (M : Nat) : ∀ (d j : Nat) (f : List Int), (setA h M d j f).length = f.length
  | 0, _, _ => rfl
  | d + 1, j, f => by show (setA h M d (j + 1) (setI f (posI h j M))).length = _; rw [setA_len h M d, setI_len]
theorem mkF_len (keys : List ByteArray) (M N : Nat) : ∀ (d i : Nat) (f : List Int), (mkF keys M N d i f).length = f.length
  | 0, _, _ => rfl
  | d + 1, i, f => by show (mkF keys M N d (i + 1) _).length = _; rw [mkF_len keys M N d, setA_len]
/-- How many bits: whole bytes. -/
def bitsM (k : Nat) : Nat := (max 64 k + 7) / 8 * 8
theorem bitsM_eq {k : Nat} (hk : k ≤ 65536) : IntKind.i64.wrap (IntKind.i64.wrap ((IntKind.i64.wrap (maxI (64 : Int) (k : Int) + (7 : Int))).tdiv (8 : Int)) * (8 : Int)) = (bitsM k : Int) := by
  have hm : maxI (64 : Int) (k : Int) = ((max 64 k : Nat) : Int) := by unfold maxI; split <;> omega
  have h1 : IntKind.i64.wrap (((max 64 k : Nat) : Int) + 7) = ((max 64 k + 7 : Nat) : Int) := by rw [w64 (by omega) (by omega)]; omega
  have h2 : Int.tdiv ((max 64 k + 7 : Nat) : Int) 8 = (((max 64 k + 7) / 8 : Nat) : Int) := rfl
  rw [hm, h1, h2, w64 (x := (((max 64 k + 7) / 8 : Nat) : Int)) (by omega) (by omega), w64 (by omega) (by omega)]
  unfold bitsM
  omega
theorem bitsM_range {k : Nat} (hk : k ≤ 65536) : 64 ≤ bitsM k ∧ bitsM k ≤ 65536 ∧ bitsM k % 8 = 0 := by unfold bitsM; omega
theorem l60_21 {q : Nat} {inl : InlT} {mq : Nat} {R : Type} (m0 : Nat) (K : AV → St → Option R) (keys : List ByteArray) (N k : Nat) (x9 : Int) (h : Int) (hN : N < 256) (hk : k ≤ 65536)
    (r : Option R) (d : Nat) : ∀ (j m : Nat) (f : List Int), j + d = N → d < m → f.length = bitsM k / 8 + 1 → (K (.v .bool true) (c24_60_16r26 keys (N : Int) (k : Int) x9 (setA h (bitsM k) d j f)) = r) →
    LP B (callN B (q + 1)) (inlN B (callN B q) inl mq) 60 m [1, 1, 1, 1, 0, 1] (s60_21 keys (N : Int) (k : Int) x9 h (turnD h) (j : Int) f) (KA B (callN B (q + 1)) (inlN B (callN B q) inl mq) 60 m0 [1, 1, 1, 1, 0, 1] (FN B (callN B (q + 1)) (inlN B (callN B q) inl mq) 60 50 K)) = r := by
  have hM := bitsM_range hk
  induction d with
  | zero =>
    intro j m f hd hm hf hK
    obtain ⟨m, rfl⟩ : ∃ k, m = k + 1 := ⟨m - 1, by omega⟩
    rw [s60_21_l, bF (by omega), s60_21x25_k]
    exact hK
  | succ d ih =>
    intro j m f hd hm hf hK
    obtain ⟨m, rfl⟩ : ∃ k, m = k + 1 := ⟨m - 1, by omega⟩
    have hp := posI_lt h j (M := bitsM k) (by omega)
    rw [s60_21_l, c60_61_22_i, c60_61_22r23_k24, bT (by omega), bitsM_eq hk, posI_eq h j (by omega) (by omega), t8d _ (by omega), t8m, if_neg (by rw [wu32]; omega), if_pos (by omega), if_neg (by omega), if_pos (by omega), Int.toNat_natCast, Int.toNat_natCast, w64 (x := (j : Int) + 1) (by omega) (by omega)]
    exact ih (j + 1) m (setI f (posI h j (bitsM k))) (by omega) (by omega) (by rw [setI_len]; exact hf) hK
theorem l25_17 {call : CallT B} {inl : InlT} {m1 : Nat} {R : Type} (K : AEx → St → Option R) (keys : List ByteArray) (N k : Nat) (x9 : Int) (h : Int) (hN : N < 256) (hk : k ≤ 65536) (r : Option R) (d : Nat) : ∀ (j m : Nat) (f : List Int), j + d = N → d < m → f.length = bitsM k / 8 + 1 →
    (LP B call inl 25 m1 [1, 1, 1, 1, 1, 1, 1, 0, 1] (s25_13 keys (N : Int) (k : Int) (setA h (bitsM k) d j f) (IntKind.i64.wrap (x9 + (1 : Int)))) K = r) →
    LP B call inl 25 m [1, 1, 1, 1, 1, 1, 1, 0, 1, 0, 1, 0, 1, 1, 1] (s25_17 keys (N : Int) (k : Int) x9 h f (j : Int)) (KN B call inl 25 m1 [1, 1, 1, 1, 1, 1, 1, 0, 1] [1, 0, 1, 1, 1] K) = r := by
  have hM := bitsM_range hk
  induction d with
  | zero =>
    intro j m f hd hm hf hK
    obtain ⟨m, rfl⟩ : ∃ k, m = k + 1 := ⟨m - 1, by omega⟩
    rw [s25_17_l, bF (by omega), s25_17x18_k]
    exact hK
  | succ d ih =>
    intro j m f hd hm hf hK
    obtain ⟨m, rfl⟩ : ∃ k, m = k + 1 := ⟨m - 1, by omega⟩
    have hp := posI_lt h j (M := bitsM k) (by omega)
    have hpe := posI_eq h j (M := bitsM k) (by omega) (by omega)
    unfold turnD at hpe
    have hu : IntKind.u64.wrap (((posI h j (bitsM k)) % 8 : Nat) : Int) = (((posI h j (bitsM k)) % 8 : Nat) : Int) := wu64 (by omega) (by omega)
    rw [s25_17_l, bT (by omega), bitsM_eq hk, hpe, t8d _ (by omega), t8m, if_neg (by rw [wu32]; omega), if_pos (by omega), hu, if_neg (by omega), if_pos (by omega), Int.toNat_natCast, Int.toNat_natCast, w64 (x := (j : Int) + 1) (by omega) (by omega)]
    exact ih (j + 1) m (setI f (posI h j (bitsM k))) (by omega) (by omega) (by rw [setI_len]; exact hf) hK
end Go.Eng.Bk
/- What Make and MakeFilter answer. -/
namespace Go.Eng.Bk
open Go Go.Proofs Go.Eng
set_option linter.unusedVariables false
set_option linter.unusedSimpArgs false
theorem getS_size {keys : List ByteArray} {L : Nat} (h : ∀ s ∈ keys, s.size ≤ L) (i : Nat) : (keys.getD i noS).size ≤ L := by
  by_cases hi : i < keys.length
  · exact h _ (getD_mem hi noS)
  · rw [List.getD_eq_getElem?_getD, List.getElem?_eq_none (by omega)]
    exact Nat.zero_le _
theorem l24 {q : Nat} {inl : InlT} {mq mq1 : Nat} (m0 : Nat) (keys : List ByteArray) (N k : Nat) (hN : N < 256) (hk : k ≤ 65536) (hmq : N < mq1) (hkl : keys.length ≤ 100000) (hks : ∀ s ∈ keys, s.size ≤ 1000) (hq : 1002 ≤ q) (d : Nat) : ∀ (i m : Nat) (f : List Int), i + d = keys.length → d < m → f.length = bitsM k / 8 + 1 →
    LP B (callN B (q + 2)) (inlN B (callN B (q + 1)) (inlN B (callN B q) inl mq) mq1) 24 m [1, 1, 1, 1, 1, 1, 0, 1] (s24_15 keys (N : Int) (k : Int) (i : Int) f) (KA B (callN B (q + 2)) (inlN B (callN B (q + 1)) (inlN B (callN B q) inl mq) mq1) 24 m0 [1, 1, 1, 1, 1, 1, 0, 1] (FI B (callN B (q + 2)) (inlN B (callN B (q + 1)) (inlN B (callN B q) inl mq) mq1) 24)) = (some ((mkF keys (bitsM k) N d i f).set (bitsM k / 8) (N : Int)) : Option (List Int)) := by
  have hM := bitsM_range hk
  induction d with
  | zero =>
    intro i m f hd hm hf
    obtain ⟨m, rfl⟩ : ∃ k, m = k + 1 := ⟨m - 1, by omega⟩
    rw [s24_15_l, bF (by omega), s24_15x32_k, bitsM_eq hk, t8d _ (by omega), if_pos (by omega), Int.toNat_natCast, wu8]
    rw [show ((N : Int) % 256) = (N : Int) from by omega]
    rfl
  | succ d ih =>
    intro i m f hd hm hf
    obtain ⟨m, rfl⟩ : ∃ k, m = k + 1 := ⟨m - 1, by omega⟩
    have hsz := getS_size hks i
    have hr := hashS_range (keys.getD i noS)
    have hu : IntKind.u32.wrap (hashS (keys.getD i noS)) = hashS (keys.getD i noS) := by rw [wu32]; omega
    rw [s24_15_l, bT (by omega), if_pos (by omega), c24_60_16_i, Int.toNat_natCast]
    refine bnd (s94 (s := keys.getD i noS) (by omega) (by omega)) ?_
    rw [hu]
    refine bnd (s95 (by omega) _ hr.1 hr.2) ?_
    refine l60_21 mq1 _ keys N k (i : Int) (hashS (keys.getD i noS)) hN hk _ N 0 mq1 f (by omega) (by omega) hf ?_
    rw [c24_60_16r26_k31, w64 (x := (i : Int) + 1) (by omega) (by omega)]
    exact ih (i + 1) m (setA (hashS (keys.getD i noS)) (bitsM k) N 0 f) (by omega) (by omega) (by rw [setA_len]; exact hf)
theorem l25 {q : Nat} {inl : InlT} (m0 : Nat) (keys : List ByteArray) (N k : Nat) (hN : N < 256) (hk : k ≤ 65536) (hkl : keys.length ≤ 100000) (hks : ∀ s ∈ keys, s.size ≤ 1000) (hq : 1002 ≤ q) (d : Nat) : ∀ (i m : Nat) (f : List Int), i + d = keys.length → d + N < m → f.length = bitsM k / 8 + 1 →
    LP B (callN B q) inl 25 m [1, 1, 1, 1, 1, 1, 1, 0, 1] (s25_13 keys (N : Int) (k : Int) f (i : Int)) (KA B (callN B q) inl 25 m0 [1, 1, 1, 1, 1, 1, 1, 0, 1] (FI B (callN B q) inl 25)) = (some (mkF keys (bitsM k) N d i f) : Option (List Int)) := by
  induction d with
  | zero =>
    intro i m f hd hm hf
    obtain ⟨m, rfl⟩ : ∃ k, m = k + 1 := ⟨m - 1, by omega⟩
    rw [s25_13_l, bF (by omega), s25_13x19_k]
    rfl
  | succ d ih =>
    intro i m f hd hm hf
    obtain ⟨m, rfl⟩ : ∃ k, m = k + 1 := ⟨m - 1, by omega⟩
    have hsz := getS_size hks i
    rw [s25_13_l, bT (by omega), if_pos (by omega), Int.toNat_natCast]
    refine bnd (s62 (s := keys.getD i noS) (by omega) (by omega)) ?_
    refine l25_17 _ keys N k (i : Int) (hashS (keys.getD i noS)) hN hk _ N 0 m f (by omega) (by omega) hf ?_
    rw [w64 (x := (i : Int) + 1) (by omega) (by omega)]
    exact ih (i + 1) m (setA (hashS (keys.getD i noS)) (bitsM k) N 0 f) (by omega) (by omega) (by rw [setA_len]; exact hf)
/-! ### the last byte, ahead or behind -/
theorem setI_comm (f : List Int) {p M : Nat} (hp : p / 8 < M) (x : Int) : setI (f.set M x) p = (setI f p).set M x := by
  have hne : M ≠ p / 8 := by omega
  have e : (f.set M x).getD (p / 8) 0 = f.getD (p / 8) 0 := by
    rw [List.getD_eq_getElem?_getD, List.getD_eq_getElem?_getD, List.getElem?_set_ne hne]
  unfold setI orI
  rw [e, List.set_comm _ _ hne]
theorem setA_comm (h : Int) {M : Nat} (hM : 0 < M) (h8 : M % 8 = 0) (x : Int) : ∀ (d j : Nat) (f : List Int), setA h M d j (f.set (M / 8) x) = (setA h M d j f).set (M / 8) x
  | 0, _, _ => rfl
  | d + 1, j, f => by
    show setA h M d (j + 1) (setI (f.set (M / 8) x) (posI h j M)) = (setA h M d (j + 1) (setI f (posI h j M))).set (M / 8) x
    have := posI_lt h j hM
    rw [setI_comm f (by omega), setA_comm h hM h8 x d]
theorem mkF_comm (keys : List ByteArray) {M : Nat} (N : Nat) (hM : 0 < M) (h8 : M % 8 = 0) (x : Int) : ∀ (d i : Nat) (f : List Int), mkF keys M N d i (f.set (M / 8) x) = (mkF keys M N d i f).set (M / 8) x
  | 0, _, _ => rfl
  | d + 1, i, f => by
    show mkF keys M N d (i + 1) (setA _ M N 0 (f.set (M / 8) x)) = (mkF keys M N d (i + 1) (setA _ M N 0 f)).set (M / 8) x
    rw [setA_comm _ hM h8, mkF_comm keys N hM h8 x d]
end Go.Eng.Bk
/- Make and MakeFilter answer the same. -/
namespace Go.Eng.Bk
open Go Go.Proofs Go.Eng
set_option linter.unusedVariables false
set_option linter.unusedSimpArgs false
def bitsK (x n : Nat) : Nat := (((fm2 false FloatKind.f64 x six64).bind fun v1 => (FF.mul v1 (FloatKind.f64.nearest (n : Int))).bind fun v2 => fToI FloatKind.f64 (floorF v2) IntKind.i64).getD 0).toNat
/-- The bytes of a filter. -/
def filt (keys : List ByteArray) (x : Nat) : List Int :=
  if probes x = 0 then [] else (mkF keys (bitsM (bitsK x keys.length)) (probes x).toNat keys.length 0 (List.replicate (bitsM (bitsK x keys.length) / 8 + 1) 0)).set (bitsM (bitsK x keys.length) / 8) (probes x)
theorem probes_ne {x : Nat} (h : probes x ≠ 0) : FF.order x x = some .eq ∧ FF.order x one64 ≠ some .lt := by
  by_cases hc : FF.order x x = some .eq ∧ FF.order x one64 ≠ some .lt
  · exact hc
  · exact absurd (show probes x = 0 by unfold probes; rw [if_neg hc]) h
theorem s24 {k : Nat} {keys : List ByteArray} {x : Nat} (hl : keys.length ≤ 256) (hks : ∀ s ∈ keys, s.size ≤ 1000) (hk : 2000 ≤ k) : callN B k 24 [argAV (.sl .str) keys, argAV (.flt .f64) x] = (some (filt keys x) : Option (List Int)) := by
  obtain ⟨k, rfl⟩ := Nat.exists_eq_add_of_le' (show 3 ≤ k by omega)
  refine (callS (k + 2) 24 _).trans ((t24 (callN B (k + 2)) (lvl B (k + 2)).2 (k + 2) keys x).trans ?_)
  refine bnd (s22 (by omega) x) ?_
  unfold filt
  by_cases h0 : probes x = 0
  · rw [h0, if_pos rfl]; rfl
  have e0 : (probes x == 0) = false := beq_eq_false_iff_ne.2 h0
  rw [e0, cond_false, if_neg h0]
  obtain ⟨h1, h2⟩ := probes_ne h0
  obtain ⟨v1, v2, kk, f1, f2, f3, f4, f5⟩ := bits_ok h1 h2 hl
  have hkk : bitsK x keys.length = kk := by unfold bitsK; rw [f1, Option.bind_some, f2, Option.bind_some, f5]; rfl
  obtain ⟨N, hN, hN2⟩ := probes_nat x
  rw [hkk, hN, Int.toNat_natCast]
  have hM := bitsM_range f4
  refine bnd f1 (bnd f2 (bnd (s59 (by omega) f3) (bnd f5 ?_)))
  have e1 : IntKind.i64.wrap (((bitsM kk / 8 : Nat) : Int) + 1) = ((bitsM kk / 8 + 1 : Nat) : Int) := by rw [w64 (by omega) (by omega)]; omega
  rw [bitsM_eq f4, t8d _ (by omega), e1, if_pos (by omega), Int.toNat_natCast, lvl2, lvl2]
  exact l24 (q := k) (mq := k) (mq1 := k + 1) (k + 2) keys N kk (by omega) f4 (by omega) (by omega) hks (by omega) keys.length 0 (k + 2) _ (by omega) (by omega) (by rw [List.length_replicate])
theorem s25 {k : Nat} {keys : List ByteArray} {x : Nat} (hl : keys.length ≤ 256) (hks : ∀ s ∈ keys, s.size ≤ 1000) (hk : 2000 ≤ k) : callN B k 25 [argAV (.sl .str) keys, argAV (.flt .f64) x] = (some (filt keys x) : Option (List Int)) := by
  obtain ⟨k, rfl⟩ := Nat.exists_eq_add_of_le' (show 1 ≤ k by omega)
  refine (callS k 25 _).trans ((t25 (callN B k) (lvl B k).2 k keys x).trans ?_)
  refine bnd (s23 (by omega) x) ?_
  unfold filt
  by_cases h0 : probes x = 0
  · rw [h0, if_pos rfl]; rfl
  have e0 : (probes x == 0) = false := beq_eq_false_iff_ne.2 h0
  rw [e0, cond_false, if_neg h0]
  obtain ⟨h1, h2⟩ := probes_ne h0
  obtain ⟨v1, v2, kk, f1, f2, f3, f4, f5⟩ := bits_ok h1 h2 hl
  have hkk : bitsK x keys.length = kk := by unfold bitsK; rw [f1, Option.bind_some, f2, Option.bind_some, f5]; rfl
  obtain ⟨N, hN, hN2⟩ := probes_nat x
  rw [hkk, hN, Int.toNat_natCast]
  have hM := bitsM_range f4
  refine bnd f1 (bnd f2 (bnd (s59 (by omega) f3) (bnd f5 ?_)))
  have e1 : IntKind.i64.wrap (((bitsM kk / 8 : Nat) : Int) + 1) = ((bitsM kk / 8 + 1 : Nat) : Int) := by rw [w64 (by omega) (by omega)]; omega
  rw [bitsM_eq f4, t8d _ (by omega), e1, if_pos (by omega), Int.toNat_natCast, Int.toNat_natCast, if_pos (by rw [List.length_replicate]; omega), wu8, show ((N : Int) % 256) = (N : Int) from by omega]
  rw [← mkF_comm keys N (by omega) hM.2.2]
  exact l25 (q := k) k keys N kk (by omega) f4 (by omega) hks (by omega) keys.length 0 k _ (by omega) (by omega) (by rw [List.length_set, List.length_replicate])
end Go.Eng.Bk
/- What comes in at a law: bytes and numbers. -/
namespace Go.Eng.Bk
open Go Go.Proofs Go.Eng
theorem wf_int {k : IntKind} {y : Int} (w : wf (.int k) y) : k.min ≤ y ∧ y ≤ k.max := by
  have h : (Lit.int k y).wf = true := w
  simp only [Lit.wf, decide_eq_true_eq, Bool.and_eq_true] at h
  exact h
theorem in_u8 {y : (u8).den} (w : wf u8 y) : ∃ n : Nat, n < 256 ∧ y = ((n : Nat) : Int) := by
  have h := wf_int w
  rw [show IntKind.min .u8 = 0 from rfl, show IntKind.max .u8 = 255 from rfl] at h
  have h' : (0 : Int) ≤ y ∧ (y : Int) ≤ 255 := h
  exact ⟨Int.toNat y, by have := h'; omega, (Int.toNat_of_nonneg h'.1).symm⟩
abbrev u16 : Ty := .int .u16
theorem in_u16 {y : (u16).den} (w : wf u16 y) : ∃ n : Nat, n < 65536 ∧ y = ((n : Nat) : Int) := by
  have h := wf_int w
  rw [show IntKind.min .u16 = 0 from rfl, show IntKind.max .u16 = 65535 from rfl] at h
  have h' : (0 : Int) ≤ y ∧ (y : Int) ≤ 65535 := h
  exact ⟨Int.toNat y, by have := h'; omega, (Int.toNat_of_nonneg h'.1).symm⟩
theorem in_bytes {y : (Ty.sl u8).den} (w : wf (.sl u8) y) : Bytes y ∧ List.length y ≤ maxLen := by
  have h : List.length y ≤ maxLen ∧ ∀ x ∈ (y : List Int), wf u8 x := w
  refine ⟨fun x hx => ?_, h.1⟩
  have h := wf_int (h.2 x hx)
  rw [show IntKind.min .u8 = 0 from rfl, show IntKind.max .u8 = 255 from rfl] at h
  exact h
end Go.Eng.Bk
/- FilterAll's function answers true. -/
namespace Go.Eng.Bk
open Go Go.Proofs Go.Eng
set_option linter.unusedVariables false
set_option linter.unusedSimpArgs false
/-- What is not more than the statements go through. -/
theorem l20 {call : CallT B} {inl : InlT} (m0 : Nat) {l : List ByteArray} (d : Nat) : ∀ (i m : Nat), i + d = 100 → d < m → (∀ j, j < i → (l.getD j noS).size ≤ 300) →
    ∃ r : Bool, LP B call inl 20 m [1, 0, 1] (s20_1 l (i : Int)) (KA B call inl 20 m0 [1, 0, 1] (FI B call inl 20)) = (some r : Option Bool) ∧ (r = false → l.length ≤ 80 ∧ ∀ s ∈ l, s.size ≤ 300) := by
  have done : ∀ i, (∀ j, j < i → (l.getD j noS).size ≤ 300) → (l.length ≤ i ∨ i = 100) → decide ((l.length : Int) > 80) = false → l.length ≤ 80 ∧ ∀ s ∈ l, s.size ≤ 300 := by
    intro i hb hi hd
    have h80 : l.length ≤ 80 := by have := of_decide_eq_false hd; omega
    refine ⟨h80, fun s hs => ?_⟩
    obtain ⟨j, hj, rfl⟩ := List.mem_iff_getElem.1 hs
    rw [← getD_lt' hj noS]
    exact hb j (by omega)
  induction d with
  | zero =>
    intro i m hd hm hb
    obtain ⟨m, rfl⟩ : ∃ k, m = k + 1 := ⟨m - 1, by omega⟩
    by_cases h : (i : Int) < (l.length : Int)
    · exact ⟨_, by rw [s20_1_l, decide_eq_true h, beq_self_eq_true, cond_true, bF (by omega), s20_1x3_k], done i hb (by omega)⟩
    · exact ⟨_, by rw [s20_1_l, decide_eq_false h, show (false == true) = false from rfl, cond_false, s20_1x3_k], done i hb (by omega)⟩
  | succ d ih =>
    intro i m hd hm hb
    obtain ⟨m, rfl⟩ : ∃ k, m = k + 1 := ⟨m - 1, by omega⟩
    by_cases h : (i : Int) < (l.length : Int)
    · rw [s20_1_l, decide_eq_true h, beq_self_eq_true, cond_true, bT (by omega), if_pos (by omega), Int.toNat_natCast, w64 (x := (i : Int) + 1) (by omega) (by omega), s20_1x2_k]
      by_cases hc : (((l.getD i noS).size : Nat) : Int) > 300
      · exact ⟨true, bT hc, fun h => by cases h⟩
      · obtain ⟨r, hr, hr2⟩ := ih (i + 1) m (by omega) (by omega) (fun j hj => by
          by_cases hji : j = i
          · subst hji; omega
          · exact hb j (by omega))
        exact ⟨r, (bF hc).trans hr, hr2⟩
    · exact ⟨_, by rw [s20_1_l, decide_eq_false h, show (false == true) = false from rfl, cond_false, s20_1x3_k], done i hb (by omega)⟩
theorem s20 {k : Nat} (l : List ByteArray) (hk : 200 ≤ k) : ∃ r : Bool, callN B k 20 [argAV (.sl .str) l] = (some r : Option Bool) ∧ (r = false → l.length ≤ 80 ∧ ∀ s ∈ l, s.size ≤ 300) := by
  obtain ⟨k, rfl⟩ := Nat.exists_eq_add_of_le' (show 1 ≤ k by omega)
  obtain ⟨r, hr, hr2⟩ := l20 (call := callN B k) (inl := (lvl B k).2) k (l := l) 100 0 k (by omega) (by omega) (fun j hj => by omega)
  exact ⟨r, (callS k 20 _).trans ((t20 (callN B k) (lvl B k).2 k l).trans hr), hr2⟩
theorem s4 {k : Nat} (hk : 10000 ≤ k) (keys : List ByteArray) (x : Nat) {f : List Int} (hf : Bytes f) (key : ByteArray) : callN B k 4 [argAV (.sl .str) keys, argAV (.flt .f64) x, argAV (.sl u8) f, argAV .str key] = (some true : Option Bool) := by
  obtain ⟨k, rfl⟩ := Nat.exists_eq_add_of_le' (show 1 ≤ k by omega)
  refine (callS k 4 _).trans ((t4 (callN B k) (lvl B k).2 k keys x f key).trans ?_)
  have aw : (((callN B k 21 []).bind fun (v0 : Bool) => some (v0)) : Option Bool) = some true := bnd (s21 (by omega)) rfl
  obtain ⟨r, hr, hr2⟩ := s20 (k := k) keys (by omega)
  refine bnd hr ?_
  cases r with
  | true => exact aw
  | false =>
  obtain ⟨hl, hks⟩ := hr2 rfl
  rw [beq_self_eq_true, cond_true]
  by_cases c2 : (f.length : Int) > 2000
  · rw [decide_eq_true c2]; exact aw
  rw [decide_eq_false c2, beq_self_eq_true, cond_true]
  by_cases c4 : (key.size : Int) > 300
  · rw [decide_eq_true c4]; exact aw
  rw [decide_eq_false c4, cond_false]
  refine bnd (s22 (by omega) x) (bnd (s23 (by omega) x) ?_)
  rw [beq_self_eq_true, beq_self_eq_true, cond_true]
  have hks' : ∀ s ∈ keys, s.size ≤ 1000 := fun s hs => Nat.le_trans (hks s hs) (by omega)
  refine bnd (s24 (by omega) hks' (by omega)) (bnd (s25 (by omega) hks' (by omega)) ?_)
  rw [beq_self_eq_true, beq_self_eq_true, cond_true]
  refine bnd (s26 hf (by omega) (by omega) (by omega)) (bnd (s27 hf (by omega) (by omega) (by omega)) ?_)
  rw [beq_self_eq_true, beq_self_eq_true, cond_true]
  exact aw
end Go.Eng.Bk
/- The bits of a filter: what a key sets is set, and nothing else; what Make made says of each of its keys that it may be there. -/
namespace Go.Eng.Bk
open Go Go.Proofs Go.Eng
set_option linter.unusedVariables false
set_option linter.unusedSimpArgs false
def tab1 (x r : Nat) : Bool := IntKind.u8.wrap (((BitVec.ofInt IntKind.u8.bits (Int.fdiv (x : Int) ((2 : Int) ^ Min.min r IntKind.u8.bits)) &&& BitVec.ofInt IntKind.u8.bits (1 : Int)).toNat : Nat) : Int) == (if x.testBit r then 1 else 0)
theorem tab1_all : (List.range 256).all (fun x => (List.range 8).all (tab1 x)) = true := by decide +kernel
def tab2 (x r : Nat) : Bool := IntKind.u8.wrap (((BitVec.ofInt IntKind.u8.bits (x : Int) ||| BitVec.ofInt IntKind.u8.bits (IntKind.u8.wrap ((1 : Int) * (2 : Int) ^ Min.min r IntKind.u8.bits))).toNat : Nat) : Int) == ((x ||| 2 ^ r : Nat) : Int) && decide (x ||| 2 ^ r < 256)
theorem tab2_all : (List.range 256).all (fun x => (List.range 8).all (tab2 x)) = true := by decide +kernel
theorem bitI_eq {f : List Int} {p x : Nat} (h : f.getD (p / 8) 0 = (x : Int)) (hx : x < 256) : bitI f p = if x.testBit (p % 8) then 1 else 0 := by
  have := List.all_eq_true.1 (List.all_eq_true.1 tab1_all x (List.mem_range.2 hx)) (p % 8) (List.mem_range.2 (by omega))
  unfold bitI
  rw [h]
  exact eq_of_beq this
theorem orI_eq {f : List Int} {p x : Nat} (h : f.getD (p / 8) 0 = (x : Int)) (hx : x < 256) : orI f p = ((x ||| 2 ^ (p % 8) : Nat) : Int) ∧ x ||| 2 ^ (p % 8) < 256 := by
  have := List.all_eq_true.1 (List.all_eq_true.1 tab2_all x (List.mem_range.2 hx)) (p % 8) (List.mem_range.2 (by omega))
  unfold tab2 at this
  rw [Bool.and_eq_true] at this
  unfold orI
  rw [h]
  exact ⟨eq_of_beq this.1, of_decide_eq_true this.2⟩
theorem byteD {f : List Int} (hf : Bytes f) (i : Nat) : ∃ x : Nat, x < 256 ∧ f.getD i 0 = (x : Int) := by
  by_cases h : i < f.length
  · have := hf _ (getD_mem h 0)
    exact ⟨(f.getD i 0).toNat, by omega, by omega⟩
  · refine ⟨0, by omega, ?_⟩
    rw [List.getD_eq_getElem?_getD, List.getElem?_eq_none (by omega)]
    rfl
theorem getD_set {f : List Int} {i j : Nat} (x : Int) (hi : i < f.length) : (f.set i x).getD j 0 = if i = j then x else f.getD j 0 := by
  rw [List.getD_eq_getElem?_getD, List.getD_eq_getElem?_getD, List.getElem?_set]
  split
  · first | rfl | (rw [if_pos hi]; rfl)
  · rfl
theorem set_bytes {f : List Int} (hf : Bytes f) (i : Nat) {x : Int} (h0 : 0 ≤ x) (h1 : x ≤ 255) : Bytes (f.set i x) := fun y hy => by
  rcases List.mem_or_eq_of_mem_set hy with h | h
  · exact hf y h
  · omega
theorem setI_bytes {f : List Int} (hf : Bytes f) (q : Nat) : Bytes (setI f q) := by
  obtain ⟨x, hx, e⟩ := byteD hf (q / 8)
  have := orI_eq e hx
  exact set_bytes hf _ (by omega) (by omega)
theorem bit_setI {f : List Int} (hf : Bytes f) {q : Nat} (hq : q / 8 < f.length) (p : Nat) : bitI (setI f q) p = 1 ↔ bitI f p = 1 ∨ q = p := by
  obtain ⟨x, hx, e⟩ := byteD hf (q / 8)
  obtain ⟨y, hy, e2⟩ := byteD hf (p / 8)
  have ho := orI_eq e hx
  rw [bitI_eq e2 hy]
  by_cases h : q / 8 = p / 8
  · have hxy : x = y := by rw [h, e2] at e; omega
    subst hxy
    have e3 : (setI f q).getD (p / 8) 0 = ((x ||| 2 ^ (q % 8) : Nat) : Int) := by
      unfold setI
      rw [getD_set _ hq, if_pos h, ho.1]
    rw [bitI_eq e3 ho.2, Nat.testBit_or, Nat.testBit_two_pow]
    by_cases h8 : q % 8 = p % 8
    · have : q = p := by omega
      simp [h8, this]
    · have : q ≠ p := fun hh => h8 (by rw [hh])
      simp [h8, this]
  · have e3 : (setI f q).getD (p / 8) 0 = (y : Int) := by
      unfold setI
      rw [getD_set _ hq, if_neg h, e2]
    have : q ≠ p := fun hh => h (by rw [hh])
    rw [bitI_eq e3 hy]
    simp [this]
theorem setA_bytes {h : Int} {M : Nat} : ∀ (d j : Nat) {f : List Int}, Bytes f → Bytes (setA h M d j f)
  | 0, _, _, hf => hf
  | d + 1, j, f, hf => setA_bytes d (j + 1) (setI_bytes hf _)
theorem bit_setA {h : Int} {M : Nat} (hM : 0 < M) (h8 : M % 8 = 0) (p : Nat) : ∀ (d j : Nat) {f : List Int}, Bytes f → M / 8 ≤ f.length → (bitI (setA h M d j f) p = 1 ↔ bitI f p = 1 ∨ ∃ t, j ≤ t ∧ t < j + d ∧ posI h t M = p)
  | 0, j, f, hf, hl => ⟨fun hh => .inl hh, fun hh => hh.elim id (fun ⟨t, h1, h2, _⟩ => by omega)⟩
  | d + 1, j, f, hf, hl => by
    have hp := posI_lt h j hM
    have ih := bit_setA (h := h) hM h8 p d (j + 1) (f := setI f (posI h j M)) (setI_bytes hf _) (by rw [setI_len]; exact hl)
    show bitI (setA h M d (j + 1) (setI f (posI h j M))) p = 1 ↔ _
    rw [ih, bit_setI hf (by omega)]
    constructor
    · rintro ((h1 | h1) | ⟨t, h1, h2, h3⟩)
      · exact .inl h1
      · exact .inr ⟨j, by omega, by omega, h1⟩
      · exact .inr ⟨t, by omega, by omega, h3⟩
    · rintro (h1 | ⟨t, h1, h2, h3⟩)
      · exact .inl (.inl h1)
      · by_cases hj : t = j
        · subst hj; exact .inl (.inr h3)
        · exact .inr ⟨t, by omega, by omega, h3⟩
theorem mkF_bytes {keys : List ByteArray} {M N : Nat} : ∀ (d i : Nat) {f : List Int}, Bytes f → Bytes (mkF keys M N d i f)
  | 0, _, _, hf => hf
  | d + 1, i, f, hf => mkF_bytes d (i + 1) (setA_bytes _ _ hf)
theorem bit_mkF {keys : List ByteArray} {M N : Nat} (hM : 0 < M) (h8 : M % 8 = 0) (p : Nat) : ∀ (d i : Nat) {f : List Int}, Bytes f → M / 8 ≤ f.length → (bitI (mkF keys M N d i f) p = 1 ↔ bitI f p = 1 ∨ ∃ u, i ≤ u ∧ u < i + d ∧ ∃ t, t < N ∧ posI (hashS (keys.getD u noS)) t M = p)
  | 0, i, f, hf, hl => ⟨fun hh => .inl hh, fun hh => hh.elim id (fun ⟨t, h1, h2, _⟩ => by omega)⟩
  | d + 1, i, f, hf, hl => by
    have ih := bit_mkF (keys := keys) (N := N) hM h8 p d (i + 1) (f := setA (hashS (keys.getD i noS)) M N 0 f) (setA_bytes _ _ hf) (by rw [setA_len]; exact hl)
    show bitI (mkF keys M N d (i + 1) (setA (hashS (keys.getD i noS)) M N 0 f)) p = 1 ↔ _
    rw [ih, bit_setA hM h8 p N 0 hf hl]
    constructor
    · rintro ((h1 | ⟨t, h1, h2, h3⟩) | ⟨u, h1, h2, h3⟩)
      · exact .inl h1
      · exact .inr ⟨i, by omega, by omega, t, by omega, h3⟩
      · exact .inr ⟨u, by omega, by omega, h3⟩
    · rintro (h1 | ⟨u, h1, h2, t, h3, h4⟩)
      · exact .inl (.inl h1)
      · by_cases hj : u = i
        · subst hj; exact .inl (.inr ⟨t, by omega, by omega, h4⟩)
        · exact .inr ⟨u, by omega, by omega, t, h3, h4⟩
theorem mayA_iff (f : List Int) (h : Int) (M : Nat) : ∀ (d j : Nat), mayA f h M d j = true ↔ ∀ t, j ≤ t → t < j + d → bitI f (posI h t M) = 1
  | 0, j => ⟨fun _ t h1 h2 => by omega, fun _ => rfl⟩
  | d + 1, j => by
    show (bitI f (posI h j M) == 1 && mayA f h M d (j + 1)) = true ↔ _
    rw [Bool.and_eq_true, beq_iff_eq, mayA_iff f h M d (j + 1)]
    constructor
    · rintro ⟨h1, h2⟩ t h3 h4
      by_cases hj : t = j
      · subst hj; exact h1
      · exact h2 t (by omega) (by omega)
    · intro h1
      exact ⟨h1 j (by omega) (by omega), fun t h2 h3 => h1 t (by omega) (by omega)⟩
theorem bit_zero (n p : Nat) : bitI (List.replicate n 0) p = 0 := by
  have : (List.replicate n (0 : Int)).getD (p / 8) 0 = ((0 : Nat) : Int) := by
    rw [List.getD_eq_getElem?_getD, List.getElem?_replicate]
    split <;> rfl
  rw [bitI_eq this (by omega), Nat.zero_testBit]
  rfl
theorem rep_bytes (n : Nat) : Bytes (List.replicate n 0) := fun x hx => by
  have := List.eq_of_mem_replicate hx
  omega
/-! ### what Make made -/
theorem bitsK_ok {x n : Nat} (h : probes x ≠ 0) (hn : n ≤ 256) : bitsK x n ≤ 65536 := by
  obtain ⟨h1, h2⟩ := probes_ne h
  obtain ⟨v1, v2, kk, f1, f2, f3, f4, f5⟩ := bits_ok h1 h2 hn
  have : bitsK x n = kk := by unfold bitsK; rw [f1, Option.bind_some, f2, Option.bind_some, f5]; rfl
  omega
theorem filt_bytes (keys : List ByteArray) (x : Nat) : Bytes (filt keys x) := by
  unfold filt
  split
  · intro y hy; cases hy
  · obtain ⟨N, hN, hN2⟩ := probes_nat x
    exact set_bytes (mkF_bytes _ _ (rep_bytes _)) _ (by omega) (by omega)
theorem filt_len {keys : List ByteArray} {x : Nat} (h : probes x ≠ 0) : (filt keys x).length = bitsM (bitsK x keys.length) / 8 + 1 := by
  unfold filt
  rw [if_neg h, List.length_set, mkF_len, List.length_replicate]
theorem filt_last {keys : List ByteArray} {x : Nat} (h : probes x ≠ 0) : (filt keys x).getD (bitsM (bitsK x keys.length) / 8) 0 = probes x := by
  unfold filt
  rw [if_neg h, getD_set _ (by rw [mkF_len, List.length_replicate]; omega), if_pos rfl]
theorem filt_bit {keys : List ByteArray} {x : Nat} (h : probes x ≠ 0) (hn : keys.length ≤ 256) {p : Nat} (hp : p < bitsM (bitsK x keys.length)) : bitI (filt keys x) p = 1 ↔ ∃ u, u < keys.length ∧ ∃ t, t < (probes x).toNat ∧ posI (hashS (keys.getD u noS)) t (bitsM (bitsK x keys.length)) = p := by
  have hM := bitsM_range (bitsK_ok h hn)
  unfold filt
  rw [if_neg h]
  generalize bitsM (bitsK x keys.length) = M at hp hM ⊢
  have e : ∀ f : List Int, M / 8 < f.length → bitI (f.set (M / 8) (probes x)) p = bitI f p := by
    intro f hf
    unfold bitI
    rw [getD_set _ hf, if_neg (by omega)]
  rw [e _ (by rw [mkF_len, List.length_replicate]; omega), bit_mkF (by omega) hM.2.2 p keys.length 0 (rep_bytes _) (by rw [List.length_replicate]; omega), bit_zero]
  constructor
  · rintro (h1 | ⟨u, h1, h2, h3⟩)
    · cases h1
    · exact ⟨u, by omega, h3⟩
  · rintro ⟨u, h1, h3⟩
    exact .inr ⟨u, by omega, by omega, h3⟩
theorem filt_may {keys : List ByteArray} {x u : Nat} (hn : keys.length ≤ 256) (hu : u < keys.length) : may (filt keys x) (keys.getD u noS) = true := by
  by_cases h : probes x = 0
  · unfold filt
    rw [if_pos h]
    rfl
  have hM := bitsM_range (bitsK_ok h hn)
  have hl := filt_len (keys := keys) h
  have hb := fun p => filt_bit (keys := keys) h hn (p := p)
  have hL := filt_last (keys := keys) h
  generalize bitsM (bitsK x keys.length) = M at hM hl hb hL
  unfold may
  rw [hl, if_neg (by omega), show M / 8 + 1 - 1 = M / 8 from by omega, hL]
  obtain ⟨N, hN, hN2⟩ := probes_nat x
  rw [if_neg (by omega), show 8 * (M / 8) = M from by omega]
  refine (mayA_iff _ _ _ _ _).2 (fun t h1 h2 => ?_)
  exact (hb _ (posI_lt _ _ (by omega))).2 ⟨u, hu, t, by omega, rfl⟩
end Go.Eng.Bk
/- Tables put, the program's and the document's. -/
namespace Go.Eng.Bk
open Go Go.Proofs Go.Eng
set_option linter.unusedVariables false
set_option linter.unusedSimpArgs false
theorem filt_le {keys : List ByteArray} (x : Nat) (h : keys.length ≤ 256) : (filt keys x).length ≤ 10000 := by
  by_cases h0 : probes x = 0
  · unfold filt
    rw [if_pos h0]
    exact Nat.zero_le _
  · rw [filt_len h0]
    have := bitsM_range (bitsK_ok h0 h)
    omega
/-- A table's bytes, or why there are none. -/
def putTable (l : List En) (per : Int) (x : Nat) : List Int × Int × Unit := if per < 1 ∨ per > 64 ∨ l.length = 0 ∨ rising l = false then ([], 1, ()) else if l.length > 256 then ([], 4, ()) else (tableL l per.toNat (filt (usr l) x), 0, ())
theorem pt_arg {l : List En} {per : Int} {x : Nat} (h : per < 1 ∨ per > 64 ∨ l.length = 0 ∨ rising l = false) : putTable l per x = ([], 1, ()) := if_pos h
theorem pt_large {l : List En} {per : Int} {x : Nat} (h : ¬ (per < 1 ∨ per > 64 ∨ l.length = 0 ∨ rising l = false)) (h2 : l.length > 256) : putTable l per x = ([], 4, ()) := (if_neg h).trans (if_pos h2)
theorem pt_ok {l : List En} {per : Int} {x : Nat} (h : ¬ (per < 1 ∨ per > 64 ∨ l.length = 0 ∨ rising l = false)) (h2 : ¬ l.length > 256) : putTable l per x = (tableL l per.toNat (filt (usr l) x), 0, ()) := (if_neg h).trans (if_neg h2)
theorem usr_small {l : List En} (h : rising l = true) : ∀ s ∈ usr l, s.size ≤ 1000 := fun s hs => by
  obtain ⟨e, he, rfl⟩ := usr_mem hs
  obtain ⟨j, hj, rfl⟩ := List.mem_iff_getElem.1 he
  have := mayE_true (rising_may h j hj)
  rw [getD_lt' hj] at this
  omega
theorem s43 {k : Nat} {l : List En} (hl : l.length ≤ 140737488351232) (hk : l.length + 1200000 ≤ k) (per : Int) (x : Nat) : callN B k 43 [argAV (.sl EntryT) l, argAV i64 per, argAV (.flt .f64) x] = (some (putTable l per x) : Option (List Int × Int × Unit)) := by
  obtain ⟨k, rfl⟩ := Nat.exists_eq_add_of_le' (show 1 ≤ k by omega)
  refine (callS k 43 _).trans ((t43 (callN B k) (lvl B k).2 k l per x).trans ?_)
  by_cases h1 : per < 1
  · rw [decide_eq_true h1, pt_arg (.inl h1)]; rfl
  rw [decide_eq_false h1, show (false == false) = true from rfl, cond_true]
  by_cases h2 : per > 64
  · rw [decide_eq_true h2, pt_arg (.inr (.inl h2))]; rfl
  rw [decide_eq_false h2, show (false == false) = true from rfl, cond_true]
  by_cases h3 : l.length = 0
  · rw [show ((l.length : Int) == (0 : Int)) = true from beq_iff_eq.2 (by omega), pt_arg (.inr (.inr (.inl h3)))]; rfl
  rw [show ((l.length : Int) == (0 : Int)) = false from beq_eq_false_iff_ne.2 (by omega), show (false == false) = true from rfl, cond_true]
  refine bnd (s52 (by omega) (by omega)) ?_
  cases h4 : rising l with
  | false => rw [pt_arg (.inr (.inr (.inr h4)))]; rfl
  | true =>
    rw [show (!true) = false from rfl, cond_false]
    have hno : ¬ (per < 1 ∨ per > 64 ∨ l.length = 0 ∨ rising l = false) := fun h => by
      rcases h with h | h | h | h
      · omega
      · omega
      · omega
      · rw [h4] at h; cases h
    by_cases h5 : l.length > 256
    · rw [bT (by omega), pt_large hno h5]
    · rw [bF (by omega), pt_ok hno h5]
      obtain ⟨p, rfl⟩ : ∃ p : Nat, per = p := ⟨per.toNat, by omega⟩
      rw [Int.toNat_natCast]
      have hu := usr_len l
      have hf := filt_le (keys := usr l) x (by omega)
      have hb := bodyT_len (l := l) (per := p) (by omega) (by omega)
      refine bnd (s82 (by omega) (by omega) (by omega) p (by omega) (by omega)) ?_
      refine bnd (s84 (by omega) (by omega)) ?_
      refine bnd (s24 (keys := usr l) (x := x) (by omega) (usr_small h4) (by omega)) ?_
      exact bnd (s83 (a := (bodyT l p).1) (f := filt (usr l) x) (p := (bodyT l p).2) l.length (by omega) (by omega) (by omega) (by omega)) rfl
theorem s46 {k : Nat} {l : List En} (hl : l.length ≤ 140737488351232) (hk : l.length + 1200000 ≤ k) (per : Int) (x : Nat) : callN B k 46 [argAV (.sl EntryT) l, argAV i64 per, argAV (.flt .f64) x] = (some (putTable l per x) : Option (List Int × Int × Unit)) := by
  obtain ⟨k, rfl⟩ := Nat.exists_eq_add_of_le' (show 1 ≤ k by omega)
  refine (callS k 46 _).trans ((t46 (callN B k) (lvl B k).2 k l per x).trans ?_)
  by_cases h1 : per < 1
  · rw [decide_eq_true h1, pt_arg (.inl h1)]; rfl
  rw [decide_eq_false h1, show (false == false) = true from rfl, cond_true]
  by_cases h2 : per > 64
  · rw [decide_eq_true h2, pt_arg (.inr (.inl h2))]; rfl
  rw [decide_eq_false h2, show (false == false) = true from rfl, cond_true]
  refine bnd (s70 (by omega) (by omega)) ?_
  cases h4 : rising l with
  | false => rw [pt_arg (.inr (.inr (.inr h4)))]; rfl
  | true =>
    rw [show ((!true) == false) = true from rfl, cond_true]
    by_cases h3 : l.length = 0
    · rw [show ((l.length : Int) == (0 : Int)) = true from beq_iff_eq.2 (by omega), pt_arg (.inr (.inr (.inl h3)))]; rfl
    rw [show ((l.length : Int) == (0 : Int)) = false from beq_eq_false_iff_ne.2 (by omega), cond_false]
    have hno : ¬ (per < 1 ∨ per > 64 ∨ l.length = 0 ∨ rising l = false) := fun h => by
      rcases h with h | h | h | h
      · omega
      · omega
      · omega
      · rw [h4] at h; cases h
    by_cases h5 : l.length > 256
    · rw [bT (by omega), pt_large hno h5]
    · rw [bF (by omega), pt_ok hno h5]
      obtain ⟨p, rfl⟩ : ∃ p : Nat, per = p := ⟨per.toNat, by omega⟩
      rw [Int.toNat_natCast]
      have hu := usr_len l
      have hf := filt_le (keys := usr l) x (by omega)
      refine bnd (s87 (by omega) (by omega)) ?_
      refine bnd (s25 (keys := usr l) (x := x) (by omega) (usr_small h4) (by omega)) ?_
      exact bnd (s86 (by omega) (by omega) p (by omega) (by omega) (by omega)) rfl
end Go.Eng.Bk
