/- Qt, part 6: several texts of mine, laid together. -/
import Derived.Test.YtogancdiihbjfaaQte
import Derived.RegionTactic
import Derived.Shelf.Slices.Cells
import Derived.WalkKit
import Derived.WalkSpells
import Derived.Lib.AppendZeros
set_option linter.unusedVariables false
set_option linter.unusedSimpArgs false
/- What the machine answers at some functions of the program: printed by the generator, each checked by the kernel. -/
namespace Go.Eng.Bk
open Go Go.Proofs Go.Eng
set_option linter.unusedVariables false
set_option maxRecDepth 100000
section
variable (call : CallT B) (inl : InlT) (m : Nat)
/-! function 15 -/
def s15_9 (v1 : (List En)) (v2 : (ByteArray × ByteArray × Unit)) (v4 : (En × Bool × Int × Unit)) (v5 : (En × Bool × Int × Unit)) (v6 : (En × Bool × Int × Unit)) (v7 : (En × Bool × Unit)) (x8 : Int) : St := { t := [.bad, .bad, .bad, .bad, .bad, (.own 0 26 EntryT (v1)), (.v .str (v2.fst)), (.v .str (v2.snd.fst)), .bad, .bad, .bad, (.v .bool (v4.snd.fst)), (.v (.int .i64) (v4.snd.snd.fst)), .bad, (.v .bool (v5.snd.fst)), (.v (.int .i64) (v5.snd.snd.fst)), (.ptr 0 0), (.v .bool (v6.snd.fst)), (.v (.int .i64) (v6.snd.snd.fst)), (.ptr 1 0), .bad, (.v (.int .i64) (x8)), .bad, .bad, .bad, .bad, .bad, .bad, .bad, .bad, .bad, .bad, .bad, .bad, .bad, .bad, .bad, .bad, .bad, .bad, .bad, .bad, .bad, .bad, .bad, .bad, .bad, .bad, .bad, .bad, .bad, .bad, .bad, .bad, .bad, .bad, .bad, .bad, .bad, .bad, .bad, .bad, .bad, .bad, .bad, .bad, .bad, .bad, .bad, .bad, .bad, .bad, .bad, .bad, .bad, .bad, .bad, .bad, .bad, .bad, .bad, .bad, .bad, .bad, .bad, .bad, .bad, .bad, .bad, .bad, .bad, .bad, .bad, .bad, .bad, .bad, .bad, .bad, .bad, .bad, .bad, .bad, .bad, (.raw undef), (.raw undef), (.raw undef), (.raw undef), (.raw undef), (.raw undef), (.raw undef), (.raw undef), (.raw undef), (.raw undef), (.raw undef), (.raw undef), (.raw undef), (.raw undef), (.raw undef), (.raw undef), (.raw undef), (.raw undef), (.raw undef), (.raw undef), (.raw undef), (.raw undef), (.raw undef), (.raw undef), (.raw undef), (.raw undef), (.raw undef), (.raw undef), (.raw undef), (.raw undef), (.raw undef), (.raw undef)], bx := [(some (26, [(.v .str (v6.fst.fst.fst)), (.v (.int .i64) (v6.fst.fst.snd.fst)), (.v (.int .i64) (v6.fst.fst.snd.snd.fst)), (.v .str (v6.fst.snd.fst))])), (some (26, [(.v .str (v7.fst.fst.fst)), (.v (.int .i64) (v7.fst.fst.snd.fst)), (.v (.int .i64) (v7.fst.fst.snd.snd.fst)), (.v .str (v7.fst.snd.fst))])), none], live := 1, g := [] }
def s15_9x10 (y0 : (En × Bool × Int × Unit)) (y1 : (En × Bool × Int × Unit)) (y2 : (En × Bool × Int × Unit)) (y3 : (En × Bool × Unit)) : St := { t := [.bad, .bad, .bad, .bad, (.v .bool (false)), .bad, .bad, .bad, .bad, .bad, .bad, (.v .bool (y0.snd.fst)), (.v (.int .i64) (y0.snd.snd.fst)), .bad, (.v .bool (y1.snd.fst)), (.v (.int .i64) (y1.snd.snd.fst)), (.ptr 0 0), (.v .bool (y2.snd.fst)), (.v (.int .i64) (y2.snd.snd.fst)), (.ptr 1 0), .bad, .bad, .bad, .bad, .bad, .bad, .bad, .bad, .bad, .bad, .bad, .bad, .bad, .bad, .bad, .bad, .bad, .bad, .bad, .bad, .bad, .bad, .bad, .bad, .bad, .bad, .bad, .bad, .bad, .bad, .bad, .bad, .bad, .bad, .bad, .bad, .bad, .bad, .bad, .bad, .bad, .bad, .bad, .bad, .bad, .bad, .bad, .bad, .bad, .bad, .bad, .bad, .bad, .bad, .bad, .bad, .bad, .bad, .bad, .bad, .bad, .bad, .bad, .bad, .bad, .bad, .bad, .bad, .bad, .bad, .bad, .bad, .bad, .bad, .bad, .bad, .bad, .bad, .bad, .bad, .bad, .bad, .bad, (.raw undef), (.raw undef), (.raw undef), (.raw undef), (.raw undef), (.raw undef), (.raw undef), (.raw undef), (.raw undef), (.raw undef), (.raw undef), (.raw undef), (.raw undef), (.raw undef), (.raw undef), (.raw undef), (.raw undef), (.raw undef), (.raw undef), (.raw undef), (.raw undef), (.raw undef), (.raw undef), (.raw undef), (.raw undef), (.raw undef), (.raw undef), (.raw undef), (.raw undef), (.raw undef), (.raw undef), (.raw undef)], bx := [(some (26, [(.v .str (y2.fst.fst.fst)), (.v (.int .i64) (y2.fst.fst.snd.fst)), (.v (.int .i64) (y2.fst.fst.snd.snd.fst)), (.v .str (y2.fst.snd.fst))])), (some (26, [(.v .str (y3.fst.fst.fst)), (.v (.int .i64) (y3.fst.fst.snd.fst)), (.v (.int .i64) (y3.fst.fst.snd.snd.fst)), (.v .str (y3.fst.snd.fst))])), none, none, none, none, none, none, none, none, none, none, none, none, none, none, none, none, none, none, none, none, none, none, none, none], live := 1, g := [] }
def s15_9x11 (y0 : (En × Bool × Int × Unit)) (y1 : (En × Bool × Int × Unit)) (y2 : (En × Bool × Int × Unit)) (y3 : (En × Bool × Unit)) : St := { t := [.bad, .bad, .bad, .bad, .bad, .bad, .bad, .bad, .bad, .bad, .bad, (.v .bool (y0.snd.fst)), (.v (.int .i64) (y0.snd.snd.fst)), .bad, (.v .bool (y1.snd.fst)), (.v (.int .i64) (y1.snd.snd.fst)), (.ptr 0 0), (.v .bool (y2.snd.fst)), (.v (.int .i64) (y2.snd.snd.fst)), (.ptr 1 0), .bad, .bad, .bad, .bad, .bad, .bad, .bad, .bad, .bad, .bad, .bad, .bad, .bad, .bad, .bad, .bad, .bad, .bad, .bad, .bad, .bad, .bad, .bad, .bad, .bad, .bad, .bad, .bad, .bad, .bad, .bad, .bad, .bad, .bad, .bad, .bad, .bad, .bad, .bad, .bad, .bad, .bad, .bad, .bad, .bad, .bad, .bad, .bad, .bad, .bad, .bad, .bad, .bad, .bad, .bad, .bad, .bad, .bad, .bad, .bad, .bad, .bad, .bad, .bad, .bad, .bad, .bad, .bad, .bad, .bad, .bad, .bad, .bad, .bad, .bad, .bad, .bad, .bad, .bad, .bad, .bad, .bad, .bad, (.raw undef), (.raw undef), (.raw undef), (.raw undef), (.raw undef), (.raw undef), (.raw undef), (.raw undef), (.raw undef), (.raw undef), (.raw undef), (.raw undef), (.raw undef), (.raw undef), (.raw undef), (.raw undef), (.raw undef), (.raw undef), (.raw undef), (.raw undef), (.raw undef), (.raw undef), (.raw undef), (.raw undef), (.raw undef), (.raw undef), (.raw undef), (.raw undef), (.raw undef), (.raw undef), (.raw undef), (.raw undef)], bx := [(some (26, [(.v .str (y2.fst.fst.fst)), (.v (.int .i64) (y2.fst.fst.snd.fst)), (.v (.int .i64) (y2.fst.fst.snd.snd.fst)), (.v .str (y2.fst.snd.fst))])), (some (26, [(.v .str (y3.fst.fst.fst)), (.v (.int .i64) (y3.fst.fst.snd.fst)), (.v (.int .i64) (y3.fst.fst.snd.snd.fst)), (.v .str (y3.fst.snd.fst))])), none, none, none, none, none], live := 1, g := [] }
theorem s15_9_l {R : Type} (K : AEx → St → Option R) (v1 : (List En)) (v2 : (ByteArray × ByteArray × Unit)) (v4 : (En × Bool × Int × Unit)) (v5 : (En × Bool × Int × Unit)) (v6 : (En × Bool × Int × Unit)) (v7 : (En × Bool × Unit)) (x8 : Int) : LP B call inl 15 (m + 1) [1, 1, 1, 1, 1, 1, 1, 1, 1, 0, 1] (s15_9 v1 v2 v4 v5 v6 v7 x8) K = (bif decide (x8 < (↑(List.length v1) : Int)) then (if (0 : Int) ≤ x8 ∧ x8 < (↑(List.length v1) : Int) then (bif Op.bytesLess (ByteArray.toList (List.getD v1 x8.toNat (((ByteArray.mk #[]), (0 : Int), (0 : Int), ()), (ByteArray.mk #[]), ())).fst.fst) (ByteArray.toList v2.fst) == false then (if (0 : Int) ≤ x8 ∧ x8 < (↑(List.length v1) : Int) then (bif !(Op.bytesLess (ByteArray.toList (List.getD v1 x8.toNat (((ByteArray.mk #[]), (0 : Int), (0 : Int), ()), (ByteArray.mk #[]), ())).fst.fst) (ByteArray.toList v2.snd.fst) || ByteArray.toList (List.getD v1 x8.toNat (((ByteArray.mk #[]), (0 : Int), (0 : Int), ()), (ByteArray.mk #[]), ())).fst.fst == ByteArray.toList v2.snd.fst) then (K .ret (s15_9x10 v4 v5 v6 v7)) else (LP B call inl 15 m [1, 1, 1, 1, 1, 1, 1, 1, 1, 0, 1] (s15_9 v1 v2 v4 v5 v6 v7 (IntKind.i64.wrap (x8 + (1 : Int)))) K)) else (none)) else (K .ret (s15_9x10 v4 v5 v6 v7))) else (none)) else (K (.exit 0) (s15_9x11 v4 v5 v6 v7))) := by kernel_rfl
theorem s15_9x10_k (v4 : (En × Bool × Int × Unit)) (v5 : (En × Bool × Int × Unit)) (v6 : (En × Bool × Int × Unit)) (v7 : (En × Bool × Unit)) : (KA B call inl 15 m [1, 1, 1, 1, 1, 1, 1, 1, 1, 0, 1] (FI B call inl 15)) .ret (s15_9x10 v4 v5 v6 v7) = (some (false)) := by kernel_rfl
theorem s15_9x11_k (v4 : (En × Bool × Int × Unit)) (v5 : (En × Bool × Int × Unit)) (v6 : (En × Bool × Int × Unit)) (v7 : (En × Bool × Unit)) : (KA B call inl 15 m [1, 1, 1, 1, 1, 1, 1, 1, 1, 0, 1] (FI B call inl 15)) (.exit 0) (s15_9x11 v4 v5 v6 v7) = (bif (!v4.snd.fst) == true then (bif (!v5.snd.fst) == true then (bif v6.snd.fst == true then (bif (ByteArray.toList v6.fst.fst.fst == ByteArray.toList v7.fst.fst.fst && (v6.fst.fst.snd.fst == v7.fst.fst.snd.fst && (v6.fst.fst.snd.snd.fst == v7.fst.fst.snd.snd.fst && ByteArray.toList v6.fst.snd.fst == ByteArray.toList v7.fst.snd.fst))) == true then ((call 18 [(.v (.int .i64) (v4.snd.snd.fst))]).bind fun (v12 : Int) => bif (v12 == (0 : Int)) == true then ((call 18 [(.v (.int .i64) (v5.snd.snd.fst))]).bind fun (v13 : Int) => bif (v13 == (0 : Int)) == true then ((call 18 [(.v (.int .i64) (v6.snd.snd.fst))]).bind fun (v14 : Int) => bif (v14 == (0 : Int)) == true then ((call 44 []).bind fun (v15 : Bool) => some (v15)) else (some (false))) else (some (false))) else (some (false))) else (some (false))) else (some (false))) else (some (false))) else (some (false))) := by kernel_rfl
theorem t15 (a0 : (List Int)) (a1 : Int) : stepN B call inl m 15 [argAV (.sl (.int .u8)) a0, argAV (.int .u8) a1] = (bif ((↑(List.length a0) : Int) == (0 : Int)) == false then (bif decide ((↑(List.length a0) : Int) > (60 : Int)) then ((call 44 []).bind fun (v0 : Bool) => some (v0)) else ((call 33 [(.v (.sl (.int .u8)) (a0)), (.v (.int .u8) (a1))]).bind fun (v1 : (List En)) => (call 50 [(.v (.sl EntryT) (v1))]).bind fun (v2 : (ByteArray × ByteArray × Unit)) => (call 43 [(.v (.sl EntryT) (v1)), (.v (.int .i64) ((7 : Int))), (.v (.flt .f64) ((4621256167635550208 : Nat)))]).bind fun (v3 : ((List Int) × Int × Unit)) => if (0 : Int) ≤ IntKind.i64.wrap ((↑(ByteArray.size v2.fst) : Int) - minI (1 : Int) (↑(ByteArray.size v2.fst) : Int)) ∧ IntKind.i64.wrap ((↑(ByteArray.size v2.fst) : Int) - minI (1 : Int) (↑(ByteArray.size v2.fst) : Int)) ≤ (↑(ByteArray.size v2.fst) : Int) then ((call 48 [(.v (.sl (.int .u8)) (v3.fst)), (.v .str (ByteArray.extract v2.fst (0 : Nat) (IntKind.i64.wrap ((↑(ByteArray.size v2.fst) : Int) - minI (1 : Int) (↑(ByteArray.size v2.fst) : Int))).toNat)), (.v (.int .i64) ((1000 : Int)))]).bind fun (v4 : (En × Bool × Int × Unit)) => if (↑(ByteArray.size v2.snd.fst + (ByteArray.mk #[(48 : UInt8)]).size) : Int) > IntKind.i64.max then (none) else ((call 48 [(.v (.sl (.int .u8)) (v3.fst)), (.v .str (v2.snd.fst ++ (ByteArray.mk #[(48 : UInt8)]))), (.v (.int .i64) ((1000 : Int)))]).bind fun (v5 : (En × Bool × Int × Unit)) => (call 48 [(.v (.sl (.int .u8)) (v3.fst)), (.v .str (v2.snd.fst)), (.v (.int .i64) ((1000 : Int)))]).bind fun (v6 : (En × Bool × Int × Unit)) => (call 51 [(.v (.sl EntryT) (v1)), (.v .str (v2.snd.fst)), (.v (.int .i64) ((1000 : Int)))]).bind fun (v7 : (En × Bool × Unit)) => LP B call inl 15 m [1, 1, 1, 1, 1, 1, 1, 1, 1, 0, 1] (s15_9 v1 v2 v4 v5 v6 v7 ((0 : Int))) (KA B call inl 15 m [1, 1, 1, 1, 1, 1, 1, 1, 1, 0, 1] (FI B call inl 15)))) else (none))) else ((call 44 []).bind fun (v16 : Bool) => some (v16)) : Option Bool) := by kernel_rfl
end
end Go.Eng.Bk
/- TableEnds's function answers true. -/
namespace Go.Eng.Bk
open Go Go.Proofs Go.Eng
set_option linter.unusedVariables false
set_option linter.unusedSimpArgs false
/-- Texts in order. -/
theorem bl_le {l : List En} (h : rising l = true) {i j : Nat} (hij : i ≤ j) (hj : j < l.length) : Op.bytesLess (l.getD i noEn).1.1.toList (l.getD j noEn).1.1.toList = true ∨ (l.getD i noEn).1.1 = (l.getD j noEn).1.1 := by
  by_cases he : i = j
  · subst he; exact .inr rfl
  · rcases pair_lt (rising_pair h) (show i < j by omega) hj with h1 | ⟨h1, _⟩
    · exact .inl h1
    · exact .inr (ba_ext h1)
theorem bl_no {a b : ByteArray} (h : Op.bytesLess a.toList b.toList = true) : Op.bytesLess b.toList a.toList = false := by
  cases h2 : Op.bytesLess b.toList a.toList with
  | false => rfl
  | true => exact (LtK.irr (LtK.trans (.inl h : LtK a 0 0 b 0 0) (.inl h2 : LtK b 0 0 a 0 0))).elim
theorem bl_self (a : ByteArray) : Op.bytesLess a.toList a.toList = false := by
  cases h2 : Op.bytesLess a.toList a.toList with
  | false => rfl
  | true => exact (LtK.irr (.inl h2 : LtK a 0 0 a 0 0)).elim
theorem l15 {q : Nat} (hq : 45000000 ≤ q) {inl : InlT} (m0 : Nat) {l : List En} (hr : rising l = true) (hl : l.length ≤ 1000) (v4 v5 v6 : En × Bool × Int × Unit) (v7 : En × Bool × Unit) (r : Option Bool)
    (hK : (KA B (callN B q) inl 15 m0 [1, 1, 1, 1, 1, 1, 1, 1, 1, 0, 1] (FI B (callN B q) inl 15)) (.exit 0) (s15_9x11 v4 v5 v6 v7) = r) (d : Nat) : ∀ (i m : Nat), i + d = l.length → d < m →
    LP B (callN B q) inl 15 m [1, 1, 1, 1, 1, 1, 1, 1, 1, 0, 1] (s15_9 l (ends l) v4 v5 v6 v7 (i : Int)) (KA B (callN B q) inl 15 m0 [1, 1, 1, 1, 1, 1, 1, 1, 1, 0, 1] (FI B (callN B q) inl 15)) = r := by
  induction d with
  | zero =>
    intro i m hi hm
    obtain ⟨m, rfl⟩ : ∃ k, m = k + 1 := ⟨m - 1, by omega⟩
    rw [s15_9_l, bF (by omega)]
    exact hK
  | succ d ih =>
    intro i m hi hm
    obtain ⟨m, rfl⟩ : ∃ k, m = k + 1 := ⟨m - 1, by omega⟩
    have hB : (0 : Int) ≤ (i : Int) ∧ (i : Int) < (l.length : Int) := by omega
    have he : ends l = ((l.getD 0 noEn).1.1, (l.getD (l.length - 1) noEn).1.1, ()) := by unfold ends; rw [if_neg (by omega)]
    have h1 : Op.bytesLess (l.getD i noEn).1.1.toList (ends l).1.toList = false := by
      rw [he]
      rcases bl_le hr (Nat.zero_le i) (show i < l.length by omega) with h | h
      · exact bl_no h
      · show Op.bytesLess (l.getD i noEn).1.1.toList (l.getD 0 noEn).1.1.toList = false
        rw [h]; exact bl_self _
    have h2 : (!(Op.bytesLess (l.getD i noEn).1.1.toList (ends l).2.1.toList || (l.getD i noEn).1.1.toList == (ends l).2.1.toList)) = false := by
      rw [he]
      rcases bl_le hr (show i ≤ l.length - 1 by omega) (by omega) with h | h
      · show (!(Op.bytesLess (l.getD i noEn).1.1.toList (l.getD (l.length - 1) noEn).1.1.toList || (l.getD i noEn).1.1.toList == (l.getD (l.length - 1) noEn).1.1.toList)) = false
        rw [h]; rfl
      · show (!(Op.bytesLess (l.getD i noEn).1.1.toList (l.getD (l.length - 1) noEn).1.1.toList || (l.getD i noEn).1.1.toList == (l.getD (l.length - 1) noEn).1.1.toList)) = false
        rw [h, beq_self_eq_true, Bool.or_true]; rfl
    rw [s15_9_l, bT (by omega), if_pos hB, Int.toNat_natCast, w64 (x := (i : Int) + 1) (by omega) (by omega), h1, show (false == false) = true from rfl, cond_true]
    try rw [if_pos hB]
    rw [h2, cond_false]
    exact ih (i + 1) m (by omega) (by omega)
/-- Find, in what Put made. -/
theorem findT_put {l : List En} {per : Nat} {f : List Int} (h : TOk l per f) (u : ByteArray) (s : Int) : findT (tableL l per f) u s = if may f u = false then (noEn, false, 0, ()) else ((newest u s l).1, (newest u s l).2.1, 0, ()) := by
  unfold findT
  rw [readP_put h]
  rfl
theorem findT_none {l : List En} {per : Nat} {f : List Int} (h : TOk l per f) {u : ByteArray} {s : Int} (hn : newest u s l = (noEn, false, ())) : findT (tableL l per f) u s = (noEn, false, 0, ()) := by
  rw [findT_put h, hn]
  split <;> rfl
end Go.Eng.Bk
/- What the machine answers at some functions of the program: printed by the generator, each checked by the kernel. -/
namespace Go.Eng.Bk
open Go Go.Proofs Go.Eng
set_option linter.unusedVariables false
set_option maxRecDepth 100000
section
variable (call : CallT B) (inl : InlT) (m : Nat)
/-! function 16 -/
def s16_21 (a2 : Int) (a3 : Nat) (a5 : Int) (v1 : (List En)) (v2 : Nat) (v3 : Nat) (v4 : ByteArray) (v5 : (En × Bool × Unit)) (x13 : Int) : St := { t := [.bad, .bad, (.v (.int .u8) (a2)), .bad, .bad, (.v (.int .u8) (a5)), .bad, .bad, .bad, .bad, .bad, .bad, .bad, (.own 0 26 EntryT (v1)), (.own 1 35 (.flt .f64) ([a3, v2, v3, (0 : Nat), (4613937818241073152 : Nat)])), (.v .str ((ByteArray.mk #[(107 : UInt8), (101 : UInt8), (121 : UInt8)]) ++ v4)), (.ptr 0 0), (.v .bool (v5.snd.fst)), (.v (.int .i64) (x13)), .bad, .bad, .bad, .bad, .bad, .bad, .bad, .bad, .bad, .bad, .bad, .bad, .bad, .bad, .bad, .bad, .bad, .bad, .bad, .bad, .bad, .bad, .bad, .bad, .bad, .bad, .bad, .bad, .bad, .bad, .bad, .bad, .bad, .bad, .bad, .bad, .bad, .bad, .bad, .bad, .bad, .bad, .bad, .bad, .bad, .bad, .bad, .bad, .bad, .bad, .bad, .bad, .bad, .bad, .bad, .bad, .bad, .bad, .bad, .bad, .bad, .bad, .bad, .bad, .bad, .bad, .bad, .bad, .bad, .bad, .bad, .bad, .bad, .bad, .bad, .bad, .bad, .bad, .bad, .bad, .bad, .bad, .bad, .bad, .bad, .bad, .bad, .bad, .bad, .bad, .bad, .bad, .bad, .bad, .bad, .bad, .bad, .bad, (.raw undef)], bx := [(some (26, [(.v .str (v5.fst.fst.fst)), (.v (.int .i64) (v5.fst.fst.snd.fst)), (.v (.int .i64) (v5.fst.fst.snd.snd.fst)), (.v .str (v5.fst.snd.fst))])), none, none], live := 3, g := [] }
def s16_21x29 (y0 : (En × Bool × Unit)) (y1 : (En × Bool × Int × Unit)) : St := { t := [.bad, .bad, .bad, .bad, .bad, .bad, .bad, .bad, .bad, .bad, .bad, .bad, (.v .bool (false)), .bad, .bad, .bad, .bad, .bad, .bad, .bad, .bad, .bad, .bad, .bad, .bad, .bad, .bad, .bad, .bad, .bad, .bad, .bad, .bad, .bad, .bad, .bad, .bad, .bad, .bad, .bad, .bad, .bad, .bad, .bad, .bad, .bad, .bad, .bad, .bad, .bad, .bad, .bad, .bad, .bad, .bad, .bad, .bad, .bad, .bad, .bad, .bad, .bad, .bad, .bad, .bad, .bad, .bad, .bad, .bad, .bad, .bad, .bad, .bad, .bad, .bad, .bad, .bad, .bad, .bad, .bad, .bad, .bad, .bad, .bad, .bad, .bad, .bad, .bad, .bad, .bad, .bad, .bad, .bad, .bad, .bad, .bad, .bad, .bad, .bad, .bad, .bad, .bad, .bad, .bad, .bad, .bad, .bad, .bad, .bad, .bad, .bad, .bad, .bad, .bad, .bad, .bad, .bad, (.raw undef)], bx := [(some (26, [(.v .str (y0.fst.fst.fst)), (.v (.int .i64) (y0.fst.fst.snd.fst)), (.v (.int .i64) (y0.fst.fst.snd.snd.fst)), (.v .str (y0.fst.snd.fst))])), none, none, none, none, none, none, none, none, none, none, none, none, none, none, none, none, none, none, none, none, none, none, none, none, none, none, none, none, none, none, none, none, none, none, none, none, none, (some (26, [(.v .str (y1.fst.fst.fst)), (.v (.int .i64) (y1.fst.fst.snd.fst)), (.v (.int .i64) (y1.fst.fst.snd.snd.fst)), (.v .str (y1.fst.snd.fst))])), none, none, none, none, none, none, none, none, none, none, none, none, none, none, none, none, none, none, none, none, none, none, none, none, none, none, none, none, none, none, none, none, none], live := 24519928653854222074015919355343410401274433386705846275, g := [] }
def s16_21x30 (y0 : (En × Bool × Unit)) : St := { t := [.bad, .bad, .bad, .bad, .bad, .bad, .bad, .bad, .bad, .bad, .bad, .bad, .bad, .bad, .bad, .bad, .bad, .bad, .bad, .bad, .bad, .bad, .bad, .bad, .bad, .bad, .bad, .bad, .bad, .bad, .bad, .bad, .bad, .bad, .bad, .bad, .bad, .bad, .bad, .bad, .bad, .bad, .bad, .bad, .bad, .bad, .bad, .bad, .bad, .bad, .bad, .bad, .bad, .bad, .bad, .bad, .bad, .bad, .bad, .bad, .bad, .bad, .bad, .bad, .bad, .bad, .bad, .bad, .bad, .bad, .bad, .bad, .bad, .bad, .bad, .bad, .bad, .bad, .bad, .bad, .bad, .bad, .bad, .bad, .bad, .bad, .bad, .bad, .bad, .bad, .bad, .bad, .bad, .bad, .bad, .bad, .bad, .bad, .bad, .bad, .bad, .bad, .bad, .bad, .bad, .bad, .bad, .bad, .bad, .bad, .bad, .bad, .bad, .bad, .bad, .bad, .bad, (.raw undef)], bx := [(some (26, [(.v .str (y0.fst.fst.fst)), (.v (.int .i64) (y0.fst.fst.snd.fst)), (.v (.int .i64) (y0.fst.fst.snd.snd.fst)), (.v .str (y0.fst.snd.fst))])), none, none, none, none, none, none], live := 3, g := [] }
theorem s16_21_l {R : Type} (K : AEx → St → Option R) (a2 : Int) (a3 : Nat) (a5 : Int) (v1 : (List En)) (v2 : Nat) (v3 : Nat) (v4 : ByteArray) (v5 : (En × Bool × Unit)) (x13 : Int) : LP B call inl 16 (m + 1) [1, 1, 1, 1, 1, 1, 0, 1] (s16_21 a2 a3 a5 v1 v2 v3 v4 v5 x13) K = (bif decide (x13 < (↑[a3, v2, v3, (0 : Nat), (4613937818241073152 : Nat)].length : Int)) then (if (0 : Int) ≤ x13 ∧ x13 < (↑[a3, v2, v3, (0 : Nat), (4613937818241073152 : Nat)].length : Int) then ((call 43 [(.v (.sl EntryT) (v1)), (.v (.int .i64) (IntKind.i64.wrap ((1 : Int) + (IntKind.i64.wrap a2).tmod (64 : Int)))), (.v (.flt .f64) ([a3, v2, v3, (0 : Nat), (4613937818241073152 : Nat)].getD x13.toNat (0)))]).bind fun (v22 : ((List Int) × Int × Unit)) => (call 45 [(.v (.sl (.int .u8)) (v22.fst))]).bind fun (v23 : ((List En) × Int × Unit)) => (call 48 [(.v (.sl (.int .u8)) (v22.fst)), (.v .str ((ByteArray.mk #[(107 : UInt8), (101 : UInt8), (121 : UInt8)]) ++ v4)), (.v (.int .i64) (IntKind.i64.wrap a5))]).bind fun (v24 : (En × Bool × Int × Unit)) => (call 18 [(.v (.int .i64) (v22.snd.fst))]).bind fun (v25 : Int) => bif (v25 != (0 : Int)) == false then ((call 18 [(.v (.int .i64) (v23.snd.fst))]).bind fun (v26 : Int) => bif (v26 != (0 : Int)) == false then ((call 41 [(.v (.sl EntryT) (v23.fst)), (.v (.sl EntryT) (v1))]).bind fun (v27 : Bool) => bif (!v27) == false then ((call 18 [(.v (.int .i64) (v24.snd.snd.fst))]).bind fun (v28 : Int) => bif (v28 != (0 : Int)) == false then (bif (!v24.snd.fst == v5.snd.fst) == false then (bif !(ByteArray.toList v24.fst.fst.fst == ByteArray.toList v5.fst.fst.fst && (v24.fst.fst.snd.fst == v5.fst.fst.snd.fst && (v24.fst.fst.snd.snd.fst == v5.fst.fst.snd.snd.fst && ByteArray.toList v24.fst.snd.fst == ByteArray.toList v5.fst.snd.fst))) then (K .ret (s16_21x29 v5 v24)) else (LP B call inl 16 m [1, 1, 1, 1, 1, 1, 0, 1] (s16_21 a2 a3 a5 v1 v2 v3 v4 v5 (IntKind.i64.wrap (x13 + (1 : Int)))) K)) else (K .ret (s16_21x29 v5 v24))) else (K .ret (s16_21x29 v5 v24))) else (K .ret (s16_21x29 v5 v24))) else (K .ret (s16_21x29 v5 v24))) else (K .ret (s16_21x29 v5 v24))) else (none)) else (K (.exit 0) (s16_21x30 v5))) := by kernel_rfl
theorem s16_21x29_k (v5 : (En × Bool × Unit)) (v33 : (En × Bool × Int × Unit)) : (KA B call inl 16 m [1, 1, 1, 1, 1, 1, 0, 1] (FI B call inl 16)) .ret (s16_21x29 v5 v33) = (some (false)) := by kernel_rfl
theorem s16_21x30_k (v5 : (En × Bool × Unit)) : (KA B call inl 16 m [1, 1, 1, 1, 1, 1, 0, 1] (FI B call inl 16)) (.exit 0) (s16_21x30 v5) = ((call 44 []).bind fun (v38 : Bool) => some (v38)) := by kernel_rfl
theorem t16 (a0 : (List Int)) (a1 : Int) (a2 : Int) (a3 : Nat) (a4 : Int) (a5 : Int) : stepN B call inl m 16 [argAV (.sl (.int .u8)) a0, argAV (.int .u8) a1, argAV (.int .u8) a2, argAV (.flt .f64) a3, argAV (.int .u8) a4, argAV (.int .u8) a5] = (bif ((↑(List.length a0) : Int) == (0 : Int)) == false then (bif decide ((↑(List.length a0) : Int) > (120 : Int)) then ((call 44 []).bind fun (v0 : Bool) => some (v0)) else ((call 33 [(.v (.sl (.int .u8)) (a0)), (.v (.int .u8) (a1))]).bind fun (v1 : (List En)) => (call 29 []).bind fun (v2 : Nat) => (call 30 [(.v (.int .i64) ((1 : Int)))]).bind fun (v3 : Nat) => (call 42 [(.v (.int .i64) ((IntKind.i64.wrap a4).tmod (50 : Int)))]).bind fun (v4 : ByteArray) => if (↑((ByteArray.mk #[(107 : UInt8), (101 : UInt8), (121 : UInt8)]).size + ByteArray.size v4) : Int) > IntKind.i64.max then (none) else ((call 51 [(.v (.sl EntryT) (v1)), (.v .str ((ByteArray.mk #[(107 : UInt8), (101 : UInt8), (121 : UInt8)]) ++ v4)), (.v (.int .i64) (IntKind.i64.wrap a5))]).bind fun (v5 : (En × Bool × Unit)) => LP B call inl 16 m [1, 1, 1, 1, 1, 1, 0, 1] (s16_21 a2 a3 a5 v1 v2 v3 v4 v5 ((0 : Int))) (KA B call inl 16 m [1, 1, 1, 1, 1, 1, 0, 1] (FI B call inl 16))))) else ((call 44 []).bind fun (v39 : Bool) => some (v39)) : Option Bool) := by kernel_rfl
end
end Go.Eng.Bk
/- TableBack's function answers true. -/
namespace Go.Eng.Bk
open Go Go.Proofs Go.Eng
set_option linter.unusedVariables false
set_option linter.unusedSimpArgs false
theorem usrU_has {l : List En} : ∀ (m : Nat), m ≤ l.length → ∀ i, i < m → (l.getD i noEn).1.1 ∈ usrU l m
  | 0, _, i, h => by omega
  | m + 1, hm, i, h => by
    cases hk : Lib.keeps (usrA l) m with
    | true =>
      rw [← usrU_yes (by omega) hk]
      by_cases hi : i = m
      · subst hi; simp
      · exact List.mem_append_left _ (usrU_has m (by omega) i (by omega))
    | false =>
      rw [← usrU_no hk]
      by_cases hi : i = m
      · subst hi
        have h0 : ¬ i = 0 := fun h0 => by
          subst h0
          rw [Lib.keeps_lt_one _ 0 (by omega)] at hk; cases hk
        have hne : (usrA l)[i]! = (usrA l)[i - 1]! := by
          by_cases he : (usrA l)[i]! = (usrA l)[i - 1]!
          · exact he
          · rw [Lib.keeps_pos he] at hk; cases hk
        rw [usrA_get (by omega), usrA_get (by omega), ← ba_toList, ← ba_toList] at hne
        rw [ba_ext hne]
        exact usrU_has i (by omega) (i - 1) (by omega)
      · exact usrU_has m (by omega) i (by omega)
theorem usr_has {l : List En} {e : En} (h : e ∈ l) : e.1.1 ∈ usr l := by
  obtain ⟨i, hi, rfl⟩ := List.mem_iff_getElem.1 h
  have := usrU_has (l := l) l.length (Nat.le_refl _) i hi
  rw [getD_lt' hi] at this
  rw [usr_all]
  exact this
/-- With Put's own filter Find tells what all entries have. -/
theorem findT_filt {l : List En} {per : Nat} (x : Nat) (h : TOk l per (filt (usr l) x)) (u : ByteArray) (s : Int) : findT (tableL l per (filt (usr l) x)) u s = ((newest u s l).1, (newest u s l).2.1, 0, ()) := by
  by_cases hex : ∃ e ∈ l, e.1.1 = u ∧ e.1.2.1 ≤ s
  · obtain ⟨e, he, hu, _⟩ := hex
    have hm := usr_has he
    rw [hu] at hm
    obtain ⟨i, hi, hiu⟩ := List.mem_iff_getElem.1 hm
    have hul := usr_len l
    have h256 := h.l256
    have := filt_may (keys := usr l) (x := x) (u := i) (by omega) hi
    rw [getD_lt' hi, hiu] at this
    rw [findT_put h, this, if_neg (by simp)]
  · have hn : newest u s l = (noEn, false, ()) := newest_no (fun e he hc => hex ⟨e, he, hc⟩)
    rw [findT_none h hn, hn]
theorem l16 {q : Nat} (hq : 45000000 ≤ q) {inl : InlT} (m0 : Nat) {l : List En} (hr : rising l = true) (hl1 : 1 ≤ l.length) (hl : l.length ≤ 200) (a2 : Nat) (h2 : a2 < 256) (a3 v2 v3 : Nat) (v4 : ByteArray) (h4 : v4.size ≤ 1000) (a5 : Int) (d : Nat) : ∀ (i m : Nat), i + d = 5 → d < m →
    LP B (callN B q) inl 16 m [1, 1, 1, 1, 1, 1, 0, 1] (s16_21 (a2 : Int) a3 a5 l v2 v3 v4 (newest ((ByteArray.mk #[(107 : UInt8), (101 : UInt8), (121 : UInt8)]) ++ v4) (IntKind.i64.wrap a5) l) (i : Int)) (KA B (callN B q) inl 16 m0 [1, 1, 1, 1, 1, 1, 0, 1] (FI B (callN B q) inl 16)) = (some true : Option Bool) := by
  have hper : IntKind.i64.wrap ((1 : Int) + (IntKind.i64.wrap (a2 : Int)).tmod (64 : Int)) = ((1 + a2 % 64 : Nat) : Int) := by
    rw [w64 (x := (a2 : Int)) (by omega) (by omega), show (a2 : Int).tmod 64 = ((a2 % 64 : Nat) : Int) from rfl, w64 (by omega) (by omega)]; omega
  have hs4 : ((ByteArray.mk #[(107 : UInt8), (101 : UInt8), (121 : UInt8)]) ++ v4).size ≤ 2000 := by
    rw [ByteArray.size_append]
    have : (ByteArray.mk #[(107 : UInt8), (101 : UInt8), (121 : UInt8)]).size = 3 := rfl
    omega
  have h5 : ([a3, v2, v3, (0 : Nat), (4613937818241073152 : Nat)].length : Int) = 5 := rfl
  induction d with
  | zero =>
    intro i m hi hm
    obtain ⟨m, rfl⟩ : ∃ k, m = k + 1 := ⟨m - 1, by omega⟩
    rw [s16_21_l, h5, bF (by omega), s16_21x30_k]
    exact bnd (s44 (by omega)) rfl
  | succ d ih =>
    intro i m hi hm
    obtain ⟨m, rfl⟩ : ∃ k, m = k + 1 := ⟨m - 1, by omega⟩
    have hw : IntKind.i64.wrap ((i : Int) + 1) = ((i + 1 : Nat) : Int) := by rw [w64 (by omega) (by omega)]; omega
    rw [s16_21_l, h5, bT (by omega), if_pos (by omega), hper, hw, Int.toNat_natCast]
    generalize [a3, v2, v3, (0 : Nat), (4613937818241073152 : Nat)].getD i 0 = x
    have ht := tok_filt (l := l) (per := 1 + a2 % 64) x (by omega) (by omega) (by omega) (by omega) hr
    have htl := tableL_len ht
    have hb := tableL_bytes l (1 + a2 % 64) ht.fb
    refine bnd ((s43 (l := l) (by omega) (by omega) ((1 + a2 % 64 : Nat) : Int) x).trans (congrArg some (pt_good (l := l) (per := 1 + a2 % 64) x (by omega) (by omega) (by omega) (by omega) hr))) ?_
    refine bnd ((s45 hb (by omega) (by omega)).trans (congrArg some (allP_put ht))) ?_
    refine bnd ((s48 hb (by omega) _ (by omega) _ (by omega)).trans (congrArg some (findT_filt x ht _ _))) ?_
    refine bnd (s18 (by omega) _) ?_
    rw [show ((0 : Int) != (0 : Int)) = false from rfl, show (false == false) = true from rfl, cond_true]
    refine bnd (s18 (by omega) _) ?_
    rw [show ((0 : Int) != (0 : Int)) = false from rfl, show (false == false) = true from rfl, cond_true]
    refine bnd (s41 (l := l) (by omega) (by omega)) ?_
    rw [show ((!true) == false) = true from rfl, cond_true]
    refine bnd (s18 (by omega) _) ?_
    rw [show ((0 : Int) != (0 : Int)) = false from rfl, show (false == false) = true from rfl, cond_true]
    have ihh := ih (i + 1) m (by omega) (by omega)
    generalize newest ((ByteArray.mk #[(107 : UInt8), (101 : UInt8), (121 : UInt8)]) ++ v4) (IntKind.i64.wrap a5) l = v5 at ihh ⊢
    dsimp only
    have hs := same_self (v5.1.1.1, v5.1.1.2.1, v5.1.1.2.2.1, v5.1.2.1)
    simp only at hs
    rw [beq_self_eq_true, show ((!true) == false) = true from rfl, cond_true, hs, show (!true) = false from rfl, cond_false]
    exact ihh
theorem s16 {k : Nat} (hk : 50000000 ≤ k) {ns : List Int} (hn : Bytes ns) (sp per us : Nat) (h1 : sp < 256) (h2 : per < 256) (h6 : us < 256) (x : Nat) (seq : Int) : callN B k 16 [argAV (.sl u8) ns, argAV u8 (sp : Int), argAV u8 (per : Int), argAV (.flt .f64) x, argAV u8 (us : Int), argAV u8 seq] = (some true : Option Bool) := by
  obtain ⟨k, rfl⟩ := Nat.exists_eq_add_of_le' (show 1 ≤ k by omega)
  refine (callS k 16 _).trans ((t16 (callN B k) (lvl B k).2 k ns (sp : Int) (per : Int) x (us : Int) seq).trans ?_)
  have aw : (((callN B k 44 []).bind fun (v0 : Bool) => some (v0)) : Option Bool) = some true := bnd (s44 (by omega)) rfl
  by_cases h0 : ns.length = 0
  · rw [show ((ns.length : Int) == (0 : Int)) = true from beq_iff_eq.2 (by omega), show (true == false) = false from rfl, cond_false]; exact aw
  rw [show ((ns.length : Int) == (0 : Int)) = false from beq_eq_false_iff_ne.2 (by omega), show (false == false) = true from rfl, cond_true]
  by_cases h120 : (ns.length : Int) > 120
  · rw [bT h120]; exact aw
  rw [bF h120]
  have hr := mkL_rising (ns := ns) hn (by omega) sp
  have hl : (mkL ns sp).length = ns.length := (mkL_good (ns := ns) hn (by omega) sp).2.2.2
  have hus : (IntKind.i64.wrap (us : Int)).tmod (50 : Int) = ((us % 50 : Nat) : Int) := by
    rw [w64 (x := (us : Int)) (by omega) (by omega)]; rfl
  rw [hus]
  refine bnd (s33 (ns := ns) hn (by omega) (by omega) sp h1) ?_
  refine bnd (s29 (by omega)) ?_
  refine bnd (s30 (by omega)) ?_
  refine bnd (s42 (by omega) (us % 50) (by omega)) ?_
  have hd : (dg (us % 50)).size ≤ 1000 := Nat.le_trans (dg_size (by omega)) (by omega)
  have h3 : (ByteArray.mk #[(107 : UInt8), (101 : UInt8), (121 : UInt8)]).size = 3 := rfl
  rw [if_neg (by rw [h3, show IntKind.i64.max = 9223372036854775807 from by decide]; omega)]
  refine bnd (s51 (l := mkL ns sp) _ _ (by omega) (by omega)) ?_
  exact l16 (by omega) k hr (by omega) (by omega) per h2 x _ _ (dg (us % 50)) hd seq 5 0 k (by omega) (by omega)
end Go.Eng.Bk
/- TableEnds's function answers true: the rest. -/
namespace Go.Eng.Bk
open Go Go.Proofs Go.Eng
set_option linter.unusedVariables false
set_option linter.unusedSimpArgs false
theorem bl_pre : ∀ (x y : List UInt8), y ≠ [] → Op.bytesLess x (x ++ y) = true
  | [], [], h => absurd rfl h
  | [], _ :: _, _ => rfl
  | a :: x, y, h => by
    show (decide (a < a) || (a == a && Op.bytesLess x (x ++ y))) = true
    rw [bl_pre x y h, beq_self_eq_true, Bool.and_true, Bool.or_true]
theorem mkA_user {sp : Nat} {ns : List Int} : ∀ (d i : Nat) (acc : List En), (∀ e ∈ acc, 3 ≤ e.1.1.size) → ∀ e ∈ mkA sp ns d i acc, 3 ≤ e.1.1.size
  | 0, _, _, h => h
  | d + 1, i, acc, h => mkA_user d (i + 1) _ (fun e he => by
      rcases ins_mem.1 he with rfl | he
      · have hk : keyB.size = 3 := rfl
        have : (mkE sp i (ns.getD i 0).toNat).1.1 = keyB ++ dg ((ns.getD i 0).toNat % (3 + sp % 40)) := by unfold mkE; split <;> rfl
        rw [this, ByteArray.size_append]
        omega
      · exact h e he)
theorem ba_take (s : ByteArray) (n : Nat) : (s.extract 0 n).toList = s.toList.take n := by
  rw [ba_toList, ba_toList, ByteArray.data_extract, Array.toList_extract]
  simp [List.extract]
theorem ba_app (a b : ByteArray) : (a ++ b).toList = a.toList ++ b.toList := by
  rw [ba_toList, ba_toList, ba_toList, ByteArray.data_append, Array.toList_append]
theorem ba_len (s : ByteArray) : s.toList.length = s.size := by rw [ba_toList]; rfl
theorem newest_yes {u : ByteArray} {s : Int} : ∀ {l : List En} {e : En}, e ∈ l → e.1.1 = u → e.1.2.1 ≤ s → (newest u s l).2.1 = true
  | a :: l, e, he, h1, h2 => by
    by_cases ha : a.1.1 = u ∧ a.1.2.1 ≤ s
    · have : newest u s (a :: l) = (a, true, ()) := if_pos ha
      rw [this]
    · have : newest u s (a :: l) = newest u s l := if_neg ha
      rw [this]
      rcases List.mem_cons.1 he with rfl | he
      · exact absurd ⟨h1, h2⟩ ha
      · exact newest_yes he h1 h2
theorem s15 {k : Nat} (hk : 50000000 ≤ k) {ns : List Int} (hn : Bytes ns) (sp : Nat) (h1 : sp < 256) : callN B k 15 [argAV (.sl u8) ns, argAV u8 (sp : Int)] = (some true : Option Bool) := by
  obtain ⟨k, rfl⟩ := Nat.exists_eq_add_of_le' (show 1 ≤ k by omega)
  refine (callS k 15 _).trans ((t15 (callN B k) (lvl B k).2 k ns (sp : Int)).trans ?_)
  have aw : (((callN B k 44 []).bind fun (v0 : Bool) => some (v0)) : Option Bool) = some true := bnd (s44 (by omega)) rfl
  by_cases h0 : ns.length = 0
  · rw [show ((ns.length : Int) == (0 : Int)) = true from beq_iff_eq.2 (by omega), show (true == false) = false from rfl, cond_false]; exact aw
  rw [show ((ns.length : Int) == (0 : Int)) = false from beq_eq_false_iff_ne.2 (by omega), show (false == false) = true from rfl, cond_true]
  by_cases h60 : (ns.length : Int) > 60
  · rw [bT h60]; exact aw
  rw [bF h60]
  have hr := mkL_rising (ns := ns) hn (by omega) sp
  have hg := mkL_good (ns := ns) hn (by omega) sp
  have hl : (mkL ns sp).length = ns.length := hg.2.2.2
  have hseq := hg.2.2.1
  have hus : ∀ e ∈ mkL ns sp, 3 ≤ e.1.1.size := mkA_user ns.length 0 [] (fun e he => by cases he)
  refine bnd (s33 (ns := ns) hn (by omega) (by omega) sp h1) ?_
  have ht := tok_filt (l := mkL ns sp) (per := 7) 4621256167635550208 (by omega) (by omega) (by omega) (by omega) hr
  have hpt : putTable (mkL ns sp) (7 : Int) 4621256167635550208 = (tableL (mkL ns sp) 7 (filt (usr (mkL ns sp)) 4621256167635550208), 0, ()) := pt_good (l := mkL ns sp) (per := 7) 4621256167635550208 (by omega) (by omega) (by omega) (by omega) hr
  generalize mkL ns sp = l at hr hl hseq hus ht hpt ⊢
  have htl := tableL_len ht
  have hb := tableL_bytes l 7 ht.fb
  refine bnd (s50 (l := l) (by omega) (by omega)) ?_
  refine bnd ((s43 (l := l) (by omega) (by omega) (7 : Int) 4621256167635550208).trans (congrArg some hpt)) ?_
  have he : ends l = ((l.getD 0 noEn).1.1, (l.getD (l.length - 1) noEn).1.1, ()) := by unfold ends; rw [if_neg (by omega)]
  obtain ⟨lo, hlo⟩ : ∃ x, (l.getD 0 noEn).1.1 = x := ⟨_, rfl⟩
  obtain ⟨hi, hhi⟩ : ∃ x, (l.getD (l.length - 1) noEn).1.1 = x := ⟨_, rfl⟩
  have hm0 : l.getD 0 noEn ∈ l := getD_mem (by omega) _
  have hm1 : l.getD (l.length - 1) noEn ∈ l := getD_mem (by omega) _
  have hlo3 := hus _ hm0
  have hmay := fun e (hh : e ∈ l) => (mayE_true (rising_mem hr e hh)).2.1
  have hlo64 := hmay _ hm0
  have hhi64 := hmay _ hm1
  rw [hlo] at hlo3 hlo64
  rw [hhi] at hhi64
  rw [hlo, hhi] at he
  have e1 : (ends l).1 = lo := by rw [he]
  have e2 : (ends l).2.1 = hi := by rw [he]
  rw [e1, e2]
  have hmin : minI (1 : Int) (lo.size : Int) = 1 := by unfold minI; split <;> omega
  have hz : (ByteArray.mk #[(48 : UInt8)]).size = 1 := rfl
  rw [hmin, w64 (x := (lo.size : Int) - 1) (by omega) (by omega), if_pos (by omega), show ((lo.size : Int) - 1).toNat = lo.size - 1 from by omega]
  have hlt1 : Op.bytesLess (lo.extract 0 (lo.size - 1)).toList lo.toList = true := by
    have := bl_pre (lo.toList.take (lo.size - 1)) (lo.toList.drop (lo.size - 1)) (fun h => by
      have h := congrArg List.length h
      rw [List.length_drop, ba_len] at h
      simp only [List.length_nil] at h
      omega)
    rw [List.take_append_drop] at this
    rw [ba_take]
    exact this
  have hlt2 : Op.bytesLess hi.toList (hi ++ ByteArray.mk #[(48 : UInt8)]).toList = true := by
    rw [ba_app]
    exact bl_pre _ _ (fun h => by
      have h := congrArg List.length h
      rw [ba_len, hz] at h
      simp at h)
  have hn1 : newest (lo.extract 0 (lo.size - 1)) 1000 l = (noEn, false, ()) := newest_no (fun e hee => by
    rintro ⟨hu, _⟩
    obtain ⟨j, hj, rfl⟩ := List.mem_iff_getElem.1 hee
    have := bl_le hr (Nat.zero_le j) hj
    rw [hlo, getD_lt' hj, hu] at this
    rcases this with h | h
    · rw [bl_no hlt1] at h; cases h
    · rw [← h, bl_self] at hlt1; cases hlt1)
  have hn2 : newest (hi ++ ByteArray.mk #[(48 : UInt8)]) 1000 l = (noEn, false, ()) := newest_no (fun e hee => by
    rintro ⟨hu, _⟩
    obtain ⟨j, hj, rfl⟩ := List.mem_iff_getElem.1 hee
    have := bl_le hr (show j ≤ l.length - 1 by omega) (by omega)
    rw [hhi, getD_lt' hj, hu] at this
    rcases this with h | h
    · rw [bl_no hlt2] at h; cases h
    · rw [h, bl_self] at hlt2; cases hlt2)
  have hn3 : (newest hi 1000 l).2.1 = true := newest_yes hm1 hhi (by have := hseq _ hm1; omega)
  have hx1 : (lo.extract 0 (lo.size - 1)).size ≤ 64 := by rw [ByteArray.size_extract]; omega
  have hx2 : (hi ++ ByteArray.mk #[(48 : UInt8)]).size ≤ 65 := by rw [ByteArray.size_append, hz]; omega
  refine bnd ((s48 hb (by omega) _ (by omega) _ (by omega)).trans (congrArg some (findT_none ht hn1))) ?_
  rw [if_neg (by rw [hz, show IntKind.i64.max = 9223372036854775807 from by decide]; omega)]
  refine bnd ((s48 hb (by omega) _ (by omega) _ (by omega)).trans (congrArg some (findT_none ht hn2))) ?_
  refine bnd ((s48 hb (by omega) hi (by omega) _ (by omega)).trans (congrArg some (findT_filt _ ht _ _))) ?_
  refine bnd (s51 (l := l) hi 1000 (by omega) (by omega)) ?_
  refine l15 (by omega) k hr (by omega) _ _ _ _ _ ?_ l.length 0 k (by omega) (by omega)
  rw [s15_9x11_k]
  generalize newest hi 1000 l = v7 at hn3 ⊢
  dsimp only
  have hs := same_self (v7.1.1.1, v7.1.1.2.1, v7.1.1.2.2.1, v7.1.2.1)
  simp only at hs
  rw [show ((!false) == true) = true from rfl, cond_true, cond_true, hn3, show (true == true) = true from rfl, cond_true, hs, show (true == true) = true from rfl, cond_true]
  refine bnd (s18 (by omega) _) ?_
  rw [show (((0 : Int) == (0 : Int)) == true) = true from rfl, cond_true]
  refine bnd (s18 (by omega) _) ?_
  rw [show (((0 : Int) == (0 : Int)) == true) = true from rfl, cond_true]
  refine bnd (s18 (by omega) _) ?_
  rw [show (((0 : Int) == (0 : Int)) == true) = true from rfl, cond_true]
  exact aw
end Go.Eng.Bk
/- What the machine answers at some functions of the program: printed by the generator, each checked by the kernel. -/
namespace Go.Eng.Bk
open Go Go.Proofs Go.Eng
set_option linter.unusedVariables false
set_option maxRecDepth 100000
section
variable (call : CallT B) (inl : InlT) (m : Nat)
/-! function 13 -/
theorem t13 (a0 : (List Int)) (a1 : Int) (a2 : (List Int)) : stepN B call inl m 13 [argAV (.sl (.int .u8)) a0, argAV (.int .u16) a1, argAV (.sl (.int .u8)) a2] = (bif ((↑(List.length a0) : Int) == (0 : Int)) == false then (bif decide ((↑(List.length a0) : Int) > (60 : Int)) == false then (bif ((↑(List.length a2) : Int) == (0 : Int)) == false then (bif decide ((↑(List.length a2) : Int) > (12 : Int)) then ((call 44 []).bind fun (v0 : Bool) => some (v0)) else ((call 33 [(.v (.sl (.int .u8)) (a0)), (.v (.int .u8) ((3 : Int)))]).bind fun (v1 : (List En)) => (call 43 [(.v (.sl EntryT) (v1)), (.v (.int .i64) ((5 : Int))), (.v (.flt .f64) ((4620693217682128896 : Nat)))]).bind fun (v2 : ((List Int) × Int × Unit)) => bif decide ((↑(List.length v2.fst) : Int) < (16 : Int)) then (some (false)) else (if (0 : Int) ≤ IntKind.i64.wrap (IntKind.i64.wrap ((↑(List.length v2.fst) : Int) - (1 : Int)) - (IntKind.i64.wrap a1).tmod (12 : Int)) ∧ IntKind.i64.wrap (IntKind.i64.wrap ((↑(List.length v2.fst) : Int) - (1 : Int)) - (IntKind.i64.wrap a1).tmod (12 : Int)) ≤ (↑(List.length v2.fst) : Int) then ((call 45 [(.v (.sl (.int .u8)) (List.drop (0 : Nat) (List.take (IntKind.i64.wrap (IntKind.i64.wrap ((↑(List.length v2.fst) : Int) - (1 : Int)) - (IntKind.i64.wrap a1).tmod (12 : Int))).toNat v2.fst)))]).bind fun (v3 : ((List En) × Int × Unit)) => if ((0 : Nat) + List.length v2.fst) * (1 : Nat) ≤ 140737488355328 then (if (List.length v2.fst + List.length a2) * (1 : Nat) ≤ 140737488355328 then ((call 45 [(.v (.sl (.int .u8)) (v2.fst ++ a2))]).bind fun (v4 : ((List En) × Int × Unit)) => if (0 : Int) ≤ (IntKind.i64.wrap a1).tmod (16 : Int) ∧ (IntKind.i64.wrap a1).tmod (16 : Int) ≤ (↑(List.length v2.fst) : Int) then ((call 45 [(.v (.sl (.int .u8)) (List.drop (0 : Nat) (List.take ((IntKind.i64.wrap a1).tmod (16 : Int)).toNat v2.fst)))]).bind fun (v5 : ((List En) × Int × Unit)) => if (0 : Int) ≤ (IntKind.i64.wrap a1).tmod (16 : Int) ∧ (IntKind.i64.wrap a1).tmod (16 : Int) ≤ (↑(List.length v2.fst) : Int) then ((call 48 [(.v (.sl (.int .u8)) (List.drop (0 : Nat) (List.take ((IntKind.i64.wrap a1).tmod (16 : Int)).toNat v2.fst))), (.v .str ((ByteArray.mk #[(107 : UInt8), (101 : UInt8), (121 : UInt8), (49 : UInt8)]))), (.v (.int .i64) ((5 : Int)))]).bind fun (v6 : (En × Bool × Int × Unit)) => (call 18 [(.v (.int .i64) (v3.snd.fst))]).bind fun (v7 : Int) => bif (v7 == (5 : Int)) == true then ((call 18 [(.v (.int .i64) (v4.snd.fst))]).bind fun (v8 : Int) => bif (v8 == (5 : Int)) == false then (bif ((strOf a2).toList == (ByteArray.mk #[(105 : UInt8), (99 : UInt8), (98 : UInt8), (49 : UInt8)]).toList) == true then ((call 18 [(.v (.int .i64) (v5.snd.fst))]).bind fun (v9 : Int) => bif (v9 == (5 : Int)) == true then (bif (!v6.snd.fst) == true then ((call 18 [(.v (.int .i64) (v6.snd.snd.fst))]).bind fun (v10 : Int) => bif (v10 == (5 : Int)) == true then ((call 44 []).bind fun (v11 : Bool) => some (v11)) else (some (false))) else (some (false))) else (some (false))) else (some (false))) else ((call 18 [(.v (.int .i64) (v5.snd.fst))]).bind fun (v12 : Int) => bif (v12 == (5 : Int)) == true then (bif (!v6.snd.fst) == true then ((call 18 [(.v (.int .i64) (v6.snd.snd.fst))]).bind fun (v13 : Int) => bif (v13 == (5 : Int)) == true then ((call 44 []).bind fun (v14 : Bool) => some (v14)) else (some (false))) else (some (false))) else (some (false)))) else (some (false))) else (none)) else (none)) else (none)) else (none)) else (none)))) else ((call 44 []).bind fun (v15 : Bool) => some (v15))) else ((call 44 []).bind fun (v16 : Bool) => some (v16))) else ((call 44 []).bind fun (v17 : Bool) => some (v17)) : Option Bool) := by kernel_rfl
end
end Go.Eng.Bk
/- TableCuts's function answers true. -/
namespace Go.Eng.Bk
open Go Go.Proofs Go.Eng
set_option linter.unusedVariables false
set_option linter.unusedSimpArgs false
/-- What stands so far from the end. -/
def fe (X : List Int) (j : Nat) : Int := X.getD (X.length - j) 1
theorem getD_app_r (A T : List Int) (j : Nat) (d : Int) : (A ++ T).getD (A.length + j) d = T.getD j d := by
  rw [List.getD_eq_getElem?_getD, List.getD_eq_getElem?_getD, List.getElem?_append_right (by omega), Nat.add_sub_cancel_left]
theorem getD_app_l (A T : List Int) {j : Nat} (d : Int) (h : j < A.length) : (A ++ T).getD j d = A.getD j d := by
  rw [List.getD_eq_getElem?_getD, List.getD_eq_getElem?_getD, List.getElem?_append_left h]
theorem fe_foot {l : List En} {per : Nat} {f : List Int} (h : TOk l per f) : 16 ≤ (tableL l per f).length ∧ fe (tableL l per f) 16 = 0 ∧ fe (tableL l per f) 12 = 0 ∧ fe (tableL l per f) 8 = 0 ∧ fe (tableL l per f) 4 = 105 ∧ fe (tableL l per f) 3 = 99 ∧ fe (tableL l per f) 2 = 98 ∧ fe (tableL l per f) 1 = 49 := by
  have h3 := bodyT_len (l := l) (per := per) h.p1 h.l256
  have h4 := frm_le f
  have h5 := h.flen
  have h6 := h.l256
  have hp : ((bodyT l per).1 ++ frm f).length ≤ 13000000 := by rw [List.length_append]; omega
  have e : tableL l per f = ((bodyT l per).1 ++ frm f ++ frm (bodyT l per).2) ++ (fx (bodyT l per).1.length 4 ++ (fx ((bodyT l per).1 ++ frm f).length 4 ++ (fx l.length 4 ++ magicL))) := by
    unfold tableL wholeL
    simp only [List.append_assoc]
  obtain ⟨A, hA⟩ : ∃ A, (bodyT l per).1 ++ frm f ++ frm (bodyT l per).2 = A := ⟨_, rfl⟩
  obtain ⟨p, hpp⟩ : ∃ p, (bodyT l per).1.length = p := ⟨_, rfl⟩
  obtain ⟨q, hqq⟩ : ∃ q, ((bodyT l per).1 ++ frm f).length = q := ⟨_, rfl⟩
  obtain ⟨n, hnn⟩ : ∃ n, l.length = n := ⟨_, rfl⟩
  rw [hA, hpp, hqq, hnn] at e
  rw [e]
  have hlen : (A ++ (fx p 4 ++ (fx q 4 ++ (fx n 4 ++ magicL)))).length = A.length + 16 := by
    simp only [List.length_append, fx_length, List.length_cons, List.length_nil]
  have key : ∀ j, j ≤ 16 → fe (A ++ (fx p 4 ++ (fx q 4 ++ (fx n 4 ++ magicL)))) j = (fx p 4 ++ (fx q 4 ++ (fx n 4 ++ magicL))).getD (16 - j) 1 := fun j hj => by
    unfold fe
    rw [hlen, show A.length + 16 - j = A.length + (16 - j) from by omega, getD_app_r]
  have z : ∀ x : Nat, x ≤ 13000000 → ((x / 256 ^ 3 % 256 : Nat) : Int) = 0 := fun x hx => by
    have : x / 256 ^ 3 = 0 := Nat.div_eq_of_lt (by omega)
    rw [this]; rfl
  refine ⟨by omega, (key 16 (by omega)).trans (z p (by omega)), (key 12 (by omega)).trans (z q (by omega)), (key 8 (by omega)).trans (z n (by omega)), key 4 (by omega), key 3 (by omega), key 2 (by omega), key 1 (by omega)⟩
theorem noShift (f : Nat → Int) (h16 : f 16 = 0) (h12 : f 12 = 0) (h8 : f 8 = 0) (h4 : f 4 = 105) (m : Nat) (m1 : 1 ≤ m) (m12 : m ≤ 12) (e1 : f (m + 1) = 49) (e2 : f (m + 2) = 98) (e3 : f (m + 3) = 99) (e4 : f (m + 4) = 105) : False := by
  rcases (by omega : m = 1 ∨ m = 2 ∨ m = 3 ∨ m = 4 ∨ m = 5 ∨ m = 6 ∨ m = 7 ∨ m = 8 ∨ m = 9 ∨ m = 10 ∨ m = 11 ∨ m = 12) with rfl | rfl | rfl | rfl | rfl | rfl | rfl | rfl | rfl | rfl | rfl | rfl <;> simp only [Nat.reduceAdd] at e1 e2 e3 e4 <;> omega
theorem fe_app (b m : List Int) {j : Nat} (h1 : 1 ≤ j) (h2 : j ≤ b.length) : fe (b ++ m) (m.length + j) = fe b j := by
  unfold fe
  rw [List.length_append, show b.length + m.length - (m.length + j) = b.length - j from by omega, getD_app_l _ _ _ (by omega)]
theorem fe_take (b : List Int) {k j : Nat} (h1 : 1 ≤ j) (h2 : k + j ≤ b.length) : fe (b.take (b.length - k)) j = fe b (k + j) := by
  unfold fe
  rw [List.length_take, show min (b.length - k) b.length - j = b.length - (k + j) from by omega, List.getD_eq_getElem?_getD, List.getD_eq_getElem?_getD, List.getElem?_take, if_pos (by omega)]
/-- With something behind a table is none. -/
theorem app_none {l : List En} {per : Nat} {f : List Int} (h : TOk l per f) {m : List Int} (hm : Bytes m) (m1 : 1 ≤ m.length) (m12 : m.length ≤ 12) : (readP (tableL l per f ++ m)).2.2.1 = false := by
  rcases readP_cases ((tableL_bytes l per h.fb).append hm) with hr | ⟨l', per', f', h', e⟩
  · exact hr
  · obtain ⟨hl, g16, g12, g8, g4, g3, g2, g1⟩ := fe_foot h
    obtain ⟨hl', f16, f12, f8, f4, f3, f2, f1⟩ := fe_foot h'
    rw [e] at f16 f12 f8 f4
    refine (noShift (fe (tableL l per f ++ m)) f16 f12 f8 f4 m.length m1 m12 ?_ ?_ ?_ ?_).elim
    · rw [fe_app _ _ (by omega) (by omega)]; exact g1
    · rw [fe_app _ _ (by omega) (by omega)]; exact g2
    · rw [fe_app _ _ (by omega) (by omega)]; exact g3
    · rw [fe_app _ _ (by omega) (by omega)]; exact g4
/-- A table that is cut is none. -/
theorem cut_none {l : List En} {per : Nat} {f : List Int} (h : TOk l per f) {k : Nat} (k1 : 1 ≤ k) (k12 : k ≤ 12) : (readP ((tableL l per f).take ((tableL l per f).length - k))).2.2.1 = false := by
  rcases readP_cases ((tableL_bytes l per h.fb).take _) with hr | ⟨l', per', f', h', e⟩
  · exact hr
  · obtain ⟨hl, g16, g12, g8, g4, g3, g2, g1⟩ := fe_foot h
    obtain ⟨hl', f16, f12, f8, f4, f3, f2, f1⟩ := fe_foot h'
    rw [e] at f4 f3 f2 f1 hl'
    rw [List.length_take] at hl'
    rw [fe_take _ (by omega) (by omega)] at f4 f3 f2 f1
    exact (noShift (fe (tableL l per f)) g16 g12 g8 g4 k k1 k12 f1 f2 f3 f4).elim
/-- A few bytes are none. -/
theorem few_none {b : List Int} (h : b.length < 16) : (readP b).2.2.1 = false := by
  unfold readP
  rw [gfx_no (.inl (by omega)), if_neg (fun h => by cases h.1)]
theorem allP_no {b : List Int} (h : (readP b).2.2.1 = false) : allP b = ([], 5, ()) := if_pos h
theorem findT_no {b : List Int} {u : ByteArray} {s : Int} (h : (readP b).2.2.1 = false) : findT b u s = (noEn, false, 5, ()) := if_pos h
theorem s13 {k : Nat} (hk : 50000000 ≤ k) {ns : List Int} (hn : Bytes ns) (c : Nat) (hc : c < 65536) {more : List Int} (hm : Bytes more) : callN B k 13 [argAV (.sl u8) ns, argAV u16 (c : Int), argAV (.sl u8) more] = (some true : Option Bool) := by
  obtain ⟨k, rfl⟩ := Nat.exists_eq_add_of_le' (show 1 ≤ k by omega)
  refine (callS k 13 _).trans ((t13 (callN B k) (lvl B k).2 k ns (c : Int) more).trans ?_)
  have aw : (((callN B k 44 []).bind fun (v0 : Bool) => some (v0)) : Option Bool) = some true := bnd (s44 (by omega)) rfl
  by_cases h0 : ns.length = 0
  · rw [show ((ns.length : Int) == (0 : Int)) = true from beq_iff_eq.2 (by omega), show (true == false) = false from rfl, cond_false]; exact aw
  rw [show ((ns.length : Int) == (0 : Int)) = false from beq_eq_false_iff_ne.2 (by omega), show (false == false) = true from rfl, cond_true]
  by_cases h60 : (ns.length : Int) > 60
  · rw [decide_eq_true h60]; exact aw
  rw [decide_eq_false h60, show (false == false) = true from rfl, cond_true]
  by_cases hm0 : more.length = 0
  · rw [show ((more.length : Int) == (0 : Int)) = true from beq_iff_eq.2 (by omega), show (true == false) = false from rfl, cond_false]; exact aw
  rw [show ((more.length : Int) == (0 : Int)) = false from beq_eq_false_iff_ne.2 (by omega), show (false == false) = true from rfl, cond_true]
  by_cases h12 : (more.length : Int) > 12
  · rw [bT h12]; exact aw
  rw [bF h12]
  have hr := mkL_rising (ns := ns) hn (by omega) 3
  have hl : (mkL ns 3).length = ns.length := (mkL_good (ns := ns) hn (by omega) 3).2.2.2
  refine bnd (s33 (ns := ns) hn (by omega) (by omega) 3 (by omega)) ?_
  have ht := tok_filt (l := mkL ns 3) (per := 5) 4620693217682128896 (by omega) (by omega) (by omega) (by omega) hr
  have hpt : putTable (mkL ns 3) (5 : Int) 4620693217682128896 = (tableL (mkL ns 3) 5 (filt (usr (mkL ns 3)) 4620693217682128896), 0, ()) := pt_good (l := mkL ns 3) (per := 5) 4620693217682128896 (by omega) (by omega) (by omega) (by omega) hr
  refine bnd ((s43 (l := mkL ns 3) (by omega) (by omega) (5 : Int) 4620693217682128896).trans (congrArg some hpt)) ?_
  have htl := tableL_len ht
  have hb := tableL_bytes (mkL ns 3) 5 ht.fb
  have hcut := fun {k : Nat} (k1 : 1 ≤ k) (k12 : k ≤ 12) => cut_none ht k1 k12
  have happ := app_none ht hm (by omega) (by omega)
  generalize tableL (mkL ns 3) 5 (filt (usr (mkL ns 3)) 4620693217682128896) = b at htl hb hcut happ ⊢
  dsimp only
  have hw : IntKind.i64.wrap (c : Int) = (c : Int) := w64 (by omega) (by omega)
  have ht12 : (c : Int).tmod 12 = ((c % 12 : Nat) : Int) := rfl
  have ht16 : (c : Int).tmod 16 = ((c % 16 : Nat) : Int) := rfl
  have hcc : IntKind.i64.wrap (IntKind.i64.wrap ((b.length : Int) - (1 : Int)) - ((c % 12 : Nat) : Int)) = ((b.length - (c % 12 + 1) : Nat) : Int) := by
    rw [w64 (x := (b.length : Int) - 1) (by omega) (by omega), w64 (by omega) (by omega)]; omega
  rw [bF (by omega), hw, ht12, ht16, hcc, if_pos (by omega), Int.toNat_natCast, Int.toNat_natCast, List.drop_zero, List.drop_zero]
  refine bnd ((s45 (hb.take _) (by rw [List.length_take]; omega) (by rw [List.length_take]; omega)).trans (congrArg some (allP_no (hcut (by omega) (by omega))))) ?_
  rw [if_pos (by omega), if_pos (by omega)]
  refine bnd ((s45 (hb.append hm) (by rw [List.length_append]; omega) (by rw [List.length_append]; omega)).trans (congrArg some (allP_no happ))) ?_
  have hB : (0 : Int) ≤ ((c % 16 : Nat) : Int) ∧ ((c % 16 : Nat) : Int) ≤ (b.length : Int) := by omega
  have hfew : (readP (b.take (c % 16))).2.2.1 = false := few_none (by rw [List.length_take]; omega)
  rw [if_pos hB]
  refine bnd ((s45 (hb.take _) (by rw [List.length_take]; omega) (by rw [List.length_take]; omega)).trans (congrArg some (allP_no hfew))) ?_
  try rw [if_pos hB]
  have h4s : (ByteArray.mk #[(107 : UInt8), (101 : UInt8), (121 : UInt8), (49 : UInt8)]).size = 4 := rfl
  refine bnd ((s48 (hb.take _) (by rw [List.length_take]; omega) _ (by rw [h4s]; omega) _ (by rw [List.length_take, h4s]; omega)).trans (congrArg some (findT_no hfew))) ?_
  refine bnd (s18 (by omega) _) ?_
  rw [show (((5 : Int) == (5 : Int)) == true) = true from rfl, cond_true]
  refine bnd (s18 (by omega) _) ?_
  rw [show (((5 : Int) == (5 : Int)) == false) = false from rfl, cond_false]
  refine bnd (s18 (by omega) _) ?_
  rw [show (((5 : Int) == (5 : Int)) == true) = true from rfl, cond_true, show ((!false) == true) = true from rfl, cond_true]
  refine bnd (s18 (by omega) _) ?_
  rw [show (((5 : Int) == (5 : Int)) == true) = true from rfl, cond_true]
  exact aw
end Go.Eng.Bk
/- table.body: the walk up to its loop. -/
namespace Go.Eng.Bk
open Go Go.Proofs Go.RowKit
set_option linter.unusedVariables false
set_option linter.unusedSimpArgs false
set_option maxRecDepth 100000
def opsOf : Code → Array Oper
  | .region _ ops _ => ops
  | _ => #[]
def noOper : Oper := { dst := none, op := .ready 0, type := 0, pos := "", after := #[], guard := none }
noncomputable def o1 (i : Nat) : Oper := ((opsOf r1)[i]?).getD noOper
theorem r1_eq : r1 = .region 1 (opsOf r1) false := by kernel_rfl
theorem r1_size : (opsOf r1).size = 3 := by kernel_rfl
theorem r1_0 : (opsOf r1)[0]? = some (o1 0) := by kernel_rfl
theorem r1_1 : (opsOf r1)[1]? = some (o1 1) := by kernel_rfl
theorem r1_2 : (opsOf r1)[2]? = some (o1 2) := by kernel_rfl
theorem o10_op : (o1 0).op = .move (.tmp 0) := by kernel_rfl
theorem o11_op : (o1 1).op = .move (.tmp 1) := by kernel_rfl
theorem o12_op : ∃ c, (o1 2).op = .call c ∧ c.callee = .value (.func 103) ∧ c.args = #[.tmp 10, .tmp 11] := ⟨(match (o1 2).op with | .call c => c | _ => { callee := .value (.func 0), args := #[], argTypes := #[] }), by kernel_rfl, by kernel_rfl, by kernel_rfl⟩
theorem o10_dst : (o1 0).dst = some 10 := by kernel_rfl
theorem o11_dst : (o1 1).dst = some 11 := by kernel_rfl
theorem o12_dst : (o1 2).dst = some 12 := by kernel_rfl
theorem o10_g : (o1 0).guard = none := by kernel_rfl
theorem o11_g : (o1 1).guard = none := by kernel_rfl
theorem o12_g : (o1 2).guard = none := by kernel_rfl
theorem wpOps_plain {P : Program} {ops : Array Oper} {Q : Exit → Act → World → Prop} {i : Nat} {rest : List Nat} {o : Oper} {a : Act} {w : World} (ho : ops[i]? = some o) (hg : o.guard = none) (h : o.wp P a w (wpOps P ops Q rest) Q) : wpOps P ops Q (i :: rest) a w := by
  simp only [wpOps, ho]
  rw [if_pos (by simp [Region.wanted, hg])]
  exact .inl h
theorem fn103 : ∃ fn, Try.prog.funcs[103]? = some fn ∧ (fn.name == "runtime.NumGoroutine") = false ∧ fn.body.isNone = false := ⟨Try.f103, Try.func103, by kernel_rfl, rfl⟩
abbrev cB1 (ad : Addr) (n cap : Nat) : Obj := .cells #[.slice (some ad) n cap] 22
abbrev cB2 (p : Nat) : Obj := .cells #[.int .i64 (p : Int)] 3
theorem r1_walk {w w1 : World} {N : Nat → Prop} {l : List En} {p : Nat} {m : Mp} {a : Act} (hp : 1 ≤ p) (hl : 1 ≤ l.length) (h : Inv w ⟨N, [], []⟩ (fun k => k < 2) ⟨t0L l p, [some (27, [.nilS]), some (27, [.nilS])], 0, []⟩ m a w1)
    {Q : Exit → Act → World → Prop} (hQ : ∀ (ad : Addr) (cap : Nat) (a2 : Act) (w2 : World), l.length ≤ cap → w2.heap.size = w1.heap.size + 2 → a2.eval (.tmp 0) = .slice (some ad) l.length cap →
      a2.eval (.tmp 12) = .func (.func 117) #[] #[.pointer (some ⟨w1.heap.size, 0, none⟩), .pointer (some ⟨w1.heap.size + 1, 0, none⟩)] →
      Inv w ⟨N, [], [(w1.heap.size, cB1 ad l.length cap), (w1.heap.size + 1, cB2 p)]⟩ (fun k => k < 2) ⟨tL l p, [some (27, [.nilS]), some (27, [.nilS])], 0, []⟩ m a2 w2 → Q .normal a2 w2) :
    r1.wp Try.prog Q a w1 := by
  rw [r1_eq]
  refine wp_region ?_
  rw [r1_size]
  show wpOps Try.prog (opsOf r1) Q [0, 1, 2] a w1
  refine wpOps_plain r1_0 o10_g (wp_value (v := a.eval (.tmp 0)) (w' := w1) (by simp [execOp, o10_op]) ?_)
  refine wpOps_plain r1_1 o11_g (wp_value (v := (a.put (o1 0).dst (a.eval (.tmp 0))).eval (.tmp 1)) (w' := w1) (by simp [execOp, o11_op]) ?_)
  have h1 := h.put (some 10) (h.ev (.tmp 0))
  have h2 := h1.put (some 11) (h1.ev (.tmp 1))
  rw [o10_dst, o11_dst]
  obtain ⟨A, cap, inner, he, hle, hr, hcell⟩ := (show rep (vw w ⟨N, [], []⟩ ⟨t0L l p, [some (27, [.nilS]), some (27, [.nilS])], 0, []⟩ m w1).w (vw w ⟨N, [], []⟩ ⟨t0L l p, [some (27, [.nilS]), some (27, [.nilS])], 0, []⟩ m w1).N (.sl EntryT) l [a.eval (.tmp 0)] from h.ev (.tmp 0))
  have hlen := reps_len (e := EntryT) l inner hr
  obtain ⟨ad, rfl⟩ : ∃ ad, A = some ad := by
    rcases hcell with hcell | ⟨ad, h, _⟩
    · rw [hcell] at hlen
      have : 0 < l.length * EntryT.sz := Nat.mul_pos (by omega) (by decide)
      simp only [List.length_nil] at hlen
      omega
    · exact ⟨ad, h⟩
  have hv0 : a.eval (.tmp 0) = .slice (some ad) l.length cap := (List.cons.inj he).1
  have hv1 : (a.put (some 10) (a.eval (.tmp 0))).eval (.tmp 1) = .int .i64 (p : Int) := V_int (h1.ev (.tmp 1))
  generalize hga : a.put (some 10) (a.eval (.tmp 0)) = a1 at h1 h2 hv1 ⊢
  have sz : a.tmps.size = 46 := h.tlen
  have e10 : (a1.put (some 11) (a1.eval (.tmp 1))).eval (.tmp 10) = .slice (some ad) l.length cap := by
    rw [← hga, ← hv0]
    show ((a.tmps.setIfInBounds 10 _).setIfInBounds 11 _).getD 10 undef = _
    rw [Array.getD_eq_getD_getElem?, Array.getElem?_setIfInBounds_ne (by decide), Array.getElem?_setIfInBounds_self_of_lt (by omega)]
    rfl
  have e0 : (a1.put (some 11) (a1.eval (.tmp 1))).eval (.tmp 0) = .slice (some ad) l.length cap := by
    rw [← hga, ← hv0]
    show ((a.tmps.setIfInBounds 10 _).setIfInBounds 11 _).getD 0 undef = a.tmps.getD 0 undef
    rw [Array.getD_eq_getD_getElem?, Array.getElem?_setIfInBounds_ne (by decide), Array.getElem?_setIfInBounds_ne (by decide), Array.getD_eq_getD_getElem?]
  have e11 : (a1.put (some 11) (a1.eval (.tmp 1))).eval (.tmp 11) = .int .i64 (p : Int) := by
    rw [hv1]
    have s1 : a1.tmps.size = 46 := by rw [← hga]; show (a.tmps.setIfInBounds 10 _).size = 46; rw [Array.size_setIfInBounds]; exact sz
    show (a1.tmps.setIfInBounds 11 _).getD 11 undef = _
    rw [Array.getD_eq_getD_getElem?, Array.getElem?_setIfInBounds_self_of_lt (by omega)]
    rfl
  generalize hgb : a1.put (some 11) (a1.eval (.tmp 1)) = a2 at h2 e10 e0 e11 ⊢
  have s2 : a2.tmps.size = 46 := h2.tlen
  obtain ⟨c, hop, hc, hargs⟩ := o12_op
  refine wpOps_plain r1_2 o12_g ?_
  obtain ⟨fn, hfn, hname, hbody⟩ := fn103
  have hname' : ¬ fn.name = "runtime.NumGoroutine" := by simpa using hname
  have hrun : (execOp a2.eval (o1 2)).run Try.prog w1 = .ok (.enter 103 #[.slice (some ad) l.length cap, .int .i64 (p : Int)]) w1 := by
    simp only [execOp, hop, resolve, hc, hargs, Act.eval, Deferred.ofValue, Sem.run_bind, Sem.run_pure, Result.andThen_ok, invoke, callFunc, run_program]
    rw [hfn]
    simp only
    rw [if_neg (by simpa using hname'), if_neg (by simp [hbody])]
    have e10' : a2.tmps.getD 10 undef = .slice (some ad) l.length cap := e10
    have e11' : a2.tmps.getD 11 undef = .int .i64 (p : Int) := e11
    simp [Act.eval, e10', e11']
  unfold Oper.wp
  rw [hrun]
  show Calls Try.prog 103 _ w1 _
  refine calls103 (some ad) l.length cap p hp w1 _ ?_
  obtain ⟨w2, hw2⟩ : ∃ w2, (w1.alloc (cB1 ad l.length cap)).alloc (cB2 p) = w2 := ⟨_, rfl⟩
  have hg : w1.grownBy w2 none := by
    rw [← hw2]
    have g1 := World.grownBy_alloc w1 (cB1 ad l.length cap) none
    have g2 := World.grownBy_alloc (w1.alloc (cB1 ad l.length cap)) (cB2 p) none
    exact ⟨g2.os.trans g1.os, g2.tape.trans g1.tape, g2.output.trans g1.output, Nat.le_trans g1.size g2.size, fun k hk hne => (g2.block k (by simp; omega) hne).trans (g1.block k hk hne)⟩
  have hs2 : w2.heap.size = w1.heap.size + 2 := by rw [← hw2]; simp
  have hB1 : w2.heap[w1.heap.size]? = some (cB1 ad l.length cap) := by
    rw [← hw2]
    exact (Below.heap_alloc _ _ _ (by simp)).trans (World.alloc_heap_new w1 _)
  have hB2 : w2.heap[w1.heap.size + 1]? = some (cB2 p) := by
    rw [← hw2]
    have := World.alloc_heap_new (w1.alloc (cB1 ad l.length cap)) (cB2 p)
    rwa [World.size_alloc] at this
  show wpOps Try.prog (opsOf r1) Q [] _ _
  rw [hw2]
  obtain ⟨hI, hN⟩ := h2.grow hg
  have hI2 := hI.frame (fr' := [(w1.heap.size, cB1 ad l.length cap), (w1.heap.size + 1, cB2 p)]) (fun q hq => by
    rcases List.mem_cons.1 hq with rfl | hq
    · exact ⟨hN _ (Nat.le_refl _) (by omega), hB1⟩
    · rcases List.mem_cons.1 hq with rfl | hq
      · exact ⟨hN _ (by omega) (by omega), hB2⟩
      · cases hq)
  have hI3 := hI2.put (some 12) (x := .bad) (v := .func (.func 117) #[] #[.pointer (some ⟨w1.heap.size, 0, none⟩), .pointer (some ⟨w1.heap.size + 1, 0, none⟩)]) trivial
  refine hQ ad cap _ w2 hle hs2 ?_ ?_ ?_
  · rw [o12_dst]
    show (a2.tmps.setIfInBounds 12 _).getD 0 undef = _
    rw [Array.getD_eq_getD_getElem?, Array.getElem?_setIfInBounds_ne (by decide), ← Array.getD_eq_getD_getElem?]
    exact e0
  · rw [o12_dst]
    show (a2.tmps.setIfInBounds 12 _).getD 12 undef = _
    rw [Array.getD_eq_getD_getElem?, Array.getElem?_setIfInBounds_self_of_lt (by omega)]
    rfl
  · rw [o12_dst]
    exact hI3
end Go.Eng.Bk
/- table.body: its rounds. -/
namespace Go.Eng.Bk
open Go Go.Proofs Go.RowKit
set_option linter.unusedVariables false
set_option linter.unusedSimpArgs false
set_option maxRecDepth 100000
noncomputable def recL (fn : FuncId) (st : LoopState) (a2 : Act) (D : Nat) : Loop := { state := st, pending := none, fn := fn, tmps := a2.tmps, params := #[13], assign := asg, body := bd, defers := D }
abbrev frB (B1 D : Nat) (ad : Addr) (n cap p : Nat) : List (Nat × Obj) := [(B1, cB1 ad n cap), (B1 + 1, cB2 p), (D, .deferred (some []))]
theorem asg_nd : noDefer asg = true := by kernel_rfl
theorem bd_nd : noDefer bd = true := by kernel_rfl
section
variable {call : CallT B} {inl : InlT}
theorem bodyL_cons {l : List En} {per : Int} {part : List En} {rest : List (List En)} {bl pl : List Int} {r : List Int × (List Int × Unit)} (h1 : 1 ≤ part.length) (h2 : part.length ≤ 1000000) (h : bodyL call (part :: rest) bl pl = some r) :
    ∃ bl' pl', bodyS call l per part bl pl = some (sL l per bl' pl') ∧ bodyL call rest bl' pl' = some r := by
  have e1 : IntKind.i64.wrap ((part.length : Int) - 1) = ((part.length - 1 : Nat) : Int) := by rw [wi64' (by omega) (by omega)]; omega
  change Option.bind _ _ = some r at h
  unfold bodyS
  rw [e1, Int.toNat_natCast]
  obtain ⟨(b : List Int × Int × Unit), hb, h⟩ := bind_some h
  obtain ⟨(f : List Int), hf, h⟩ := bind_some h
  obtain ⟨(k : List Int), hk, h⟩ := bind_some h
  split at h
  · rename_i c1
    obtain ⟨(n1 : List Int), hn1, h⟩ := bind_some h
    split at h
    · rename_i c2
      obtain ⟨(n2 : List Int), hn2, h⟩ := bind_some h
      split at h
      · rename_i c3
        split at h
        · rename_i c4
          refine ⟨bl ++ (f : List Int), pl ++ (k : List Int) ++ (n1 : List Int) ++ (n2 : List Int), ?_, h⟩
          have hb' : call 17 [.v (.sl EntryT) part] = some b := hb
          have hf' : call 104 [.v (.sl (.int .u8)) b.1] = some f := hf
          have hk' : call 105 [.agg [.v .str (part.getD (part.length - 1) noEn).1.1, .v (.int .i64) (part.getD (part.length - 1) noEn).1.2.1, .v (.int .i64) (part.getD (part.length - 1) noEn).1.2.2.1]] = some k := hk
          have hn1' : call 55 [.v (.int .i64) (bl.length : Int)] = some n1 := hn1
          have hn2' : call 55 [.v (.int .i64) (f.length : Int)] = some n2 := hn2
          exact bnd hb' (bnd hf' ((if_pos (show (0 : Int) ≤ ((part.length - 1 : Nat) : Int) ∧ ((part.length - 1 : Nat) : Int) < (part.length : Int) by omega)).trans (bnd hk' ((if_pos c1).trans (bnd hn1' ((if_pos c2).trans (bnd hn2' ((if_pos c3).trans (if_pos c4)))))))))
        · cases h
      · cases h
    · cases h
  · cases h
theorem round_ok (hΓ : CallsOk (mkC B call inl)) {w W : World} {N : Nat → Prop} {l : List En} {p cap k n B1 D : Nat} {ad : Addr} {a2 : Act} {fn : FuncId} {r : List Int × (List Int × Unit)} (hp : 1 ≤ p) (hl : l.length ≤ 1000000) (hB : w.heap.size ≤ B1) (hD : B1 + 1 < D)
    (he0 : a2.eval (.tmp 0) = .slice (some ad) l.length cap) (hk : k * p < l.length) {bl pl : List Int} {m : Mp} (hb : bodyL call ((chunks p l).drop k) bl pl = some r)
    (hI : Inv w ⟨N, [], (D + 1, .loop (recL fn .ready a2 D)) :: frB B1 D ad l.length cap p⟩ (fun j => j < 4) (sL l p bl pl) m a2 W) :
    YieldAt Fence.wide n Try.prog (D + 1) #[.slice (some (ad.add (k * p * 4))) (min p (l.length - k * p)) (min p (l.length - k * p))] W fun e W' => e = .returned (.bool true) ∧
      ∃ bl pl m, bodyL call ((chunks p l).drop (k + 1)) bl pl = some r ∧ Inv w ⟨N, [], (D + 1, .loop (recL fn .ready a2 D)) :: frB B1 D ad l.length cap p⟩ (fun j => j < 4) (sL l p bl pl) m a2 W' := by
  rw [chunks_at hp l k hk] at hb
  obtain ⟨e, he⟩ : ∃ e, min p (l.length - k * p) = e := ⟨_, rfl⟩
  rw [he]
  have hpart : (l.drop (k * p)).take p = (l.drop (k * p)).take e := by
    by_cases hpe : p ≤ l.length - k * p
    · rw [show e = p from by omega]
    · rw [List.take_of_length_le (by rw [List.length_drop]; omega), List.take_of_length_le (by rw [List.length_drop]; omega)]
  rw [hpart] at hb
  have hplen : ((l.drop (k * p)).take e).length = e := by rw [List.length_take, List.length_drop]; omega
  have hV0 := hI.ev (.tmp 0)
  rw [he0] at hV0
  have hVp : V (vw w ⟨N, [], (D + 1, .loop (recL fn .ready a2 D)) :: frB B1 D ad l.length cap p⟩ (sL l p bl pl) m W) (.v (.sl EntryT) ((l.drop (k * p)).take e)) (.slice (some (ad.add (k * p * 4))) e e) :=
    rep_sub (e := EntryT) (i := k * p) (k := e) (c' := e) (show rep _ _ (.sl EntryT) l [.slice (some ad) l.length cap] from hV0) (by omega) (Nat.le_refl _) (by omega) (by decide)
  generalize (l.drop (k * p)).take e = part at hb hplen hVp
  obtain ⟨bl', pl', hS, hb2⟩ := bodyL_cons (l := l) (per := (p : Int)) (by omega) (by omega) hb
  have hL := (hI.frz (D + 1, .loop (recL fn .ready a2 D)) (by simp)).2
  have hd := hI.defers
  refine ⟨_, _, _, _, run_yield hL rfl, roundIn_of_wpIn trivial ?_⟩
  have hA : ({ tmps := ((recL fn .ready a2 D).params.zip #[.slice (some (ad.add (k * p * 4))) e e]).foldl (fun tmps (t, a) => tmps.setIfInBounds t a) (recL fn .ready a2 D).tmps, defers := [] } : Act) = a2.put (some 13) (.slice (some (ad.add (k * p * 4))) e e) := by
    have hz : ((recL fn .ready a2 D).params.zip #[.slice (some (ad.add (k * p * 4))) e e]).foldl (fun tmps (t, a) => tmps.setIfInBounds t a) (recL fn .ready a2 D).tmps = a2.tmps.setIfInBounds 13 (.slice (some (ad.add (k * p * 4))) e e) := by simp [recL]
    rw [hz]
    show ({ tmps := a2.tmps.setIfInBounds 13 _, defers := [] } : Act) = { tmps := a2.tmps.setIfInBounds 13 _, defers := a2.defers }
    rw [hd]
  rw [hA]
  have hP0 := (hI.push).put (some 13) hVp
  have hP : Inv w ⟨N, a2.tmps.toList ++ [], (D + 1, .loop (recL fn .ready a2 D)) :: frB B1 D ad l.length cap p⟩ (fun j => j < (sR0 l p part bl pl).bx.length) (sR0 l p part bl pl) m (a2.put (some 13) (.slice (some (ad.add (k * p * 4))) e e)) W := by
    have e1 : (⟨(sL l p bl pl).t, (sL l p bl pl).bx, (sL l p bl pl).live, (sL l p bl pl).t ++ (sL l p bl pl).g⟩ : St) = ⟨tL l p, bxL bl pl, 3, tL l p⟩ := by
      show (⟨tL l p, bxL bl pl, 3, tL l p ++ []⟩ : St) = _
      rw [List.append_nil]
    rw [e1] at hP0
    exact hP0
  have hasg := code_round hΓ (keep := noHints) (l := D + 1) (n := n) asg asg_nd (sR0 l p part bl pl) pairK (asg_eq call inl l p part bl pl pairK) m _ W hP
  refine wpIn_mono hasg (fun e1 a1 w1 hq => ?_)
  obtain ⟨e', s', m', q1, q2, q3⟩ := hq
  have q1' : some (e', s') = some (AEx.normal, sR1 l p part bl pl) := q1
  obtain ⟨rfl, rfl⟩ := Prod.mk.inj (Option.some.inj q1')
  cases e1 <;> first | exact q2.elim | skip
  have hL1 := (q3.frz (D + 1, .loop (recL fn .ready a2 D)) (by simp)).2
  have hN1 := (q3.frz (D + 1, .loop (recL fn .ready a2 D)) (by simp)).1
  have hfr : ∀ q ∈ frB B1 D ad l.length cap p, q ∈ (D + 1, Obj.loop (recL fn .ready a2 D)) :: frB B1 D ad l.length cap p ∧ q.1 ≠ D + 1 := fun q hq => by
    refine ⟨List.mem_cons_of_mem _ hq, ?_⟩
    simp only [frB, List.mem_cons, List.not_mem_nil, or_false] at hq
    rcases hq with rfl | rfl | rfl
    · show B1 ≠ D + 1; omega
    · show B1 + 1 ≠ D + 1; omega
    · show D ≠ D + 1; omega
  have hfr2 : ∀ q ∈ frB B1 D ad l.length cap p, q ∈ (D + 1, Obj.loop (recL fn .busy a2 D)) :: frB B1 D ad l.length cap p ∧ q.1 ≠ D + 1 := fun q hq => ⟨List.mem_cons_of_mem _ hq, (hfr q hq).2⟩
  have q4 := q3.obj (o' := .loop (recL fn .busy a2 D)) hL1 (fun _ _ _ h => by cases h) hN1 (by omega) hfr
  refine ⟨_, run_beginRound hL1 rfl, ?_⟩
  show bd.wpIn (rdF (D + 1)) n Try.prog _ a1 (w1.putObj (D + 1) (.loop (recL fn .busy a2 D)))
  have hbd := code_round hΓ (keep := noHints) (l := D + 1) (n := n) bd bd_nd (sR1 l p part bl pl) endK ((bd_eq call inl l p part bl pl).trans hS) m' a1 _ q4
  refine wpIn_mono hbd (fun e2 a3 w3 hq => ?_)
  obtain ⟨e', s3, m3, k1, k2, k3⟩ := hq
  have k1' : e' = .normal ∧ popK s3 = sL l p bl' pl' := by
    cases e' with
    | normal => exact ⟨rfl, Option.some.inj k1⟩
    | exit i => cases k1
    | ret => cases k1
  obtain ⟨rfl, hpop⟩ := k1'
  cases e2 <;> first | exact k2.elim | skip
  have hL3 := (k3.frz (D + 1, .loop (recL fn .busy a2 D)) (by simp)).2
  have h46 : 46 = a2.tmps.size := hI.tlen.symm
  have k5 := Inv.pop (a := a2) (k := 46) h46 hd k3
  obtain ⟨m5, k6⟩ := canon_sound k5 kp .skip
  have k7 : Inv w ⟨N, [], (D + 1, .loop (recL fn .busy a2 D)) :: frB B1 D ad l.length cap p⟩ (fun j => j < (popK s3).bx.length) (popK s3) m5 a2 w3 := k6
  rw [hpop] at k7
  have k8 := k7.obj (o' := .loop (recL fn .ready a2 D)) hL3 (fun _ _ _ h => by cases h) (k7.frz (D + 1, .loop (recL fn .busy a2 D)) (by simp)).1 (by omega) hfr2
  exact ⟨_, _, run_endRound none hL3, rfl, bl', pl', m5, hb2, k8⟩
end
end Go.Eng.Bk
/- table.body: its loop, its end, its contract. -/
namespace Go.Eng.Bk
open Go Go.Proofs Go.RowKit
set_option linter.unusedVariables false
set_option linter.unusedSimpArgs false
set_option maxRecDepth 100000
theorem run_117 (args : Array Value) (w : World) : (callFunc 117 args).run Try.prog w = .ok (.enter 117 args) w := by
  obtain ⟨fn, hfn, hname, hbody⟩ : ∃ fn, Try.prog.funcs[117]? = some fn ∧ (fn.name == "runtime.NumGoroutine") = false ∧ fn.body.isNone = false := ⟨Try.f117, Try.func117, by kernel_rfl, rfl⟩
  have hname' : ¬ fn.name = "runtime.NumGoroutine" := by simpa using hname
  simp only [callFunc, Sem.run_bind, run_program, Result.andThen_ok]
  rw [hfn]
  simp only
  rw [if_neg (by simpa using hname'), if_neg (by simp [hbody])]
  rfl
theorem rf_walk {call : CallT B} {inl : InlT} (hΓ : CallsOk (mkC B call inl)) {w w2 : World} {N : Nat → Prop} {l : List En} {p cap n B1 : Nat} {ad : Addr} {a2 : Act} {m : Mp} {r : List Int × (List Int × Unit)} (hp : 1 ≤ p) (hp2 : p ≤ 1000000) (hl : l.length ≤ 1000000) (hcap : l.length ≤ cap)
    (hB : w.heap.size ≤ B1) (hs : w2.heap.size = B1 + 2) (he0 : a2.eval (.tmp 0) = .slice (some ad) l.length cap)
    (he12 : a2.eval (.tmp 12) = .func (.func 117) #[] #[.pointer (some ⟨B1, 0, none⟩), .pointer (some ⟨B1 + 1, 0, none⟩)])
    (hI : Inv w ⟨N, [], [(B1, cB1 ad l.length cap), (B1 + 1, cB2 p)]⟩ (fun k => k < 2) ⟨tL l p, [some (27, [.nilS]), some (27, [.nilS])], 0, []⟩ m a2 w2)
    (hb : bodyL call (chunks p l) [] [] = some r) {Q : Exit → Act → World → Prop}
    (hQ : ∀ (W : World) (m : Mp) (D : Nat), w.heap.size ≤ D → Inv w ⟨N, [], [(D, .deferred (some []))]⟩ (fun j => j < 4) (sL l p r.1 r.2.1) m a2 W → Q .normal { a2 with defers := { target := .collected D, args := #[] } :: a2.defers } W) :
    (Code.rangeFunc (.tmp 12) #[13] asg bd).wpIn Fence.wide n Try.prog Q a2 w2 := by
  refine wpIn_rangeFunc (fun fn hfn => ?_)
  obtain ⟨D, hD⟩ : ∃ D, w2.heap.size = D := ⟨_, rfl⟩
  obtain ⟨w3, hw3⟩ : ∃ w3, (w2.alloc (.deferred (some []))).alloc (.loop (recL fn .ready a2 D)) = w3 := ⟨_, rfl⟩
  refine ⟨D + 1, [{ target := .collected D, args := #[] }], w3, { target := .fn (.func 117) #[.pointer (some ⟨B1, 0, none⟩), .pointer (some ⟨B1 + 1, 0, none⟩)], args := #[.func (.yield (D + 1)) #[] #[]] }, w3, 117,
    #[.func (.yield (D + 1)) #[] #[], .pointer (some ⟨B1, 0, none⟩), .pointer (some ⟨B1 + 1, 0, none⟩)], w3, ?_, ?_, fun _ _ => trivial, ?_, fun h => (by cases h), ?_⟩
  · rw [← hw3, ← hD]
    exact run_enterLoop_outer _ _ _ _ _
  · simp only [resolve, he12]
    simp [go_sem]
  · simp [invoke, go_sem, run_117]
  obtain ⟨m1, h1⟩ := canon_sound hI kp .skip
  have h1' : Inv w ⟨N, [], [(B1, cB1 ad l.length cap), (B1 + 1, cB2 p)]⟩ (fun k => k < 4) (sL l p [] []) m1 a2 w2 := by
    rw [start_eq] at h1
    exact h1
  have hg : w2.grownBy w3 none := by
    rw [← hw3]
    have g1 := World.grownBy_alloc w2 (.deferred (some [])) none
    have g2 := World.grownBy_alloc (w2.alloc (.deferred (some []))) (.loop (recL fn .ready a2 D)) none
    exact ⟨g2.os.trans g1.os, g2.tape.trans g1.tape, g2.output.trans g1.output, Nat.le_trans g1.size g2.size, fun k hk hne => (g2.block k (by simp; omega) hne).trans (g1.block k hk hne)⟩
  have hs3 : w3.heap.size = D + 2 := by rw [← hw3]; simp [hD]
  have hD3 : w3.heap[D]? = some (.deferred (some [])) := by
    rw [← hw3, ← hD]
    exact (Below.heap_alloc _ _ _ (by simp)).trans (World.alloc_heap_new w2 _)
  have hL3 : w3.heap[D + 1]? = some (.loop (recL fn .ready a2 D)) := by
    rw [← hw3]
    have := World.alloc_heap_new (w2.alloc (.deferred (some []))) (.loop (recL fn .ready a2 D))
    rwa [World.size_alloc, hD] at this
  obtain ⟨hI3, hN3⟩ := h1'.grow hg
  have hJ0 : Inv w ⟨N, [], (D + 1, .loop (recL fn .ready a2 D)) :: frB B1 D ad l.length cap p⟩ (fun j => j < 4) (sL l p [] []) m1 a2 w3 := hI3.frame (fun q hq => by
    simp only [frB, List.mem_cons, List.not_mem_nil, or_false] at hq
    rcases hq with rfl | rfl | rfl | rfl
    · exact ⟨hN3 _ (by omega) (by omega), hL3⟩
    · exact hI3.frz (B1, cB1 ad l.length cap) (by simp)
    · exact hI3.frz (B1 + 1, cB2 p) (by simp)
    · exact ⟨hN3 _ (by omega) (by omega), hD3⟩)
  have it := chunk_calls (n - 1) (D + 1) B1 (B1 + 1) ad l.length cap p hp hp2 hl hcap
    (fun k W => ∃ bl pl m, bodyL call ((chunks p l).drop k) bl pl = some r ∧ Inv w ⟨N, [], (D + 1, .loop (recL fn .ready a2 D)) :: frB B1 D ad l.length cap p⟩ (fun j => j < 4) (sL l p bl pl) m a2 W)
    (fun k W ⟨bl, pl, m, _, hi⟩ => by
      have f1 := (hi.frz (B1, cB1 ad l.length cap) (by simp)).2
      have f2 := (hi.frz (B1 + 1, cB2 p) (by simp)).2
      exact ⟨by simp only [World.cell?, f1]; rfl, by simp only [World.cell?, f2]; rfl⟩)
    (fun k W ⟨bl, pl, m, hb, hi⟩ hk => round_ok hΓ hp hl hB (by omega) he0 hk hb hi)
    (fun k W ⟨bl, pl, m, hb, hi⟩ => ⟨bl, pl, m, hb, drew_sound hi⟩) w3 ⟨[], [], m1, by rw [List.drop_zero]; exact hb, hJ0⟩
  refine it.mono ?_
  rintro e W ⟨⟨v, rfl⟩, k, hk, _, bl, pl, m5, hb5, hi5⟩
  rw [chunks_end hp l k hk] at hb5
  have hr : r = (bl, pl, ()) := (Option.some.inj hb5).symm
  subst hr
  have hLW := (hi5.frz (D + 1, .loop (recL fn .ready a2 D)) (by simp))
  refine ⟨none, _, run_endLoop hLW.2 (by simp [recL]), ?_⟩
  have h6 := hi5.obj (fr' := [(D, Obj.deferred (some []))]) (o' := .loop { recL fn .ready a2 D with state := .exhausted }) hLW.2 (fun _ _ _ h => by cases h) hLW.1 (by omega) (fun q hq => by
    rcases List.mem_cons.1 hq with rfl | hq
    · exact ⟨by simp, by show D ≠ D + 1; omega⟩
    · cases hq)
  exact hQ _ m5 D (by omega) (h6.frame (fun q hq => h6.frz q (List.mem_cons_of_mem _ hq)))
end Go.Eng.Bk
/- table.body: its end, its contract. -/
namespace Go.Eng.Bk
open Go Go.Proofs Go.RowKit
set_option linter.unusedVariables false
set_option linter.unusedSimpArgs false
set_option maxRecDepth 100000
theorem setCell_same {w : World} {b : Nat} {T : TypeId} {f : Nat × Nat} {v : Value} (h : w.heap[b]? = some (.cells #[v] T f)) : w.setCell ⟨b, 0, none⟩ v = w := by
  unfold World.setCell
  have key : ∀ F : Obj → Obj, F (.cells #[v] T f) = .cells #[v] T f → w.heap.modify b F = w.heap := by
    intro F hF
    apply Array.ext_getElem?
    intro i
    rw [Array.getElem?_modify]
    split
    · rename_i hi
      subst hi
      rw [h, Option.map_some, hF]
    · rfl
  rw [key _ rfl]
set_option maxHeartbeats 4000000 in
theorem r9_go (b0 b1 : Nat) (A0 A1 : Option Addr) (n0 k0 n1 k1 : Nat) (df : List Deferred) (W : World) (Q : Exit → Act → World → Prop) (x0 x1 x2 x3 x6 x7 x8 x9 x10 x11 x12 x13 x14 x15 x16 x17 x18 x19 x20 x21 x22 x23 x24 x25 x26 x27 x28 x29 x30 x31 x32 x33 x34 x35 x36 x37 x38 x39 x40 x41 x42 x43 x44 x45 : Value)
    (c0 : W.heap[b0]? = some (.cells #[(.slice A0 n0 k0)] 27 (0, 0))) (c1 : W.heap[b1]? = some (.cells #[(.slice A1 n1 k1)] 27 (0, 0)))
    (hQ : Q .normal { tmps := #[x0, x1, x2, x3, .pointer (some ⟨b0, 0, none⟩), .pointer (some ⟨b1, 0, none⟩), x6, x7, x8, x9, x10, x11, x12, x13, x14, x15, x16, x17, x18, x19, x20, x21, x22, x23, x24, x25, x26, x27, x28, x29, x30, x31, x32, x33, x34, x35, x36, x37, x38, x39, x40, x41, x42, x43, .slice A0 n0 k0, .slice A1 n1 k1], defers := df } W.drew) :
    r9.wp Try.prog Q { tmps := #[x0, x1, x2, x3, .pointer (some ⟨b0, 0, none⟩), .pointer (some ⟨b1, 0, none⟩), x6, x7, x8, x9, x10, x11, x12, x13, x14, x15, x16, x17, x18, x19, x20, x21, x22, x23, x24, x25, x26, x27, x28, x29, x30, x31, x32, x33, x34, x35, x36, x37, x38, x39, x40, x41, x42, x43, x44, x45], defers := df } W := by
  have d0 : W.drew.cell? ⟨b0, 0, none⟩ = some (.slice A0 n0 k0) := by simp only [World.cell?, show W.drew.heap[b0]? = _ from c0]; rfl
  have d1 : W.drew.cell? ⟨b1, 0, none⟩ = some (.slice A1 n1 k1) := by simp only [World.cell?, show W.drew.heap[b1]? = _ from c1]; rfl
  have f0 : W.drew.frozen? ⟨b0, 0, none⟩ = false := by simp only [World.frozen?, show W.drew.heap[b0]? = _ from c0]; rfl
  have f1 : W.drew.frozen? ⟨b1, 0, none⟩ = false := by simp only [World.frozen?, show W.drew.heap[b1]? = _ from c1]; rfl
  have s0 : W.drew.setCell ⟨b0, 0, none⟩ (.slice A0 n0 k0) = W.drew := setCell_same (show W.drew.heap[b0]? = _ from c0)
  have s1 : W.drew.setCell ⟨b1, 0, none⟩ (.slice A1 n1 k1) = W.drew := setCell_same (show W.drew.heap[b1]? = _ from c1)
  simp only [r9, sq1, sq2, code82, Try.f82, Option.getD_some]
  go_region
  exact hQ
def sv9 (l : List En) (per : Int) (bl pl : List Int) : St := ⟨((tL l per).set 44 .bad).set 45 .bad, bxL bl pl, 3, []⟩
theorem r9_walk {w W : World} {N : Nat → Prop} {fr : List (Nat × Obj)} {l : List En} {per : Int} {bl pl : List Int} {m : Mp} {a2 : Act} {df : List Deferred} (hI : Inv w ⟨N, [], fr⟩ (fun j => j < 4) (sL l per bl pl) m a2 W) {Q : Exit → Act → World → Prop}
    (hQ : ∀ a3 : Act, Inv w ⟨N, [], fr⟩ (fun j => j < 4) (sv9 l per bl pl) m a3 W.drew → Q .normal { a3 with defers := df } W.drew) : r9.wp Try.prog Q { a2 with defers := df } W := by
  have e4 : a2.eval (.tmp 4) = .pointer (some ⟨m.B 0, 0, none⟩) := (show _ ∧ _ from hI.ev (.tmp 4)).1
  have e5 : a2.eval (.tmp 5) = .pointer (some ⟨m.B 1, 0, none⟩) := (show _ ∧ _ from hI.ev (.tmp 5)).1
  obtain ⟨_, vs0, c0, v0, _⟩ := hI.boxes 0 27 [.own 0 5 (.int .u8) bl] rfl
  obtain ⟨_, vs1, c1, v1, _⟩ := hI.boxes 1 27 [.own 1 5 (.int .u8) pl] rfl
  have one : ∀ {τ T} {e : Ty} {xs : List e.den} {vs : List Value}, all2 (V1 (vw w ⟨N, [], fr⟩ (sL l per bl pl) m W)) [.own τ T e xs] vs → ∃ A n k, vs = [.slice A n k] := by
    intro τ T e xs vs h
    cases vs with
    | nil => exact h.elim
    | cons v vs =>
      cases vs with
      | cons _ _ => exact h.2.elim
      | nil =>
        obtain ⟨A, k, inner, rfl, _⟩ := h.1.2.1
        exact ⟨A, _, k, rfl⟩
  obtain ⟨A0, n0, k0, rfl⟩ := one v0
  obtain ⟨A1, n1, k1, rfl⟩ := one v1
  have h2 := (drew_sound hI).put (some 44) (x := .bad) (v := .slice A0 n0 k0) trivial
  have h3 := h2.put (some 45) (x := .bad) (v := .slice A1 n1 k1) trivial
  have hq := hQ _ h3
  have hsz : a2.tmps.size = 46 := hI.tlen
  obtain ⟨x0, x1, x2, x3, x4, x5, x6, x7, x8, x9, x10, x11, x12, x13, x14, x15, x16, x17, x18, x19, x20, x21, x22, x23, x24, x25, x26, x27, x28, x29, x30, x31, x32, x33, x34, x35, x36, x37, x38, x39, x40, x41, x42, x43, x44, x45, hx⟩ := arr46 a2.tmps hsz
  obtain ⟨tm, d⟩ := a2
  have hx : tm = #[x0, x1, x2, x3, x4, x5, x6, x7, x8, x9, x10, x11, x12, x13, x14, x15, x16, x17, x18, x19, x20, x21, x22, x23, x24, x25, x26, x27, x28, x29, x30, x31, x32, x33, x34, x35, x36, x37, x38, x39, x40, x41, x42, x43, x44, x45] := hx
  subst hx
  have e4' : x4 = .pointer (some ⟨m.B 0, 0, none⟩) := e4
  have e5' : x5 = .pointer (some ⟨m.B 1, 0, none⟩) := e5
  subst e4' e5'
  exact r9_go (m.B 0) (m.B 1) A0 A1 n0 k0 n1 k1 df W Q x0 x1 x2 x3 x6 x7 x8 x9 x10 x11 x12 x13 x14 x15 x16 x17 x18 x19 x20 x21 x22 x23 x24 x25 x26 x27 x28 x29 x30 x31 x32 x33 x34 x35 x36 x37 x38 x39 x40 x41 x42 x43 x44 x45 c0 c1 hq
theorem res9 {call : CallT B} {inl : InlT} (l : List En) (per : Int) (bl pl : List Int) : resL (mkC B call inl) (sv9 l per bl pl) Try.f82.results.toList = some [.own 0 5 (.int .u8) bl, .own 1 5 (.int .u8) pl] := by kernel_rfl
theorem sh9 (bl pl : List Int) : toSh 3 (shOf 82) [.own 0 5 (.int .u8) bl, .own 1 5 (.int .u8) pl] = some ((bl, pl, ()) : List Int × (List Int × Unit)) := by kernel_rfl
theorem nt82 : Try.f82.ntmps = 46 := by kernel_rfl
theorem con82 {call : CallT B} {inl : InlT} (hΓ : CallsOk (mkC B call inl)) {l : List En} {per : Int} (h1 : 1 ≤ per) (h2 : per ≤ 1000000) (h3 : l.length ≤ 1000000) (h4 : 1 ≤ l.length) {r : List Int × (List Int × Unit)} (h : bodyL call (chunks per.toNat l) [] [] = some r) :
    CallOk Try.prog (shOf 82) 82 [.v (.sl EntryT) l, .v (.int .i64) per] r := by
  refine .inl ⟨⟨Try.f82, Try.func82, by kernel_rfl, rfl⟩, fun w N vargs hv => ?_⟩
  obtain ⟨p, rfl⟩ : ∃ p : Nat, per = (p : Int) := ⟨per.toNat, by omega⟩
  rw [Int.toNat_natCast] at h
  have hst := start_inv hv 46
  refine callsIn_wide.1 (callsIn_of_wp_marks (F := Fence.wide) (n := 10) (P := Try.prog) Try.func82 code82_eq trivial ?_ rfl)
  rw [nt82]
  have hL : LOk (R := AEx × St) (mkC B call inl) (fun _ _ _ => none) := fun c s K r h => by cases h
  refine wpIn_seq (wpIn_mono (wpIn_wide.2 (aCode_sound hΓ (keep := noHints) hL r0 _ pairK (r0_eq call inl l (p : Int) pairK) mp0 _ w hst)) (fun e a1 w1 hq => ?_))
  obtain ⟨e', s', m1, q1, q2, q3⟩ := hq
  have q1' : some (e', s') = some (AEx.normal, (⟨t0L l p, [some (27, [.nilS]), some (27, [.nilS])], 0, []⟩ : St)) := q1
  obtain ⟨rfl, rfl⟩ := Prod.mk.inj (Option.some.inj q1')
  cases e <;> first | exact q2.elim | skip
  refine wpIn_seq (wpIn_seq (wpIn_wide.2 (r1_walk (by omega) h4 q3 (fun ad cap a2 w2 hcap hs e0 e12 hI2 => ?_))))
  refine wpIn_block (rf_walk hΓ (by omega) (by omega) h3 hcap (q3.below.size) hs e0 e12 hI2 h (fun W m D hD hI => ?_))
  refine wpIn_seq (wpIn_wide.2 (r9_walk hI (fun a3 h9 => ?_)))
  refine wpIn_ret ?_
  have hdf : a2.defers = [] := hI.defers
  have hfz := h9.frz (D, .deferred (some [])) (by simp)
  show LeavesInM Fence.wide 10 Try.prog Try.f82 a3.tmps _ ({ target := .collected D, args := #[] } :: a2.defers) .returning W.drew
  rw [hdf]
  refine ⟨fun h => (by cases h), .inl ⟨D, _, rfl, run_takeDeferred hfz.2, ?_⟩⟩
  have h10 := (h9.obj (fr' := []) (o' := .deferred none) hfz.2 (fun _ _ _ h => by cases h) hfz.1 hD (fun q hq => by cases hq)).frame (fr' := []) (fun q hq => by cases hq)
  obtain ⟨v, k1, k2, k3⟩ := fin_ret h10 (res9 (call := call) (inl := inl) l p r.1 r.2.1) (sh9 r.1 r.2.1)
  exact ⟨v, k1, v, rfl, k2, k3⟩
end Go.Eng.Bk
/- slices.Compact of texts: the library's contract, at this program. -/
namespace Go.Eng.Bk
open Go Go.Proofs Go.Eng Go.RowKit Go.Shelf
set_option linter.unusedVariables false
def rho : Go.Shelf.Ren := ⟨fun f => match f with | 194 => 107 | _ => 0, fun t => match t with | 31 => 34 | x => x, fun x => x⟩
theorem isAgg_of {P : Program} {t : TypeId} (h : isOneT P t = true) (w : World) : (isAgg t).run P w = .ok false w := run_isAgg_no h w
theorem zero_of {P : Program} {t : TypeId} {i : TypeInfo} {v : Value} (h : P.info? t = some i) (hz : i.zero = some v) (w : World) : (zeroValue t).run P w = .ok v w := by
  simp [zeroValue, typeInfo, h, hz]
theorem zero_at {t : TypeId} {v : Value} (h : (Try.prog.info? t).bind (·.zero) = some v) (w : World) : (zeroValue t).run Try.prog w = .ok v w := by
  cases hi : Try.prog.info? t with
  | none => rw [hi] at h; cases h
  | some i => rw [hi] at h; exact zero_of hi h w
theorem lay194 : Go.Proofs.Lays.n194 Try.prog rho where
  mixed := by kernel_rfl
  f194 := by kernel_rfl
  t0 := by kernel_rfl
  a0 := fun w => isAgg_of (by kernel_rfl) w
  z0 := fun w => by
    have := run_sizeOf (P := Try.prog) (t := rho.t 0) (by kernel_rfl) w
    rwa [show szOf Try.prog (rho.t 0) = 1 from by kernel_rfl] at this
  v0 := fun w => zero_at (by kernel_rfl) w
  t3 := by kernel_rfl
  a3 := fun w => isAgg_of (by kernel_rfl) w
  z3 := fun w => by
    have := run_sizeOf (P := Try.prog) (t := rho.t 3) (by kernel_rfl) w
    rwa [show szOf Try.prog (rho.t 3) = 1 from by kernel_rfl] at this
  v3 := fun w => zero_at (by kernel_rfl) w
  t4 := by kernel_rfl
  a4 := fun w => isAgg_of (by kernel_rfl) w
  z4 := fun w => by
    have := run_sizeOf (P := Try.prog) (t := rho.t 4) (by kernel_rfl) w
    rwa [show szOf Try.prog (rho.t 4) = 1 from by kernel_rfl] at this
  v4 := fun w => zero_at (by kernel_rfl) w
  t9 := by kernel_rfl
  a9 := fun w => isAgg_of (by kernel_rfl) w
  z9 := fun w => by
    have := run_sizeOf (P := Try.prog) (t := rho.t 9) (by kernel_rfl) w
    rwa [show szOf Try.prog (rho.t 9) = 1 from by kernel_rfl] at this
  v9 := fun w => zero_at (by kernel_rfl) w
  t31 := by kernel_rfl
  a31 := fun w => isAgg_of (by kernel_rfl) w
  z31 := fun w => by
    have := run_sizeOf (P := Try.prog) (t := rho.t 31) (by kernel_rfl) w
    rwa [show szOf Try.prog (rho.t 31) = 1 from by kernel_rfl] at this
  v31 := fun w => zero_at (by kernel_rfl) w
end Go.Eng.Bk
/- slices.Grow of nil, slices.Clone: what they answer. -/
namespace Go.Eng.Bk
open Go Go.Proofs Go.Eng Go.RowKit
set_option linter.unusedVariables false
set_option linter.unusedSimpArgs false
theorem wi64 {n : Int} (h0 : 0 ≤ n) (h1 : n < 140737488355328) : IntKind.i64.wrap n = n := by
  unfold IntKind.wrap
  have hb : IntKind.i64.bits = 64 := rfl
  have hs : IntKind.i64.signed = true := rfl
  rw [hb, hs]
  simp
  omega
set_option maxHeartbeats 4000000 in
set_option maxRecDepth 100000 in
theorem calls119 (n : Int) (w : World) (R : Ending → World → Prop) (HW : IntKind.i64.wrap n = n) (d1 : decide (n < 0) = false) (d2 : decide (0 < n) = true) (va : Value) (w' : World) (g cap : Nat)
    (run : (Builtin.append_ #[27, 3] 27 #[.slice none 0 0, .int .i64 n]).run Try.prog w = .ok (.slice (some ⟨g, 0, none⟩) n.toNat cap) w') (hR : R (.returned (.slice (some ⟨g, 0, none⟩) 0 cap)) w') :
    Calls Try.prog 119 #[.slice none 0 0, .int .i64 n] w R := by
  go_enter Try.func119, Try.ntmps119
  go_wp2_with (first | (at_builtin; refine Lib.wpList_append_run _ rfl _ _ _ _ rfl _ _ rfl rfl _ _ run ?_))
  exact hR
set_option maxHeartbeats 4000000 in
set_option maxRecDepth 100000 in
theorem calls119z (w : World) (R : Ending → World → Prop) (hR : R (.returned (.slice none 0 0)) w) :
    Calls Try.prog 119 #[.slice none 0 0, .int .i64 0] w R := by
  go_enter Try.func119, Try.ntmps119
  go_wp2
  exact hR
set_option maxHeartbeats 4000000 in
set_option maxRecDepth 100000 in
theorem calls120z (c : Nat) (w : World) (R : Ending → World → Prop) (hR : R (.returned (.slice none 0 0)) w) :
    Calls Try.prog 120 #[.slice none 0 c] w R := by
  have hq : (binOp .eql 27 (.slice none 0 c) (.slice none 0 0)).run Try.prog w = .ok (.bool true) w := Lib.run_eql_slice_nil w 27 5 none 0 c 0 0 (by kernel_rfl)
  go_enter Try.func120, Try.ntmps120
  go_wp2
  exact hR
set_option maxHeartbeats 4000000 in
set_option maxRecDepth 100000 in
theorem calls120 (A : Addr) (n c : Nat) (w : World) (R : Ending → World → Prop) (v' : Value) (w' : World)
    (run : (Builtin.append_ #[27, 27] 27 #[.slice (some ⟨w.heap.size, 0, none⟩) 0 0, .slice (some A) n c]).run Try.prog (w.alloc (.cells #[] 5)) = .ok v' w') (hR : R (.returned v') w') :
    Calls Try.prog 120 #[.slice (some A) n c] w R := by
  have hq : (binOp .eql 27 (.slice (some A) n c) (.slice none 0 0)).run Try.prog w = .ok (.bool false) w := Lib.run_eql_slice_nil w 27 5 (some A) n c 0 0 (by kernel_rfl)
  go_enter Try.func120, Try.ntmps120
  go_wp2_with (first | (at_builtin; refine Lib.wpList_append_run _ rfl _ _ _ _ rfl _ _ rfl rfl _ _ run ?_))
  exact hR
theorem info5 : ∃ i, Try.prog.info? 5 = some i ∧ i.zero = some (.int .u8 0) ∧ i.size = 1 ∧ i.bytes = 1 :=
  ⟨(Try.prog.info? 5).get (by kernel_rfl), (Option.some_get _).symm, by kernel_rfl, by kernel_rfl, by kernel_rfl⟩
theorem und27 : Try.prog.underlying 27 = some (.slice 5) := by kernel_rfl
theorem und3 : Try.prog.underlying 3 = some (.int .i64) := by kernel_rfl
/-- One own slice, as an answer. -/
theorem res_own {w w' : World} {N : Nat → Prop} {T : TypeId} {e : Ty} {xs : List e.den} {v : Value} {inner : List Value} (ho : w'.ownsRow w.heap.size T e.sz v xs.length inner)
    (hr : repsOf (rep w' (fun b => b < w'.heap.size ∧ (b < w.heap.size → N b) ∧ b ∉ owned [(some T, .sl e)] [v]) e) xs inner) : ResV w w' N (.one (some T) (.sl e)) xs v := by
  refine ⟨⟨⟨inner, ho, hr⟩, rfl⟩, ?_⟩
  show (v.ownBlock.toList ++ []).Nodup
  cases v.ownBlock <;> simp
/-- One slice that may be read, as an answer. -/
theorem res_sl {w w' : World} {N : Nat → Prop} {e : Ty} {xs : List e.den} {v : Value} (h : rep w' (fun b => b < w'.heap.size ∧ (b < w.heap.size → N b) ∧ b ∉ owned [(none, .sl e)] [v]) (.sl e) xs [v]) : ResV w w' N (.one none (.sl e)) xs v :=
  ⟨⟨⟨[v], rfl, h⟩, rfl⟩, by simp [owned, own1]⟩
theorem ext119 {n : Int} (h0 : 0 ≤ n) (h1 : n < 140737488355328) : CallOk Try.prog (shOf 119) 119 [.nilS, .v (.int .i64) n] ([] : List Int) := by
  refine .inl ⟨⟨Try.f119, Try.func119, by kernel_rfl, rfl⟩, fun w N vargs hv => ?_⟩
  obtain ⟨u, v, rfl, hu, hv'⟩ : ∃ u v, vargs = [u, v] ∧ V (argVw w N) .nilS u ∧ V (argVw w N) (.v (.int .i64) n) v := by
    match vargs, hv with
    | [u, v], ⟨a, b, _⟩ => exact ⟨u, v, rfl, a, b⟩
  have hu' : u = .slice none 0 0 := hu
  have hv2 : v = .int .i64 n := V_int hv'
  subst hu' hv2
  show Calls Try.prog 119 #[.slice none 0 0, .int .i64 n] w _
  by_cases hz : n = 0
  · subst hz
    exact calls119z w _ ⟨_, rfl, Below.refl _ _, res_own (e := .int .u8) (xs := []) (World.ownsRow_nil _ _ _ _) rfl⟩
  · obtain ⟨i5, hi5, hz5, hs5, hb5⟩ := info5
    obtain ⟨k, rfl⟩ : ∃ k : Nat, n = (k : Int) := ⟨n.toNat, by omega⟩
    have run := Lib.run_append_nil_zeros (P := Try.prog) w 27 3 27 5 i5 (.int .u8 0) .i64 .i64 und27 und3 hi5 hz5 k (by omega) (by omega) (by omega) (by rw [hb5]; omega)
    generalize hcap : grownCap w k 0 5 = cap at run
    have hc1 : k ≤ cap := hcap ▸ grownCap_ge w k 0 5
    have hc2 : cap ≤ maxLen := hcap ▸ grownCap_le_maxLen w k 0 5 (by simp only [maxLen]; omega)
    refine calls119 k w _ (wi64 h0 h1) (decide_eq_false (by omega)) (decide_eq_true (by omega)) (.int .u8 0) _ _ _ run ?_
    refine ⟨_, rfl, ((Below.refl _ w).drew).alloc (Nat.le_refl _) _, res_own (e := .int .u8) (xs := []) (World.ownsRow_made w.drew _ cap (Nat.le_refl _) hc2 ?_) rfl⟩
    rw [Array.size_append, size_zeroCells, size_zeroCells]
    show k * 1 + (cap - k) * 1 = cap * 1
    omega
theorem ext120 {xs : List Int} (hl : xs.length ≤ 140737488355328) : CallOk Try.prog (shOf 120) 120 [.v (.sl (.int .u8)) xs] xs := by
  refine .inl ⟨⟨Try.f120, Try.func120, by kernel_rfl, rfl⟩, fun w N vargs hv => ?_⟩
  obtain ⟨u, rfl, hu⟩ : ∃ u, vargs = [u] ∧ V (argVw w N) (.v (.sl (.int .u8)) xs) u := by
    match vargs, hv with
    | [u], ⟨a, _⟩ => exact ⟨u, rfl, a⟩
  obtain ⟨A, c, inner, he, hle, hr, hcell⟩ := (show rep w (argVw w N).N (.sl (.int .u8)) xs [u] from hu)
  have hu' : u = .slice A xs.length c := (List.cons.inj he).1
  subst hu'
  have hlen := reps_len (e := .int .u8) xs inner hr
  have hlen' : inner.length = xs.length := by rw [hlen]; exact Nat.mul_one _
  cases A with
  | none =>
    have hin : inner = [] := hcell.resolve_right (fun ⟨ad, h, _⟩ => by cases h)
    have hx : xs = [] := List.eq_nil_of_length_eq_zero (by rw [← hlen', hin]; rfl)
    subst hx
    exact calls120z c w _ ⟨_, rfl, Below.refl _ _, res_sl (e := .int .u8) (xs := []) ⟨none, 0, [], rfl, Nat.le_refl _, rfl, .inl rfl⟩⟩
  | some ad =>
    obtain ⟨i5, hi5, hz5, hs5, hb5⟩ := info5
    have hsrc : Src Try.prog i5.size 27 (.slice (some ad) xs.length c) xs.length inner (w.alloc (.cells #[] 5)) := by
      rcases hcell with hin | ⟨ad', h, hq, hc2⟩
      · subst hin
        have h0 : xs.length = 0 := by rw [← hlen']; rfl
        rw [h0]
        exact Src.ofSlice _ und27 ad 0 c [] (by simp) (by simp) (fun u hu => by cases hu)
      · cases h
        refine Src.ofSlice _ und27 ad xs.length c inner (by rw [hlen', hs5]; omega) (fun j u hj => ?_) (reps_one (e := .int .u8) xs inner hr)
        have h3 := hc2 j u hj
        rw [← h3]
        exact World.cell?_of_block (by
          have hk := addr_key h3
          rw [hk]
          exact Below.heap_alloc w _ _ (show ad.block < w.heap.size from hq.1))
    obtain ⟨v', w', hrun, h1, h2, h3, _⟩ := append_owned (P := Try.prog) (w := w.alloc (.cells #[] 5)) w.heap.size 27 27 27 5 i5 (.int .u8 0) und27 hi5 hz5 (by rw [hs5]; rfl) (by omega) (by omega)
      (.slice (some ⟨w.heap.size, 0, none⟩) 0 0) 0 [] (World.ownsRow_made w #[] 0 (Nat.le_refl _) (Nat.zero_le _) (by simp)) (.slice (some ad) xs.length c) xs.length inner hsrc (by rw [hb5]; omega) (by simp)
    refine calls120 ad xs.length c w _ v' w' hrun ⟨_, rfl, ?_, res_sl (e := .int .u8) (xs := xs) ?_⟩
    · exact (((Below.refl _ w).alloc (Nat.le_refl _) _).grown h2 (by simp) (fun k hk => by
        have hk' : some w.heap.size = some k := hk
        cases hk'
        exact Nat.le_refl _))
    · rw [hs5] at h1
      rw [Nat.zero_add, List.nil_append] at h1
      rcases h1.2 with ⟨rfl, h0⟩ | ⟨g, cap, cur, rfl, hbg, hg, hn, hrest⟩
      · have hx : xs = [] := List.eq_nil_of_length_eq_zero h0
        subst hx
        exact ⟨none, 0, [], rfl, Nat.le_refl _, rfl, .inl rfl⟩
      · refine ⟨some ⟨g, 0, none⟩, cap, inner, rfl, hn, repsOf_imp (rep_noSl (.int .u8) rfl) xs inner hr, .inr ⟨_, rfl, ⟨(Array.getElem?_eq_some_iff.1 hg).1, fun hlt => absurd (show g < w.heap.size from hlt) (by have : w.heap.size ≤ g := hbg; omega), fun h => by cases h⟩, fun j u hj => h1.cells rfl j u hj⟩⟩
end Go.Eng.Bk
/- table.users: its contract. -/
namespace Go.Eng.Bk
open Go Go.Proofs Go.Eng Go.RowKit
set_option linter.unusedVariables false
set_option linter.unusedSimpArgs false
set_option maxRecDepth 100000
section
variable (call : CallT B) (inl : InlT) (m : Nat)
def s84_2 (a0 : (List En)) (x0 : (List ByteArray)) (x1 : Int) : St := { t := [.bad, .bad, .nilS, (.own 0 9 .str (x0)), .bad, .bad, (.v (.sl EntryT) (a0)), (.v (.int .i64) ((↑(List.length a0) : Int))), (.v (.int .i64) (x1)), .bad, .bad, .bad, .bad, .bad, .bad, .bad, .bad, .bad, .bad, (.raw undef), (.raw undef)], bx := [none], live := 1, g := [] }
def s84_2x3 (y0 : (List ByteArray)) : St := { t := [.bad, .bad, .nilS, (.own 0 9 .str (y0)), .bad, .bad, .bad, .bad, .bad, .bad, .bad, .bad, .bad, .bad, .bad, .bad, .bad, .bad, .bad, (.raw undef), (.raw undef)], bx := [none, none], live := 1, g := [] }
theorem s84_2_l {R : Type} (K : AEx → St → Option R) (a0 : (List En)) (x0 : (List ByteArray)) (x1 : Int) : LP B call inl 84 (m + 1) [1, 1, 0, 1] (s84_2 a0 x0 x1) K = (bif decide (x1 < (↑(List.length a0) : Int)) then (if (0 : Int) ≤ x1 ∧ x1 < (↑(List.length a0) : Int) then (if (x0.length + [(List.getD a0 x1.toNat (((ByteArray.mk #[]), (0 : Int), (0 : Int), ()), (ByteArray.mk #[]), ())).fst.fst].length) * (16 : Nat) ≤ 140737488355328 then (LP B call inl 84 m [1, 1, 0, 1] (s84_2 a0 (x0 ++ [(List.getD a0 x1.toNat (((ByteArray.mk #[]), (0 : Int), (0 : Int), ()), (ByteArray.mk #[]), ())).fst.fst]) (IntKind.i64.wrap (x1 + (1 : Int)))) K) else (none)) else (none)) else (K (.exit 0) (s84_2x3 x0))) := by kernel_rfl
end
noncomputable def code84 : Code := (Try.f84.body).getD .skip
noncomputable def u0 : Code := sq1 code84
noncomputable def u1 : Code := sq1 (sq2 code84)
noncomputable def ul : Code := sq1 (sq2 (sq2 code84))
noncomputable def u7 : Code := sq1 (sq2 (sq2 (sq2 code84)))
theorem code84_eq : Try.f84.body = some (.seq u0 (.seq u1 (.seq ul (.seq u7 .ret)))) := by kernel_rfl
theorem nt84 : Try.f84.ntmps = 21 := by kernel_rfl
def sA (l : List En) : St := ⟨[.v (.sl EntryT) l, .raw undef, .nilS] ++ rawU 18, [none], 0, []⟩
def sB (l : List En) : St := ⟨[.v (.sl EntryT) l, .raw undef, .nilS, .nilS] ++ rawU 17, [none, none], 0, []⟩
noncomputable def k84 (call : CallT B) (inl : InlT) (n : Nat) : AEx → St → Option (AEx × St) := kontAt (mkC B call inl) (B.keep 84) (iter (mkC B call inl) (B.keep 84) n) ul [1] pairK
section
variable (call : CallT B) (inl : InlT)
theorem u0_eq (l : List En) : aCode (mkC B call inl) (B.keep 84) (fun _ _ _ => none) u0 (st0 [.v (.sl EntryT) l] 21) pairK = pairK .normal (sA l) := by kernel_rfl
theorem u1_eq (l : List En) : aCode (mkC B call inl) (B.keep 84) (fun _ _ _ => none) u1 (sA l) pairK = pairK .normal (sB l) := by kernel_rfl
theorem ul_eq (n : Nat) (l : List En) : aCode (mkC B call inl) (B.keep 84) (iter (mkC B call inl) (B.keep 84) n) ul (sB l) pairK = LP B call inl 84 n [1, 1, 0, 1] (s84_2 l [] 0) (k84 call inl n) := by kernel_rfl
theorem uk_eq (n : Nat) (out : List ByteArray) : k84 call inl n (.exit 0) (s84_2x3 out) = some (.normal, s84_2x3 out) := by kernel_rfl
end
theorem l84 {call : CallT B} {inl : InlT} {l : List En} (hl : l.length * 16 ≤ 140737488355328) {R : Type} (K : AEx → St → Option R) (d : Nat) : ∀ (i m : Nat), i + d = l.length → d < m →
    LP B call inl 84 m [1, 1, 0, 1] (s84_2 l ((l.take i).map fun e => e.1.1) (i : Int)) K = K (.exit 0) (s84_2x3 (l.map fun e => e.1.1)) := by
  induction d with
  | zero =>
    intro i m hd hm
    obtain ⟨m, rfl⟩ : ∃ k, m = k + 1 := ⟨m - 1, by omega⟩
    rw [s84_2_l, bF (by omega), List.take_of_length_le (by omega)]
  | succ d ih =>
    intro i m hd hm
    obtain ⟨m, rfl⟩ : ∃ k, m = k + 1 := ⟨m - 1, by omega⟩
    rw [s84_2_l, bT (by omega), if_pos (by omega), if_pos (by rw [List.length_map, List.length_take]; simp only [List.length_cons, List.length_nil]; omega), Int.toNat_natCast, w64 (x := (i : Int) + 1) (by omega) (by omega)]
    have e : ((l.take i).map fun e => e.1.1) ++ [(l.getD i noEn).1.1] = (l.take (i + 1)).map fun e => e.1.1 := by
      rw [List.take_succ_eq_append_getElem (show i < l.length by omega), List.map_append, getD_lt' (show i < l.length by omega)]
      rfl
    have e' : ((l.take i).map fun e => e.1.1) ++ [(List.getD l i (((ByteArray.mk #[]), (0 : Int), (0 : Int), ()), (ByteArray.mk #[]), ())).1.1] = (l.take (i + 1)).map fun e => e.1.1 := e
    rw [e']
    exact ih (i + 1) m (by omega) (by omega)
end Go.Eng.Bk
/- table.users: its end, its contract. -/
namespace Go.Eng.Bk
open Go Go.Proofs Go.Eng Go.RowKit
set_option linter.unusedVariables false
set_option linter.unusedSimpArgs false
set_option maxRecDepth 100000
noncomputable def o7 (i : Nat) : Oper := ((opsOf u7)[i]?).getD noOper
theorem u7_eq : u7 = .region 7 (opsOf u7) false := by kernel_rfl
theorem u7_size : (opsOf u7).size = 3 := by kernel_rfl
theorem u7_0 : (opsOf u7)[0]? = some (o7 0) := by kernel_rfl
theorem u7_1 : (opsOf u7)[1]? = some (o7 1) := by kernel_rfl
theorem u7_2 : (opsOf u7)[2]? = some (o7 2) := by kernel_rfl
theorem o70_op : (o7 0).op = .move (.tmp 3) := by kernel_rfl
theorem o72_op : (o7 2).op = .assign (.tmp 20) := by kernel_rfl
theorem o71_op : ∃ c, (o7 1).op = .call c ∧ c.callee = .value (.func 107) ∧ c.args = #[.tmp 19] := ⟨(match (o7 1).op with | .call c => c | _ => { callee := .value (.func 0), args := #[], argTypes := #[] }), by kernel_rfl, by kernel_rfl, by kernel_rfl⟩
theorem o70_dst : (o7 0).dst = some 19 := by kernel_rfl
theorem o71_dst : (o7 1).dst = some 20 := by kernel_rfl
theorem o72_dst : (o7 2).dst = some 2 := by kernel_rfl
theorem o70_g : (o7 0).guard = none := by kernel_rfl
theorem o71_g : (o7 1).guard = none := by kernel_rfl
theorem o72_g : (o7 2).guard = none := by kernel_rfl
theorem fn107 : ∃ fn, Try.prog.funcs[107]? = some fn ∧ (fn.name == "runtime.NumGoroutine") = false ∧ fn.body.isNone = false := ⟨Try.f107, Try.func107, by kernel_rfl, rfl⟩
theorem getD_put (A : Array Value) (d : Nat) (v : Value) (h : d < A.size) : (A.setIfInBounds d v).getD d undef = v := by
  rw [Array.getD_eq_getD_getElem?, Array.getElem?_setIfInBounds_self_of_lt h]; rfl
/-- The last region, and the end. -/
theorem u7_walk {w : World} {a : Act} {v3 : Value} (hsz : a.tmps.size = 21) (hd : a.defers = []) (h3 : a.eval (.tmp 3) = v3) {R : Ending → World → Prop}
    (hcall : Calls Try.prog 107 #[v3] w fun e w' => ∃ v, e = .returned v ∧ R (.returned v) w') : (Code.seq u7 .ret).wp Try.prog (bodyPost Try.prog Try.f84 R) a w := by
  refine wp_seq ?_
  rw [u7_eq]
  refine wp_region ?_
  rw [u7_size]
  show wpOps Try.prog (opsOf u7) _ [0, 1, 2] a w
  refine wpOps_plain u7_0 o70_g (wp_value (v := a.eval (.tmp 3)) (w' := w) (by simp [execOp, o70_op]) ?_)
  rw [o70_dst, h3]
  refine wpOps_plain u7_1 o71_g ?_
  obtain ⟨c, hop, hc, hargs⟩ := o71_op
  obtain ⟨fn, hfn, hname, hbody⟩ := fn107
  have hname' : ¬ fn.name = "runtime.NumGoroutine" := by simpa using hname
  have e19 : (a.put (some 19) v3).tmps.getD 19 undef = v3 := getD_put a.tmps 19 v3 (by omega)
  have hrun : (execOp (a.put (some 19) v3).eval (o7 1)).run Try.prog w = .ok (.enter 107 #[v3]) w := by
    simp only [execOp, hop, resolve, hc, hargs, Act.eval, Deferred.ofValue, Sem.run_bind, Sem.run_pure, Result.andThen_ok, invoke, callFunc, run_program]
    rw [hfn]
    simp only
    rw [if_neg (by simpa using hname'), if_neg (by simp [hbody])]
    simp [Act.eval, e19]
  unfold Oper.wp
  rw [hrun]
  show Calls Try.prog 107 _ w _
  refine hcall.mono ?_
  rintro e w' ⟨v, rfl, hR⟩
  show wpOps Try.prog (opsOf u7) _ [2] _ w'
  rw [o71_dst]
  refine wpOps_plain u7_2 o72_g (wp_value (v := ((a.put (some 19) v3).put (some 20) v).eval (.tmp 20)) (w' := w') (by simp [execOp, o72_op]) ?_)
  rw [o72_dst]
  have e20 : ((a.put (some 19) v3).put (some 20) v).eval (.tmp 20) = v := getD_put _ 20 v (by show 20 < (a.tmps.setIfInBounds 19 v3).size; rw [Array.size_setIfInBounds]; omega)
  rw [e20]
  show Code.ret.wp Try.prog _ _ w'
  refine wp_ret ?_
  refine ⟨hd, v, ?_, hR⟩
  have e2 : (((a.put (some 19) v3).put (some 20) v).put (some 2) v).tmps.getD 2 undef = v := getD_put _ 2 v (by show 2 < ((a.tmps.setIfInBounds 19 v3).setIfInBounds 20 v).size; rw [Array.size_setIfInBounds, Array.size_setIfInBounds]; omega)
  have hres : Try.f84.results = #[.tmp 2] := by kernel_rfl
  have := results_tmp hres (((a.put (some 19) v3).put (some 20) v).put (some 2) v).tmps Try.prog w'
  rw [e2] at this
  exact this
theorem reps_strs {w : World} {N : Nat → Prop} : ∀ (xs : List ByteArray) (cs : List Value), repsOf (rep w N .str) xs cs → cs = xs.map Value.string
  | [], _, h => h
  | x :: xs, _, ⟨c0, c1, e, h0, h1⟩ => by
    rw [e, reps_strs xs _ h1, show c0 = [.string x] from h0]
    rfl
theorem strs_reps {w : World} {N : Nat → Prop} : ∀ (xs : List ByteArray), repsOf (rep w N .str) xs (xs.map Value.string)
  | [] => rfl
  | x :: xs => ⟨[.string x], xs.map Value.string, rfl, rfl, strs_reps xs⟩
theorem setCells_blk (b : Nat) {T : TypeId} {f : Nat × Nat} : ∀ (vs : List Value) (o : Nat) (w : World) (cur : Array Value), w.heap[b]? = some (.cells cur T f) → ∃ cur', (w.setCells b o vs).heap[b]? = some (.cells cur' T f) ∧ cur'.size = cur.size
  | [], _, _, cur, h => ⟨cur, h, rfl⟩
  | v :: r, o, w, cur, h => by
    have h1 : (w.setCell ⟨b, o, none⟩ v).heap[b]? = some (.cells (cur.setIfInBounds o v) T f) := by
      show (w.heap.modify b _)[b]? = _
      rw [Array.getElem?_modify, if_pos rfl, h]
      rfl
    obtain ⟨cur', e1, e2⟩ := setCells_blk b r (o + 1) _ _ h1
    exact ⟨cur', e1, by rw [e2, Array.size_setIfInBounds]⟩
theorem below_cells {B b : Nat} {a : World} (hb : B ≤ b) : ∀ (vs : List Value) (o : Nat) (w : World), Below B a w → Below B a (w.setCells b o vs)
  | [], _, _, h => h
  | v :: r, o, w, h => below_cells hb r (o + 1) _ (h.setCell hb v)
/-- Compact, on a row of the frame's own. -/
theorem compact_calls {w0 w : World} {N : Nat → Prop} {out : List ByteArray} {v3 : Value} (ho : w.ownsRow w0.heap.size 9 1 v3 out.length (out.map Value.string)) (hb : Below w0.heap.size w0 w) :
    Calls Try.prog 107 #[v3] w fun e w' => ∃ v, e = .returned v ∧ Below w0.heap.size w0 w' ∧ ResV w0 w' N (.one (some 9) (.sl .str)) (cmpct out) v := by
  have hempty : ∀ (A : Option Addr) (cap : Nat), out.length = 0 → v3 = .slice A out.length cap → Calls Try.prog 107 #[v3] w fun e w' => ∃ v, e = .returned v ∧ Below w0.heap.size w0 w' ∧ ResV w0 w' N (.one (some 9) (.sl .str)) (cmpct out) v := by
    intro A cap h0 hv
    have hx : out = [] := List.eq_nil_of_length_eq_zero h0
    subst hx
    subst hv
    refine (Any.slices_Compact_string_empty lay194 A cap w).mono ?_
    rintro e w' ⟨rfl, rfl⟩
    exact ⟨_, rfl, hb, res_own (e := .str) (xs := []) (inner := []) ho rfl⟩
  rcases ho.2 with ⟨rfl, h0⟩ | ⟨g, cap, cur, rfl, hg, hh, hn, hcm, hcs, htk⟩
  · exact hempty none 0 h0 (by rw [h0])
  by_cases h0 : out.length = 0
  · exact hempty (some ⟨g, 0, none⟩) cap h0 rfl
  have hcell : ∀ i, i < out.length → w.cell? ⟨g, 0 + i, none⟩ = some (.string (out.getD i (ByteArray.mk #[]))) := fun i hi => by
    have hadd : (⟨g, 0, none⟩ : Addr).add i = ⟨g, 0 + i, none⟩ := by unfold Addr.add; split <;> simp_all
    rw [← hadd]
    refine ho.cells rfl i _ ?_
    rw [List.getElem?_map, List.getElem?_eq_getElem hi, getD_lt' hi]
    rfl
  have hfro : ∀ j, j < out.length → w.frozen? ⟨g, 0 + j, none⟩ = false := fun j hj => by
    simp only [World.frozen?, hh]
    simp
  have hstr : Lib.strsOf (fun i => out.getD i (ByteArray.mk #[])) out.length = out.map fun s => s.data.toList := by
    unfold Lib.strsOf
    refine List.ext_getElem (by simp) (fun i h1 h2 => ?_)
    have hi : i < out.length := by simpa using h2
    rw [List.getElem_map, List.getElem_map, List.getElem_range]
    show (out.getD i (ByteArray.mk #[])).data.toList = _
    rw [getD_lt' hi]
  refine (Any.slices_Compact_string_cells lay194 g 0 out.length cap (fun i => out.getD i (ByteArray.mk #[])) w (by simp only [maxLen] at hcm; omega) hn hcell hfro).mono ?_
  rintro e w' ⟨rfl, q, rfl⟩
  rw [hstr]
  obtain ⟨us, hus⟩ : ∃ us, Lib.compact (out.map fun s => s.data.toList) = us := ⟨_, rfl⟩
  rw [hus]
  have hcl : us.length ≤ out.length := by
    have := Lib.compact_length_le (out.map fun s => s.data.toList)
    rw [hus, List.length_map] at this
    exact this
  have hcm' : cmpct out = us.map fun u => ByteArray.mk u.toArray := by unfold cmpct; rw [hus]
  obtain ⟨ys, hys⟩ : ∃ ys, (us ++ List.replicate (out.length - us.length) []).map Go.Proofs.encStr = ys := ⟨_, rfl⟩
  rw [hys]
  have hyl : ys.length = out.length := by rw [← hys, List.length_map, List.length_append, List.length_replicate]; omega
  obtain ⟨cur', hh', hs'⟩ := setCells_blk g ys 0 (w.drewN q) cur hh
  refine ⟨_, rfl, below_cells hg ys 0 _ ⟨hb.os, hb.tape, hb.output, hb.size, hb.block⟩, ?_⟩
  have hlen : (cmpct out).length = us.length := by rw [hcm', List.length_map]
  refine res_own (e := .str) (xs := cmpct out) (inner := (cmpct out).map Value.string) ?_ (strs_reps _)
  rw [hlen]
  have hsz : Ty.sz .str = 1 := rfl
  rw [hsz]
  refine ⟨by rw [List.length_map, hlen, Nat.mul_one], .inr ⟨g, cap, cur', rfl, hg, hh', by omega, hcm, by rw [hs', hcs], ?_⟩⟩
  rw [Nat.mul_one]
  have hcell' := World.cell?_setCells_in g ys 0 (w.drewN q) (fun j hj => by
    have := hcell j (by omega)
    rw [show (w.drewN q).cell? ⟨g, 0 + j, none⟩ = w.cell? ⟨g, 0 + j, none⟩ from rfl, this]
    rfl)
  refine List.ext_getElem? (fun i => ?_)
  rw [List.getElem?_take]
  split
  · rename_i hi
    have hiy : i < ys.length := by omega
    have h1 := hcell' i hiy
    have h2 : cur'[i]? = some ys[i] := by
      have e0 : ((w.drewN q).setCells g 0 ys).cell? ⟨g, 0 + i, none⟩ = cur'[i]? := by
        simp [World.cell?, hh']
      rw [← e0]
      exact h1
    rw [Array.getElem?_toList, h2]
    have e1 : ys[i]? = some ys[i] := List.getElem?_eq_getElem hiy
    have hla : i < (us.map Go.Proofs.encStr).length := by rw [List.length_map]; exact hi
    rw [← e1, ← hys, hcm', List.map_append, List.getElem?_append_left hla, List.map_map]
    rfl
  · rename_i hi
    rw [List.getElem?_eq_none (by rw [List.length_map, hlen]; omega)]
theorem con84 {call : CallT B} {inl : InlT} (hΓ : CallsOk (mkC B call inl)) {l : List En} (hl : l.length * 16 ≤ 140737488355328) : CallOk Try.prog (shOf 84) 84 [.v (.sl EntryT) l] (cmpct (l.map fun e => e.1.1)) := by
  refine .inl ⟨⟨Try.f84, Try.func84, by kernel_rfl, rfl⟩, fun w N vargs hv => ?_⟩
  have hst := start_inv hv 21
  refine calls_of_wp Try.func84 code84_eq ?_
  rw [nt84]
  have hL : LOk (R := AEx × St) (mkC B call inl) (fun _ _ _ => none) := fun c s K r h => by cases h
  refine wp_seq (wp_mono (aCode_sound hΓ (keep := B.keep 84) hL u0 _ pairK (u0_eq call inl l) mp0 _ w hst) (fun e a1 w1 hq => ?_))
  obtain ⟨e', s', m1, q1, q2, q3⟩ := hq
  have q1' : some (e', s') = some (AEx.normal, sA l) := q1
  obtain ⟨rfl, rfl⟩ := Prod.mk.inj (Option.some.inj q1')
  cases e <;> first | exact q2.elim | skip
  refine wp_seq (wp_mono (aCode_sound hΓ (keep := B.keep 84) hL u1 _ pairK (u1_eq call inl l) m1 a1 w1 q3) (fun e a2 w2 hq => ?_))
  obtain ⟨e', s', m2, q1, q2, q4⟩ := hq
  have q1' : some (e', s') = some (AEx.normal, sB l) := q1
  obtain ⟨rfl, rfl⟩ := Prod.mk.inj (Option.some.inj q1')
  cases e <;> first | exact q2.elim | skip
  have hloop : aCode (mkC B call inl) (B.keep 84) (iter (mkC B call inl) (B.keep 84) (l.length + 1)) ul (sB l) pairK = some (.normal, s84_2x3 (l.map fun e => e.1.1)) :=
    (ul_eq call inl (l.length + 1) l).trans ((l84 hl _ l.length 0 (l.length + 1) (by omega) (by omega)).trans (uk_eq call inl _ _))
  refine wp_seq (wp_mono (aCode_sound hΓ (keep := B.keep 84) (iter_ok hΓ (l.length + 1)) ul _ pairK hloop m2 a2 w2 q4) (fun e a3 w3 hq => ?_))
  obtain ⟨e', s', m3, q1, q2, q5⟩ := hq
  have q1' : some (e', s') = some (AEx.normal, s84_2x3 (l.map fun e => e.1.1)) := q1
  obtain ⟨rfl, rfl⟩ := Prod.mk.inj (Option.some.inj q1')
  cases e <;> first | exact q2.elim | skip
  obtain ⟨_, _, hO⟩ := (show _ ∧ _ ∧ _ from q5.ev (.tmp 3))
  obtain ⟨inner, ho, _, hr, _⟩ := hO (show hasBit 1 0 = true by decide)
  have hin := reps_strs _ inner hr
  rw [hin] at ho
  exact u7_walk q5.tlen q5.defers rfl ((compact_calls (w0 := w) (N := N) ho q5.below).mono (fun e w' ⟨v, h1, h2, h3⟩ => ⟨v, h1, v, rfl, h2, h3⟩))
end Go.Eng.Bk
/- The functions that are answered for by hand have their contracts: the base is sound. -/
namespace Go.Eng.Bk
open Go Go.Proofs Go.Eng
set_option linter.unusedVariables false
theorem ite_some {c : Prop} [Decidable c] {α : Type} {x : Option α} {r : α} (h : (if c then x else none) = some r) : c ∧ x = some r := by
  by_cases hc : c
  · rw [if_pos hc] at h; exact ⟨hc, h⟩
  · rw [if_neg hc] at h; cases h
theorem spOk (f : FuncId) (g) (args : List AV) (r : (B.sh f).den) (h : B.sp f = some g) (h2 : g args = some r) : CallOk B.P (B.sh f) f args r := by
  have h' : spOf f = some g := h
  unfold spOf at h'
  split at h'
  · cases h'
    simp only at h2
    split at h2
    · cases h2; exact ext64
    · cases h2
  · cases h'
    simp only at h2
    split at h2
    · cases h2; exact ext65
    · cases h2
  · cases h'
    simp only at h2
    split at h2
    · split at h2
      · cases h2
      · rename_i hn
        cases h2; exact ext92 (by simpa using hn)
    · cases h2
  · cases h'
    simp only at h2
    split at h2
    · split at h2
      · rename_i hn
        cases h2; exact ext119 hn.1 hn.2
      · cases h2
    · cases h2
  · cases h'
    simp only at h2
    split at h2
    · split at h2
      · rename_i hn
        cases h2; exact ext120 hn
      · cases h2
    · cases h2
  · cases h'
theorem spcOk (call : CallT B) (inl : InlT) (hΓ : CallsOk (mkC B call inl)) (f : FuncId) (g) (args : List AV) (r : (B.sh f).den) (h : B.spc f = some g) (h2 : g call args = some r) : CallOk B.P (B.sh f) f args r := by
  have h' : spcOf f = some g := h
  unfold spcOf at h'
  split at h'
  · cases h'
    simp only at h2
    split at h2
    · split at h2
      · rename_i hn
        cases h2; exact con84 hΓ hn
      · cases h2
    · cases h2
  · cases h'
    simp only at h2
    split at h2
    · obtain ⟨hn, h3⟩ := ite_some h2
      exact con82 hΓ hn.1 hn.2.1 hn.2.2.1 hn.2.2.2 h3
    · cases h2
  · cases h'
theorem bok : BaseOk B := ⟨names_of (by kernel_rfl), spOk, spcOk⟩
end Go.Eng.Bk
