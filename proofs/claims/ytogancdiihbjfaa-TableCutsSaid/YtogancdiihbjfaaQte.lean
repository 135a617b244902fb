/- Qt, part 5: several texts of mine, laid together. -/
import Derived.Test.YtogancdiihbjfaaQtd
set_option linter.unusedVariables false
set_option linter.unusedSimpArgs false
/- What the machine answers at some functions of the program: printed by the generator, each checked by the kernel. -/
namespace Go.Eng.Bk
open Go Go.Proofs Go.Eng
set_option linter.unusedVariables false
set_option maxRecDepth 100000
section
variable (call : CallT B) (inl : InlT) (m : Nat)
/-! function 33 -/
def s33_18 (a0 : (List Int)) (a1 : Int) (x4 : Int) (x5 : (List En)) : St := { t := [(.v (.sl (.int .u8)) (a0)), (.v (.int .u8) (a1)), .bad, .bad, .nilS, (.ptr 0 0), (.v (.int .i64) (x4)), .bad, .bad, .bad, .bad, .bad, .bad, .bad, .bad, .bad, .bad, .bad, .bad, .bad, .bad, .bad, .bad, .bad, .bad, .bad, .bad, .bad, .bad, .bad, .bad, .bad, .bad, .bad, .bad, .bad, .bad, .bad, .bad, .bad, .bad, .bad, .bad, .bad, .bad, (.raw undef), (.raw undef), (.raw undef), (.raw undef)], bx := [(some (101, [(.own 0 26 EntryT (x5))])), none], live := 1, g := [] }
def c33_66_21 (y0 : (List Int)) (y1 : Int) (y2 : Int) (y3 : (List En)) (y4 : ByteArray) (y5 : ByteArray) : St := { t := [(.v (.sl (.int .u8)) (y0)), (.v (.int .u8) (y1)), .bad, .bad, .nilS, (.ptr 0 0), (.v (.int .i64) (y2)), (.v (.int .i64) (IntKind.i64.wrap (List.getD y0 y2.toNat (0 : Int)))), (.ptr 26 0), .bad, .bad, (.v (.int .i64) (y2)), (.v (.sl (.int .u8)) (y0)), (.v (.int .i64) ((↑(List.length y0) : Int))), (.v .bool (decide (y2 < (↑(List.length y0) : Int)))), .bad, .bad, (.v (.sl (.int .u8)) (y0)), (.v (.int .i64) (y2)), (.ro [(.v (.int .u8) (List.getD y0 y2.toNat (0 : Int)))]), (.v (.int .u8) (List.getD y0 y2.toNat (0 : Int))), (.v (.int .i64) (IntKind.i64.wrap (List.getD y0 y2.toNat (0 : Int)))), (.v (.int .i64) (IntKind.i64.wrap (List.getD y0 y2.toNat (0 : Int)))), (.v (.int .u8) (y1)), (.v (.int .i64) (IntKind.i64.wrap y1)), (.v (.int .i64) ((IntKind.i64.wrap y1).tmod (40 : Int))), (.v (.int .i64) (IntKind.i64.wrap ((3 : Int) + (IntKind.i64.wrap y1).tmod (40 : Int)))), (.v (.int .i64) ((IntKind.i64.wrap (List.getD y0 y2.toNat (0 : Int))).tmod (IntKind.i64.wrap ((3 : Int) + (IntKind.i64.wrap y1).tmod (40 : Int))))), (.v .str (y4)), (.v .str ((ByteArray.mk #[(107 : UInt8), (101 : UInt8), (121 : UInt8)]) ++ y4)), (.v (.int .i64) (y2)), (.v (.int .i64) (IntKind.i64.wrap ((1 : Int) + y2))), (.agg [(.v .str ((ByteArray.mk #[(107 : UInt8), (101 : UInt8), (121 : UInt8)]) ++ y4)), (.v (.int .i64) (IntKind.i64.wrap ((1 : Int) + y2))), (.v (.int .i64) ((1 : Int)))]), (.v (.int .i64) (IntKind.i64.wrap (List.getD y0 y2.toNat (0 : Int)))), (.v .str (y5)), (.agg [(.v .str ((ByteArray.mk #[(107 : UInt8), (101 : UInt8), (121 : UInt8)]) ++ y4)), (.v (.int .i64) (IntKind.i64.wrap ((1 : Int) + y2))), (.v (.int .i64) ((1 : Int))), (.v .str (y5))]), (.v (.int .i64) (IntKind.i64.wrap (List.getD y0 y2.toNat (0 : Int)))), (.v (.int .i64) ((IntKind.i64.wrap (List.getD y0 y2.toNat (0 : Int))).tmod (7 : Int))), (.v .bool ((IntKind.i64.wrap (List.getD y0 y2.toNat (0 : Int))).tmod (7 : Int) == (0 : Int))), (.ptr 26 0), (.ptr 26 2), (.ptr 26 3), (.ptr 0 0), (.agg [(.v .str ((ByteArray.mk #[(107 : UInt8), (101 : UInt8), (121 : UInt8)]) ++ y4)), (.v (.int .i64) (IntKind.i64.wrap ((1 : Int) + y2))), (.v (.int .i64) ((2 : Int))), (.v .str ((ByteArray.mk #[])))]), .bad, (.raw undef), (.raw undef), (.raw undef), (.raw undef)], bx := [(some (101, [(.own 0 26 EntryT (y3))])), none, none, none, none, none, none, none, none, none, none, none, none, none, none, none, none, none, none, none, none, none, none, none, none, none, (some (26, [(.v .str ((ByteArray.mk #[(107 : UInt8), (101 : UInt8), (121 : UInt8)]) ++ y4)), (.v (.int .i64) (IntKind.i64.wrap ((1 : Int) + y2))), (.v (.int .i64) ((2 : Int))), (.v .str ((ByteArray.mk #[])))])), none, none, none, none, none, none, none, none, none, none, none, none], live := 1, g := [] }
def c33_66_21r23 (y0 : (List Int)) (y1 : Int) (y2 : Int) (y3 : (List En)) (y4 : ByteArray) (y5 : ByteArray) : St := { t := [(.v (.sl (.int .u8)) (y0)), (.v (.int .u8) (y1)), .bad, .bad, .nilS, (.ptr 0 0), (.v (.int .i64) (y2)), (.v (.int .i64) (IntKind.i64.wrap (List.getD y0 y2.toNat (0 : Int)))), (.ptr 26 0), .bad, .bad, (.v (.int .i64) (y2)), (.v (.sl (.int .u8)) (y0)), (.v (.int .i64) ((↑(List.length y0) : Int))), (.v .bool (decide (y2 < (↑(List.length y0) : Int)))), .bad, .bad, (.v (.sl (.int .u8)) (y0)), (.v (.int .i64) (y2)), (.ro [(.v (.int .u8) (List.getD y0 y2.toNat (0 : Int)))]), (.v (.int .u8) (List.getD y0 y2.toNat (0 : Int))), (.v (.int .i64) (IntKind.i64.wrap (List.getD y0 y2.toNat (0 : Int)))), (.v (.int .i64) (IntKind.i64.wrap (List.getD y0 y2.toNat (0 : Int)))), (.v (.int .u8) (y1)), (.v (.int .i64) (IntKind.i64.wrap y1)), (.v (.int .i64) ((IntKind.i64.wrap y1).tmod (40 : Int))), (.v (.int .i64) (IntKind.i64.wrap ((3 : Int) + (IntKind.i64.wrap y1).tmod (40 : Int)))), (.v (.int .i64) ((IntKind.i64.wrap (List.getD y0 y2.toNat (0 : Int))).tmod (IntKind.i64.wrap ((3 : Int) + (IntKind.i64.wrap y1).tmod (40 : Int))))), (.v .str (y4)), (.v .str ((ByteArray.mk #[(107 : UInt8), (101 : UInt8), (121 : UInt8)]) ++ y4)), (.v (.int .i64) (y2)), (.v (.int .i64) (IntKind.i64.wrap ((1 : Int) + y2))), (.agg [(.v .str ((ByteArray.mk #[(107 : UInt8), (101 : UInt8), (121 : UInt8)]) ++ y4)), (.v (.int .i64) (IntKind.i64.wrap ((1 : Int) + y2))), (.v (.int .i64) ((1 : Int)))]), (.v (.int .i64) (IntKind.i64.wrap (List.getD y0 y2.toNat (0 : Int)))), (.v .str (y5)), (.agg [(.v .str ((ByteArray.mk #[(107 : UInt8), (101 : UInt8), (121 : UInt8)]) ++ y4)), (.v (.int .i64) (IntKind.i64.wrap ((1 : Int) + y2))), (.v (.int .i64) ((1 : Int))), (.v .str (y5))]), (.v (.int .i64) (IntKind.i64.wrap (List.getD y0 y2.toNat (0 : Int)))), (.v (.int .i64) ((IntKind.i64.wrap (List.getD y0 y2.toNat (0 : Int))).tmod (7 : Int))), (.v .bool ((IntKind.i64.wrap (List.getD y0 y2.toNat (0 : Int))).tmod (7 : Int) == (0 : Int))), (.ptr 26 0), (.ptr 26 2), (.ptr 26 3), (.ptr 0 0), (.agg [(.v .str ((ByteArray.mk #[(107 : UInt8), (101 : UInt8), (121 : UInt8)]) ++ y4)), (.v (.int .i64) (IntKind.i64.wrap ((1 : Int) + y2))), (.v (.int .i64) ((2 : Int))), (.v .str ((ByteArray.mk #[])))]), .bad, (.raw undef), (.raw undef), (.raw undef), (.raw undef)], bx := [(some (101, [(.own 0 26 EntryT (y3))])), none, none, none, none, none, none, none, none, none, none, none, none, none, none, none, none, none, none, none, none, none, none, none, none, none, (some (26, [(.v .str ((ByteArray.mk #[(107 : UInt8), (101 : UInt8), (121 : UInt8)]) ++ y4)), (.v (.int .i64) (IntKind.i64.wrap ((1 : Int) + y2))), (.v (.int .i64) ((2 : Int))), (.v .str ((ByteArray.mk #[])))])), none, none, none, none, none, none, none, none, none, none, none, none, (some (26, [(.v .str ((ByteArray.mk #[(107 : UInt8), (101 : UInt8), (121 : UInt8)]) ++ y4)), (.v (.int .i64) (IntKind.i64.wrap ((1 : Int) + y2))), (.v (.int .i64) ((2 : Int))), (.v .str ((ByteArray.mk #[])))])), none, none, none, none, none], live := 1, g := [] }
def s66_27 (a0 : (List Int)) (a1 : Int) (x4 : Int) (x5 : (List En)) (v19 : ByteArray) (v20 : ByteArray) (x25 : Int) : St := { t := [(.ptr 0 0), .bad, .bad, (.ptr 1 0), (.v .bool (false)), (.v (.int .i64) (x25)), (.raw undef), .bad, .bad, .bad, .bad, .bad, .bad, .bad, .bad, .bad, .bad, .bad, .bad, .bad, .bad, .bad, .bad, .bad, .bad, .bad, .bad, .bad, .bad, .bad, .bad, .bad, .bad, (.raw undef), (.raw undef), (.raw undef), (.raw undef), (.raw undef), (.raw undef), (.raw undef), (.raw undef), (.raw undef), (.raw undef), (.raw undef), (.raw undef), (.raw undef), (.raw undef), (.raw undef), (.raw undef), (.raw undef), (.raw undef), (.raw undef), (.raw undef), (.raw undef), (.raw undef), (.raw undef), (.raw undef), (.raw undef), (.raw undef), (.raw undef), (.raw undef), (.raw undef), (.raw undef), (.raw undef), (.raw undef), (.raw undef), (.raw undef), (.raw undef), (.raw undef), (.raw undef), (.raw undef), (.raw undef), (.raw undef), (.raw undef), (.raw undef), (.raw undef)], bx := [(some (101, [(.own 0 26 EntryT (x5))])), (some (26, [(.v .str ((ByteArray.mk #[(107 : UInt8), (101 : UInt8), (121 : UInt8)]) ++ v19)), (.v (.int .i64) (IntKind.i64.wrap ((1 : Int) + x4))), (.v (.int .i64) ((2 : Int))), (.v .str ((ByteArray.mk #[])))])), (some (26, [(.v .str ((ByteArray.mk #[(107 : UInt8), (101 : UInt8), (121 : UInt8)]) ++ v19)), (.v (.int .i64) (IntKind.i64.wrap ((1 : Int) + x4))), (.v (.int .i64) ((2 : Int))), (.v .str ((ByteArray.mk #[])))])), none], live := 1, g := [(.v (.sl (.int .u8)) (a0)), (.v (.int .u8) (a1)), .bad, .bad, .nilS, (.ptr 0 0), (.v (.int .i64) (x4)), (.v (.int .i64) (IntKind.i64.wrap (List.getD a0 x4.toNat (0 : Int)))), (.ptr 2 0), .bad, .bad, (.v (.int .i64) (x4)), (.v (.sl (.int .u8)) (a0)), (.v (.int .i64) ((↑(List.length a0) : Int))), (.v .bool (decide (x4 < (↑(List.length a0) : Int)))), .bad, .bad, (.v (.sl (.int .u8)) (a0)), (.v (.int .i64) (x4)), .bad, (.v (.int .u8) (List.getD a0 x4.toNat (0 : Int))), (.v (.int .i64) (IntKind.i64.wrap (List.getD a0 x4.toNat (0 : Int)))), (.v (.int .i64) (IntKind.i64.wrap (List.getD a0 x4.toNat (0 : Int)))), (.v (.int .u8) (a1)), (.v (.int .i64) (IntKind.i64.wrap a1)), (.v (.int .i64) ((IntKind.i64.wrap a1).tmod (40 : Int))), (.v (.int .i64) (IntKind.i64.wrap ((3 : Int) + (IntKind.i64.wrap a1).tmod (40 : Int)))), (.v (.int .i64) ((IntKind.i64.wrap (List.getD a0 x4.toNat (0 : Int))).tmod (IntKind.i64.wrap ((3 : Int) + (IntKind.i64.wrap a1).tmod (40 : Int))))), (.v .str (v19)), (.v .str ((ByteArray.mk #[(107 : UInt8), (101 : UInt8), (121 : UInt8)]) ++ v19)), (.v (.int .i64) (x4)), (.v (.int .i64) (IntKind.i64.wrap ((1 : Int) + x4))), (.agg [(.v .str ((ByteArray.mk #[(107 : UInt8), (101 : UInt8), (121 : UInt8)]) ++ v19)), (.v (.int .i64) (IntKind.i64.wrap ((1 : Int) + x4))), (.v (.int .i64) ((1 : Int)))]), (.v (.int .i64) (IntKind.i64.wrap (List.getD a0 x4.toNat (0 : Int)))), (.v .str (v20)), (.agg [(.v .str ((ByteArray.mk #[(107 : UInt8), (101 : UInt8), (121 : UInt8)]) ++ v19)), (.v (.int .i64) (IntKind.i64.wrap ((1 : Int) + x4))), (.v (.int .i64) ((1 : Int))), (.v .str (v20))]), (.v (.int .i64) (IntKind.i64.wrap (List.getD a0 x4.toNat (0 : Int)))), (.v (.int .i64) ((IntKind.i64.wrap (List.getD a0 x4.toNat (0 : Int))).tmod (7 : Int))), (.v .bool ((IntKind.i64.wrap (List.getD a0 x4.toNat (0 : Int))).tmod (7 : Int) == (0 : Int))), (.ptr 2 0), (.ptr 2 2), (.ptr 2 3), (.ptr 0 0), (.agg [(.v .str ((ByteArray.mk #[(107 : UInt8), (101 : UInt8), (121 : UInt8)]) ++ v19)), (.v (.int .i64) (IntKind.i64.wrap ((1 : Int) + x4))), (.v (.int .i64) ((2 : Int))), (.v .str ((ByteArray.mk #[])))]), .bad, (.raw undef), (.raw undef), (.raw undef), (.raw undef)] }
def s66_27x29 (y0 : (List Int)) (y1 : Int) (y2 : Int) (y3 : (List En)) (y4 : ByteArray) (y5 : ByteArray) (y6 : Int) : St := { t := [(.ptr 0 0), .bad, .bad, (.ptr 1 0), (.v .bool (false)), (.v (.int .i64) (y6)), (.raw undef), .bad, .bad, .bad, .bad, .bad, .bad, .bad, .bad, .bad, .bad, .bad, .bad, .bad, .bad, .bad, .bad, .bad, .bad, .bad, .bad, .bad, .bad, .bad, .bad, .bad, .bad, (.raw undef), (.raw undef), (.raw undef), (.raw undef), (.raw undef), (.raw undef), (.raw undef), (.raw undef), (.raw undef), (.raw undef), (.raw undef), (.raw undef), (.raw undef), (.raw undef), (.raw undef), (.raw undef), (.raw undef), (.raw undef), (.raw undef), (.raw undef), (.raw undef), (.raw undef), (.raw undef), (.raw undef), (.raw undef), (.raw undef), (.raw undef), (.raw undef), (.raw undef), (.raw undef), (.raw undef), (.raw undef), (.raw undef), (.raw undef), (.raw undef), (.raw undef), (.raw undef), (.raw undef), (.raw undef), (.raw undef), (.raw undef), (.raw undef), (.raw undef)], bx := [(some (101, [(.own 0 26 EntryT (y3))])), (some (26, [(.v .str ((ByteArray.mk #[(107 : UInt8), (101 : UInt8), (121 : UInt8)]) ++ y4)), (.v (.int .i64) (IntKind.i64.wrap ((1 : Int) + y2))), (.v (.int .i64) ((2 : Int))), (.v .str ((ByteArray.mk #[])))])), (some (26, [(.v .str ((ByteArray.mk #[(107 : UInt8), (101 : UInt8), (121 : UInt8)]) ++ y4)), (.v (.int .i64) (IntKind.i64.wrap ((1 : Int) + y2))), (.v (.int .i64) ((2 : Int))), (.v .str ((ByteArray.mk #[])))])), none, none, none, none, none, none, none, none, none, none, none, none, none, none, none, none, none, none, none, none, none, none], live := 1, g := [(.v (.sl (.int .u8)) (y0)), (.v (.int .u8) (y1)), .bad, .bad, .nilS, (.ptr 0 0), (.v (.int .i64) (y2)), (.v (.int .i64) (IntKind.i64.wrap (List.getD y0 y2.toNat (0 : Int)))), (.ptr 2 0), .bad, .bad, (.v (.int .i64) (y2)), (.v (.sl (.int .u8)) (y0)), (.v (.int .i64) ((↑(List.length y0) : Int))), (.v .bool (decide (y2 < (↑(List.length y0) : Int)))), .bad, .bad, (.v (.sl (.int .u8)) (y0)), (.v (.int .i64) (y2)), .bad, (.v (.int .u8) (List.getD y0 y2.toNat (0 : Int))), (.v (.int .i64) (IntKind.i64.wrap (List.getD y0 y2.toNat (0 : Int)))), (.v (.int .i64) (IntKind.i64.wrap (List.getD y0 y2.toNat (0 : Int)))), (.v (.int .u8) (y1)), (.v (.int .i64) (IntKind.i64.wrap y1)), (.v (.int .i64) ((IntKind.i64.wrap y1).tmod (40 : Int))), (.v (.int .i64) (IntKind.i64.wrap ((3 : Int) + (IntKind.i64.wrap y1).tmod (40 : Int)))), (.v (.int .i64) ((IntKind.i64.wrap (List.getD y0 y2.toNat (0 : Int))).tmod (IntKind.i64.wrap ((3 : Int) + (IntKind.i64.wrap y1).tmod (40 : Int))))), (.v .str (y4)), (.v .str ((ByteArray.mk #[(107 : UInt8), (101 : UInt8), (121 : UInt8)]) ++ y4)), (.v (.int .i64) (y2)), (.v (.int .i64) (IntKind.i64.wrap ((1 : Int) + y2))), (.agg [(.v .str ((ByteArray.mk #[(107 : UInt8), (101 : UInt8), (121 : UInt8)]) ++ y4)), (.v (.int .i64) (IntKind.i64.wrap ((1 : Int) + y2))), (.v (.int .i64) ((1 : Int)))]), (.v (.int .i64) (IntKind.i64.wrap (List.getD y0 y2.toNat (0 : Int)))), (.v .str (y5)), (.agg [(.v .str ((ByteArray.mk #[(107 : UInt8), (101 : UInt8), (121 : UInt8)]) ++ y4)), (.v (.int .i64) (IntKind.i64.wrap ((1 : Int) + y2))), (.v (.int .i64) ((1 : Int))), (.v .str (y5))]), (.v (.int .i64) (IntKind.i64.wrap (List.getD y0 y2.toNat (0 : Int)))), (.v (.int .i64) ((IntKind.i64.wrap (List.getD y0 y2.toNat (0 : Int))).tmod (7 : Int))), (.v .bool ((IntKind.i64.wrap (List.getD y0 y2.toNat (0 : Int))).tmod (7 : Int) == (0 : Int))), (.ptr 2 0), (.ptr 2 2), (.ptr 2 3), (.ptr 0 0), (.agg [(.v .str ((ByteArray.mk #[(107 : UInt8), (101 : UInt8), (121 : UInt8)]) ++ y4)), (.v (.int .i64) (IntKind.i64.wrap ((1 : Int) + y2))), (.v (.int .i64) ((2 : Int))), (.v .str ((ByteArray.mk #[])))]), .bad, (.raw undef), (.raw undef), (.raw undef), (.raw undef)] }
theorem s66_27_l {R : Type} (K : AEx → St → Option R) (a0 : (List Int)) (a1 : Int) (x4 : Int) (x5 : (List En)) (v19 : ByteArray) (v20 : ByteArray) (x25 : Int) : LP B call inl 66 (m + 1) [1, 1, 1, 0] (s66_27 a0 a1 x4 x5 v19 v20 x25) K = (bif decide (x25 < (↑x5.length : Int)) == true then (if (0 : Int) ≤ x25 ∧ x25 < (↑x5.length : Int) then ((call 81 [(.agg [(.v .str ((x5.getD x25.toNat (((ByteArray.mk #[]), (0 : Int), (0 : Int), ()), (ByteArray.mk #[]), ())).fst.fst)), (.v (.int .i64) ((x5.getD x25.toNat (((ByteArray.mk #[]), (0 : Int), (0 : Int), ()), (ByteArray.mk #[]), ())).fst.snd.fst)), (.v (.int .i64) ((x5.getD x25.toNat (((ByteArray.mk #[]), (0 : Int), (0 : Int), ()), (ByteArray.mk #[]), ())).fst.snd.snd.fst))]), (.agg [(.v .str ((ByteArray.mk #[(107 : UInt8), (101 : UInt8), (121 : UInt8)]) ++ v19)), (.v (.int .i64) (IntKind.i64.wrap ((1 : Int) + x4))), (.v (.int .i64) ((2 : Int)))])]).bind fun (v28 : Int) => bif decide (v28 < (0 : Int)) then (LP B call inl 66 m [1, 1, 1, 0] (s66_27 a0 a1 x4 x5 v19 v20 (IntKind.i64.wrap (x25 + (1 : Int)))) K) else (K (.exit 0) (s66_27x29 a0 a1 x4 x5 v19 v20 x25))) else (none)) else (K (.exit 0) (s66_27x29 a0 a1 x4 x5 v19 v20 x25))) := by kernel_rfl
def c33_66_21r31 (y0 : (List Int)) (y1 : Int) (y2 : Int) (y3 : (List En)) (y4 : ByteArray) (y5 : ByteArray) : St := { t := [(.v (.sl (.int .u8)) (y0)), (.v (.int .u8) (y1)), .bad, .bad, .nilS, (.ptr 0 0), (.v (.int .i64) (y2)), (.v (.int .i64) (IntKind.i64.wrap (List.getD y0 y2.toNat (0 : Int)))), (.ptr 2 0), .bad, .bad, (.v (.int .i64) (y2)), (.v (.sl (.int .u8)) (y0)), (.v (.int .i64) ((↑(List.length y0) : Int))), (.v .bool (decide (y2 < (↑(List.length y0) : Int)))), .bad, .bad, (.v (.sl (.int .u8)) (y0)), (.v (.int .i64) (y2)), .bad, (.v (.int .u8) (List.getD y0 y2.toNat (0 : Int))), (.v (.int .i64) (IntKind.i64.wrap (List.getD y0 y2.toNat (0 : Int)))), (.v (.int .i64) (IntKind.i64.wrap (List.getD y0 y2.toNat (0 : Int)))), (.v (.int .u8) (y1)), (.v (.int .i64) (IntKind.i64.wrap y1)), (.v (.int .i64) ((IntKind.i64.wrap y1).tmod (40 : Int))), (.v (.int .i64) (IntKind.i64.wrap ((3 : Int) + (IntKind.i64.wrap y1).tmod (40 : Int)))), (.v (.int .i64) ((IntKind.i64.wrap (List.getD y0 y2.toNat (0 : Int))).tmod (IntKind.i64.wrap ((3 : Int) + (IntKind.i64.wrap y1).tmod (40 : Int))))), (.v .str (y4)), (.v .str ((ByteArray.mk #[(107 : UInt8), (101 : UInt8), (121 : UInt8)]) ++ y4)), (.v (.int .i64) (y2)), (.v (.int .i64) (IntKind.i64.wrap ((1 : Int) + y2))), (.agg [(.v .str ((ByteArray.mk #[(107 : UInt8), (101 : UInt8), (121 : UInt8)]) ++ y4)), (.v (.int .i64) (IntKind.i64.wrap ((1 : Int) + y2))), (.v (.int .i64) ((1 : Int)))]), (.v (.int .i64) (IntKind.i64.wrap (List.getD y0 y2.toNat (0 : Int)))), (.v .str (y5)), (.agg [(.v .str ((ByteArray.mk #[(107 : UInt8), (101 : UInt8), (121 : UInt8)]) ++ y4)), (.v (.int .i64) (IntKind.i64.wrap ((1 : Int) + y2))), (.v (.int .i64) ((1 : Int))), (.v .str (y5))]), (.v (.int .i64) (IntKind.i64.wrap (List.getD y0 y2.toNat (0 : Int)))), (.v (.int .i64) ((IntKind.i64.wrap (List.getD y0 y2.toNat (0 : Int))).tmod (7 : Int))), (.v .bool ((IntKind.i64.wrap (List.getD y0 y2.toNat (0 : Int))).tmod (7 : Int) == (0 : Int))), (.ptr 2 0), (.ptr 2 2), (.ptr 2 3), (.ptr 0 0), (.agg [(.v .str ((ByteArray.mk #[(107 : UInt8), (101 : UInt8), (121 : UInt8)]) ++ y4)), (.v (.int .i64) (IntKind.i64.wrap ((1 : Int) + y2))), (.v (.int .i64) ((2 : Int))), (.v .str ((ByteArray.mk #[])))]), .bad, (.raw undef), (.raw undef), (.raw undef), (.raw undef)], bx := [(some (101, [(.own 0 26 EntryT (y3))])), (some (26, [(.v .str ((ByteArray.mk #[(107 : UInt8), (101 : UInt8), (121 : UInt8)]) ++ y4)), (.v (.int .i64) (IntKind.i64.wrap ((1 : Int) + y2))), (.v (.int .i64) ((2 : Int))), (.v .str ((ByteArray.mk #[])))])), (some (26, [(.v .str ((ByteArray.mk #[(107 : UInt8), (101 : UInt8), (121 : UInt8)]) ++ y4)), (.v (.int .i64) (IntKind.i64.wrap ((1 : Int) + y2))), (.v (.int .i64) ((2 : Int))), (.v .str ((ByteArray.mk #[])))])), none, none, none, none, none, none, none, none, none, none, none, none, none, none, none, none, none, none, none, none, none, none, none, none, none, none, none, none, none, none, none, none, none, none, none, none, none, none, none, none, none, none, none], live := 1, g := [] }
def c33_66_21r32 (y0 : (List Int)) (y1 : Int) (y2 : Int) (y3 : (List En)) (y4 : ByteArray) (y5 : ByteArray) (y6 : Int) : St := { t := [(.v (.sl (.int .u8)) (y0)), (.v (.int .u8) (y1)), .bad, .bad, .nilS, (.ptr 0 0), (.v (.int .i64) (y2)), (.v (.int .i64) (IntKind.i64.wrap (List.getD y0 y2.toNat (0 : Int)))), (.ptr 2 0), .bad, .bad, (.v (.int .i64) (y2)), (.v (.sl (.int .u8)) (y0)), (.v (.int .i64) ((↑(List.length y0) : Int))), (.v .bool (decide (y2 < (↑(List.length y0) : Int)))), .bad, .bad, (.v (.sl (.int .u8)) (y0)), (.v (.int .i64) (y2)), .bad, (.v (.int .u8) (List.getD y0 y2.toNat (0 : Int))), (.v (.int .i64) (IntKind.i64.wrap (List.getD y0 y2.toNat (0 : Int)))), (.v (.int .i64) (IntKind.i64.wrap (List.getD y0 y2.toNat (0 : Int)))), (.v (.int .u8) (y1)), (.v (.int .i64) (IntKind.i64.wrap y1)), (.v (.int .i64) ((IntKind.i64.wrap y1).tmod (40 : Int))), (.v (.int .i64) (IntKind.i64.wrap ((3 : Int) + (IntKind.i64.wrap y1).tmod (40 : Int)))), (.v (.int .i64) ((IntKind.i64.wrap (List.getD y0 y2.toNat (0 : Int))).tmod (IntKind.i64.wrap ((3 : Int) + (IntKind.i64.wrap y1).tmod (40 : Int))))), (.v .str (y4)), (.v .str ((ByteArray.mk #[(107 : UInt8), (101 : UInt8), (121 : UInt8)]) ++ y4)), (.v (.int .i64) (y2)), (.v (.int .i64) (IntKind.i64.wrap ((1 : Int) + y2))), (.agg [(.v .str ((ByteArray.mk #[(107 : UInt8), (101 : UInt8), (121 : UInt8)]) ++ y4)), (.v (.int .i64) (IntKind.i64.wrap ((1 : Int) + y2))), (.v (.int .i64) ((1 : Int)))]), (.v (.int .i64) (IntKind.i64.wrap (List.getD y0 y2.toNat (0 : Int)))), (.v .str (y5)), (.agg [(.v .str ((ByteArray.mk #[(107 : UInt8), (101 : UInt8), (121 : UInt8)]) ++ y4)), (.v (.int .i64) (IntKind.i64.wrap ((1 : Int) + y2))), (.v (.int .i64) ((1 : Int))), (.v .str (y5))]), (.v (.int .i64) (IntKind.i64.wrap (List.getD y0 y2.toNat (0 : Int)))), (.v (.int .i64) ((IntKind.i64.wrap (List.getD y0 y2.toNat (0 : Int))).tmod (7 : Int))), (.v .bool ((IntKind.i64.wrap (List.getD y0 y2.toNat (0 : Int))).tmod (7 : Int) == (0 : Int))), (.ptr 2 0), (.ptr 2 2), (.ptr 2 3), (.ptr 0 0), (.agg [(.v .str ((ByteArray.mk #[(107 : UInt8), (101 : UInt8), (121 : UInt8)]) ++ y4)), (.v (.int .i64) (IntKind.i64.wrap ((1 : Int) + y2))), (.v (.int .i64) ((2 : Int))), (.v .str ((ByteArray.mk #[])))]), .bad, (.raw undef), (.raw undef), (.raw undef), (.raw undef)], bx := [(some (101, [(.own 536 26 EntryT (List.drop (0 : Nat) (List.take y6.toNat y3) ++ [(((ByteArray.mk #[(107 : UInt8), (101 : UInt8), (121 : UInt8)]) ++ y4, IntKind.i64.wrap ((1 : Int) + y2), (2 : Int), ()), (ByteArray.mk #[]), ())] ++ List.drop y6.toNat (List.take y3.length y3)))])), (some (26, [(.v .str ((ByteArray.mk #[(107 : UInt8), (101 : UInt8), (121 : UInt8)]) ++ y4)), (.v (.int .i64) (IntKind.i64.wrap ((1 : Int) + y2))), (.v (.int .i64) ((2 : Int))), (.v .str ((ByteArray.mk #[])))])), (some (26, [(.v .str ((ByteArray.mk #[(107 : UInt8), (101 : UInt8), (121 : UInt8)]) ++ y4)), (.v (.int .i64) (IntKind.i64.wrap ((1 : Int) + y2))), (.v (.int .i64) ((2 : Int))), (.v .str ((ByteArray.mk #[])))])), none, none, none, none, none, none, none, none, none, none, none, none, none, none, none, none, none, none, none, none, none, none, none, none, none, none, none, none, none, none, none, none, none, none, none, none, none, none, none, none, none, none, none, none, none, none, none, none, none, none, none, none, none, none, none, none, none, none, none, none, none, none, none, none, none, none, none, none, none], live := 224945689727159819140526926111137817239091746464419639543042312984233239720892453797442233485833830970893968857867095469923978863537236590716603692577859821371393, g := [] }
theorem s66_27x29_k {R : Type} (K : AV → St → Option R) (a0 : (List Int)) (a1 : Int) (x4 : Int) (x5 : (List En)) (v19 : ByteArray) (v20 : ByteArray) (x25 : Int) : (KA B call inl 66 m [1, 1, 1, 0] (FN B call inl 66 49 K)) (.exit 0) (s66_27x29 a0 a1 x4 x5 v19 v20 x25) = (bif decide (x25 < (↑x5.length : Int)) == true then (if (0 : Int) ≤ x25 ∧ x25 < (↑x5.length : Int) then (bif ByteArray.toList (x5.getD x25.toNat (((ByteArray.mk #[]), (0 : Int), (0 : Int), ()), (ByteArray.mk #[]), ())).fst.fst == ByteArray.toList ((ByteArray.mk #[(107 : UInt8), (101 : UInt8), (121 : UInt8)]) ++ v19) && ((x5.getD x25.toNat (((ByteArray.mk #[]), (0 : Int), (0 : Int), ()), (ByteArray.mk #[]), ())).fst.snd.fst == IntKind.i64.wrap ((1 : Int) + x4) && (x5.getD x25.toNat (((ByteArray.mk #[]), (0 : Int), (0 : Int), ()), (ByteArray.mk #[]), ())).fst.snd.snd.fst == (2 : Int)) then (K (.v .bool (false)) (c33_66_21r31 a0 a1 x4 x5 v19 v20)) else (if (0 : Int) ≤ x25 ∧ x25 ≤ (↑x5.length : Int) then (if ((0 : Nat) + (List.drop (0 : Nat) (List.take x25.toNat x5)).length) * (48 : Nat) ≤ 140737488355328 then (if ((List.drop (0 : Nat) (List.take x25.toNat x5)).length + [(((ByteArray.mk #[(107 : UInt8), (101 : UInt8), (121 : UInt8)]) ++ v19, IntKind.i64.wrap ((1 : Int) + x4), (2 : Int), ()), (ByteArray.mk #[]), ())].length) * (48 : Nat) ≤ 140737488355328 then (if (0 : Int) ≤ x25 ∧ x25 ≤ (↑x5.length : Int) then (if ((List.drop (0 : Nat) (List.take x25.toNat x5) ++ [(((ByteArray.mk #[(107 : UInt8), (101 : UInt8), (121 : UInt8)]) ++ v19, IntKind.i64.wrap ((1 : Int) + x4), (2 : Int), ()), (ByteArray.mk #[]), ())]).length + (List.drop x25.toNat (List.take x5.length x5)).length) * (48 : Nat) ≤ 140737488355328 then (K (.v .bool (true)) (c33_66_21r32 a0 a1 x4 x5 v19 v20 x25)) else (none)) else (none)) else (none)) else (none)) else (none))) else (none)) else (if (0 : Int) ≤ x25 ∧ x25 ≤ (↑x5.length : Int) then (if ((0 : Nat) + (List.drop (0 : Nat) (List.take x25.toNat x5)).length) * (48 : Nat) ≤ 140737488355328 then (if ((List.drop (0 : Nat) (List.take x25.toNat x5)).length + [(((ByteArray.mk #[(107 : UInt8), (101 : UInt8), (121 : UInt8)]) ++ v19, IntKind.i64.wrap ((1 : Int) + x4), (2 : Int), ()), (ByteArray.mk #[]), ())].length) * (48 : Nat) ≤ 140737488355328 then (if (0 : Int) ≤ x25 ∧ x25 ≤ (↑x5.length : Int) then (if ((List.drop (0 : Nat) (List.take x25.toNat x5) ++ [(((ByteArray.mk #[(107 : UInt8), (101 : UInt8), (121 : UInt8)]) ++ v19, IntKind.i64.wrap ((1 : Int) + x4), (2 : Int), ()), (ByteArray.mk #[]), ())]).length + (List.drop x25.toNat (List.take x5.length x5)).length) * (48 : Nat) ≤ 140737488355328 then (K (.v .bool (true)) (c33_66_21r32 a0 a1 x4 x5 v19 v20 x25)) else (none)) else (none)) else (none)) else (none)) else (none))) := by kernel_rfl
theorem c33_66_21_i {R : Type} (K : AV → St → Option R) (a0 : (List Int)) (a1 : Int) (x4 : Int) (x5 : (List En)) (v19 : ByteArray) (v20 : ByteArray) : inlN B call inl m R 66 [(.ptr 0 0), (.agg [(.v .str ((ByteArray.mk #[(107 : UInt8), (101 : UInt8), (121 : UInt8)]) ++ v19)), (.v (.int .i64) (IntKind.i64.wrap ((1 : Int) + x4))), (.v (.int .i64) ((2 : Int))), (.v .str ((ByteArray.mk #[])))])] (c33_66_21 a0 a1 x4 x5 v19 v20) K = ((call 96 [(.agg [(.v .str ((ByteArray.mk #[(107 : UInt8), (101 : UInt8), (121 : UInt8)]) ++ v19)), (.v (.int .i64) (IntKind.i64.wrap ((1 : Int) + x4))), (.v (.int .i64) ((2 : Int))), (.v .str ((ByteArray.mk #[])))])]).bind fun (v22 : Bool) => bif !v22 then (K (.v .bool (false)) (c33_66_21r23 a0 a1 x4 x5 v19 v20)) else (LP B call inl 66 m [1, 1, 1, 0] (s66_27 a0 a1 x4 x5 v19 v20 ((0 : Int))) (KA B call inl 66 m [1, 1, 1, 0] (FN B call inl 66 49 K)))) := by kernel_rfl
theorem c33_66_21r23_k34 {R : Type} (K : AEx → St → Option R) (a0 : (List Int)) (a1 : Int) (x4 : Int) (x5 : (List En)) (v19 : ByteArray) (v20 : ByteArray) : (IN B call inl 33 m [1, 1, 0, 1] [1, 0, 1, 1, 1, 2] K) (.v .bool (false)) (c33_66_21r23 a0 a1 x4 x5 v19 v20) = (LP B call inl 33 m [1, 1, 0, 1] (s33_18 a0 a1 (IntKind.i64.wrap (x4 + (1 : Int))) (x5)) K) := by kernel_rfl
theorem c33_66_21r31_k39 {R : Type} (K : AEx → St → Option R) (a0 : (List Int)) (a1 : Int) (x4 : Int) (x5 : (List En)) (v19 : ByteArray) (v20 : ByteArray) : (IN B call inl 33 m [1, 1, 0, 1] [1, 0, 1, 1, 1, 2] K) (.v .bool (false)) (c33_66_21r31 a0 a1 x4 x5 v19 v20) = (LP B call inl 33 m [1, 1, 0, 1] (s33_18 a0 a1 (IntKind.i64.wrap (x4 + (1 : Int))) (x5)) K) := by kernel_rfl
theorem c33_66_21r32_k40 {R : Type} (K : AEx → St → Option R) (a0 : (List Int)) (a1 : Int) (x4 : Int) (x5 : (List En)) (v19 : ByteArray) (v20 : ByteArray) (x36 : Int) : (IN B call inl 33 m [1, 1, 0, 1] [1, 0, 1, 1, 1, 2] K) (.v .bool (true)) (c33_66_21r32 a0 a1 x4 x5 v19 v20 x36) = (LP B call inl 33 m [1, 1, 0, 1] (s33_18 a0 a1 (IntKind.i64.wrap (x4 + (1 : Int))) (List.drop (0 : Nat) (List.take x36.toNat x5) ++ [(((ByteArray.mk #[(107 : UInt8), (101 : UInt8), (121 : UInt8)]) ++ v19, IntKind.i64.wrap ((1 : Int) + x4), (2 : Int), ()), (ByteArray.mk #[]), ())] ++ List.drop x36.toNat (List.take x5.length x5))) K) := by kernel_rfl
def c33_66_41 (y0 : (List Int)) (y1 : Int) (y2 : Int) (y3 : (List En)) (y4 : ByteArray) (y5 : ByteArray) : St := { t := [(.v (.sl (.int .u8)) (y0)), (.v (.int .u8) (y1)), .bad, .bad, .nilS, (.ptr 0 0), (.v (.int .i64) (y2)), (.v (.int .i64) (IntKind.i64.wrap (List.getD y0 y2.toNat (0 : Int)))), (.ptr 26 0), .bad, .bad, (.v (.int .i64) (y2)), (.v (.sl (.int .u8)) (y0)), (.v (.int .i64) ((↑(List.length y0) : Int))), (.v .bool (decide (y2 < (↑(List.length y0) : Int)))), .bad, .bad, (.v (.sl (.int .u8)) (y0)), (.v (.int .i64) (y2)), (.ro [(.v (.int .u8) (List.getD y0 y2.toNat (0 : Int)))]), (.v (.int .u8) (List.getD y0 y2.toNat (0 : Int))), (.v (.int .i64) (IntKind.i64.wrap (List.getD y0 y2.toNat (0 : Int)))), (.v (.int .i64) (IntKind.i64.wrap (List.getD y0 y2.toNat (0 : Int)))), (.v (.int .u8) (y1)), (.v (.int .i64) (IntKind.i64.wrap y1)), (.v (.int .i64) ((IntKind.i64.wrap y1).tmod (40 : Int))), (.v (.int .i64) (IntKind.i64.wrap ((3 : Int) + (IntKind.i64.wrap y1).tmod (40 : Int)))), (.v (.int .i64) ((IntKind.i64.wrap (List.getD y0 y2.toNat (0 : Int))).tmod (IntKind.i64.wrap ((3 : Int) + (IntKind.i64.wrap y1).tmod (40 : Int))))), (.v .str (y4)), (.v .str ((ByteArray.mk #[(107 : UInt8), (101 : UInt8), (121 : UInt8)]) ++ y4)), (.v (.int .i64) (y2)), (.v (.int .i64) (IntKind.i64.wrap ((1 : Int) + y2))), (.agg [(.v .str ((ByteArray.mk #[(107 : UInt8), (101 : UInt8), (121 : UInt8)]) ++ y4)), (.v (.int .i64) (IntKind.i64.wrap ((1 : Int) + y2))), (.v (.int .i64) ((1 : Int)))]), (.v (.int .i64) (IntKind.i64.wrap (List.getD y0 y2.toNat (0 : Int)))), (.v .str (y5)), (.agg [(.v .str ((ByteArray.mk #[(107 : UInt8), (101 : UInt8), (121 : UInt8)]) ++ y4)), (.v (.int .i64) (IntKind.i64.wrap ((1 : Int) + y2))), (.v (.int .i64) ((1 : Int))), (.v .str (y5))]), (.v (.int .i64) (IntKind.i64.wrap (List.getD y0 y2.toNat (0 : Int)))), (.v (.int .i64) ((IntKind.i64.wrap (List.getD y0 y2.toNat (0 : Int))).tmod (7 : Int))), (.v .bool ((IntKind.i64.wrap (List.getD y0 y2.toNat (0 : Int))).tmod (7 : Int) == (0 : Int))), .bad, .bad, .bad, (.ptr 0 0), (.agg [(.v .str ((ByteArray.mk #[(107 : UInt8), (101 : UInt8), (121 : UInt8)]) ++ y4)), (.v (.int .i64) (IntKind.i64.wrap ((1 : Int) + y2))), (.v (.int .i64) ((1 : Int))), (.v .str (y5))]), .bad, (.raw undef), (.raw undef), (.raw undef), (.raw undef)], bx := [(some (101, [(.own 0 26 EntryT (y3))])), none, none, none, none, none, none, none, none, none, none, none, none, none, none, none, none, none, none, none, none, none, none, none, none, none, (some (26, [(.v .str ((ByteArray.mk #[(107 : UInt8), (101 : UInt8), (121 : UInt8)]) ++ y4)), (.v (.int .i64) (IntKind.i64.wrap ((1 : Int) + y2))), (.v (.int .i64) ((1 : Int))), (.v .str (y5))])), none, none, none, none, none, none, none], live := 1, g := [] }
def c33_66_41r43 (y0 : (List Int)) (y1 : Int) (y2 : Int) (y3 : (List En)) (y4 : ByteArray) (y5 : ByteArray) : St := { t := [(.v (.sl (.int .u8)) (y0)), (.v (.int .u8) (y1)), .bad, .bad, .nilS, (.ptr 0 0), (.v (.int .i64) (y2)), (.v (.int .i64) (IntKind.i64.wrap (List.getD y0 y2.toNat (0 : Int)))), (.ptr 26 0), .bad, .bad, (.v (.int .i64) (y2)), (.v (.sl (.int .u8)) (y0)), (.v (.int .i64) ((↑(List.length y0) : Int))), (.v .bool (decide (y2 < (↑(List.length y0) : Int)))), .bad, .bad, (.v (.sl (.int .u8)) (y0)), (.v (.int .i64) (y2)), (.ro [(.v (.int .u8) (List.getD y0 y2.toNat (0 : Int)))]), (.v (.int .u8) (List.getD y0 y2.toNat (0 : Int))), (.v (.int .i64) (IntKind.i64.wrap (List.getD y0 y2.toNat (0 : Int)))), (.v (.int .i64) (IntKind.i64.wrap (List.getD y0 y2.toNat (0 : Int)))), (.v (.int .u8) (y1)), (.v (.int .i64) (IntKind.i64.wrap y1)), (.v (.int .i64) ((IntKind.i64.wrap y1).tmod (40 : Int))), (.v (.int .i64) (IntKind.i64.wrap ((3 : Int) + (IntKind.i64.wrap y1).tmod (40 : Int)))), (.v (.int .i64) ((IntKind.i64.wrap (List.getD y0 y2.toNat (0 : Int))).tmod (IntKind.i64.wrap ((3 : Int) + (IntKind.i64.wrap y1).tmod (40 : Int))))), (.v .str (y4)), (.v .str ((ByteArray.mk #[(107 : UInt8), (101 : UInt8), (121 : UInt8)]) ++ y4)), (.v (.int .i64) (y2)), (.v (.int .i64) (IntKind.i64.wrap ((1 : Int) + y2))), (.agg [(.v .str ((ByteArray.mk #[(107 : UInt8), (101 : UInt8), (121 : UInt8)]) ++ y4)), (.v (.int .i64) (IntKind.i64.wrap ((1 : Int) + y2))), (.v (.int .i64) ((1 : Int)))]), (.v (.int .i64) (IntKind.i64.wrap (List.getD y0 y2.toNat (0 : Int)))), (.v .str (y5)), (.agg [(.v .str ((ByteArray.mk #[(107 : UInt8), (101 : UInt8), (121 : UInt8)]) ++ y4)), (.v (.int .i64) (IntKind.i64.wrap ((1 : Int) + y2))), (.v (.int .i64) ((1 : Int))), (.v .str (y5))]), (.v (.int .i64) (IntKind.i64.wrap (List.getD y0 y2.toNat (0 : Int)))), (.v (.int .i64) ((IntKind.i64.wrap (List.getD y0 y2.toNat (0 : Int))).tmod (7 : Int))), (.v .bool ((IntKind.i64.wrap (List.getD y0 y2.toNat (0 : Int))).tmod (7 : Int) == (0 : Int))), .bad, .bad, .bad, (.ptr 0 0), (.agg [(.v .str ((ByteArray.mk #[(107 : UInt8), (101 : UInt8), (121 : UInt8)]) ++ y4)), (.v (.int .i64) (IntKind.i64.wrap ((1 : Int) + y2))), (.v (.int .i64) ((1 : Int))), (.v .str (y5))]), .bad, (.raw undef), (.raw undef), (.raw undef), (.raw undef)], bx := [(some (101, [(.own 0 26 EntryT (y3))])), none, none, none, none, none, none, none, none, none, none, none, none, none, none, none, none, none, none, none, none, none, none, none, none, none, (some (26, [(.v .str ((ByteArray.mk #[(107 : UInt8), (101 : UInt8), (121 : UInt8)]) ++ y4)), (.v (.int .i64) (IntKind.i64.wrap ((1 : Int) + y2))), (.v (.int .i64) ((1 : Int))), (.v .str (y5))])), none, none, none, none, none, none, none, (some (26, [(.v .str ((ByteArray.mk #[(107 : UInt8), (101 : UInt8), (121 : UInt8)]) ++ y4)), (.v (.int .i64) (IntKind.i64.wrap ((1 : Int) + y2))), (.v (.int .i64) ((1 : Int))), (.v .str (y5))])), none, none, none, none, none], live := 1, g := [] }
def s66_47 (a0 : (List Int)) (a1 : Int) (x4 : Int) (x5 : (List En)) (v19 : ByteArray) (v20 : ByteArray) (x45 : Int) : St := { t := [(.ptr 0 0), .bad, .bad, (.ptr 1 0), (.v .bool (false)), (.v (.int .i64) (x45)), (.raw undef), .bad, .bad, .bad, .bad, .bad, .bad, .bad, .bad, .bad, .bad, .bad, .bad, .bad, .bad, .bad, .bad, .bad, .bad, .bad, .bad, .bad, .bad, .bad, .bad, .bad, .bad, (.raw undef), (.raw undef), (.raw undef), (.raw undef), (.raw undef), (.raw undef), (.raw undef), (.raw undef), (.raw undef), (.raw undef), (.raw undef), (.raw undef), (.raw undef), (.raw undef), (.raw undef), (.raw undef), (.raw undef), (.raw undef), (.raw undef), (.raw undef), (.raw undef), (.raw undef), (.raw undef), (.raw undef), (.raw undef), (.raw undef), (.raw undef), (.raw undef), (.raw undef), (.raw undef), (.raw undef), (.raw undef), (.raw undef), (.raw undef), (.raw undef), (.raw undef), (.raw undef), (.raw undef), (.raw undef), (.raw undef), (.raw undef), (.raw undef), (.raw undef)], bx := [(some (101, [(.own 0 26 EntryT (x5))])), (some (26, [(.v .str ((ByteArray.mk #[(107 : UInt8), (101 : UInt8), (121 : UInt8)]) ++ v19)), (.v (.int .i64) (IntKind.i64.wrap ((1 : Int) + x4))), (.v (.int .i64) ((1 : Int))), (.v .str (v20))])), (some (26, [(.v .str ((ByteArray.mk #[(107 : UInt8), (101 : UInt8), (121 : UInt8)]) ++ v19)), (.v (.int .i64) (IntKind.i64.wrap ((1 : Int) + x4))), (.v (.int .i64) ((1 : Int))), (.v .str (v20))])), none], live := 1, g := [(.v (.sl (.int .u8)) (a0)), (.v (.int .u8) (a1)), .bad, .bad, .nilS, (.ptr 0 0), (.v (.int .i64) (x4)), (.v (.int .i64) (IntKind.i64.wrap (List.getD a0 x4.toNat (0 : Int)))), (.ptr 2 0), .bad, .bad, (.v (.int .i64) (x4)), (.v (.sl (.int .u8)) (a0)), (.v (.int .i64) ((↑(List.length a0) : Int))), (.v .bool (decide (x4 < (↑(List.length a0) : Int)))), .bad, .bad, (.v (.sl (.int .u8)) (a0)), (.v (.int .i64) (x4)), .bad, (.v (.int .u8) (List.getD a0 x4.toNat (0 : Int))), (.v (.int .i64) (IntKind.i64.wrap (List.getD a0 x4.toNat (0 : Int)))), (.v (.int .i64) (IntKind.i64.wrap (List.getD a0 x4.toNat (0 : Int)))), (.v (.int .u8) (a1)), (.v (.int .i64) (IntKind.i64.wrap a1)), (.v (.int .i64) ((IntKind.i64.wrap a1).tmod (40 : Int))), (.v (.int .i64) (IntKind.i64.wrap ((3 : Int) + (IntKind.i64.wrap a1).tmod (40 : Int)))), (.v (.int .i64) ((IntKind.i64.wrap (List.getD a0 x4.toNat (0 : Int))).tmod (IntKind.i64.wrap ((3 : Int) + (IntKind.i64.wrap a1).tmod (40 : Int))))), (.v .str (v19)), (.v .str ((ByteArray.mk #[(107 : UInt8), (101 : UInt8), (121 : UInt8)]) ++ v19)), (.v (.int .i64) (x4)), (.v (.int .i64) (IntKind.i64.wrap ((1 : Int) + x4))), (.agg [(.v .str ((ByteArray.mk #[(107 : UInt8), (101 : UInt8), (121 : UInt8)]) ++ v19)), (.v (.int .i64) (IntKind.i64.wrap ((1 : Int) + x4))), (.v (.int .i64) ((1 : Int)))]), (.v (.int .i64) (IntKind.i64.wrap (List.getD a0 x4.toNat (0 : Int)))), (.v .str (v20)), (.agg [(.v .str ((ByteArray.mk #[(107 : UInt8), (101 : UInt8), (121 : UInt8)]) ++ v19)), (.v (.int .i64) (IntKind.i64.wrap ((1 : Int) + x4))), (.v (.int .i64) ((1 : Int))), (.v .str (v20))]), (.v (.int .i64) (IntKind.i64.wrap (List.getD a0 x4.toNat (0 : Int)))), (.v (.int .i64) ((IntKind.i64.wrap (List.getD a0 x4.toNat (0 : Int))).tmod (7 : Int))), (.v .bool ((IntKind.i64.wrap (List.getD a0 x4.toNat (0 : Int))).tmod (7 : Int) == (0 : Int))), .bad, .bad, .bad, (.ptr 0 0), (.agg [(.v .str ((ByteArray.mk #[(107 : UInt8), (101 : UInt8), (121 : UInt8)]) ++ v19)), (.v (.int .i64) (IntKind.i64.wrap ((1 : Int) + x4))), (.v (.int .i64) ((1 : Int))), (.v .str (v20))]), .bad, (.raw undef), (.raw undef), (.raw undef), (.raw undef)] }
def s66_47x49 (y0 : (List Int)) (y1 : Int) (y2 : Int) (y3 : (List En)) (y4 : ByteArray) (y5 : ByteArray) (y6 : Int) : St := { t := [(.ptr 0 0), .bad, .bad, (.ptr 1 0), (.v .bool (false)), (.v (.int .i64) (y6)), (.raw undef), .bad, .bad, .bad, .bad, .bad, .bad, .bad, .bad, .bad, .bad, .bad, .bad, .bad, .bad, .bad, .bad, .bad, .bad, .bad, .bad, .bad, .bad, .bad, .bad, .bad, .bad, (.raw undef), (.raw undef), (.raw undef), (.raw undef), (.raw undef), (.raw undef), (.raw undef), (.raw undef), (.raw undef), (.raw undef), (.raw undef), (.raw undef), (.raw undef), (.raw undef), (.raw undef), (.raw undef), (.raw undef), (.raw undef), (.raw undef), (.raw undef), (.raw undef), (.raw undef), (.raw undef), (.raw undef), (.raw undef), (.raw undef), (.raw undef), (.raw undef), (.raw undef), (.raw undef), (.raw undef), (.raw undef), (.raw undef), (.raw undef), (.raw undef), (.raw undef), (.raw undef), (.raw undef), (.raw undef), (.raw undef), (.raw undef), (.raw undef), (.raw undef)], bx := [(some (101, [(.own 0 26 EntryT (y3))])), (some (26, [(.v .str ((ByteArray.mk #[(107 : UInt8), (101 : UInt8), (121 : UInt8)]) ++ y4)), (.v (.int .i64) (IntKind.i64.wrap ((1 : Int) + y2))), (.v (.int .i64) ((1 : Int))), (.v .str (y5))])), (some (26, [(.v .str ((ByteArray.mk #[(107 : UInt8), (101 : UInt8), (121 : UInt8)]) ++ y4)), (.v (.int .i64) (IntKind.i64.wrap ((1 : Int) + y2))), (.v (.int .i64) ((1 : Int))), (.v .str (y5))])), none, none, none, none, none, none, none, none, none, none, none, none, none, none, none, none, none, none, none, none, none, none], live := 1, g := [(.v (.sl (.int .u8)) (y0)), (.v (.int .u8) (y1)), .bad, .bad, .nilS, (.ptr 0 0), (.v (.int .i64) (y2)), (.v (.int .i64) (IntKind.i64.wrap (List.getD y0 y2.toNat (0 : Int)))), (.ptr 2 0), .bad, .bad, (.v (.int .i64) (y2)), (.v (.sl (.int .u8)) (y0)), (.v (.int .i64) ((↑(List.length y0) : Int))), (.v .bool (decide (y2 < (↑(List.length y0) : Int)))), .bad, .bad, (.v (.sl (.int .u8)) (y0)), (.v (.int .i64) (y2)), .bad, (.v (.int .u8) (List.getD y0 y2.toNat (0 : Int))), (.v (.int .i64) (IntKind.i64.wrap (List.getD y0 y2.toNat (0 : Int)))), (.v (.int .i64) (IntKind.i64.wrap (List.getD y0 y2.toNat (0 : Int)))), (.v (.int .u8) (y1)), (.v (.int .i64) (IntKind.i64.wrap y1)), (.v (.int .i64) ((IntKind.i64.wrap y1).tmod (40 : Int))), (.v (.int .i64) (IntKind.i64.wrap ((3 : Int) + (IntKind.i64.wrap y1).tmod (40 : Int)))), (.v (.int .i64) ((IntKind.i64.wrap (List.getD y0 y2.toNat (0 : Int))).tmod (IntKind.i64.wrap ((3 : Int) + (IntKind.i64.wrap y1).tmod (40 : Int))))), (.v .str (y4)), (.v .str ((ByteArray.mk #[(107 : UInt8), (101 : UInt8), (121 : UInt8)]) ++ y4)), (.v (.int .i64) (y2)), (.v (.int .i64) (IntKind.i64.wrap ((1 : Int) + y2))), (.agg [(.v .str ((ByteArray.mk #[(107 : UInt8), (101 : UInt8), (121 : UInt8)]) ++ y4)), (.v (.int .i64) (IntKind.i64.wrap ((1 : Int) + y2))), (.v (.int .i64) ((1 : Int)))]), (.v (.int .i64) (IntKind.i64.wrap (List.getD y0 y2.toNat (0 : Int)))), (.v .str (y5)), (.agg [(.v .str ((ByteArray.mk #[(107 : UInt8), (101 : UInt8), (121 : UInt8)]) ++ y4)), (.v (.int .i64) (IntKind.i64.wrap ((1 : Int) + y2))), (.v (.int .i64) ((1 : Int))), (.v .str (y5))]), (.v (.int .i64) (IntKind.i64.wrap (List.getD y0 y2.toNat (0 : Int)))), (.v (.int .i64) ((IntKind.i64.wrap (List.getD y0 y2.toNat (0 : Int))).tmod (7 : Int))), (.v .bool ((IntKind.i64.wrap (List.getD y0 y2.toNat (0 : Int))).tmod (7 : Int) == (0 : Int))), .bad, .bad, .bad, (.ptr 0 0), (.agg [(.v .str ((ByteArray.mk #[(107 : UInt8), (101 : UInt8), (121 : UInt8)]) ++ y4)), (.v (.int .i64) (IntKind.i64.wrap ((1 : Int) + y2))), (.v (.int .i64) ((1 : Int))), (.v .str (y5))]), .bad, (.raw undef), (.raw undef), (.raw undef), (.raw undef)] }
theorem s66_47_l {R : Type} (K : AEx → St → Option R) (a0 : (List Int)) (a1 : Int) (x4 : Int) (x5 : (List En)) (v19 : ByteArray) (v20 : ByteArray) (x45 : Int) : LP B call inl 66 (m + 1) [1, 1, 1, 0] (s66_47 a0 a1 x4 x5 v19 v20 x45) K = (bif decide (x45 < (↑x5.length : Int)) == true then (if (0 : Int) ≤ x45 ∧ x45 < (↑x5.length : Int) then ((call 81 [(.agg [(.v .str ((x5.getD x45.toNat (((ByteArray.mk #[]), (0 : Int), (0 : Int), ()), (ByteArray.mk #[]), ())).fst.fst)), (.v (.int .i64) ((x5.getD x45.toNat (((ByteArray.mk #[]), (0 : Int), (0 : Int), ()), (ByteArray.mk #[]), ())).fst.snd.fst)), (.v (.int .i64) ((x5.getD x45.toNat (((ByteArray.mk #[]), (0 : Int), (0 : Int), ()), (ByteArray.mk #[]), ())).fst.snd.snd.fst))]), (.agg [(.v .str ((ByteArray.mk #[(107 : UInt8), (101 : UInt8), (121 : UInt8)]) ++ v19)), (.v (.int .i64) (IntKind.i64.wrap ((1 : Int) + x4))), (.v (.int .i64) ((1 : Int)))])]).bind fun (v48 : Int) => bif decide (v48 < (0 : Int)) then (LP B call inl 66 m [1, 1, 1, 0] (s66_47 a0 a1 x4 x5 v19 v20 (IntKind.i64.wrap (x45 + (1 : Int)))) K) else (K (.exit 0) (s66_47x49 a0 a1 x4 x5 v19 v20 x45))) else (none)) else (K (.exit 0) (s66_47x49 a0 a1 x4 x5 v19 v20 x45))) := by kernel_rfl
def c33_66_41r51 (y0 : (List Int)) (y1 : Int) (y2 : Int) (y3 : (List En)) (y4 : ByteArray) (y5 : ByteArray) : St := { t := [(.v (.sl (.int .u8)) (y0)), (.v (.int .u8) (y1)), .bad, .bad, .nilS, (.ptr 0 0), (.v (.int .i64) (y2)), (.v (.int .i64) (IntKind.i64.wrap (List.getD y0 y2.toNat (0 : Int)))), (.ptr 2 0), .bad, .bad, (.v (.int .i64) (y2)), (.v (.sl (.int .u8)) (y0)), (.v (.int .i64) ((↑(List.length y0) : Int))), (.v .bool (decide (y2 < (↑(List.length y0) : Int)))), .bad, .bad, (.v (.sl (.int .u8)) (y0)), (.v (.int .i64) (y2)), .bad, (.v (.int .u8) (List.getD y0 y2.toNat (0 : Int))), (.v (.int .i64) (IntKind.i64.wrap (List.getD y0 y2.toNat (0 : Int)))), (.v (.int .i64) (IntKind.i64.wrap (List.getD y0 y2.toNat (0 : Int)))), (.v (.int .u8) (y1)), (.v (.int .i64) (IntKind.i64.wrap y1)), (.v (.int .i64) ((IntKind.i64.wrap y1).tmod (40 : Int))), (.v (.int .i64) (IntKind.i64.wrap ((3 : Int) + (IntKind.i64.wrap y1).tmod (40 : Int)))), (.v (.int .i64) ((IntKind.i64.wrap (List.getD y0 y2.toNat (0 : Int))).tmod (IntKind.i64.wrap ((3 : Int) + (IntKind.i64.wrap y1).tmod (40 : Int))))), (.v .str (y4)), (.v .str ((ByteArray.mk #[(107 : UInt8), (101 : UInt8), (121 : UInt8)]) ++ y4)), (.v (.int .i64) (y2)), (.v (.int .i64) (IntKind.i64.wrap ((1 : Int) + y2))), (.agg [(.v .str ((ByteArray.mk #[(107 : UInt8), (101 : UInt8), (121 : UInt8)]) ++ y4)), (.v (.int .i64) (IntKind.i64.wrap ((1 : Int) + y2))), (.v (.int .i64) ((1 : Int)))]), (.v (.int .i64) (IntKind.i64.wrap (List.getD y0 y2.toNat (0 : Int)))), (.v .str (y5)), (.agg [(.v .str ((ByteArray.mk #[(107 : UInt8), (101 : UInt8), (121 : UInt8)]) ++ y4)), (.v (.int .i64) (IntKind.i64.wrap ((1 : Int) + y2))), (.v (.int .i64) ((1 : Int))), (.v .str (y5))]), (.v (.int .i64) (IntKind.i64.wrap (List.getD y0 y2.toNat (0 : Int)))), (.v (.int .i64) ((IntKind.i64.wrap (List.getD y0 y2.toNat (0 : Int))).tmod (7 : Int))), (.v .bool ((IntKind.i64.wrap (List.getD y0 y2.toNat (0 : Int))).tmod (7 : Int) == (0 : Int))), .bad, .bad, .bad, (.ptr 0 0), (.agg [(.v .str ((ByteArray.mk #[(107 : UInt8), (101 : UInt8), (121 : UInt8)]) ++ y4)), (.v (.int .i64) (IntKind.i64.wrap ((1 : Int) + y2))), (.v (.int .i64) ((1 : Int))), (.v .str (y5))]), .bad, (.raw undef), (.raw undef), (.raw undef), (.raw undef)], bx := [(some (101, [(.own 0 26 EntryT (y3))])), (some (26, [(.v .str ((ByteArray.mk #[(107 : UInt8), (101 : UInt8), (121 : UInt8)]) ++ y4)), (.v (.int .i64) (IntKind.i64.wrap ((1 : Int) + y2))), (.v (.int .i64) ((1 : Int))), (.v .str (y5))])), (some (26, [(.v .str ((ByteArray.mk #[(107 : UInt8), (101 : UInt8), (121 : UInt8)]) ++ y4)), (.v (.int .i64) (IntKind.i64.wrap ((1 : Int) + y2))), (.v (.int .i64) ((1 : Int))), (.v .str (y5))])), none, none, none, none, none, none, none, none, none, none, none, none, none, none, none, none, none, none, none, none, none, none, none, none, none, none, none, none, none, none, none, none, none, none, none, none, none, none, none, none, none, none, none], live := 1, g := [] }
def c33_66_41r52 (y0 : (List Int)) (y1 : Int) (y2 : Int) (y3 : (List En)) (y4 : ByteArray) (y5 : ByteArray) (y6 : Int) : St := { t := [(.v (.sl (.int .u8)) (y0)), (.v (.int .u8) (y1)), .bad, .bad, .nilS, (.ptr 0 0), (.v (.int .i64) (y2)), (.v (.int .i64) (IntKind.i64.wrap (List.getD y0 y2.toNat (0 : Int)))), (.ptr 2 0), .bad, .bad, (.v (.int .i64) (y2)), (.v (.sl (.int .u8)) (y0)), (.v (.int .i64) ((↑(List.length y0) : Int))), (.v .bool (decide (y2 < (↑(List.length y0) : Int)))), .bad, .bad, (.v (.sl (.int .u8)) (y0)), (.v (.int .i64) (y2)), .bad, (.v (.int .u8) (List.getD y0 y2.toNat (0 : Int))), (.v (.int .i64) (IntKind.i64.wrap (List.getD y0 y2.toNat (0 : Int)))), (.v (.int .i64) (IntKind.i64.wrap (List.getD y0 y2.toNat (0 : Int)))), (.v (.int .u8) (y1)), (.v (.int .i64) (IntKind.i64.wrap y1)), (.v (.int .i64) ((IntKind.i64.wrap y1).tmod (40 : Int))), (.v (.int .i64) (IntKind.i64.wrap ((3 : Int) + (IntKind.i64.wrap y1).tmod (40 : Int)))), (.v (.int .i64) ((IntKind.i64.wrap (List.getD y0 y2.toNat (0 : Int))).tmod (IntKind.i64.wrap ((3 : Int) + (IntKind.i64.wrap y1).tmod (40 : Int))))), (.v .str (y4)), (.v .str ((ByteArray.mk #[(107 : UInt8), (101 : UInt8), (121 : UInt8)]) ++ y4)), (.v (.int .i64) (y2)), (.v (.int .i64) (IntKind.i64.wrap ((1 : Int) + y2))), (.agg [(.v .str ((ByteArray.mk #[(107 : UInt8), (101 : UInt8), (121 : UInt8)]) ++ y4)), (.v (.int .i64) (IntKind.i64.wrap ((1 : Int) + y2))), (.v (.int .i64) ((1 : Int)))]), (.v (.int .i64) (IntKind.i64.wrap (List.getD y0 y2.toNat (0 : Int)))), (.v .str (y5)), (.agg [(.v .str ((ByteArray.mk #[(107 : UInt8), (101 : UInt8), (121 : UInt8)]) ++ y4)), (.v (.int .i64) (IntKind.i64.wrap ((1 : Int) + y2))), (.v (.int .i64) ((1 : Int))), (.v .str (y5))]), (.v (.int .i64) (IntKind.i64.wrap (List.getD y0 y2.toNat (0 : Int)))), (.v (.int .i64) ((IntKind.i64.wrap (List.getD y0 y2.toNat (0 : Int))).tmod (7 : Int))), (.v .bool ((IntKind.i64.wrap (List.getD y0 y2.toNat (0 : Int))).tmod (7 : Int) == (0 : Int))), .bad, .bad, .bad, (.ptr 0 0), (.agg [(.v .str ((ByteArray.mk #[(107 : UInt8), (101 : UInt8), (121 : UInt8)]) ++ y4)), (.v (.int .i64) (IntKind.i64.wrap ((1 : Int) + y2))), (.v (.int .i64) ((1 : Int))), (.v .str (y5))]), .bad, (.raw undef), (.raw undef), (.raw undef), (.raw undef)], bx := [(some (101, [(.own 536 26 EntryT (List.drop (0 : Nat) (List.take y6.toNat y3) ++ [(((ByteArray.mk #[(107 : UInt8), (101 : UInt8), (121 : UInt8)]) ++ y4, IntKind.i64.wrap ((1 : Int) + y2), (1 : Int), ()), y5, ())] ++ List.drop y6.toNat (List.take y3.length y3)))])), (some (26, [(.v .str ((ByteArray.mk #[(107 : UInt8), (101 : UInt8), (121 : UInt8)]) ++ y4)), (.v (.int .i64) (IntKind.i64.wrap ((1 : Int) + y2))), (.v (.int .i64) ((1 : Int))), (.v .str (y5))])), (some (26, [(.v .str ((ByteArray.mk #[(107 : UInt8), (101 : UInt8), (121 : UInt8)]) ++ y4)), (.v (.int .i64) (IntKind.i64.wrap ((1 : Int) + y2))), (.v (.int .i64) ((1 : Int))), (.v .str (y5))])), none, none, none, none, none, none, none, none, none, none, none, none, none, none, none, none, none, none, none, none, none, none, none, none, none, none, none, none, none, none, none, none, none, none, none, none, none, none, none, none, none, none, none, none, none, none, none, none, none, none, none, none, none, none, none, none, none, none, none, none, none, none, none, none, none, none, none, none, none], live := 224945689727159819140526926111137817239091746464419639543042312984233239720892453797442233485833830970893968857867095469923978863537236590716603692577859821371393, g := [] }
theorem s66_47x49_k {R : Type} (K : AV → St → Option R) (a0 : (List Int)) (a1 : Int) (x4 : Int) (x5 : (List En)) (v19 : ByteArray) (v20 : ByteArray) (x45 : Int) : (KA B call inl 66 m [1, 1, 1, 0] (FN B call inl 66 49 K)) (.exit 0) (s66_47x49 a0 a1 x4 x5 v19 v20 x45) = (bif decide (x45 < (↑x5.length : Int)) == true then (if (0 : Int) ≤ x45 ∧ x45 < (↑x5.length : Int) then (bif ByteArray.toList (x5.getD x45.toNat (((ByteArray.mk #[]), (0 : Int), (0 : Int), ()), (ByteArray.mk #[]), ())).fst.fst == ByteArray.toList ((ByteArray.mk #[(107 : UInt8), (101 : UInt8), (121 : UInt8)]) ++ v19) && ((x5.getD x45.toNat (((ByteArray.mk #[]), (0 : Int), (0 : Int), ()), (ByteArray.mk #[]), ())).fst.snd.fst == IntKind.i64.wrap ((1 : Int) + x4) && (x5.getD x45.toNat (((ByteArray.mk #[]), (0 : Int), (0 : Int), ()), (ByteArray.mk #[]), ())).fst.snd.snd.fst == (1 : Int)) then (K (.v .bool (false)) (c33_66_41r51 a0 a1 x4 x5 v19 v20)) else (if (0 : Int) ≤ x45 ∧ x45 ≤ (↑x5.length : Int) then (if ((0 : Nat) + (List.drop (0 : Nat) (List.take x45.toNat x5)).length) * (48 : Nat) ≤ 140737488355328 then (if ((List.drop (0 : Nat) (List.take x45.toNat x5)).length + [(((ByteArray.mk #[(107 : UInt8), (101 : UInt8), (121 : UInt8)]) ++ v19, IntKind.i64.wrap ((1 : Int) + x4), (1 : Int), ()), v20, ())].length) * (48 : Nat) ≤ 140737488355328 then (if (0 : Int) ≤ x45 ∧ x45 ≤ (↑x5.length : Int) then (if ((List.drop (0 : Nat) (List.take x45.toNat x5) ++ [(((ByteArray.mk #[(107 : UInt8), (101 : UInt8), (121 : UInt8)]) ++ v19, IntKind.i64.wrap ((1 : Int) + x4), (1 : Int), ()), v20, ())]).length + (List.drop x45.toNat (List.take x5.length x5)).length) * (48 : Nat) ≤ 140737488355328 then (K (.v .bool (true)) (c33_66_41r52 a0 a1 x4 x5 v19 v20 x45)) else (none)) else (none)) else (none)) else (none)) else (none))) else (none)) else (if (0 : Int) ≤ x45 ∧ x45 ≤ (↑x5.length : Int) then (if ((0 : Nat) + (List.drop (0 : Nat) (List.take x45.toNat x5)).length) * (48 : Nat) ≤ 140737488355328 then (if ((List.drop (0 : Nat) (List.take x45.toNat x5)).length + [(((ByteArray.mk #[(107 : UInt8), (101 : UInt8), (121 : UInt8)]) ++ v19, IntKind.i64.wrap ((1 : Int) + x4), (1 : Int), ()), v20, ())].length) * (48 : Nat) ≤ 140737488355328 then (if (0 : Int) ≤ x45 ∧ x45 ≤ (↑x5.length : Int) then (if ((List.drop (0 : Nat) (List.take x45.toNat x5) ++ [(((ByteArray.mk #[(107 : UInt8), (101 : UInt8), (121 : UInt8)]) ++ v19, IntKind.i64.wrap ((1 : Int) + x4), (1 : Int), ()), v20, ())]).length + (List.drop x45.toNat (List.take x5.length x5)).length) * (48 : Nat) ≤ 140737488355328 then (K (.v .bool (true)) (c33_66_41r52 a0 a1 x4 x5 v19 v20 x45)) else (none)) else (none)) else (none)) else (none)) else (none))) := by kernel_rfl
theorem c33_66_41_i {R : Type} (K : AV → St → Option R) (a0 : (List Int)) (a1 : Int) (x4 : Int) (x5 : (List En)) (v19 : ByteArray) (v20 : ByteArray) : inlN B call inl m R 66 [(.ptr 0 0), (.agg [(.v .str ((ByteArray.mk #[(107 : UInt8), (101 : UInt8), (121 : UInt8)]) ++ v19)), (.v (.int .i64) (IntKind.i64.wrap ((1 : Int) + x4))), (.v (.int .i64) ((1 : Int))), (.v .str (v20))])] (c33_66_41 a0 a1 x4 x5 v19 v20) K = ((call 96 [(.agg [(.v .str ((ByteArray.mk #[(107 : UInt8), (101 : UInt8), (121 : UInt8)]) ++ v19)), (.v (.int .i64) (IntKind.i64.wrap ((1 : Int) + x4))), (.v (.int .i64) ((1 : Int))), (.v .str (v20))])]).bind fun (v42 : Bool) => bif !v42 then (K (.v .bool (false)) (c33_66_41r43 a0 a1 x4 x5 v19 v20)) else (LP B call inl 66 m [1, 1, 1, 0] (s66_47 a0 a1 x4 x5 v19 v20 ((0 : Int))) (KA B call inl 66 m [1, 1, 1, 0] (FN B call inl 66 49 K)))) := by kernel_rfl
theorem c33_66_41r43_k54 {R : Type} (K : AEx → St → Option R) (a0 : (List Int)) (a1 : Int) (x4 : Int) (x5 : (List En)) (v19 : ByteArray) (v20 : ByteArray) : (IN B call inl 33 m [1, 1, 0, 1] [1, 0, 1, 1, 1, 2] K) (.v .bool (false)) (c33_66_41r43 a0 a1 x4 x5 v19 v20) = (LP B call inl 33 m [1, 1, 0, 1] (s33_18 a0 a1 (IntKind.i64.wrap (x4 + (1 : Int))) (x5)) K) := by kernel_rfl
theorem c33_66_41r51_k59 {R : Type} (K : AEx → St → Option R) (a0 : (List Int)) (a1 : Int) (x4 : Int) (x5 : (List En)) (v19 : ByteArray) (v20 : ByteArray) : (IN B call inl 33 m [1, 1, 0, 1] [1, 0, 1, 1, 1, 2] K) (.v .bool (false)) (c33_66_41r51 a0 a1 x4 x5 v19 v20) = (LP B call inl 33 m [1, 1, 0, 1] (s33_18 a0 a1 (IntKind.i64.wrap (x4 + (1 : Int))) (x5)) K) := by kernel_rfl
theorem c33_66_41r52_k60 {R : Type} (K : AEx → St → Option R) (a0 : (List Int)) (a1 : Int) (x4 : Int) (x5 : (List En)) (v19 : ByteArray) (v20 : ByteArray) (x56 : Int) : (IN B call inl 33 m [1, 1, 0, 1] [1, 0, 1, 1, 1, 2] K) (.v .bool (true)) (c33_66_41r52 a0 a1 x4 x5 v19 v20 x56) = (LP B call inl 33 m [1, 1, 0, 1] (s33_18 a0 a1 (IntKind.i64.wrap (x4 + (1 : Int))) (List.drop (0 : Nat) (List.take x56.toNat x5) ++ [(((ByteArray.mk #[(107 : UInt8), (101 : UInt8), (121 : UInt8)]) ++ v19, IntKind.i64.wrap ((1 : Int) + x4), (1 : Int), ()), v20, ())] ++ List.drop x56.toNat (List.take x5.length x5))) K) := by kernel_rfl
def s33_18x61 (y0 : (List En)) : St := { t := [.bad, .bad, .bad, .bad, .nilS, (.ptr 0 0), .bad, .bad, .bad, .bad, .bad, .bad, .bad, .bad, .bad, .bad, .bad, .bad, .bad, .bad, .bad, .bad, .bad, .bad, .bad, .bad, .bad, .bad, .bad, .bad, .bad, .bad, .bad, .bad, .bad, .bad, .bad, .bad, .bad, .bad, .bad, .bad, .bad, .bad, .bad, (.raw undef), (.raw undef), (.raw undef), (.raw undef)], bx := [(some (101, [(.own 0 26 EntryT (y0))])), none, none, none, none, none], live := 1, g := [] }
theorem s33_18_l {R : Type} (K : AEx → St → Option R) (a0 : (List Int)) (a1 : Int) (x4 : Int) (x5 : (List En)) : LP B call inl 33 (m + 1) [1, 1, 0, 1] (s33_18 a0 a1 x4 x5) K = (bif decide (x4 < (↑(List.length a0) : Int)) then (if (0 : Int) ≤ x4 ∧ x4 < (↑(List.length a0) : Int) then (if IntKind.i64.wrap ((3 : Int) + (IntKind.i64.wrap a1).tmod (40 : Int)) = (0 : Int) then (none) else ((call 42 [(.v (.int .i64) ((IntKind.i64.wrap (List.getD a0 x4.toNat (0 : Int))).tmod (IntKind.i64.wrap ((3 : Int) + (IntKind.i64.wrap a1).tmod (40 : Int)))))]).bind fun (v19 : ByteArray) => if (↑((ByteArray.mk #[(107 : UInt8), (101 : UInt8), (121 : UInt8)]).size + ByteArray.size v19) : Int) > IntKind.i64.max then (none) else ((call 42 [(.v (.int .i64) (IntKind.i64.wrap (List.getD a0 x4.toNat (0 : Int))))]).bind fun (v20 : ByteArray) => bif (IntKind.i64.wrap (List.getD a0 x4.toNat (0 : Int))).tmod (7 : Int) == (0 : Int) then (inl _ 66 [(.ptr 0 0), (.agg [(.v .str ((ByteArray.mk #[(107 : UInt8), (101 : UInt8), (121 : UInt8)]) ++ v19)), (.v (.int .i64) (IntKind.i64.wrap ((1 : Int) + x4))), (.v (.int .i64) ((2 : Int))), (.v .str ((ByteArray.mk #[])))])] (c33_66_21 a0 a1 x4 x5 v19 v20) (IN B call inl 33 m [1, 1, 0, 1] [1, 0, 1, 1, 1, 2] K)) else (inl _ 66 [(.ptr 0 0), (.agg [(.v .str ((ByteArray.mk #[(107 : UInt8), (101 : UInt8), (121 : UInt8)]) ++ v19)), (.v (.int .i64) (IntKind.i64.wrap ((1 : Int) + x4))), (.v (.int .i64) ((1 : Int))), (.v .str (v20))])] (c33_66_41 a0 a1 x4 x5 v19 v20) (IN B call inl 33 m [1, 1, 0, 1] [1, 0, 1, 1, 1, 2] K))))) else (none)) else (K (.exit 0) (s33_18x61 x5))) := by kernel_rfl
theorem s33_18x61_k (x5 : (List En)) : (KA B call inl 33 m [1, 1, 0, 1] (FI B call inl 33)) (.exit 0) (s33_18x61 x5) = (some (x5)) := by kernel_rfl
theorem t33 (a0 : (List Int)) (a1 : Int) : stepN B call inl m 33 [argAV (.sl (.int .u8)) a0, argAV (.int .u8) a1] = (LP B call inl 33 m [1, 1, 0, 1] (s33_18 a0 a1 ((0 : Int)) ([])) (KA B call inl 33 m [1, 1, 0, 1] (FI B call inl 33)) : Option (List En)) := by kernel_rfl
end
end Go.Eng.Bk
/- What making entries by numbers answers. -/
namespace Go.Eng.Bk
open Go Go.Proofs Go.Eng
set_option linter.unusedVariables false
set_option linter.unusedSimpArgs false
abbrev keyB : ByteArray := ByteArray.mk #[(107 : UInt8), (101 : UInt8), (121 : UInt8)]
theorem tw_len {p : En → Bool} {l : List En} : ∀ (j : Nat), j ≤ l.length → (∀ i, i < j → p (l.getD i d0) = true) → (j < l.length → p (l.getD j d0) = false) → (j : Nat) = (l.takeWhile p).length := by
  induction l with
  | nil => intro j hj _ _; simp at hj; subst hj; rfl
  | cons x l ih =>
    intro j hj h1 h2
    cases j with
    | zero =>
      have := h2 (by simp)
      have hx : p x = false := this
      rw [List.takeWhile_cons, hx]; rfl
    | succ j =>
      have hx : p x = true := h1 0 (by omega)
      rw [List.takeWhile_cons, hx]
      simp only [if_true, List.length_cons]
      rw [← ih j (by simpa using hj) (fun i hi => by simpa using h1 (i + 1) (by omega)) (fun h => by simpa using h2 (by simpa using h))]

theorem l66_21 {q : Nat} (hq : 1 ≤ q) {inl : InlT} (m0 : Nat) {R : Type} (K : AV → St → Option R) (a0 : List Int) (a1 : Int) (x4 : Nat) (hx4 : x4 < 1000000000) (l : List En) (hl : l.length ≤ 1000000000) (u w : ByteArray) (hne : ∀ x ∈ l, x.1.2.1 ≠ ((x4 + 1 : Nat) : Int)) (d : Nat) : ∀ (j m : Nat), j + d = l.length → d < m →
    (∀ i, i < j → before ((keyB ++ u, ((x4 + 1 : Nat) : Int), 2, ()), ⟨#[]⟩, ()) (l.getD i d0) = true) →
    LP B (callN B q) inl 66 m [1, 1, 1, 0] (s66_27 a0 a1 (x4 : Int) l u w (j : Int)) (KA B (callN B q) inl 66 m0 [1, 1, 1, 0] (FN B (callN B q) inl 66 49 K)) = K (.v .bool true) (c33_66_21r32 a0 a1 (x4 : Int) l u w (((l.takeWhile (before ((keyB ++ u, ((x4 + 1 : Nat) : Int), 2, ()), ⟨#[]⟩, ()))).length : Nat) : Int)) := by
  have hw : IntKind.i64.wrap ((1 : Int) + (x4 : Int)) = ((x4 + 1 : Nat) : Int) := by rw [w64 (by omega) (by omega)]; omega
  have fin : ∀ (j : Nat), j ≤ l.length → (∀ i, i < j → before ((keyB ++ u, ((x4 + 1 : Nat) : Int), 2, ()), ⟨#[]⟩, ()) (l.getD i d0) = true) → (j < l.length → before ((keyB ++ u, ((x4 + 1 : Nat) : Int), 2, ()), ⟨#[]⟩, ()) (l.getD j d0) = false) →
      KA B (callN B q) inl 66 m0 [1, 1, 1, 0] (FN B (callN B q) inl 66 49 K) (.exit 0) (s66_27x29 a0 a1 (x4 : Int) l u w (j : Int)) = K (.v .bool true) (c33_66_21r32 a0 a1 (x4 : Int) l u w (((l.takeWhile (before ((keyB ++ u, ((x4 + 1 : Nat) : Int), 2, ()), ⟨#[]⟩, ()))).length : Nat) : Int)) := by
    intro j hj h1 h2
    rw [← tw_len j hj h1 h2, s66_27x29_k]
    have hb1 : (List.drop 0 (List.take (Int.toNat (j : Int)) l)).length = j := by rw [List.drop_zero, Int.toNat_natCast, List.length_take]; omega
    have hb2 : (List.drop (Int.toNat (j : Int)) (List.take l.length l)).length = l.length - j := by rw [Int.toNat_natCast, List.take_length, List.length_drop]
    have c1 : (0 + (List.drop 0 (List.take (Int.toNat (j : Int)) l)).length) * 48 ≤ 140737488355328 := by rw [hb1]; omega
    have c2 : ∀ e : En, ((List.drop 0 (List.take (Int.toNat (j : Int)) l)).length + [e].length) * 48 ≤ 140737488355328 := by intro e; rw [hb1, List.length_singleton]; omega
    have c3 : ∀ e : En, ((List.drop 0 (List.take (Int.toNat (j : Int)) l) ++ [e]).length + (List.drop (Int.toNat (j : Int)) (List.take l.length l)).length) * 48 ≤ 140737488355328 := by intro e; rw [List.length_append, hb1, hb2, List.length_singleton]; omega
    by_cases hjl : j < l.length
    · have hk : ((l.getD j d0).1.2.1 == IntKind.i64.wrap ((1 : Int) + (x4 : Int))) = false := by
        rw [hw]; exact beq_eq_false_iff_ne.2 (hne _ (getD_mem hjl d0))
      rw [decide_eq_true (show (j : Int) < (l.length : Int) by omega), beq_self_eq_true, cond_true, if_pos (by omega), Int.toNat_natCast, hk, Bool.false_and, Bool.and_false, cond_false, if_pos (by omega)]
      rw [Int.toNat_natCast] at c1 c2 c3
      rw [if_pos c1, if_pos (c2 _), if_pos (by omega), if_pos (c3 _)]
    · rw [decide_eq_false (show ¬ (j : Int) < (l.length : Int) by omega), show (false == true) = false from rfl, cond_false, if_pos (by omega), if_pos c1, if_pos (c2 _), if_pos (by omega), if_pos (c3 _)]
  induction d with
  | zero =>
    intro j m hd hm h1
    obtain ⟨m, rfl⟩ : ∃ k, m = k + 1 := ⟨m - 1, by omega⟩
    rw [s66_27_l, decide_eq_false (show ¬ (j : Int) < (l.length : Int) by omega), show (false == true) = false from rfl, cond_false]
    exact fin j (by omega) h1 (fun h => by omega)
  | succ d ih =>
    intro j m hd hm h1
    obtain ⟨m, rfl⟩ : ∃ k, m = k + 1 := ⟨m - 1, by omega⟩
    rw [s66_27_l, decide_eq_true (show (j : Int) < (l.length : Int) by omega), beq_self_eq_true, cond_true, if_pos (by omega), Int.toNat_natCast, hw]
    refine bnd (s81 hq (l.getD j d0).1 (keyB ++ u, ((x4 + 1 : Nat) : Int), 2, ())) ?_
    by_cases hc : cmpKe (l.getD j d0).1 (keyB ++ u, ((x4 + 1 : Nat) : Int), 2, ()) < 0
    · rw [bT hc, w64 (x := (j : Int) + 1) (by omega) (by omega)]
      refine ih (j + 1) m (by omega) (by omega) (fun i hi => ?_)
      by_cases hij : i = j
      · subst hij; exact decide_eq_true hc
      · exact h1 i (by omega)
    · rw [bF hc]
      exact fin j (by omega) h1 (fun _ => decide_eq_false hc)
theorem i66_21 {q : Nat} (hq : 4 ≤ q) {inl : InlT} {mq : Nat} {R : Type} {call : CallT B} {inl' : InlT} {m33 : Nat} (K : AEx → St → Option R) (a0 : List Int) (a1 : Int) (x4 : Nat) (hx4 : x4 < 1000000000) (l : List En) (hl : l.length ≤ 1000000000) (hmq : l.length < mq) (u w : ByteArray) (hne : ∀ x ∈ l, x.1.2.1 ≠ ((x4 + 1 : Nat) : Int)) (hmay : mayE ((keyB ++ u, ((x4 + 1 : Nat) : Int), 2, ()), ⟨#[]⟩, ()) = true) :
    inlN B (callN B q) inl mq R 66 [(.ptr 0 0), (.agg [(.v .str (keyB ++ u)), (.v (.int .i64) (IntKind.i64.wrap ((1 : Int) + (x4 : Int)))), (.v (.int .i64) ((2 : Int))), (.v .str ((ByteArray.mk #[])))])] (c33_66_21 a0 a1 (x4 : Int) l u w) (IN B call inl' 33 m33 [1, 1, 0, 1] [1, 0, 1, 1, 1, 2] K) = LP B call inl' 33 m33 [1, 1, 0, 1] (s33_18 a0 a1 ((x4 + 1 : Nat) : Int) (ins l ((keyB ++ u, ((x4 + 1 : Nat) : Int), 2, ()), ⟨#[]⟩, ()))) K := by
  have hw : IntKind.i64.wrap ((1 : Int) + (x4 : Int)) = ((x4 + 1 : Nat) : Int) := by rw [w64 (by omega) (by omega)]; omega
  have hw2 : IntKind.i64.wrap ((x4 : Int) + (1 : Int)) = ((x4 + 1 : Nat) : Int) := by rw [w64 (by omega) (by omega)]; omega
  refine (c33_66_21_i (callN B q) inl mq _ a0 a1 (x4 : Int) l u w).trans ?_
  rw [hw]
  refine bnd (s96 (by omega) ((keyB ++ u, ((x4 + 1 : Nat) : Int), 2, ()), ⟨#[]⟩, ())) ?_
  rw [hmay, Bool.not_true, cond_false]
  have := l66_21 (show 1 ≤ q by omega) (inl := inl) mq (IN B call inl' 33 m33 [1, 1, 0, 1] [1, 0, 1, 1, 1, 2] K) a0 a1 x4 hx4 l hl u w hne l.length 0 mq (by omega) (by omega) (fun i hi => by omega)
  refine this.trans ?_
  rw [c33_66_21r32_k40, hw2, hw, List.drop_zero, List.take_length, Int.toNat_natCast]
  have e1 : l.take (l.takeWhile (before ((keyB ++ u, ((x4 + 1 : Nat) : Int), 2, ()), ⟨#[]⟩, ()))).length = l.takeWhile (before ((keyB ++ u, ((x4 + 1 : Nat) : Int), 2, ()), ⟨#[]⟩, ())) := by
    conv => lhs; arg 2; rw [← List.takeWhile_append_dropWhile (p := before ((keyB ++ u, ((x4 + 1 : Nat) : Int), 2, ()), ⟨#[]⟩, ())) (l := l)]
    exact List.take_left
  have e2 : l.drop (l.takeWhile (before ((keyB ++ u, ((x4 + 1 : Nat) : Int), 2, ()), ⟨#[]⟩, ()))).length = l.dropWhile (before ((keyB ++ u, ((x4 + 1 : Nat) : Int), 2, ()), ⟨#[]⟩, ())) := by
    conv => lhs; arg 2; rw [← List.takeWhile_append_dropWhile (p := before ((keyB ++ u, ((x4 + 1 : Nat) : Int), 2, ()), ⟨#[]⟩, ())) (l := l)]
    exact List.drop_left
  rw [e1, e2]
  unfold ins
  simp only [List.append_assoc, List.singleton_append]

theorem l66_41 {q : Nat} (hq : 1 ≤ q) {inl : InlT} (m0 : Nat) {R : Type} (K : AV → St → Option R) (a0 : List Int) (a1 : Int) (x4 : Nat) (hx4 : x4 < 1000000000) (l : List En) (hl : l.length ≤ 1000000000) (u w : ByteArray) (hne : ∀ x ∈ l, x.1.2.1 ≠ ((x4 + 1 : Nat) : Int)) (d : Nat) : ∀ (j m : Nat), j + d = l.length → d < m →
    (∀ i, i < j → before ((keyB ++ u, ((x4 + 1 : Nat) : Int), 1, ()), w, ()) (l.getD i d0) = true) →
    LP B (callN B q) inl 66 m [1, 1, 1, 0] (s66_47 a0 a1 (x4 : Int) l u w (j : Int)) (KA B (callN B q) inl 66 m0 [1, 1, 1, 0] (FN B (callN B q) inl 66 49 K)) = K (.v .bool true) (c33_66_41r52 a0 a1 (x4 : Int) l u w (((l.takeWhile (before ((keyB ++ u, ((x4 + 1 : Nat) : Int), 1, ()), w, ()))).length : Nat) : Int)) := by
  have hw : IntKind.i64.wrap ((1 : Int) + (x4 : Int)) = ((x4 + 1 : Nat) : Int) := by rw [w64 (by omega) (by omega)]; omega
  have fin : ∀ (j : Nat), j ≤ l.length → (∀ i, i < j → before ((keyB ++ u, ((x4 + 1 : Nat) : Int), 1, ()), w, ()) (l.getD i d0) = true) → (j < l.length → before ((keyB ++ u, ((x4 + 1 : Nat) : Int), 1, ()), w, ()) (l.getD j d0) = false) →
      KA B (callN B q) inl 66 m0 [1, 1, 1, 0] (FN B (callN B q) inl 66 49 K) (.exit 0) (s66_47x49 a0 a1 (x4 : Int) l u w (j : Int)) = K (.v .bool true) (c33_66_41r52 a0 a1 (x4 : Int) l u w (((l.takeWhile (before ((keyB ++ u, ((x4 + 1 : Nat) : Int), 1, ()), w, ()))).length : Nat) : Int)) := by
    intro j hj h1 h2
    rw [← tw_len j hj h1 h2, s66_47x49_k]
    have hb1 : (List.drop 0 (List.take (Int.toNat (j : Int)) l)).length = j := by rw [List.drop_zero, Int.toNat_natCast, List.length_take]; omega
    have hb2 : (List.drop (Int.toNat (j : Int)) (List.take l.length l)).length = l.length - j := by rw [Int.toNat_natCast, List.take_length, List.length_drop]
    have c1 : (0 + (List.drop 0 (List.take (Int.toNat (j : Int)) l)).length) * 48 ≤ 140737488355328 := by rw [hb1]; omega
    have c2 : ∀ e : En, ((List.drop 0 (List.take (Int.toNat (j : Int)) l)).length + [e].length) * 48 ≤ 140737488355328 := by intro e; rw [hb1, List.length_singleton]; omega
    have c3 : ∀ e : En, ((List.drop 0 (List.take (Int.toNat (j : Int)) l) ++ [e]).length + (List.drop (Int.toNat (j : Int)) (List.take l.length l)).length) * 48 ≤ 140737488355328 := by intro e; rw [List.length_append, hb1, hb2, List.length_singleton]; omega
    by_cases hjl : j < l.length
    · have hk : ((l.getD j d0).1.2.1 == IntKind.i64.wrap ((1 : Int) + (x4 : Int))) = false := by
        rw [hw]; exact beq_eq_false_iff_ne.2 (hne _ (getD_mem hjl d0))
      rw [decide_eq_true (show (j : Int) < (l.length : Int) by omega), beq_self_eq_true, cond_true, if_pos (by omega), Int.toNat_natCast, hk, Bool.false_and, Bool.and_false, cond_false, if_pos (by omega)]
      rw [Int.toNat_natCast] at c1 c2 c3
      rw [if_pos c1, if_pos (c2 _), if_pos (by omega), if_pos (c3 _)]
    · rw [decide_eq_false (show ¬ (j : Int) < (l.length : Int) by omega), show (false == true) = false from rfl, cond_false, if_pos (by omega), if_pos c1, if_pos (c2 _), if_pos (by omega), if_pos (c3 _)]
  induction d with
  | zero =>
    intro j m hd hm h1
    obtain ⟨m, rfl⟩ : ∃ k, m = k + 1 := ⟨m - 1, by omega⟩
    rw [s66_47_l, decide_eq_false (show ¬ (j : Int) < (l.length : Int) by omega), show (false == true) = false from rfl, cond_false]
    exact fin j (by omega) h1 (fun h => by omega)
  | succ d ih =>
    intro j m hd hm h1
    obtain ⟨m, rfl⟩ : ∃ k, m = k + 1 := ⟨m - 1, by omega⟩
    rw [s66_47_l, decide_eq_true (show (j : Int) < (l.length : Int) by omega), beq_self_eq_true, cond_true, if_pos (by omega), Int.toNat_natCast, hw]
    refine bnd (s81 hq (l.getD j d0).1 (keyB ++ u, ((x4 + 1 : Nat) : Int), 1, ())) ?_
    by_cases hc : cmpKe (l.getD j d0).1 (keyB ++ u, ((x4 + 1 : Nat) : Int), 1, ()) < 0
    · rw [bT hc, w64 (x := (j : Int) + 1) (by omega) (by omega)]
      refine ih (j + 1) m (by omega) (by omega) (fun i hi => ?_)
      by_cases hij : i = j
      · subst hij; exact decide_eq_true hc
      · exact h1 i (by omega)
    · rw [bF hc]
      exact fin j (by omega) h1 (fun _ => decide_eq_false hc)
theorem i66_41 {q : Nat} (hq : 4 ≤ q) {inl : InlT} {mq : Nat} {R : Type} {call : CallT B} {inl' : InlT} {m33 : Nat} (K : AEx → St → Option R) (a0 : List Int) (a1 : Int) (x4 : Nat) (hx4 : x4 < 1000000000) (l : List En) (hl : l.length ≤ 1000000000) (hmq : l.length < mq) (u w : ByteArray) (hne : ∀ x ∈ l, x.1.2.1 ≠ ((x4 + 1 : Nat) : Int)) (hmay : mayE ((keyB ++ u, ((x4 + 1 : Nat) : Int), 1, ()), w, ()) = true) :
    inlN B (callN B q) inl mq R 66 [(.ptr 0 0), (.agg [(.v .str (keyB ++ u)), (.v (.int .i64) (IntKind.i64.wrap ((1 : Int) + (x4 : Int)))), (.v (.int .i64) ((1 : Int))), (.v .str (w))])] (c33_66_41 a0 a1 (x4 : Int) l u w) (IN B call inl' 33 m33 [1, 1, 0, 1] [1, 0, 1, 1, 1, 2] K) = LP B call inl' 33 m33 [1, 1, 0, 1] (s33_18 a0 a1 ((x4 + 1 : Nat) : Int) (ins l ((keyB ++ u, ((x4 + 1 : Nat) : Int), 1, ()), w, ()))) K := by
  have hw : IntKind.i64.wrap ((1 : Int) + (x4 : Int)) = ((x4 + 1 : Nat) : Int) := by rw [w64 (by omega) (by omega)]; omega
  have hw2 : IntKind.i64.wrap ((x4 : Int) + (1 : Int)) = ((x4 + 1 : Nat) : Int) := by rw [w64 (by omega) (by omega)]; omega
  refine (c33_66_41_i (callN B q) inl mq _ a0 a1 (x4 : Int) l u w).trans ?_
  rw [hw]
  refine bnd (s96 (by omega) ((keyB ++ u, ((x4 + 1 : Nat) : Int), 1, ()), w, ())) ?_
  rw [hmay, Bool.not_true, cond_false]
  have := l66_41 (show 1 ≤ q by omega) (inl := inl) mq (IN B call inl' 33 m33 [1, 1, 0, 1] [1, 0, 1, 1, 1, 2] K) a0 a1 x4 hx4 l hl u w hne l.length 0 mq (by omega) (by omega) (fun i hi => by omega)
  refine this.trans ?_
  rw [c33_66_41r52_k60, hw2, hw, List.drop_zero, List.take_length, Int.toNat_natCast]
  have e1 : l.take (l.takeWhile (before ((keyB ++ u, ((x4 + 1 : Nat) : Int), 1, ()), w, ()))).length = l.takeWhile (before ((keyB ++ u, ((x4 + 1 : Nat) : Int), 1, ()), w, ())) := by
    conv => lhs; arg 2; rw [← List.takeWhile_append_dropWhile (p := before ((keyB ++ u, ((x4 + 1 : Nat) : Int), 1, ()), w, ())) (l := l)]
    exact List.take_left
  have e2 : l.drop (l.takeWhile (before ((keyB ++ u, ((x4 + 1 : Nat) : Int), 1, ()), w, ()))).length = l.dropWhile (before ((keyB ++ u, ((x4 + 1 : Nat) : Int), 1, ()), w, ())) := by
    conv => lhs; arg 2; rw [← List.takeWhile_append_dropWhile (p := before ((keyB ++ u, ((x4 + 1 : Nat) : Int), 1, ()), w, ())) (l := l)]
    exact List.drop_left
  rw [e1, e2]
  unfold ins
  simp only [List.append_assoc, List.singleton_append]

/-- The i-th entry by numbers; all of them. -/
def mkE (sp i n : Nat) : En := if n % 7 = 0 then ((keyB ++ dg (n % (3 + sp % 40)), ((i + 1 : Nat) : Int), 2, ()), ⟨#[]⟩, ()) else ((keyB ++ dg (n % (3 + sp % 40)), ((i + 1 : Nat) : Int), 1, ()), dg n, ())
def mkA (sp : Nat) (ns : List Int) : Nat → Nat → List En → List En
  | 0, _, acc => acc
  | d + 1, i, acc => mkA sp ns d (i + 1) (ins acc (mkE sp i (ns.getD i 0).toNat))
def mkL (ns : List Int) (sp : Nat) : List En := mkA sp ns ns.length 0 []
theorem mkE_seq (sp i n : Nat) : (mkE sp i n).1.2.1 = ((i + 1 : Nat) : Int) := by unfold mkE; split <;> rfl
theorem mkE_may {sp i n : Nat} (hn : n < 256) (hi : i < 1000000000) : mayE (mkE sp i n) = true := by
  have hd : (dg (n % (3 + sp % 40))).size ≤ 3 := dg_size (by have := Nat.mod_lt n (show 3 + sp % 40 > 0 by omega); omega)
  have hd2 : (dg n).size ≤ 3 := dg_size (by omega)
  have hk : keyB.size = 3 := rfl
  have hs : (keyB ++ dg (n % (3 + sp % 40))).size ≤ 6 := by rw [ByteArray.size_append]; omega
  unfold mkE
  split
  · unfold mayE mayK mayB
    simp only [Bool.and_eq_true, decide_eq_true_eq, Bool.or_eq_true, beq_iff_eq]
    refine ⟨⟨⟨by omega, by omega, by omega, ?_⟩, by decide⟩, ?_⟩ <;> first | exact .inl trivial | exact .inr trivial | simp
  · unfold mayE mayK mayB
    simp only [Bool.and_eq_true, decide_eq_true_eq, Bool.or_eq_true, beq_iff_eq]
    refine ⟨⟨⟨by omega, by omega, by omega, ?_⟩, by omega⟩, ?_⟩ <;> first | exact .inl trivial | exact .inr trivial | simp
def Good (acc : List En) (i : Nat) : Prop := (∀ e ∈ acc, mayE e = true) ∧ acc.Pairwise LtE ∧ (∀ e ∈ acc, e.1.2.1 ≤ (i : Int)) ∧ acc.length = i
theorem Good.ins {acc : List En} {i sp n : Nat} (h : Good acc i) (hn : n < 256) (hi : i < 1000000000) : Good (ins acc (mkE sp i n)) (i + 1) := by
  obtain ⟨h1, h2, h3, h4⟩ := h
  have hs := mkE_seq sp i n
  refine ⟨fun e he => ?_, ins_pair h2 (fun x hx => by have := h3 x hx; rw [hs]; omega), fun e he => ?_, by rw [ins_length, h4]⟩
  · rcases ins_mem.1 he with rfl | he
    · exact mkE_may hn hi
    · exact h1 e he
  · rcases ins_mem.1 he with rfl | he
    · rw [hs]; omega
    · have := h3 e he; omega
theorem mkA_good {sp : Nat} {ns : List Int} (hb : Bytes ns) : ∀ (d i : Nat) (acc : List En), i + d < 1000000000 → Good acc i → Good (mkA sp ns d i acc) (i + d)
  | 0, i, acc, _, h => h
  | d + 1, i, acc, hd, h => by
    have hn : (ns.getD i 0).toNat < 256 := by
      by_cases hi : i < ns.length
      · have := hb _ (getD_mem hi 0); omega
      · rw [List.getD_eq_getElem?_getD, List.getElem?_eq_none (by omega)]; simp
    have := mkA_good (sp := sp) hb d (i + 1) _ (by omega) (h.ins (sp := sp) hn (by omega))
    rw [show i + 1 + d = i + (d + 1) by omega] at this
    exact this
theorem mkL_good {ns : List Int} (hb : Bytes ns) (hl : ns.length < 1000000000) (sp : Nat) : Good (mkL ns sp) ns.length := by
  have := mkA_good (sp := sp) hb ns.length 0 [] (by omega) ⟨(fun e h => by cases h), List.Pairwise.nil, (fun e h => by cases h), rfl⟩
  rwa [Nat.zero_add] at this
theorem mkL_rising {ns : List Int} (hb : Bytes ns) (hl : ns.length < 1000000000) (sp : Nat) : rising (mkL ns sp) = true := rising_of (mkL_good hb hl sp).1 (mkL_good hb hl sp).2.1
theorem l33 {q : Nat} (hq : 30 ≤ q) {inl : InlT} {mq : Nat} (m0 : Nat) {ns : List Int} (hb : Bytes ns) (hlen : ns.length < 1000000000) (hmq : ns.length < mq) (sp : Nat) (hsp : sp < 256) (d : Nat) : ∀ (i m : Nat) (acc : List En), i + d = ns.length → d < m → Good acc i →
    LP B (callN B (q + 1)) (inlN B (callN B q) inl mq) 33 m [1, 1, 0, 1] (s33_18 ns (sp : Int) (i : Int) acc) (KA B (callN B (q + 1)) (inlN B (callN B q) inl mq) 33 m0 [1, 1, 0, 1] (FI B (callN B (q + 1)) (inlN B (callN B q) inl mq) 33)) = (some (mkA sp ns d i acc) : Option (List En)) := by
  induction d with
  | zero =>
    intro i m acc hd hm hg
    obtain ⟨m, rfl⟩ : ∃ k, m = k + 1 := ⟨m - 1, by omega⟩
    rw [s33_18_l, bF (by omega), s33_18x61_k]
    rfl
  | succ d ih =>
    intro i m acc hd hm hg
    obtain ⟨m, rfl⟩ : ∃ k, m = k + 1 := ⟨m - 1, by omega⟩
    have hmem := hb _ (getD_mem (show i < ns.length by omega) 0)
    obtain ⟨n, hn⟩ : ∃ n : Nat, ns.getD i 0 = n := ⟨(ns.getD i 0).toNat, by omega⟩
    have hn256 : n < 256 := by omega
    have hwa : IntKind.i64.wrap (sp : Int) = (sp : Int) := w64 (by omega) (by omega)
    have hwn : IntKind.i64.wrap (ns.getD i 0) = (n : Int) := by rw [hn]; exact w64 (by omega) (by omega)
    have hms : IntKind.i64.wrap ((3 : Int) + (sp : Int).tmod 40) = ((3 + sp % 40 : Nat) : Int) := by
      rw [show (sp : Int).tmod 40 = ((sp % 40 : Nat) : Int) from rfl, w64 (by omega) (by omega)]; omega
    have htm : (n : Int).tmod ((3 + sp % 40 : Nat) : Int) = ((n % (3 + sp % 40) : Nat) : Int) := rfl
    have ht7 : (n : Int).tmod 7 = ((n % 7 : Nat) : Int) := rfl
    have hml : n % (3 + sp % 40) < 256 := by have := Nat.mod_lt n (show 3 + sp % 40 > 0 by omega); omega
    have hds := dg_size (n := n % (3 + sp % 40)) (by omega)
    have hne : ∀ x ∈ acc, x.1.2.1 ≠ ((i + 1 : Nat) : Int) := fun x hx => by have := hg.2.2.1 x hx; omega
    have hgn := hg.ins (sp := sp) hn256 (by omega)
    have hnext := ih (i + 1) m (ins acc (mkE sp i n)) (by omega) (by omega) hgn
    have hmay := mkE_may (sp := sp) (i := i) hn256 (by omega)
    have hmk : mkA sp ns (d + 1) i acc = mkA sp ns d (i + 1) (ins acc (mkE sp i n)) := by
      show mkA sp ns d (i + 1) (ins acc (mkE sp i (ns.getD i 0).toNat)) = _
      rw [hn, Int.toNat_natCast]
    rw [hmk]
    rw [s33_18_l, bT (by omega), if_pos (by omega), hwa, hms, if_neg (by omega), Int.toNat_natCast, hwn, htm, ht7]
    refine bnd (s42 (by omega) (n % (3 + sp % 40)) (by omega)) ?_
    rw [if_neg (by rw [i64max, show (ByteArray.mk #[(107 : UInt8), (101 : UInt8), (121 : UInt8)]).size = 3 from rfl]; omega)]
    refine bnd (s42 (by omega) n (by omega)) ?_
    have hgl := hg.2.2.2
    by_cases h7 : n % 7 = 0
    · have hbq : (((n % 7 : Nat) : Int) == (0 : Int)) = true := by rw [h7]; rfl
      have he : mkE sp i n = ((keyB ++ dg (n % (3 + sp % 40)), ((i + 1 : Nat) : Int), 2, ()), ⟨#[]⟩, ()) := by unfold mkE; rw [if_pos h7]
      rw [he] at hnext hmay ⊢
      rw [hbq, cond_true]
      exact (i66_21 (by omega) _ ns (sp : Int) i (by omega) acc (by omega) (by omega) (dg (n % (3 + sp % 40))) (dg n) hne hmay).trans hnext
    · have hbq : (((n % 7 : Nat) : Int) == (0 : Int)) = false := beq_eq_false_iff_ne.2 (by omega)
      have he : mkE sp i n = ((keyB ++ dg (n % (3 + sp % 40)), ((i + 1 : Nat) : Int), 1, ()), dg n, ()) := by unfold mkE; rw [if_neg h7]
      rw [he] at hnext hmay ⊢
      rw [hbq, cond_false]
      exact (i66_41 (by omega) _ ns (sp : Int) i (by omega) acc (by omega) (by omega) (dg (n % (3 + sp % 40))) (dg n) hne hmay).trans hnext
theorem s33 {k : Nat} {ns : List Int} (hb : Bytes ns) (hlen : ns.length < 1000000000) (hk : ns.length + 40 ≤ k) (sp : Nat) (hsp : sp < 256) : callN B k 33 [argAV (.sl u8) ns, .v (.int .u8) (sp : Int)] = (some (mkL ns sp) : Option (List En)) := by
  obtain ⟨k, rfl⟩ := Nat.exists_eq_add_of_le' (show 2 ≤ k by omega)
  refine (callS (k + 1) 33 _).trans ((t33 (callN B (k + 1)) (lvl B (k + 1)).2 (k + 1) ns (sp : Int)).trans ?_)
  rw [lvl2]
  exact l33 (by omega) (k + 1) hb hlen (by omega) sp hsp ns.length 0 (k + 1) [] (by omega) (by omega) ⟨(fun e h => by cases h), List.Pairwise.nil, (fun e h => by cases h), rfl⟩
theorem s18 {k : Nat} (h : 1 ≤ k) (x : Int) : callN B k 18 [.v i64 x] = (some x : Option Int) := by
  obtain ⟨k, rfl⟩ := Nat.exists_eq_add_of_le' h
  exact (callS k 18 _).trans (t18 (callN B k) (lvl B k).2 k x)
theorem putBlock_ok {l : List En} (h0 : l.length ≠ 0) (hr : rising l = true) (h64 : l.length ≤ 64) : putBlock l = finB (putB l l.length 0 [] []) := by
  unfold putBlock
  rw [if_neg (by simp [h0, hr]), if_neg (by omega)]
theorem awake_list : Bytes [(1 : Int), 2, 3] := fun x hx => by
  simp only [List.mem_cons, List.not_mem_nil, or_false] at hx
  omega
theorem finB_len' (x : List Int × List Int) : (finB x).1.length = x.1.length + x.2.length + 2 := finB_len x.1 x.2
theorem s19 {k : Nat} (hk : 100 ≤ k) : callN B k 19 [] = (some true : Option Bool) := by
  obtain ⟨k, rfl⟩ := Nat.exists_eq_add_of_le' (show 1 ≤ k by omega)
  refine (callS k 19 _).trans ((t19 (callN B k) (lvl B k).2 k).trans ?_)
  have hg := mkL_good awake_list (by decide) 0
  have hr := mkL_rising awake_list (by decide) 0
  have h3 : (mkL [(1 : Int), 2, 3] 0).length = 3 := hg.2.2.2
  have hp1 : putBlock [] = ([], 1, ()) := by unfold putBlock; rw [if_pos (.inl rfl)]
  have hp2 := putBlock_ok (by omega) hr (by omega)
  refine bnd (s17 (l := []) (by simp) (by simp; omega)) ?_
  refine bnd (s33 awake_list (by decide) (by simp; omega) 0 (by omega)) ?_
  refine bnd (s17 (by omega) (by omega)) ?_
  rw [hp1, hp2]
  refine bnd (s18 (by omega) _) ?_
  rw [show ((1 : Int) == (1 : Int)) = true from rfl, beq_self_eq_true, cond_true]
  refine bnd (s18 (by omega) _) ?_
  have : ((finB (putB (mkL [(1 : Int), 2, 3] 0) (mkL [(1 : Int), 2, 3] 0).length 0 [] [])).2.1 == (0 : Int)) = true := rfl
  rw [this, beq_self_eq_true, cond_true]
  refine congrArg some (decide_eq_true ?_)
  have hl := finB_len' (putB (mkL [(1 : Int), 2, 3] 0) (mkL [(1 : Int), 2, 3] 0).length 0 [] [])
  omega
end Go.Eng.Bk
/- BlockLong's function answers true. -/
namespace Go.Eng.Bk
open Go Go.Proofs Go.Eng
set_option linter.unusedVariables false
set_option linter.unusedSimpArgs false
abbrev uB : ByteArray := ByteArray.mk #[(117 : UInt8)]
def lgE (i : Nat) : En := ((uB, ((200 : Nat) : Int) - (i : Int), 1, ()), ByteArray.mk #[], ())
def lg (k : Nat) : List En := (List.range k).map lgE
theorem lg_length (k : Nat) : (lg k).length = k := by simp [lg]
theorem lg_succ (k : Nat) : lg (k + 1) = lg k ++ [lgE k] := by simp [lg, List.range_succ]
theorem lg_get {k i : Nat} (h : i < k) : (lg k).getD i d0 = lgE i := by
  rw [getD_lt' (by rw [lg_length]; exact h)]
  simp [lg]
theorem lgE_may {i : Nat} (h : i ≤ 100) : mayE (lgE i) = true := by
  unfold mayE mayK mayB lgE
  simp only [Bool.and_eq_true, decide_eq_true_eq, Bool.or_eq_true, beq_iff_eq]
  refine ⟨⟨⟨by decide, by omega, by omega, ?_⟩, by decide⟩, ?_⟩ <;> first | exact .inl trivial | exact .inr trivial | simp
theorem lgE_lt {i j : Nat} (h : i < j) : LtE (lgE i) (lgE j) := by
  refine .inr ⟨rfl, .inl ?_⟩
  show ((200 : Nat) : Int) - (i : Int) > ((200 : Nat) : Int) - (j : Int)
  omega
theorem lg_rising {k : Nat} (h : k ≤ 100) : rising (lg k) = true := by
  refine rising_of (fun e he => ?_) (List.pairwise_iff_getElem.2 (fun i j hi hj hij => ?_))
  · unfold lg at he
    obtain ⟨i, hi, rfl⟩ := List.mem_map.1 he
    exact lgE_may (by have := List.mem_range.1 hi; omega)
  · have h1 : (lg k)[i] = lgE i := by rw [← lg_get (show i < k by rw [lg_length] at hi; exact hi), getD_lt' hi]
    have h2 : (lg k)[j] = lgE j := by rw [← lg_get (show j < k by rw [lg_length] at hj; exact hj), getD_lt' hj]
    rw [h1, h2]
    exact lgE_lt hij
theorem swap_not {k i : Nat} (hi : i + 1 < k) : rising (((lg k).set i (lgE (i + 1))).set (i + 1) (lgE i)) = false := by
  cases hr : rising (((lg k).set i (lgE (i + 1))).set (i + 1) (lgE i)) with
  | false => rfl
  | true =>
    have hp := rising_pair hr
    have hl : (((lg k).set i (lgE (i + 1))).set (i + 1) (lgE i)).length = k := by rw [List.length_set, List.length_set, lg_length]
    have := List.pairwise_iff_getElem.1 hp i (i + 1) (by omega) (by omega) (by omega)
    rw [List.getElem_set_ne (by omega), List.getElem_set_self, List.getElem_set_self] at this
    exact (LtKe.irr (this.trans (lgE_lt (Nat.lt_succ_self i)))).elim
theorem putBlock_err {l : List En} (h0 : l.length ≠ 0) (hr : rising l = true) : (putBlock l).2.1 = if l.length > 64 then 4 else 0 := by
  unfold putBlock
  rw [if_neg (by simp [h0, hr])]
  split <;> rfl
theorem putBlock_bad {l : List En} (hr : rising l = false) : putBlock l = ([], 1, ()) := by
  unfold putBlock
  rw [if_pos (.inr hr)]
theorem l3 {q : Nat} (hq : 400 ≤ q) {inl : InlT} (m0 : Nat) (n a : Nat) (hn : n < 256) (ha : a < 256) (d : Nat) : ∀ (i m : Nat), i + d = 1 + n % 100 → d < m →
    LP B (callN B q) inl 3 m [1, 1, 1, 0, 1] (s3_2 (n : Int) (a : Int) (lg i) (i : Int)) (KA B (callN B q) inl 3 m0 [1, 1, 1, 0, 1] (FI B (callN B q) inl 3)) = (some true : Option Bool) := by
  have hw0 : IntKind.i64.wrap (n : Int) = (n : Int) := w64 (by omega) (by omega)
  have hwa : IntKind.i64.wrap (a : Int) = (a : Int) := w64 (by omega) (by omega)
  have hK : IntKind.i64.wrap ((1 : Int) + (IntKind.i64.wrap (n : Int)).tmod (100 : Int)) = ((1 + n % 100 : Nat) : Int) := by
    rw [hw0, show (n : Int).tmod 100 = ((n % 100 : Nat) : Int) from rfl, w64 (by omega) (by omega)]; omega
  have hlen := lg_length (1 + n % 100)
  induction d with
  | zero =>
    intro i m hd hm
    obtain ⟨m, rfl⟩ : ∃ k, m = k + 1 := ⟨m - 1, by omega⟩
    obtain rfl : i = 1 + n % 100 := by omega
    rw [s3_2_l, hK, bF (by omega), s3_2x3_k, hK]
    have hr := lg_rising (k := 1 + n % 100) (by omega)
    have he := putBlock_err (by omega) hr
    rw [hlen] at he
    refine bnd (s17 (by omega) (by omega)) ?_
    refine bnd (s18 (by omega) _) ?_
    have tail_ : (bif decide (((1 + n % 100 : Nat) : Int) < (2 : Int)) then ((callN B q 19 []).bind fun (v7 : Bool) => some (v7)) else (if IntKind.i64.wrap (((1 + n % 100 : Nat) : Int) - (1 : Int)) = (0 : Int) then (none) else (if (0 : Int) ≤ (IntKind.i64.wrap (a : Int)).tmod (IntKind.i64.wrap (((1 + n % 100 : Nat) : Int) - (1 : Int))) ∧ (IntKind.i64.wrap (a : Int)).tmod (IntKind.i64.wrap (((1 + n % 100 : Nat) : Int) - (1 : Int))) < ((lg (1 + n % 100)).length : Int) then (if (0 : Int) ≤ IntKind.i64.wrap ((IntKind.i64.wrap (a : Int)).tmod (IntKind.i64.wrap (((1 + n % 100 : Nat) : Int) - (1 : Int))) + (1 : Int)) ∧ IntKind.i64.wrap ((IntKind.i64.wrap (a : Int)).tmod (IntKind.i64.wrap (((1 + n % 100 : Nat) : Int) - (1 : Int))) + (1 : Int)) < ((lg (1 + n % 100)).length : Int) then (if (0 : Int) ≤ (IntKind.i64.wrap (a : Int)).tmod (IntKind.i64.wrap (((1 + n % 100 : Nat) : Int) - (1 : Int))) ∧ (IntKind.i64.wrap (a : Int)).tmod (IntKind.i64.wrap (((1 + n % 100 : Nat) : Int) - (1 : Int))) < ((lg (1 + n % 100)).length : Int) then (if (0 : Int) ≤ IntKind.i64.wrap ((IntKind.i64.wrap (a : Int)).tmod (IntKind.i64.wrap (((1 + n % 100 : Nat) : Int) - (1 : Int))) + (1 : Int)) ∧ IntKind.i64.wrap ((IntKind.i64.wrap (a : Int)).tmod (IntKind.i64.wrap (((1 + n % 100 : Nat) : Int) - (1 : Int))) + (1 : Int)) < ((((lg (1 + n % 100)).set ((IntKind.i64.wrap (a : Int)).tmod (IntKind.i64.wrap (((1 + n % 100 : Nat) : Int) - (1 : Int)))).toNat ((lg (1 + n % 100)).getD (IntKind.i64.wrap ((IntKind.i64.wrap (a : Int)).tmod (IntKind.i64.wrap (((1 + n % 100 : Nat) : Int) - (1 : Int))) + (1 : Int))).toNat d0)).length : Nat) : Int) then ((callN B q 17 [(.v (.sl EntryT) (((lg (1 + n % 100)).set ((IntKind.i64.wrap (a : Int)).tmod (IntKind.i64.wrap (((1 + n % 100 : Nat) : Int) - (1 : Int)))).toNat ((lg (1 + n % 100)).getD (IntKind.i64.wrap ((IntKind.i64.wrap (a : Int)).tmod (IntKind.i64.wrap (((1 + n % 100 : Nat) : Int) - (1 : Int))) + (1 : Int))).toNat d0)).set (IntKind.i64.wrap ((IntKind.i64.wrap (a : Int)).tmod (IntKind.i64.wrap (((1 + n % 100 : Nat) : Int) - (1 : Int))) + (1 : Int))).toNat ((lg (1 + n % 100)).getD ((IntKind.i64.wrap (a : Int)).tmod (IntKind.i64.wrap (((1 + n % 100 : Nat) : Int) - (1 : Int)))).toNat d0)))]).bind fun (v8 : ((List Int) × Int × Unit)) => (callN B q 18 [(.v (.int .i64) (v8.snd.fst))]).bind fun (v9 : Int) => bif (v9 == (1 : Int)) == true then ((callN B q 19 []).bind fun (v10 : Bool) => some (v10)) else (some (false))) else (none)) else (none)) else (none)) else (none))) : Option Bool) = some true := by
      by_cases h2 : n % 100 = 0
      · rw [bT (by omega)]
        exact bnd (s19 (by omega)) rfl
      · rw [bF (by omega)]
        have hw1 : IntKind.i64.wrap (((1 + n % 100 : Nat) : Int) - (1 : Int)) = ((n % 100 : Nat) : Int) := by rw [w64 (by omega) (by omega)]; omega
        have htm : (a : Int).tmod ((n % 100 : Nat) : Int) = ((a % (n % 100) : Nat) : Int) := rfl
        have hlt := Nat.mod_lt a (show n % 100 > 0 by omega)
        have hw2 : IntKind.i64.wrap (((a % (n % 100) : Nat) : Int) + 1) = ((a % (n % 100) + 1 : Nat) : Int) := by rw [w64 (by omega) (by omega)]; omega
        rw [hw1, hwa, htm, hw2, hlen, if_neg (by omega), if_pos (by omega), if_pos (by omega), if_pos (by omega), Int.toNat_natCast, Int.toNat_natCast, if_pos (by rw [List.length_set, hlen]; omega), lg_get (by omega), lg_get (by omega)]
        have hsw := swap_not (k := 1 + n % 100) (i := a % (n % 100)) (by omega)
        have hsl : (((lg (1 + n % 100)).set (a % (n % 100)) (lgE (a % (n % 100) + 1))).set (a % (n % 100) + 1) (lgE (a % (n % 100)))).length = 1 + n % 100 := by rw [List.length_set, List.length_set, hlen]
        refine bnd (s17 (by omega) (by omega)) ?_
        rw [putBlock_bad hsw]
        refine bnd (s18 (by omega) _) ?_
        rw [show (((1 : Int) == (1 : Int)) == true) = true from rfl, cond_true]
        exact bnd (s19 (by omega)) rfl
    by_cases h64 : 1 + n % 100 > 64
    · rw [if_pos h64] at he
      rw [he]
      have e1 : (!(((4 : Int) == (0 : Int)) == decide (((1 + n % 100 : Nat) : Int) ≤ 64))) = false := by
        rw [decide_eq_false (by omega)]; rfl
      rw [e1, beq_self_eq_true, cond_true, decide_eq_true (show ((1 + n % 100 : Nat) : Int) > 64 by omega), beq_self_eq_true, cond_true]
      refine bnd (s18 (by omega) _) ?_
      rw [show ((4 : Int) != (4 : Int)) = false from rfl, cond_false]
      exact tail_
    · rw [if_neg h64] at he
      rw [he]
      have e1 : (!(((0 : Int) == (0 : Int)) == decide (((1 + n % 100 : Nat) : Int) ≤ 64))) = false := by
        rw [decide_eq_true (by omega)]; rfl
      rw [e1, beq_self_eq_true, cond_true, decide_eq_false (show ¬ ((1 + n % 100 : Nat) : Int) > 64 by omega), show (false == true) = false from rfl, cond_false]
      exact tail_
  | succ d ih =>
    intro i m hd hm
    obtain ⟨m, rfl⟩ : ∃ k, m = k + 1 := ⟨m - 1, by omega⟩
    have hl := lg_length i
    have hw1 : IntKind.i64.wrap ((200 : Int) - (i : Int)) = ((200 : Nat) : Int) - (i : Int) := by rw [w64 (by omega) (by omega)]; omega
    have hw2 : IntKind.i64.wrap ((i : Int) + 1) = ((i + 1 : Nat) : Int) := by rw [w64 (by omega) (by omega)]; omega
    rw [s3_2_l, hK, bT (by omega), hw1, hw2, if_pos (by simp only [List.length_cons, List.length_nil]; omega)]
    have := ih (i + 1) m (by omega) (by omega)
    rw [lg_succ] at this
    exact this
theorem s3 {k : Nat} (hk : 500 ≤ k) (n a : Nat) (hn : n < 256) (ha : a < 256) : callN B k 3 [argAV u8 (n : Int), argAV u8 (a : Int)] = (some true : Option Bool) := by
  obtain ⟨k, rfl⟩ := Nat.exists_eq_add_of_le' (show 1 ≤ k by omega)
  refine (callS k 3 _).trans ((t3 (callN B k) (lvl B k).2 k (n : Int) (a : Int)).trans ?_)
  exact l3 (by omega) k n a hn ha (1 + n % 100) 0 k (by omega) (by omega)
end Go.Eng.Bk
/- BlockTurned's function answers true. -/
namespace Go.Eng.Bk
open Go Go.Proofs Go.Eng
set_option linter.unusedVariables false
set_option linter.unusedSimpArgs false
theorem putBlock_zero {l : List En} (h : (putBlock l).2.1 = 0) : l.length ≠ 0 ∧ rising l = true ∧ l.length ≤ 64 := by
  unfold putBlock at h
  split at h
  · cases h
  · rename_i hc
    split at h
    · cases h
    · refine ⟨fun h0 => hc (.inl h0), ?_, by omega⟩
      cases hr : rising l with
      | true => rfl
      | false => exact absurd (.inr hr) hc
theorem getRes_cases (b : List Int) (o : Option (List En)) : getRes b o = ([], false, ()) ∨ ∃ out, o = some out ∧ getRes b o = (out, true, ()) ∧ putBlock out = (b, 0, ()) := by
  unfold getRes
  cases o with
  | none => exact .inl rfl
  | some out =>
    simp only
    split
    · rename_i h
      refine .inr ⟨out, rfl, rfl, ?_⟩
      rw [← h.2, ← h.1]
    · exact .inl rfl
theorem getBlock_cases (b : List Int) : getBlock b = ([], false, ()) ∨ ∃ out, getBlock b = (out, true, ()) ∧ putBlock out = (b, 0, ()) := by
  unfold getBlock
  split
  · rcases getRes_cases b (getLoop (b.take ((b.length : Int) - 2 - 4 * (gfx b ((b.length : Int) - 2) 2).1).toNat) (b.length + 1) 0 ⟨#[]⟩ []) with h | ⟨out, _, h, h'⟩
    · exact .inl h
    · exact .inr ⟨out, h, h'⟩
  · exact .inl rfl
theorem Bytes.app {a b : List Int} (ha : Bytes a) (hb : Bytes b) : Bytes (a ++ b) := fun x hx => by
  rcases List.mem_append.1 hx with h | h
  · exact ha x h
  · exact hb x h
theorem encE_bytes (n : Nat) (e : En) : Bytes (encE n e) :=
  (((enc_bytes _).app ((enc_bytes _).app (bytesOf_bytes _))).app (enc_bytes _)).app ((enc_bytes _).app (bytesOf_bytes _))
theorem putB_bytes (l : List En) : ∀ (d i : Nat) (out pl : List Int), Bytes out → Bytes pl → Bytes (putB l d i out pl).1 ∧ Bytes (putB l d i out pl).2
  | 0, _, _, _, h1, h2 => ⟨h1, h2⟩
  | d + 1, i, out, pl, h1, h2 => putB_bytes l d (i + 1) _ _ (h1.app (encE_bytes _ _)) (by
      split
      · exact h2.app (fx_bytes _ _)
      · exact h2)
theorem putBlock_bytes (l : List En) : Bytes (putBlock l).1 := by
  have nil : Bytes [] := fun x hx => by cases hx
  unfold putBlock
  split
  · exact nil
  · split
    · exact nil
    · have := putB_bytes l l.length 0 [] [] nil nil
      exact (this.1.app this.2).app (fx_bytes _ _)
theorem e8 {k : Nat} {a3 : List Int} (hb : Bytes a3) (hl : a3.length ≤ 2000) (hk : 60000 ≤ k) :
    ((callN B k 34 [(.v (.sl (.int .u8)) (a3))]).bind fun (v7 : ((List En) × Bool × Unit)) => (callN B k 17 [(.v (.sl EntryT) (v7.fst))]).bind fun (v8 : ((List Int) × Int × Unit)) => bif (!v7.snd.fst) == false then (bif ((strOf v8.fst).toList == (strOf a3).toList) == true then (bif v7.snd.fst == false then (bif ((↑(List.length v7.fst) : Int) == (0 : Int)) == true then ((callN B k 19 []).bind fun (v9 : Bool) => some (v9)) else (some (false))) else ((callN B k 19 []).bind fun (v10 : Bool) => some (v10))) else (some (false))) else (bif v7.snd.fst == false then (bif ((↑(List.length v7.fst) : Int) == (0 : Int)) == true then ((callN B k 19 []).bind fun (v11 : Bool) => some (v11)) else (some (false))) else ((callN B k 19 []).bind fun (v12 : Bool) => some (v12)))) = some true := by
  refine bnd (s34 hb (by omega) (by omega)) ?_
  rcases getBlock_cases a3 with h | ⟨out, h, hp⟩
  · rw [h]
    refine bnd (s17 (l := []) (by simp) (by simp; omega)) ?_
    exact bnd (s19 (by omega)) rfl
  · rw [h]
    have := putBlock_zero (l := out) (by rw [hp])
    refine bnd (s17 (l := out) (by omega) (by omega)) ?_
    rw [hp]
    simp only [beq_self_eq_true]
    exact bnd (s19 (by omega)) rfl
theorem s8 {k : Nat} (hk : 100000 ≤ k) {a0 : List Int} (h0 : Bytes a0) (a1 : Nat) (h1 : a1 < 65536) {a2 a3 : List Int} (h3 : Bytes a3) : callN B k 8 [argAV (.sl u8) a0, argAV u16 (a1 : Int), argAV (.sl u8) a2, argAV (.sl u8) a3] = (some true : Option Bool) := by
  obtain ⟨k, rfl⟩ := Nat.exists_eq_add_of_le' (show 1 ≤ k by omega)
  refine (callS k 8 _).trans ((t8 (callN B k) (lvl B k).2 k a0 (a1 : Int) a2 a3).trans ?_)
  have aw : (((callN B k 19 []).bind fun (v0 : Bool) => some (v0)) : Option Bool) = some true := bnd (s19 (by omega)) rfl
  by_cases c1 : (((a0.length : Int) == (0 : Int)) == false) = true
  case neg => rw [Bool.not_eq_true] at c1; rw [c1]; exact aw
  rw [c1, cond_true]
  by_cases c2 : (a0.length : Int) > 64
  · rw [decide_eq_true c2]; exact aw
  rw [decide_eq_false c2, beq_self_eq_true, cond_true]
  by_cases c3 : (((a2.length : Int) == (0 : Int)) == false) = true
  case neg => rw [Bool.not_eq_true] at c3; rw [c3]; exact aw
  rw [c3, cond_true]
  by_cases c4 : (a2.length : Int) > 50
  · rw [decide_eq_true c4]; exact aw
  rw [decide_eq_false c4, beq_self_eq_true, cond_true]
  by_cases c5 : (a3.length : Int) > 2000
  · rw [decide_eq_true c5]; exact aw
  rw [decide_eq_false c5, cond_false]
  have hpos : 0 < a0.length := by
    cases h : a0.length with
    | zero => rw [h] at c1; exact absurd c1 (by decide)
    | succ n => omega
  have hm := mkL_good h0 (by omega) 5
  have hr := mkL_rising h0 (by omega) 5
  have hml : (mkL a0 5).length = a0.length := hm.2.2.2
  have hp := putBlock_ok (l := mkL a0 5) (by omega) hr (by omega)
  refine bnd (s33 h0 (by omega) (by omega) 5 (by omega)) ?_
  refine bnd (s17 (l := mkL a0 5) (by omega) (by omega)) ?_
  have hbl := putBlock_length (mkL a0 5)
  have hby := putBlock_bytes (mkL a0 5)
  have hb2 : 2 ≤ (putBlock (mkL a0 5)).1.length := by rw [hp, finB_len']; omega
  generalize (putBlock (mkL a0 5)).1 = b at hbl hby hb2 ⊢
  have hn0 : ((b.length : Int) == (0 : Int)) = false := by rw [beq_eq_false_iff_ne]; omega
  rw [hn0, cond_false, if_neg (by omega)]
  rw [w64 (x := (a1 : Int)) (by omega) (by omega)]
  have hmod : Int.tmod (a1 : Int) (b.length : Int) = ((a1 % b.length : Nat) : Int) := rfl
  rw [hmod]
  have hlt : a1 % b.length < b.length := Nat.mod_lt _ (by omega)
  rw [if_pos (by omega), Int.toNat_natCast, List.drop_zero]
  have hbt := hby.take (a1 % b.length)
  have htl : (b.take (a1 % b.length)).length ≤ 40000 := by rw [List.length_take]; omega
  generalize b.take (a1 % b.length) = t at hbt htl ⊢
  refine bnd (s34 hbt (by omega) (by omega)) ?_
  rcases getBlock_cases t with h | ⟨out, h, hpo⟩
  · rw [h, cond_false]
    exact e8 h3 (by omega) (by omega)
  · rw [h, cond_true, if_neg (by omega), if_pos (by omega)]
    refine bnd (s35 hbt (by omega) (by omega)) ?_
    rw [h]
    have := putBlock_zero (l := out) (by rw [hpo])
    refine bnd (s17 (l := out) (by omega) (by omega)) ?_
    rw [hpo]
    refine bnd (s18 (by omega) _) ?_
    rw [show (((0 : Int) != (0 : Int)) == false) = true from rfl, cond_true, if_neg (by omega), if_pos (by omega)]
    simp only [beq_self_eq_true, Bool.not_true, cond_false]
    exact e8 h3 (by omega) (by omega)
end Go.Eng.Bk
/- What the machine answers at some functions of the program: printed by the generator, each checked by the kernel. -/
namespace Go.Eng.Bk
open Go Go.Proofs Go.Eng
set_option linter.unusedVariables false
set_option maxRecDepth 100000
section
variable (call : CallT B) (inl : InlT) (m : Nat)
/-! function 85 -/
def s85_9 (a0 : (List Int)) (v0 : (Int × Bool × Unit)) (v1 : ((List Int) × Int × Bool × Unit)) (x4 : (List En)) (x5 : Int) (x6 : Int) : St := { t := [(.v (.sl (.int .u8)) (a0)), .bad, (.own 0 26 EntryT (x4)), (.v (.sl (.int .u8)) (v1.fst)), (.v .bool (false)), (.v (.int .i64) (v0.fst)), .bad, (.v (.int .i64) (x5)), (.v (.int .i64) (x6)), .bad, .bad, .bad, .bad, (.raw undef), (.raw undef), .bad, .bad, .bad, .bad, .bad, .bad, .bad, .bad, .bad, .bad, .bad, .bad, .bad, .bad, .bad, .bad, .bad, .bad, .bad, .bad, .bad, .bad, .bad, .bad, .bad, .bad, .bad, .bad, .bad, .bad, .bad, .bad, .bad, .bad, .bad, .bad, .bad, .bad, .bad, .bad, .bad, .bad, .bad, .bad, .bad, .bad, .bad, .bad, .bad, .bad, .bad, .bad, .bad, .bad, .bad, .bad, .bad, .bad, .bad, .bad, .bad, .bad, (.raw undef), (.raw undef), (.raw undef), (.raw undef), (.raw undef), (.raw undef), (.raw undef), (.raw undef), (.raw undef), (.raw undef), (.raw undef), (.raw undef), (.raw undef), (.raw undef), (.raw undef), (.raw undef), (.raw undef), (.raw undef), (.raw undef), (.raw undef), (.raw undef), (.raw undef), (.raw undef)], bx := [none], live := 1, g := [] }
def s85_9x11 (y0 : (List Int)) (y1 : Int) : St := { t := [(.v (.sl (.int .u8)) (y0)), .bad, .nilS, .nilS, (.v .bool (false)), .bad, .bad, (.v (.int .i64) (y1)), .bad, .bad, .bad, .bad, .bad, (.raw undef), (.raw undef), .bad, .bad, .bad, .bad, .bad, .bad, .bad, .bad, .bad, .bad, .bad, .bad, .bad, .bad, .bad, .bad, .bad, .bad, .bad, .bad, .bad, .bad, .bad, .bad, .bad, .bad, .bad, .bad, .bad, .bad, .bad, .bad, .bad, .bad, .bad, .bad, .bad, .bad, .bad, .bad, .bad, .bad, .bad, .bad, .bad, .bad, .bad, .bad, .bad, .bad, .bad, .bad, .bad, .bad, .bad, .bad, .bad, .bad, .bad, .bad, .bad, .bad, (.raw undef), (.raw undef), (.raw undef), (.raw undef), (.raw undef), (.raw undef), (.raw undef), (.raw undef), (.raw undef), (.raw undef), (.raw undef), (.raw undef), (.raw undef), (.raw undef), (.raw undef), (.raw undef), (.raw undef), (.raw undef), (.raw undef), (.raw undef), (.raw undef), (.raw undef), (.raw undef)], bx := [none, none, none, none, none, none, none, none, none, none, none, none, none, none, none, none, none, none, none, none, none], live := 1, g := [] }
def s85_9x13 (y0 : (List Int)) (y1 : Int) : St := { t := [(.v (.sl (.int .u8)) (y0)), .bad, .nilS, .nilS, (.v .bool (false)), .bad, .bad, (.v (.int .i64) (y1)), .bad, .bad, .bad, .bad, .bad, (.raw undef), (.raw undef), .bad, .bad, .bad, .bad, .bad, .bad, .bad, .bad, .bad, .bad, .bad, .bad, .bad, .bad, .bad, .bad, .bad, .bad, .bad, .bad, .bad, .bad, .bad, .bad, .bad, .bad, .bad, .bad, .bad, .bad, .bad, .bad, .bad, .bad, .bad, .bad, .bad, .bad, .bad, .bad, .bad, .bad, .bad, .bad, .bad, .bad, .bad, .bad, .bad, .bad, .bad, .bad, .bad, .bad, .bad, .bad, .bad, .bad, .bad, .bad, .bad, .bad, (.raw undef), (.raw undef), (.raw undef), (.raw undef), (.raw undef), (.raw undef), (.raw undef), (.raw undef), (.raw undef), (.raw undef), (.raw undef), (.raw undef), (.raw undef), (.raw undef), (.raw undef), (.raw undef), (.raw undef), (.raw undef), (.raw undef), (.raw undef), (.raw undef), (.raw undef), (.raw undef)], bx := [none, none, none, none, none, none, none, none, none, none, none, none, none, none, none, none, none, none, none, none, none, none, none, none, none, none, none, none, none, none, none, none, none, none, none, none, none, none], live := 5708990770823839524233143877797980545530986497, g := [] }
def s85_9x14 (y0 : (List Int)) (y1 : ((List Int) × Int × Bool × Unit)) (y2 : (List En)) (y3 : Int) : St := { t := [(.v (.sl (.int .u8)) (y0)), .bad, (.own 0 26 EntryT (y2)), (.v (.sl (.int .u8)) (y1.fst)), (.v .bool (false)), .bad, .bad, (.v (.int .i64) (y3)), .bad, .bad, .bad, .bad, .bad, (.raw undef), (.raw undef), .bad, .bad, .bad, .bad, .bad, .bad, .bad, .bad, .bad, .bad, .bad, .bad, .bad, .bad, .bad, .bad, .bad, .bad, .bad, .bad, .bad, .bad, .bad, .bad, .bad, .bad, .bad, .bad, .bad, .bad, .bad, .bad, .bad, .bad, .bad, .bad, .bad, .bad, .bad, .bad, .bad, .bad, .bad, .bad, .bad, .bad, .bad, .bad, .bad, .bad, .bad, .bad, .bad, .bad, .bad, .bad, .bad, .bad, .bad, .bad, .bad, .bad, (.raw undef), (.raw undef), (.raw undef), (.raw undef), (.raw undef), (.raw undef), (.raw undef), (.raw undef), (.raw undef), (.raw undef), (.raw undef), (.raw undef), (.raw undef), (.raw undef), (.raw undef), (.raw undef), (.raw undef), (.raw undef), (.raw undef), (.raw undef), (.raw undef), (.raw undef), (.raw undef)], bx := [none, none, none, none], live := 1, g := [] }
theorem s85_9_l {R : Type} (K : AEx → St → Option R) (a0 : (List Int)) (v0 : (Int × Bool × Unit)) (v1 : ((List Int) × Int × Bool × Unit)) (x4 : (List En)) (x5 : Int) (x6 : Int) : LP B call inl 85 (m + 1) [1, 1, 1, 1, 1, 1, 1, 0, 1] (s85_9 a0 v0 v1 x4 x5 x6) K = (bif decide (x6 < v0.fst) then (if (0 : Int) ≤ v0.fst ∧ v0.fst ≤ (↑(List.length a0) : Int) then ((call 108 [(.v (.sl (.int .u8)) (List.drop (0 : Nat) (List.take (Int.toNat v0.fst) a0))), (.v (.int .i64) (x6))]).bind fun (v10 : ((List Int) × Int × Bool × Unit)) => bif !v10.snd.snd.fst then (K .ret (s85_9x11 a0 x5)) else ((call 34 [(.v (.sl (.int .u8)) (v10.fst))]).bind fun (v12 : ((List En) × Bool × Unit)) => bif (!v12.snd.fst) == false then (bif decide (IntKind.i64.wrap ((↑x4.length : Int) + (↑(List.length v12.fst) : Int)) > (256 : Int)) then (K .ret (s85_9x13 a0 x5)) else (bif x5 == (0 : Int) then (if (x4.length + List.length v12.fst) * (48 : Nat) ≤ 140737488355328 then (LP B call inl 85 m [1, 1, 1, 1, 1, 1, 1, 0, 1] (s85_9 a0 v0 v1 (x4 ++ v12.fst) ((↑(List.length v12.fst) : Int)) (v10.snd.fst)) K) else (none)) else (if (x4.length + List.length v12.fst) * (48 : Nat) ≤ 140737488355328 then (LP B call inl 85 m [1, 1, 1, 1, 1, 1, 1, 0, 1] (s85_9 a0 v0 v1 (x4 ++ v12.fst) (x5) (v10.snd.fst)) K) else (none)))) else (K .ret (s85_9x13 a0 x5)))) else (none)) else (K (.exit 0) (s85_9x14 a0 v1 x4 x5))) := by kernel_rfl
theorem s85_9x11_k (a0 : (List Int)) (x5 : Int) : (KA B call inl 85 m [1, 1, 1, 1, 1, 1, 1, 0, 1] (FI B call inl 85)) .ret (s85_9x11 a0 x5) = (some (([], [], false, ()))) := by kernel_rfl
theorem s85_9x13_k (a0 : (List Int)) (x5 : Int) : (KA B call inl 85 m [1, 1, 1, 1, 1, 1, 1, 0, 1] (FI B call inl 85)) .ret (s85_9x13 a0 x5) = (some (([], [], false, ()))) := by kernel_rfl
theorem s85_9x14_k (a0 : (List Int)) (v1 : ((List Int) × Int × Bool × Unit)) (x4 : (List En)) (x5 : Int) : (KA B call inl 85 m [1, 1, 1, 1, 1, 1, 1, 0, 1] (FI B call inl 85)) (.exit 0) (s85_9x14 a0 v1 x4 x5) = (bif (x5 == (0 : Int)) == false then ((call 52 [(.v (.sl EntryT) (x4))]).bind fun (v17 : Bool) => bif !v17 then (some (([], [], false, ()))) else ((call 82 [(.v (.sl EntryT) (x4)), (.v (.int .i64) (x5))]).bind fun (v18 : ((List Int) × (List Int) × Unit)) => (call 83 [(.v (.sl (.int .u8)) (v18.fst)), (.v (.sl (.int .u8)) (v1.fst)), (.v (.sl (.int .u8)) (v18.snd.fst)), (.v (.int .i64) ((↑x4.length : Int)))]).bind fun (v19 : (List Int)) => (call 69 [(.v (.sl (.int .u8)) (v19)), (.v (.sl (.int .u8)) (a0))]).bind fun (v20 : Bool) => some ((x4, v1.fst, v20, ())))) else (some (([], [], false, ())))) := by kernel_rfl
theorem t85 (a0 : (List Int)) : stepN B call inl m 85 [argAV (.sl (.int .u8)) a0] = ((call 67 [(.v (.sl (.int .u8)) (a0)), (.v (.int .i64) (IntKind.i64.wrap ((↑(List.length a0) : Int) - (16 : Int)))), (.v (.int .i64) ((4 : Int)))]).bind fun (v0 : (Int × Bool × Unit)) => bif (!v0.snd.fst) == false then (bif decide (v0.fst > (↑(List.length a0) : Int)) then (some (([], [], false, ()))) else ((call 108 [(.v (.sl (.int .u8)) (a0)), (.v (.int .i64) (v0.fst))]).bind fun (v1 : ((List Int) × Int × Bool × Unit)) => bif !v1.snd.snd.fst then (some (([], [], false, ()))) else (LP B call inl 85 m [1, 1, 1, 1, 1, 1, 1, 0, 1] (s85_9 a0 v0 v1 ([]) ((0 : Int)) ((0 : Int))) (KA B call inl 85 m [1, 1, 1, 1, 1, 1, 1, 0, 1] (FI B call inl 85))))) else (some (([], [], false, ()))) : Option ((List En) × (List Int) × Bool × Unit)) := by kernel_rfl
end
end Go.Eng.Bk
/- A table read: what the program's function answers. -/
namespace Go.Eng.Bk
open Go Go.Proofs Go.Eng
set_option linter.unusedVariables false
set_option linter.unusedSimpArgs false
theorem unf_cases {l : List Int} (hl : Bytes l) (p : Nat) : unf l p = ([], 0, false, ()) ∨ ∃ (b : List Int) (n : Nat), unf l p = (b, ((p + 8 + n : Nat) : Int), true, ()) ∧ b.length = n ∧ p + 8 + n ≤ l.length ∧ n ≤ 1048576 ∧ Bytes b := by
  by_cases h : p + 8 ≤ l.length ∧ bval 0 ((l.drop p).take 4) ≤ 1048576 ∧ p + 8 + bval 0 ((l.drop p).take 4) ≤ l.length ∧ bval 0 ((l.drop (p + 4)).take 4) = crc ((l.drop (p + 8)).take (bval 0 ((l.drop p).take 4)))
  · refine .inr ⟨_, _, unf_yes rfl h.2.1 h.2.2.1 h.2.2.2, ?_, h.2.2.1, h.2.1, (hl.drop _).take _⟩
    rw [List.length_take, List.length_drop]; omega
  · exact .inl (unf_no h)
/-- The rounds of reading: the entries and how many the first block has. -/
def rdL (src : List Int) (at_ : Nat) : Nat → Nat → Nat → List En → Option (List En × Nat)
  | 0, _, _, _ => none
  | m + 1, p, per, l =>
    if p < at_ then
      (if (unf src p).2.2.1 = true ∧ (getBlock (unf src p).1).2.1 = true ∧ l.length + (getBlock (unf src p).1).1.length ≤ 256 then
        rdL src at_ m (unf src p).2.1.toNat (if per = 0 then (getBlock (unf src p).1).1.length else per) (l ++ (getBlock (unf src p).1).1)
      else none)
    else some (l, per)
theorem rdL_end {src : List Int} {at_ m p per : Nat} {l : List En} (h : ¬ p < at_) : rdL src at_ (m + 1) p per l = some (l, per) := if_neg h
theorem rdL_no {src : List Int} {at_ m p per : Nat} {l : List En} (h : p < at_) (h2 : ¬ ((unf src p).2.2.1 = true ∧ (getBlock (unf src p).1).2.1 = true ∧ l.length + (getBlock (unf src p).1).1.length ≤ 256)) : rdL src at_ (m + 1) p per l = none := (if_pos h).trans (if_neg h2)
theorem rdL_go {src : List Int} {at_ m p per : Nat} {l part : List En} {b : List Int} {q : Nat} (h : p < at_) (hu : unf src p = (b, (q : Int), true, ())) (hg : getBlock b = (part, true, ())) (h2 : l.length + part.length ≤ 256) : rdL src at_ (m + 1) p per l = rdL src at_ m q (if per = 0 then part.length else per) (l ++ part) := by
  refine (if_pos h).trans ?_
  rw [hu]
  dsimp only
  rw [hg]
  exact if_pos ⟨rfl, rfl, h2⟩
/-- What is made of what was read. -/
def finP (b f : List Int) : Option (List En × Nat) → List En × List Int × Bool × Unit
  | none => ([], [], false, ())
  | some (l, per) => if per = 0 ∨ rising l = false then ([], [], false, ()) else (l, f, decide (tableL l per f = b), ())
theorem l85e {k : Nat} {inl : InlT} {b : List Int} (hlen : b.length ≤ 1000000000) (hk : 20000000 ≤ k) (v1 : List Int × Int × Bool × Unit) (hf : v1.1.length ≤ 1048576) {l : List En} {per : Nat} (h1 : l.length ≤ 256) (h2 : per ≤ 64) (h3 : per = 0 ∨ 1 ≤ l.length) :
    (KA B (callN B k) inl 85 k [1, 1, 1, 1, 1, 1, 1, 0, 1] (FI B (callN B k) inl 85)) (.exit 0) (s85_9x14 b v1 l (per : Int)) = (some (finP b v1.1 (some (l, per))) : Option (List En × List Int × Bool × Unit)) := by
  rw [s85_9x14_k]
  show _ = some (if per = 0 ∨ rising l = false then ([], [], false, ()) else (l, v1.1, decide (tableL l per v1.1 = b), ()))
  by_cases h0 : per = 0
  · rw [show ((per : Int) == (0 : Int)) = true from beq_iff_eq.2 (by omega), show (true == false) = false from rfl, cond_false, if_pos (.inl h0)]
  rw [show ((per : Int) == (0 : Int)) = false from beq_eq_false_iff_ne.2 (by omega), show (false == false) = true from rfl, cond_true]
  refine bnd (s52 (by omega) (by omega)) ?_
  cases hr : rising l with
  | false => rw [if_pos (.inr rfl)]; rfl
  | true =>
    rw [show (!true) = false from rfl, cond_false, if_neg (fun h => h.elim h0 (fun h => by cases h))]
    have hb := bodyT_len (l := l) (per := per) (by omega) (by omega)
    refine bnd (s82 (by omega) (by omega) (by omega) per (by omega) (by omega)) ?_
    refine bnd (s83 (a := (bodyT l per).1) (f := v1.1) (p := (bodyT l per).2) l.length (by omega) (by omega) (by omega) (by omega)) ?_
    have h4 := frm_le v1.1
    have h5 := frm_le (bodyT l per).2
    have hw : (wholeL (bodyT l per).1 v1.1 (bodyT l per).2 l.length).length ≤ 15000000 := by
      unfold wholeL
      simp only [List.length_append, fx_length, List.length_cons, List.length_nil]
      omega
    exact bnd (s69 _ b (by omega) (by omega)) rfl
theorem l85 {k : Nat} {inl : InlT} {b : List Int} (hb : Bytes b) (hlen : b.length ≤ 1000000000) (hk : b.length + 20000000 ≤ k) (at_ : Nat) (hat : at_ ≤ b.length) (v1 : List Int × Int × Bool × Unit) (hf : v1.1.length ≤ 1048576) (d : Nat) : ∀ (p m per : Nat) (l : List En), b.length + 1 ≤ p + d → p ≤ b.length → d < m → l.length ≤ 256 → per ≤ 64 → (per = 0 ∨ 1 ≤ l.length) →
    LP B (callN B k) inl 85 m [1, 1, 1, 1, 1, 1, 1, 0, 1] (s85_9 b ((at_ : Int), true, ()) v1 l (per : Int) (p : Int)) (KA B (callN B k) inl 85 k [1, 1, 1, 1, 1, 1, 1, 0, 1] (FI B (callN B k) inl 85)) = (some (finP b v1.1 (rdL (b.take at_) at_ d p per l)) : Option (List En × List Int × Bool × Unit)) := by
  induction d with
  | zero => intro p m per l h1 h2; omega
  | succ d ih =>
    intro p m per l h1 h2 hm h3 h4 h5
    obtain ⟨m, rfl⟩ : ∃ k, m = k + 1 := ⟨m - 1, by omega⟩
    rw [s85_9_l]
    dsimp only
    by_cases hp : p < at_
    · rw [bT (by omega), if_pos (by omega), Int.toNat_natCast, List.drop_zero]
      have htl : (b.take at_).length = at_ := by rw [List.length_take]; omega
      refine bnd (s108 (hb.take at_) (by omega) p (by omega) (by omega)) ?_
      rcases unf_cases (hb.take at_) p with hu | ⟨c, n, hu, hc, hn, hn2, hcb⟩
      · rw [rdL_no hp (by rw [hu]; simp), hu]
        dsimp only
        rw [show (!false) = true from rfl, cond_true, s85_9x11_k]
        rfl
      · rw [hu]
        dsimp only
        rw [show (!true) = false from rfl, cond_false]
        refine bnd (s34 hcb (by omega) (by omega)) ?_
        rcases getBlock_cases c with hg | ⟨part, hg, hpb⟩
        · rw [rdL_no hp (by rw [hu]; dsimp only; rw [hg]; simp), hg]
          dsimp only
          rw [show ((!false) == false) = false from rfl, cond_false, s85_9x13_k]
          rfl
        · have hz := putBlock_zero (l := part) (by rw [hpb])
          rw [hg]
          dsimp only
          rw [show ((!true) == false) = true from rfl, cond_true, w64 (x := (l.length : Int) + (part.length : Int)) (by omega) (by omega)]
          by_cases h256 : l.length + part.length ≤ 256
          · rw [bF (by omega), rdL_go hp hu hg h256]
            rw [htl] at hn
            have hrest : LP B (callN B k) inl 85 m [1, 1, 1, 1, 1, 1, 1, 0, 1] (s85_9 b ((at_ : Int), true, ()) v1 (l ++ part) (((if per = 0 then part.length else per : Nat)) : Int) ((p + 8 + n : Nat) : Int)) (KA B (callN B k) inl 85 k [1, 1, 1, 1, 1, 1, 1, 0, 1] (FI B (callN B k) inl 85)) = _ := ih (p + 8 + n) m (if per = 0 then part.length else per) (l ++ part) (by omega) (by omega) (by omega) (by rw [List.length_append]; exact h256) (by split <;> omega) (.inr (by rw [List.length_append]; omega))
            by_cases h0 : per = 0
            · rw [if_pos h0] at hrest ⊢
              rw [show ((per : Int) == (0 : Int)) = true from beq_iff_eq.2 (by omega), cond_true, if_pos (by omega)]
              exact hrest
            · rw [if_neg h0] at hrest ⊢
              rw [show ((per : Int) == (0 : Int)) = false from beq_eq_false_iff_ne.2 (by omega), cond_false, if_pos (by omega)]
              exact hrest
          · rw [bT (by omega), rdL_no hp (by rw [hu]; dsimp only; rw [hg]; simp; omega), s85_9x13_k]
            rfl
    · rw [bF (by omega), rdL_end hp]
      exact l85e hlen (by omega) v1 hf h3 h4 h5
/-- A table read. -/
def readP (b : List Int) : List En × List Int × Bool × Unit :=
  if (gfx b ((b.length : Int) - 16) 4).2.1 = true ∧ (gfx b ((b.length : Int) - 16) 4).1.toNat ≤ b.length ∧ (unf b (gfx b ((b.length : Int) - 16) 4).1.toNat).2.2.1 = true then
    finP b (unf b (gfx b ((b.length : Int) - 16) 4).1.toNat).1 (rdL (b.take (gfx b ((b.length : Int) - 16) 4).1.toNat) (gfx b ((b.length : Int) - 16) 4).1.toNat (b.length + 1) 0 0 [])
  else ([], [], false, ())
theorem gfx_cases (l : List Int) (p : Int) (z : Nat) : gfx l p z = (0, false, ()) ∨ ∃ n : Nat, gfx l p z = ((n : Int), true, ()) ∧ 0 ≤ p ∧ p + z ≤ l.length ∧ n = bval 0 ((l.drop p.toNat).take z) := by
  unfold gfx
  split
  · exact .inl rfl
  · exact .inr ⟨_, rfl, by omega, by omega, rfl⟩
theorem s85 {k : Nat} {b : List Int} (hb : Bytes b) (hlen : b.length ≤ 1000000000) (hk : b.length + 20000010 ≤ k) : callN B k 85 [argAV (.sl u8) b] = (some (readP b) : Option (List En × List Int × Bool × Unit)) := by
  obtain ⟨k, rfl⟩ := Nat.exists_eq_add_of_le' (show 1 ≤ k by omega)
  refine (callS k 85 _).trans ((t85 (callN B k) (lvl B k).2 k b).trans ?_)
  rw [w64 (x := (b.length : Int) - 16) (by omega) (by omega)]
  refine bnd (s67 (by omega) hb (by omega) _ (by omega) 4 (by omega) (by omega)) ?_
  unfold readP
  rcases gfx_cases b ((b.length : Int) - 16) 4 with hg | ⟨n, hg, _, _, hn⟩
  · rw [hg]; rfl
  · rw [hg]
    dsimp only
    rw [show ((!true) == false) = true from rfl, cond_true, Int.toNat_natCast]
    by_cases h1 : n ≤ b.length
    · rw [bF (by omega)]
      refine bnd (s108 hb hlen n (by omega) (by omega)) ?_
      rcases unf_cases hb n with hu | ⟨c, m, hu, hc, hm, hm2, hcb⟩
      · rw [hu]; dsimp only; rw [show (!false) = true from rfl, cond_true, if_neg (by simp)]
      · rw [hu]
        dsimp only
        rw [show (!true) = false from rfl, cond_false, if_pos ⟨rfl, h1, rfl⟩]
        exact l85 hb hlen (by omega) n h1 (c, ((n + 8 + m : Nat) : Int), true, ()) (by show c.length ≤ _; omega) (b.length + 1) 0 k 0 [] (by omega) (by omega) (by omega) (by simp) (by omega) (.inl rfl)
    · rw [bT (by omega), if_neg (by omega)]
end Go.Eng.Bk
/- What the machine answers at some functions of the program: printed by the generator, each checked by the kernel. -/
namespace Go.Eng.Bk
open Go Go.Proofs Go.Eng
set_option linter.unusedVariables false
set_option maxRecDepth 100000
section
variable (call : CallT B) (inl : InlT) (m : Nat)
/-! function 47 -/
def s47_8 (a0 : (List Int)) (v0 : (Int × Bool × Unit)) (x3 : (List En)) (x4 : Int) (x5 : Int) : St := { t := [(.v (.sl (.int .u8)) (a0)), .bad, .bad, .bad, .bad, (.v (.int .i64) (v0.fst)), .bad, (.own 0 26 EntryT (x3)), (.v (.int .i64) (x4)), (.v (.int .i64) (x5)), .bad, .bad, .bad, .bad, .bad, (.raw undef), .bad, (.raw undef), .bad, .bad, .bad, .bad, .bad, .bad, .bad, .bad, .bad, .bad, .bad, .bad, .bad, .bad, .bad, .bad, .bad, .bad, .bad, .bad, .bad, .bad, .bad, .bad, .bad, .bad, .bad, .bad, .bad, .bad, .bad, .bad, .bad, .bad, .bad, .bad, .bad, .bad, .bad, .bad, .bad, .bad, .bad, .bad, .bad, .bad, .bad, .bad, .bad, .bad, .bad, .bad, (.raw undef), (.raw undef), (.raw undef), (.raw undef), (.raw undef), (.raw undef), (.raw undef), (.raw undef), (.raw undef), (.raw undef), (.raw undef), (.raw undef), (.raw undef), (.raw undef), (.raw undef), (.raw undef), (.raw undef), (.raw undef), (.raw undef), (.raw undef), (.raw undef), (.raw undef), (.raw undef), (.raw undef), (.raw undef), (.raw undef), (.raw undef), (.raw undef), (.raw undef), (.raw undef)], bx := [none], live := 1, g := [] }
def s47_8x11 (y0 : (List Int)) (y1 : (Int × Bool × Unit)) (y2 : (List En)) (y3 : Int) : St := { t := [(.v (.sl (.int .u8)) (y0)), .bad, .nilS, .nilS, (.v (.int .i64) ((5 : Int))), (.v (.int .i64) (y1.fst)), .bad, (.own 0 26 EntryT (y2)), (.v (.int .i64) (y3)), .bad, .bad, .bad, .bad, .bad, .bad, (.raw undef), .bad, (.raw undef), .bad, .bad, .bad, .bad, .bad, .bad, .bad, .bad, .bad, .bad, .bad, .bad, .bad, .bad, .bad, .bad, .bad, .bad, .bad, .bad, .bad, .bad, .bad, .bad, .bad, .bad, .bad, .bad, .bad, .bad, .bad, .bad, .bad, .bad, .bad, .bad, .bad, .bad, .bad, .bad, .bad, .bad, .bad, .bad, .bad, .bad, .bad, .bad, .bad, .bad, .bad, .bad, (.raw undef), (.raw undef), (.raw undef), (.raw undef), (.raw undef), (.raw undef), (.raw undef), (.raw undef), (.raw undef), (.raw undef), (.raw undef), (.raw undef), (.raw undef), (.raw undef), (.raw undef), (.raw undef), (.raw undef), (.raw undef), (.raw undef), (.raw undef), (.raw undef), (.raw undef), (.raw undef), (.raw undef), (.raw undef), (.raw undef), (.raw undef), (.raw undef), (.raw undef), (.raw undef)], bx := [none, none, none, none, none, none, none, none, none, none, none, none, none, none, none, none, none, none, none, none, none, none, none, none, none, none, none, none, none, none, none, none, none, none, none, none, none, none], live := 1329227995784915872904088535257055233, g := [] }
def s47_8x12 (y0 : (List Int)) (y1 : (Int × Bool × Unit)) (y2 : (List En)) (y3 : Int) : St := { t := [(.v (.sl (.int .u8)) (y0)), .bad, .bad, .bad, .bad, (.v (.int .i64) (y1.fst)), .bad, (.own 0 26 EntryT (y2)), (.v (.int .i64) (y3)), .bad, .bad, .bad, .bad, .bad, .bad, (.raw undef), .bad, (.raw undef), .bad, .bad, .bad, .bad, .bad, .bad, .bad, .bad, .bad, .bad, .bad, .bad, .bad, .bad, .bad, .bad, .bad, .bad, .bad, .bad, .bad, .bad, .bad, .bad, .bad, .bad, .bad, .bad, .bad, .bad, .bad, .bad, .bad, .bad, .bad, .bad, .bad, .bad, .bad, .bad, .bad, .bad, .bad, .bad, .bad, .bad, .bad, .bad, .bad, .bad, .bad, .bad, (.raw undef), (.raw undef), (.raw undef), (.raw undef), (.raw undef), (.raw undef), (.raw undef), (.raw undef), (.raw undef), (.raw undef), (.raw undef), (.raw undef), (.raw undef), (.raw undef), (.raw undef), (.raw undef), (.raw undef), (.raw undef), (.raw undef), (.raw undef), (.raw undef), (.raw undef), (.raw undef), (.raw undef), (.raw undef), (.raw undef), (.raw undef), (.raw undef), (.raw undef), (.raw undef)], bx := [none, none, none, none], live := 1, g := [] }
theorem s47_8_l {R : Type} (K : AEx → St → Option R) (a0 : (List Int)) (v0 : (Int × Bool × Unit)) (x3 : (List En)) (x4 : Int) (x5 : Int) : LP B call inl 47 (m + 1) [1, 1, 1, 1, 1, 0, 1] (s47_8 a0 v0 x3 x4 x5) K = (bif decide (x5 < v0.fst) then ((call 88 [(.v (.sl (.int .u8)) (a0)), (.v (.int .i64) (x5))]).bind fun (v9 : ((List Int) × Int × Bool × Unit)) => (call 38 [(.v (.sl (.int .u8)) (v9.fst))]).bind fun (v10 : ((List En) × Bool × Unit)) => bif (!v9.snd.snd.fst) == false then (bif (!v10.snd.fst) == false then (bif decide (IntKind.i64.wrap ((↑x3.length : Int) + (↑(List.length v10.fst) : Int)) > (256 : Int)) then (K .ret (s47_8x11 a0 v0 x3 x4)) else (bif x4 == (0 : Int) then (if (x3.length + List.length v10.fst) * (48 : Nat) ≤ 140737488355328 then (LP B call inl 47 m [1, 1, 1, 1, 1, 0, 1] (s47_8 a0 v0 (x3 ++ v10.fst) ((↑(List.length v10.fst) : Int)) (v9.snd.fst)) K) else (none)) else (if (x3.length + List.length v10.fst) * (48 : Nat) ≤ 140737488355328 then (LP B call inl 47 m [1, 1, 1, 1, 1, 0, 1] (s47_8 a0 v0 (x3 ++ v10.fst) (x4) (v9.snd.fst)) K) else (none)))) else (K .ret (s47_8x11 a0 v0 x3 x4))) else (K .ret (s47_8x11 a0 v0 x3 x4))) else (K (.exit 0) (s47_8x12 a0 v0 x3 x4))) := by kernel_rfl
theorem s47_8x11_k (a0 : (List Int)) (v0 : (Int × Bool × Unit)) (x3 : (List En)) (x4 : Int) : (KA B call inl 47 m [1, 1, 1, 1, 1, 0, 1] (FI B call inl 47)) .ret (s47_8x11 a0 v0 x3 x4) = (some (([], [], (5 : Int), ()))) := by kernel_rfl
theorem s47_8x12_k (a0 : (List Int)) (v0 : (Int × Bool × Unit)) (x3 : (List En)) (x4 : Int) : (KA B call inl 47 m [1, 1, 1, 1, 1, 0, 1] (FI B call inl 47)) (.exit 0) (s47_8x12 a0 v0 x3 x4) = ((call 88 [(.v (.sl (.int .u8)) (a0)), (.v (.int .i64) (v0.fst))]).bind fun (v15 : ((List Int) × Int × Bool × Unit)) => bif (!v15.snd.snd.fst) == false then (bif (x4 == (0 : Int)) == false then ((call 70 [(.v (.sl EntryT) (x3))]).bind fun (v16 : Bool) => bif (!v16) == false then ((call 86 [(.v (.sl EntryT) (x3)), (.v (.int .i64) (x4)), (.v (.sl (.int .u8)) (v15.fst))]).bind fun (v17 : (List Int)) => bif !(strOf v17).toList == (strOf a0).toList then (some (([], [], (5 : Int), ()))) else (some ((x3, v15.fst, (0 : Int), ())))) else (some (([], [], (5 : Int), ())))) else (some (([], [], (5 : Int), ())))) else (some (([], [], (5 : Int), ())))) := by kernel_rfl
theorem t47 (a0 : (List Int)) : stepN B call inl m 47 [argAV (.sl (.int .u8)) a0] = ((call 75 [(.v (.sl (.int .u8)) (a0)), (.v (.int .i64) (IntKind.i64.wrap ((↑(List.length a0) : Int) - (16 : Int)))), (.v (.int .i64) ((4 : Int)))]).bind fun (v0 : (Int × Bool × Unit)) => bif (!v0.snd.fst) == false then (bif decide ((↑(List.length a0) : Int) < (16 : Int)) then (some (([], [], (5 : Int), ()))) else (LP B call inl 47 m [1, 1, 1, 1, 1, 0, 1] (s47_8 a0 v0 ([]) ((0 : Int)) ((0 : Int))) (KA B call inl 47 m [1, 1, 1, 1, 1, 0, 1] (FI B call inl 47)))) else (some (([], [], (5 : Int), ()))) : Option ((List En) × (List Int) × Int × Unit)) := by kernel_rfl
end
end Go.Eng.Bk
/- What the functions around BlockAll answer: Above, SameEntries, Great, the document's GetBlock, Seek. -/
namespace Go.Eng.Bk
open Go Go.Proofs Go.Eng
set_option linter.unusedVariables false
set_option linter.unusedSimpArgs false
abbrev noE : En × Bool × Unit := (d0, false, ())
/-- The first entry that is not ahead of a key. -/
def above (k : Ke) : List En → En × Bool × Unit
  | [] => noE
  | e :: t => if cmpKe e.1 k ≥ 0 then (e, true, ()) else above k t
theorem l40 {q : Nat} (hq : 6 ≤ q) {inl : InlT} (m0 : Nat) {l : List En} (hlen : l.length ≤ 140737488351232) (key : Ke) (d : Nat) : ∀ (i m : Nat), i + d = l.length → d < m →
    LP B (callN B q) inl 40 m [1, 0, 1] (s40_3 l key (i : Int)) (KA B (callN B q) inl 40 m0 [1, 0, 1] (FI B (callN B q) inl 40)) = (some (above key (l.drop i)) : Option (En × Bool × Unit)) := by
  induction d with
  | zero =>
    intro i m hd hm
    obtain ⟨m, rfl⟩ : ∃ k, m = k + 1 := ⟨m - 1, by omega⟩
    rw [s40_3_l, bF (by omega), s40_3x6_k, List.drop_eq_nil_of_le (by omega)]
    rfl
  | succ d ih =>
    intro i m hd hm
    obtain ⟨m, rfl⟩ : ∃ k, m = k + 1 := ⟨m - 1, by omega⟩
    obtain ⟨e, t, hdr, _⟩ := drop_cons (l := l) (i := i) (by omega)
    rw [s40_3_l, bT (by omega), if_pos (by omega), Int.toNat_natCast]
    refine bnd (s81 (by omega) (l.getD i d0).1 key) ?_
    rw [dgetD hdr d0, hdr]
    have ha : above key (e :: t) = if cmpKe e.1 key ≥ 0 then (e, true, ()) else above key t := rfl
    rw [ha]
    by_cases hc : cmpKe e.1 key ≥ 0
    · rw [bT hc, if_pos hc, if_pos (by omega), s40_3x5_k, Int.toNat_natCast, dgetD hdr]
    · rw [bF hc, if_neg hc, w64 (x := (i : Int) + 1) (by omega) (by omega)]
      have := ih (i + 1) m (by omega) (by omega)
      rw [dsucc hdr] at this
      exact this
theorem s40 {k : Nat} {l : List En} (hlen : l.length ≤ 140737488351232) (hk : l.length + 9 ≤ k) (key : Ke) : callN B k 40 [argAV (.sl EntryT) l, argAV KeyT key] = (some (above key l) : Option (En × Bool × Unit)) := by
  obtain ⟨k, rfl⟩ := Nat.exists_eq_add_of_le' (show 1 ≤ k by omega)
  refine (callS k 40 _).trans ((t40 (callN B k) (lvl B k).2 k l key).trans ?_)
  exact l40 (by omega) k hlen key l.length 0 k (by omega) (by omega)
theorem same_self (x : ByteArray × Int × Int × ByteArray) : (ByteArray.toList x.1 == ByteArray.toList x.1 && (x.2.1 == x.2.1 && (x.2.2.1 == x.2.2.1 && ByteArray.toList x.2.2.2 == ByteArray.toList x.2.2.2))) = true := by
  simp only [beq_self_eq_true, Bool.and_true]
theorem l41 {call : CallT B} {inl : InlT} (m0 : Nat) {l : List En} (hlen : l.length ≤ 140737488351232) (d : Nat) : ∀ (i m : Nat), i + d = l.length → d < m →
    LP B call inl 41 m [1, 1, 0, 1] (s41_1 l l (i : Int)) (KA B call inl 41 m0 [1, 1, 0, 1] (FI B call inl 41)) = (some true : Option Bool) := by
  induction d with
  | zero =>
    intro i m hd hm
    obtain ⟨m, rfl⟩ : ∃ k, m = k + 1 := ⟨m - 1, by omega⟩
    rw [s41_1_l, bF (by omega), s41_1x3_k]
  | succ d ih =>
    intro i m hd hm
    obtain ⟨m, rfl⟩ : ∃ k, m = k + 1 := ⟨m - 1, by omega⟩
    rw [s41_1_l, bT (by omega), if_pos (by omega), if_pos (by omega), Int.toNat_natCast, w64 (x := (i : Int) + 1) (by omega) (by omega)]
    have := same_self ((l.getD i d0).1.1, (l.getD i d0).1.2.1, (l.getD i d0).1.2.2.1, (l.getD i d0).2.1)
    simp only at this
    rw [this, Bool.not_true, cond_false]
    exact ih (i + 1) m (by omega) (by omega)
theorem s41 {k : Nat} {l : List En} (hlen : l.length ≤ 140737488351232) (hk : l.length + 9 ≤ k) : callN B k 41 [argAV (.sl EntryT) l, argAV (.sl EntryT) l] = (some true : Option Bool) := by
  obtain ⟨k, rfl⟩ := Nat.exists_eq_add_of_le' (show 1 ≤ k by omega)
  refine (callS k 41 _).trans ((t41 (callN B k) (lvl B k).2 k l l).trans ?_)
  rw [bne_self_eq_false, cond_false]
  exact l41 k hlen l.length 0 k (by omega) (by omega)
theorem l36 {call : CallT B} {inl : InlT} (m0 : Nat) {l : List En} (d : Nat) : ∀ (i m : Nat), i + d = 400 → d < m →
    ∃ r : Bool, LP B call inl 36 m [1, 0, 1] (s36_1 l (i : Int)) (KA B call inl 36 m0 [1, 0, 1] (FI B call inl 36)) = (some r : Option Bool) := by
  induction d with
  | zero =>
    intro i m hd hm
    obtain ⟨m, rfl⟩ : ∃ k, m = k + 1 := ⟨m - 1, by omega⟩
    by_cases h : (i : Int) < (l.length : Int)
    · exact ⟨_, by rw [s36_1_l, decide_eq_true h, beq_self_eq_true, cond_true, bF (by omega), s36_1x3_k]⟩
    · exact ⟨_, by rw [s36_1_l, decide_eq_false h, show (false == true) = false from rfl, cond_false, s36_1x3_k]⟩
  | succ d ih =>
    intro i m hd hm
    obtain ⟨m, rfl⟩ : ∃ k, m = k + 1 := ⟨m - 1, by omega⟩
    by_cases h : (i : Int) < (l.length : Int)
    · obtain ⟨r, hr⟩ := ih (i + 1) m (by omega) (by omega)
      rw [s36_1_l, decide_eq_true h, beq_self_eq_true, cond_true, bT (by omega), if_pos (by omega), if_pos (by omega), w64 (x := (i : Int) + 1) (by omega) (by omega), s36_1x2_k]
      generalize decide (((List.getD l (i : Int).toNat (((ByteArray.mk #[]), (0 : Int), (0 : Int), ()), (ByteArray.mk #[]), ())).fst.fst.size : Int) > 300) = c1
      generalize decide (((List.getD l (i : Int).toNat (((ByteArray.mk #[]), (0 : Int), (0 : Int), ()), (ByteArray.mk #[]), ())).snd.fst.size : Int) > 1000) = c2
      cases c1 with
      | true => exact ⟨true, rfl⟩
      | false =>
        cases c2 with
        | true => exact ⟨true, rfl⟩
        | false => exact ⟨r, hr⟩
    · exact ⟨_, by rw [s36_1_l, decide_eq_false h, show (false == true) = false from rfl, cond_false, s36_1x3_k]⟩
theorem s36 {k : Nat} (l : List En) (hk : 500 ≤ k) : ∃ r : Bool, callN B k 36 [argAV (.sl EntryT) l] = (some r : Option Bool) := by
  obtain ⟨k, rfl⟩ := Nat.exists_eq_add_of_le' (show 1 ≤ k by omega)
  obtain ⟨r, hr⟩ := l36 (call := callN B k) (inl := (lvl B k).2) k (l := l) 400 0 k (by omega) (by omega)
  exact ⟨r, (callS k 36 _).trans ((t36 (callN B k) (lvl B k).2 k l).trans hr)⟩
/-! ### the numbers of a block's end -/
theorem bval_fx (n : Nat) : ∀ (k a : Nat), n / 256 ^ k = a → bval a (fx n k) = n
  | 0, a, h => by simpa [bval, fx] using h.symm
  | k + 1, a, h => by
    simp only [bval, fx, Int.toNat_natCast]
    refine bval_fx n k _ ?_
    have h1 : n / 256 ^ k / 256 = a := by rw [Nat.div_div_eq_div_mul, ← Nat.pow_succ]; exact h
    omega
theorem putB_pl (l : List En) : ∀ (d i : Nat) (out pl : List Int), (∃ a, pl.length = 4 * a) → ∃ a, (putB l d i out pl).2.length = 4 * a ∧ pl.length ≤ 4 * a ∧ 4 * a ≤ pl.length + 4 * d ∧ (i % 4 = 0 → 0 < d → 4 ≤ 4 * a)
  | 0, i, out, pl, ⟨a, h⟩ => ⟨a, h, by omega, by omega, by omega⟩
  | d + 1, i, out, pl, ⟨a, h⟩ => by
    by_cases hi : i % 4 = 0
    · have hl : (if i % 4 = 0 then pl ++ fx out.length 4 else pl).length = 4 * (a + 1) := by rw [if_pos hi, List.length_append, fx_length]; omega
      obtain ⟨b, h1, h2, h3, _⟩ := putB_pl l d (i + 1) (out ++ encE (shAt l i) (l.getD i d0)) (if i % 4 = 0 then pl ++ fx out.length 4 else pl) ⟨a + 1, hl⟩
      exact ⟨b, h1, by omega, by omega, by omega⟩
    · have hl : (if i % 4 = 0 then pl ++ fx out.length 4 else pl).length = 4 * a := by rw [if_neg hi]; exact h
      obtain ⟨b, h1, h2, h3, _⟩ := putB_pl l d (i + 1) (out ++ encE (shAt l i) (l.getD i d0)) (if i % 4 = 0 then pl ++ fx out.length 4 else pl) ⟨a, hl⟩
      exact ⟨b, h1, by omega, by omega, by omega⟩
/-- The last two bytes of a block tell its whole keys. -/
theorem putBlock_end {l : List En} (h : (putBlock l).2.1 = 0) : ∃ (x y : List Int) (a : Nat), (putBlock l).1 = x ++ y ++ fx a 2 ∧ y.length = 4 * a ∧ 1 ≤ a ∧ a ≤ 64 ∧ x = (putB l l.length 0 [] []).1 ∧
    gfx (putBlock l).1 (((putBlock l).1.length : Int) - 2) 2 = ((a : Int), true, ()) := by
  obtain ⟨h0, hr, h64⟩ := putBlock_zero h
  obtain ⟨a, h1, _, h2, h3⟩ := putB_pl l l.length 0 [] [] ⟨0, rfl⟩
  have hp := putBlock_ok h0 hr h64
  have e : (putBlock l).1 = (putB l l.length 0 [] []).1 ++ (putB l l.length 0 [] []).2 ++ fx a 2 := by
    rw [hp]
    show _ ++ _ ++ fx (List.length _ / 4) 2 = _
    rw [h1, Nat.mul_div_cancel_left _ (by omega)]
  simp only [List.length_nil] at h2
  have ha : 1 ≤ a ∧ a ≤ 64 := by have := h3 rfl (by omega); omega
  refine ⟨_, _, a, e, h1, ha.1, ha.2, rfl, ?_⟩
  rw [e]
  generalize (putB l l.length 0 [] []).1 ++ (putB l l.length 0 [] []).2 = z
  have hl : (z ++ fx a 2).length = z.length + 2 := by rw [List.length_append, fx_length]
  have e2 : ((z ++ fx a 2).length : Int) - 2 = (z.length : Int) := by omega
  rw [e2, gfx_yes (by omega), List.drop_left, List.take_of_length_le (by rw [fx_length]; omega)]
  rw [bval_fx a 2 0 (by rw [show (256 : Nat) ^ 2 = 65536 from by decide]; omega)]
theorem getBlock_zero {b : List Int} (h : (gfx b ((b.length : Int) - 2) 2).1 = 0) : getBlock b = ([], false, ()) := by
  rcases getBlock_cases b with h1 | ⟨out, h1, h2⟩
  · exact h1
  · obtain ⟨x, y, a, _, _, ha, _, _, hg⟩ := putBlock_end (l := out) (by rw [h2])
    rw [h2] at hg
    simp only at hg
    rw [hg] at h
    simp only at h
    omega
end Go.Eng.Bk
/- What the document's GetBlock answers, and what Seek does; BlockAll's function answers true. -/
namespace Go.Eng.Bk
open Go Go.Proofs Go.Eng
set_option linter.unusedVariables false
set_option linter.unusedSimpArgs false
theorem l38 {q : Nat} (hq : 50000 ≤ q) {inl : InlT} (m0 : Nat) {b : List Int} (hb : Bytes b) (hlen : b.length ≤ 1000000000) {v0 : Int × Bool × Unit} (c : Nat) (hv : v0.1 = (c : Int)) (hc : 4 * c + 2 ≤ b.length) (d : Nat) : ∀ (p m : Nat) (out : List En) (ahead : ByteArray),
    b.length + 1 ≤ d + p + (2 + 4 * c) → p + 2 + 4 * c ≤ b.length → d ≤ m → out.length ≤ 65 → ahead.size ≤ p →
    LP B (callN B q) inl 38 m [1, 1, 1, 1, 1, 1, 1, 0] (s38_12 b v0 out (p : Int) ahead) (KA B (callN B q) inl 38 m0 [1, 1, 1, 1, 1, 1, 1, 0] (FI B (callN B q) inl 38)) = (some (getRes b (getLoop (b.take (b.length - 2 - 4 * c)) d p ahead out)) : Option (List En × Bool × Unit)) := by
  have hw1 : IntKind.i64.wrap ((b.length : Int) - 2) = (b.length : Int) - 2 := w64 (by omega) (by omega)
  have hw2 : IntKind.i64.wrap ((4 : Int) * v0.1) = ((4 * c : Nat) : Int) := by rw [hv, w64 (by omega) (by omega)]; omega
  have hend : IntKind.i64.wrap (IntKind.i64.wrap ((b.length : Int) - 2) - IntKind.i64.wrap ((4 : Int) * v0.1)) = ((b.length - 2 - 4 * c : Nat) : Int) := by
    rw [hw1, hw2, w64 (by omega) (by omega)]; omega
  have hsub : List.drop 0 (List.take (IntKind.i64.wrap (IntKind.i64.wrap ((b.length : Int) - 2) - IntKind.i64.wrap ((4 : Int) * v0.1))).toNat b) = b.take (b.length - 2 - 4 * c) := by
    rw [hend, Int.toNat_natCast, List.drop_zero]
  have hsl : (b.take (b.length - 2 - 4 * c)).length = b.length - 2 - 4 * c := by rw [List.length_take]; omega
  have fin : ∀ (m : Nat) (out : List En), out.length ≤ 65 → KA B (callN B q) inl 38 m [1, 1, 1, 1, 1, 1, 1, 0] (FI B (callN B q) inl 38) (.exit 0) (s38_12x18 b out) = (some (getRes b (some out)) : Option (List En × Bool × Unit)) := by
    intro m out ho
    rw [s38_12x18_k]
    refine bnd (s37 (by omega) (by omega)) ?_
    unfold getRes
    simp only
    by_cases he : (putBlock out).2.1 = 0
    · have : ((putBlock out).2.1 != (0 : Int)) = false := by simp [he]
      rw [this, beq_self_eq_true, cond_true]
      by_cases hbb : (putBlock out).1 = b
      · rw [hbb, beq_self_eq_true, if_pos ⟨he, rfl⟩]
        rfl
      · have : ((strOf (putBlock out).1).toList == (strOf b).toList) = false := by
          rw [beq_eq_false_iff_ne]
          exact fun h => hbb (strOf_inj (putBlock_bytes _) hb (ba_ext h))
        rw [this, if_neg (fun h => hbb h.2)]
        rfl
    · have : ((putBlock out).2.1 != (0 : Int)) = true := by simpa using he
      rw [this, if_neg (fun h => he h.1)]
      rfl
  induction d with
  | zero => intro p m out ahead h1 h2; omega
  | succ d ih =>
    intro p m out ahead h1 h2 hm ho ha
    obtain ⟨m, rfl⟩ : ∃ k, m = k + 1 := ⟨m - 1, by omega⟩
    rw [s38_12_l, hend]
    simp only [getLoop]
    rw [hsl]
    by_cases hp : p < b.length - 2 - 4 * c
    · rw [decide_eq_true (show (p : Int) < ((b.length - 2 - 4 * c : Nat) : Int) by omega), beq_self_eq_true, cond_true, if_pos hp]
      by_cases h64 : out.length ≤ 64
      · rw [bT (by omega), Int.toNat_natCast, List.drop_zero]
        have hle : (0 : Int) ≤ ((b.length - 2 - 4 * c : Nat) : Int) ∧ ((b.length - 2 - 4 * c : Nat) : Int) ≤ (b.length : Int) := by omega
        simp only [if_pos hle]
        have hbL := hb.take (b.length - 2 - 4 * c)
        have ih' := ih
        have hec := entry_cases hbL p ahead
        have hts1 := fun a => getT_size hbL a
        rw [hsl] at hec
        have hLl : (b.take (b.length - 2 - 4 * c)).length ≤ 140737488351232 := by omega
        generalize b.take (b.length - 2 - 4 * c) = L at hbL hec hts1 ih' hsl hLl ⊢
        refine bnd (s76 (by omega) hbL hLl (p : Int)) ?_
        refine bnd (s77 (by omega) hbL hLl (getN L (p : Int)).2.1) ?_
        refine bnd (s76 (by omega) hbL hLl (getT L (getN L (p : Int)).2.1).2.1) ?_
        refine bnd (s77 (by omega) hbL hLl (getN L (getT L (getN L (p : Int)).2.1).2.1).2.1) ?_
        have no : ∀ (m : Nat) {c : Prop}, ¬ (entryM L (p : Int) ahead).2.2.1 = true → KA B (callN B q) inl 38 m0 [1, 1, 1, 1, 1, 1, 1, 0] (FI B (callN B q) inl 38) .ret (s38_12x17 b out) = (some (getRes b (if (entryM L (p : Int) ahead).2.2.1 = true ∧ out.length ≤ 64 then getLoop L d (entryM L (p : Int) ahead).2.1.toNat (entryM L (p : Int) ahead).1.1.1 (out ++ [(entryM L (p : Int) ahead).1]) else none)) : Option (List En × Bool × Unit)) := by
          intro m c h
          rw [if_neg (fun hh => h hh.1), s38_12x17_k]
          rfl
        have nc : ∀ {c : Prop}, ¬ ((getN L (p : Int)).2.2 = true ∧ (getN L (p : Int)).1 ≤ (ahead.size : Int) ∧ (getT L (getN L (p : Int)).2.1).2.2 = true ∧ (getN L (getT L (getN L (p : Int)).2.1).2.1).2.2 = true) → ¬ (entryM L (p : Int) ahead).2.2.1 = true := by
          intro c h
          unfold entryM
          rw [if_neg h]
          exact fun h => by cases h
        change (bif (!(getN L (p : Int)).2.2) == false then (bif (!(getT L (getN L (p : Int)).2.1).2.2) == false then (bif (!(getN L (getT L (getN L (p : Int)).2.1).2.1).2.2) == false then (bif (!(getT L (getN L (getT L (getN L (p : Int)).2.1).2.1).2.1).2.2) == false then (bif decide ((getN L (p : Int)).1 > (ahead.size : Int)) then _ else _) else _) else _) else _) else _) = _
        cases g1 : (getN L (p : Int)).2.2 with
        | false => rw [Bool.not_false, show (true == false) = false from rfl, cond_false]; exact no m (c := True) (nc (c := True) (fun h => by rw [g1] at h; cases h.1))
        | true =>
        rw [Bool.not_true, beq_self_eq_true, cond_true]
        cases g2 : (getT L (getN L (p : Int)).2.1).2.2 with
        | false => rw [Bool.not_false, show (true == false) = false from rfl, cond_false]; exact no m (c := True) (nc (c := True) (fun h => by rw [g2] at h; cases h.2.2.1))
        | true =>
        rw [Bool.not_true, beq_self_eq_true, cond_true]
        cases g3' : (getN L (getT L (getN L (p : Int)).2.1).2.1).2.2 with
        | false => rw [Bool.not_false, show (true == false) = false from rfl, cond_false]; exact no m (c := True) (nc (c := True) (fun h => by rw [g3'] at h; cases h.2.2.2))
        | true =>
        rw [Bool.not_true, beq_self_eq_true, cond_true]
        cases g4 : (getT L (getN L (getT L (getN L (p : Int)).2.1).2.1).2.1).2.2 with
        | false =>
          rw [Bool.not_false, show (true == false) = false from rfl, cond_false]
          refine no m (c := True) ?_
          unfold entryM
          split
          · show ¬ (getT L (getN L (getT L (getN L (p : Int)).2.1).2.1).2.1).2.2 = true
            rw [g4]; exact fun h => by cases h
          · exact fun h => by cases h
        | true =>
        rw [Bool.not_true, beq_self_eq_true, cond_true]
        by_cases h2' : (getN L (p : Int)).1 > (ahead.size : Int)
        · rw [bT h2']
          exact no m (c := True) (nc (c := True) (fun h => by have := h.2.1; omega))
        rw [bF h2']
        obtain ⟨n, hn, hn2⟩ := getN_num hbL (p : Int)
        obtain ⟨t, ht, ht2⟩ := getN_num hbL (getT L (getN L (p : Int)).2.1).2.1
        have hsz := hts1 (getN L (p : Int)).2.1
        have hE : entryM L (p : Int) ahead = (((ahead.extract 0 (getN L (p : Int)).1.toNat ++ (getT L (getN L (p : Int)).2.1).1, ((t / 2 : Nat) : Int), ((t % 2 + 1 : Nat) : Int), ()), (getT L (getN L (getT L (getN L (p : Int)).2.1).2.1).2.1).1, ()), (getT L (getN L (getT L (getN L (p : Int)).2.1).2.1).2.1).2.1, true, ()) := by
          unfold entryM
          rw [if_pos ⟨g1, by omega, g2, g3'⟩, ht, Int.toNat_natCast, g4]
        rw [hE] at hec ⊢
        rcases hec with hec | ⟨e, q', hee, hq1, hq2, hes⟩
        · cases hec
        have hq' : (getT L (getN L (getT L (getN L (p : Int)).2.1).2.1).2.1).2.1 = (q' : Int) := congrArg (fun x => x.2.1) hee
        have hes' : (ahead.extract 0 (getN L (p : Int)).1.toNat ++ (getT L (getN L (p : Int)).2.1).1).size ≤ ahead.size + (q' - p) := by
          have : e.1.1 = ahead.extract 0 (getN L (p : Int)).1.toNat ++ (getT L (getN L (p : Int)).2.1).1 := congrArg (fun x => x.1.1.1) hee.symm
          rw [← this]; exact hes
        have e1 : IntKind.i64.wrap (Int.tdiv (g3 (getN L (getT L (getN L (p : Int)).2.1).2.1)).1 2) = ((t / 2 : Nat) : Int) := by
          show IntKind.i64.wrap (Int.tdiv (getN L (getT L (getN L (p : Int)).2.1).2.1).1 2) = _
          rw [ht]
          show IntKind.i64.wrap ((t / 2 : Nat) : Int) = _
          exact w64 (by omega) (by omega)
        have e2 : IntKind.i64.wrap (1 + Int.tmod (g3 (getN L (getT L (getN L (p : Int)).2.1).2.1)).1 2) = ((t % 2 + 1 : Nat) : Int) := by
          show IntKind.i64.wrap (1 + Int.tmod (getN L (getT L (getN L (p : Int)).2.1).2.1).1 2) = _
          rw [ht]
          show IntKind.i64.wrap (1 + ((t % 2 : Nat) : Int)) = _
          rw [w64 (by omega) (by omega)]; omega
        rw [e1, e2]
        change (if (0 : Int) ≤ (getN L (p : Int)).1 ∧ (getN L (p : Int)).1 ≤ (ahead.size : Int) then (if (((ahead.extract 0 (Int.toNat (getN L (p : Int)).1)).size + (getT L (getN L (p : Int)).2.1).1.size : Nat) : Int) > IntKind.i64.max then none else _) else none) = _
        rw [if_pos (by omega), if_neg (by rw [i64max, ByteArray.size_extract]; omega), if_pos (by simp only [List.length_cons, List.length_nil]; omega), if_pos ⟨rfl, h64⟩]
        simp only [hq', Int.toNat_natCast]
        have := ih' q' m (out ++ [((ahead.extract 0 (getN L (p : Int)).1.toNat ++ (getT L (getN L (p : Int)).2.1).1, ((t / 2 : Nat) : Int), ((t % 2 + 1 : Nat) : Int), ()), (getT L (getN L (getT L (getN L (p : Int)).2.1).2.1).2.1).1, ())]) (ahead.extract 0 (getN L (p : Int)).1.toNat ++ (getT L (getN L (p : Int)).2.1).1) (by omega) (by omega) (by omega) (by simp; omega) (by omega)
        rw [← hq'] at this ⊢
        exact this
      · rw [bF (by omega), if_neg (fun h => h64 h.2), fin m0 out ho]
        refine congrArg some ?_
        unfold getRes
        simp only
        rw [if_neg (fun h => h64 (putBlock_zero h.1).2.2)]
    · rw [decide_eq_false (show ¬ (p : Int) < ((b.length - 2 - 4 * c : Nat) : Int) by omega), if_neg hp]
      rw [show (false == true) = false from rfl, cond_false]
      exact fin m0 out ho
end Go.Eng.Bk
/- What the document's GetBlock answers, and what Seek does; BlockAll's function answers true. -/
namespace Go.Eng.Bk
open Go Go.Proofs Go.Eng
set_option linter.unusedVariables false
set_option linter.unusedSimpArgs false
theorem s38 {k : Nat} {b : List Int} (hb : Bytes b) (hlen : b.length ≤ 1000000000) (hk : b.length + 50010 ≤ k) : callN B k 38 [argAV (.sl u8) b] = (some (getBlock b) : Option (List En × Bool × Unit)) := by
  obtain ⟨k, rfl⟩ := Nat.exists_eq_add_of_le' (show 1 ≤ k by omega)
  refine (callS k 38 _).trans ((t38 (callN B k) (lvl B k).2 k b).trans ?_)
  have hw1 : IntKind.i64.wrap ((b.length : Int) - 2) = (b.length : Int) - 2 := w64 (by omega) (by omega)
  rw [hw1]
  refine bnd (s75 (by omega) hb (by omega) ((b.length : Int) - 2) (by omega) 2 (by omega) (by omega)) ?_
  obtain ⟨c, hc⟩ := gfx_nat hb ((b.length : Int) - 2) 2
  have hz := getBlock_zero (b := b)
  unfold getBlock at hz ⊢
  generalize hr : gfx b ((b.length : Int) - 2) 2 = r at hc hz ⊢
  cases ho : r.2.1 with
  | false =>
    rw [if_neg (fun h => by cases h.1)]
    rfl
  | true =>
    rw [Bool.not_true, beq_self_eq_true, cond_true]
    have hcb : c < 65536 := by
      unfold gfx at hr
      split at hr
      · rw [← hr] at ho; cases ho
      · have := bval_lt ((b.drop ((b.length : Int) - 2).toNat).take 2) 0 0 ((hb.drop _).take 2) (by simp)
        have hll : ((b.drop ((b.length : Int) - 2).toNat).take 2).length ≤ 2 := by rw [List.length_take]; omega
        have hpw : 256 ^ (0 + ((b.drop ((b.length : Int) - 2).toNat).take 2).length) ≤ 256 ^ 2 := Nat.pow_le_pow_right (by omega) (by omega)
        have : (256 : Nat) ^ 2 = 65536 := by decide
        rw [← hr] at hc
        simp only at hc
        omega
    by_cases h1 : r.1 < 1
    · rw [decide_eq_true h1, show (true == false) = false from rfl, cond_false]
      rw [ho] at hz
      exact congrArg some (hz (by omega)).symm
    rw [decide_eq_false h1, beq_self_eq_true, cond_true]
    by_cases h2 : r.1 > (b.length : Int)
    · rw [decide_eq_true h2, show (true == false) = false from rfl, cond_false, if_neg (fun h => by have := h.2; omega)]
    rw [decide_eq_false h2, beq_self_eq_true, cond_true]
    have hw2 : IntKind.i64.wrap (IntKind.i64.wrap ((4 : Int) * r.1) + 2) = 4 * (c : Int) + 2 := by rw [hc, w64 (x := 4 * (c : Int)) (by omega) (by omega), w64 (by omega) (by omega)]
    by_cases h4 : 4 * r.1 > (b.length : Int) - 2
    · rw [bT (by rw [hw2]; omega), if_neg (fun h => by have := h.2; omega)]
    · rw [bF (by rw [hw2]; omega), if_pos ⟨rfl, by omega⟩]
      have hl := l38 (q := k) (by omega) (inl := (lvl B k).2) k hb hlen (v0 := r) c hc (by omega) (b.length + 1) 0 k [] ⟨#[]⟩ (by omega) (by omega) (by omega) (by simp) (Nat.zero_le _)
      have e : ((b.length : Int) - 2 - 4 * r.1).toNat = b.length - 2 - 4 * c := by rw [hc]; omega
      rw [e]
      exact hl
/-! ### Seek -/
theorem mid (i j : Nat) (h : i + j < 1000000000) : IntKind.i64.wrap ((IntKind.u64.wrap (IntKind.i64.wrap ((i : Int) + (j : Int)))).fdiv ((2 : Int) ^ Min.min (Int.toNat (1 : Int)) IntKind.u64.bits)) = (((i + j) / 2 : Nat) : Int) := by
  rw [w64 (x := (i : Int) + (j : Int)) (by omega) (by omega), wu64 (by omega) (by omega)]
  rw [show ((2 : Int) ^ Min.min (Int.toNat (1 : Int)) IntKind.u64.bits) = 2 from by decide]
  rw [Int.fdiv_eq_ediv_of_nonneg _ (by omega), w64 (by omega) (by omega)]
  omega
theorem l78 {q : Nat} (hq : 8 ≤ q) {inl : InlT} {mq : Nat} {R : Type} (m0 : Nat) (K : AV → St → Option R) (b : List Int) (key : Ke) (v0 : List En × Bool × Unit) (hlen : v0.1.length ≤ 64) {r : Option R}
    (hr : ∀ i : Nat, 4 * i ≤ v0.1.length + 3 → (0 < i → cmpKe (v0.1.getD (4 * (i - 1)) d0).1 key < 0) → K (.v i64 (i : Int)) (c39_78_1r14 b key v0) = r) (d : Nat) : ∀ (i j m : Nat), i ≤ j → j ≤ i + d → 4 * j ≤ v0.1.length + 3 → d < m → (0 < i → cmpKe (v0.1.getD (4 * (i - 1)) d0).1 key < 0) →
    LP B (callN B (q + 1)) (inlN B (callN B q) inl mq) 78 m [1, 1, 0] (s78_6 b key v0 (i : Int) (j : Int)) (KA B (callN B (q + 1)) (inlN B (callN B q) inl mq) 78 m0 [1, 1, 0] (FN B (callN B (q + 1)) (inlN B (callN B q) inl mq) 78 47 K)) = r := by
  induction d with
  | zero =>
    intro i j m h1 h2 h3 hm hi
    obtain ⟨m, rfl⟩ : ∃ k, m = k + 1 := ⟨m - 1, by omega⟩
    rw [s78_6_l, bF (by omega), s78_6x12_k]
    exact hr i (by omega) hi
  | succ d ih =>
    intro i j m h1 h2 h3 hm hi
    obtain ⟨m, rfl⟩ : ∃ k, m = k + 1 := ⟨m - 1, by omega⟩
    by_cases hij : i < j
    · rw [s78_6_l, bT (by omega), c78_79_7_i]
      have hmid := mid i j (by omega)
      have hm4 : IntKind.i64.wrap ((((i + j) / 2 : Nat) : Int) * 4) = ((4 * ((i + j) / 2) : Nat) : Int) := by rw [w64 (by omega) (by omega)]; omega
      rw [hmid, hm4, if_pos (by omega), Int.toNat_natCast]
      refine bnd (s80 (by omega) (v0.1.getD (4 * ((i + j) / 2)) d0).1 key) ?_
      rw [c78_79_7r9_k11, hmid]
      have hw : IntKind.i64.wrap ((((i + j) / 2 : Nat) : Int) + 1) = (((i + j) / 2 + 1 : Nat) : Int) := by rw [w64 (by omega) (by omega)]; omega
      rw [hw]
      by_cases hc : cmpKe (v0.1.getD (4 * ((i + j) / 2)) d0).1 key ≥ 0
      · rw [decide_eq_true hc, Bool.not_true, cond_false]
        exact ih i ((i + j) / 2) m (by omega) (by omega) (by omega) (by omega) hi
      · rw [decide_eq_false hc, Bool.not_false, cond_true]
        exact ih ((i + j) / 2 + 1) j m (by omega) (by omega) (by omega) (by omega) (fun _ => by rw [Nat.add_sub_cancel]; omega)
    · rw [s78_6_l, bF (by omega), s78_6x12_k]
      exact hr i (by omega) hi
theorem l39 {q : Nat} (hq : 8 ≤ q) {inl : InlT} (m0 : Nat) (key : Ke) (v0 : List En × Bool × Unit) (x : Int) (from_ : Nat) (hf : IntKind.i64.wrap (maxI (0 : Int) (IntKind.i64.wrap (x - (1 : Int))) * (4 : Int)) = (from_ : Int)) (hlen : v0.1.length ≤ 140737488351232) (d : Nat) : ∀ (i m : Nat), i + d = (v0.1.drop from_).length → d < m →
    LP B (callN B q) inl 39 m [1, 1, 1, 1, 1, 0, 1] (s39_23 key v0 x (i : Int)) (KA B (callN B q) inl 39 m0 [1, 1, 1, 1, 1, 0, 1] (FI B (callN B q) inl 39)) = (some (above key ((v0.1.drop from_).drop i)) : Option (En × Bool × Unit)) := by
  have hll : (v0.1.drop from_).length ≤ 140737488351232 := by rw [List.length_drop]; omega
  have hL : List.drop (IntKind.i64.wrap (maxI (0 : Int) (IntKind.i64.wrap (x - (1 : Int))) * (4 : Int))).toNat (List.take (List.length v0.fst) v0.fst) = v0.1.drop from_ := by
    rw [hf, Int.toNat_natCast, List.take_length]
  induction d with
  | zero =>
    intro i m hd hm
    obtain ⟨m, rfl⟩ : ∃ k, m = k + 1 := ⟨m - 1, by omega⟩
    rw [s39_23_l, hL, bF (by omega), s39_23x26_k, List.drop_eq_nil_of_le (by omega)]
    rfl
  | succ d ih =>
    intro i m hd hm
    obtain ⟨m, rfl⟩ : ∃ k, m = k + 1 := ⟨m - 1, by omega⟩
    obtain ⟨e, t, hdr, _⟩ := drop_cons (l := v0.1.drop from_) (i := i) (by omega)
    rw [s39_23_l, hL, bT (by omega), if_pos (by omega), Int.toNat_natCast]
    refine bnd (s80 (by omega) ((v0.1.drop from_).getD i d0).1 key) ?_
    rw [dgetD hdr d0, hdr]
    have ha : above key (e :: t) = if cmpKe e.1 key ≥ 0 then (e, true, ()) else above key t := rfl
    rw [ha]
    by_cases hc : cmpKe e.1 key ≥ 0
    · rw [bT hc, if_pos hc, s39_23x25_k, hL, Int.toNat_natCast, dgetD hdr]
    · rw [bF hc, if_neg hc, w64 (x := (i : Int) + 1) (by omega) (by omega)]
      have := ih (i + 1) m (by omega) (by omega)
      rw [dsucc hdr] at this
      exact this
theorem above_drop {key : Ke} : ∀ (l : List En) (n : Nat), (∀ j, j < n → j < l.length → cmpKe (l.getD j d0).1 key < 0) → above key (l.drop n) = above key l
  | _, 0, _ => rfl
  | [], n + 1, _ => rfl
  | e :: t, n + 1, h => by
    have h0 := h 0 (by omega) (by simp)
    have ha : above key (e :: t) = if cmpKe e.1 key ≥ 0 then (e, true, ()) else above key t := rfl
    rw [ha, if_neg (by have : cmpKe e.1 key < 0 := h0; omega), List.drop_succ_cons]
    exact above_drop t n (fun j hj hl => h (j + 1) (by omega) (by simpa using hl))
theorem pair_lt {l : List En} (h : l.Pairwise LtE) {i j : Nat} (hij : i < j) (hj : j < l.length) : LtE (l.getD i d0) (l.getD j d0) := by
  rw [getD_lt' (show i < l.length by omega), getD_lt' hj]
  exact List.pairwise_iff_getElem.1 h i j (by omega) hj hij
theorem getBlock_rising (b : List Int) : (getBlock b).1.length ≤ 64 ∧ (getBlock b).1.Pairwise LtE := by
  rcases getBlock_cases b with h | ⟨out, h, h'⟩
  · rw [h]; exact ⟨by simp, List.Pairwise.nil⟩
  · rw [h]
    have := putBlock_zero (l := out) (by rw [h'])
    exact ⟨this.2.2, rising_pair this.2.1⟩
theorem s39 {k : Nat} {b : List Int} (hb : Bytes b) (hlen : b.length ≤ 1000000000) (hk : b.length + 50020 ≤ k) (key : Ke) : callN B k 39 [argAV (.sl u8) b, argAV KeyT key] = (some (above key (getBlock b).1) : Option (En × Bool × Unit)) := by
  obtain ⟨k, rfl⟩ := Nat.exists_eq_add_of_le' (show 3 ≤ k by omega)
  refine (callS (k + 2) 39 _).trans ((t39 (callN B (k + 2)) (lvl B (k + 2)).2 (k + 2) b key).trans ?_)
  refine bnd (s34 hb hlen (by omega)) ?_
  obtain ⟨hl64, hpair⟩ := getBlock_rising b
  have hno : (getBlock b).2.1 = false → (getBlock b).1 = [] := by
    intro h
    rcases getBlock_cases b with h1 | ⟨out, h1, _⟩
    · rw [h1]
    · rw [h1] at h; cases h
  generalize getBlock b = v0 at hl64 hpair hno ⊢
  cases ho : v0.2.1 with
  | false =>
    rw [hno ho]
    rfl
  | true =>
    rw [Bool.not_true, cond_false, lvl2, lvl2, c39_78_1_i]
    have hw : IntKind.i64.wrap ((IntKind.i64.wrap (IntKind.i64.wrap ((v0.1.length : Int) + (4 : Int)) - (1 : Int))).tdiv (4 : Int)) = (((v0.1.length + 3) / 4 : Nat) : Int) := by
      rw [w64 (x := (v0.1.length : Int) + 4) (by omega) (by omega), show (v0.1.length : Int) + 4 - 1 = ((v0.1.length + 3 : Nat) : Int) from by omega, w64 (x := ((v0.1.length + 3 : Nat) : Int)) (by omega) (by omega)]
      show IntKind.i64.wrap (((v0.1.length + 3) / 4 : Nat) : Int) = _
      exact w64 (by omega) (by omega)
    rw [hw]
    refine l78 (by omega) (k + 1) _ b key v0 hl64 ?_ ((v0.1.length + 3) / 4) 0 ((v0.1.length + 3) / 4) (k + 1) (by omega) (by omega) (by omega) (by omega) (fun h => absurd h (by omega))
    intro i hi hlow
    refine (c39_78_1r14_k28 _ _ _ b key v0 (i : Int)).trans ?_
    have hmax : IntKind.i64.wrap (maxI (0 : Int) (IntKind.i64.wrap ((i : Int) - (1 : Int))) * (4 : Int)) = ((4 * (i - 1) : Nat) : Int) := by
      rw [w64 (x := (i : Int) - 1) (by omega) (by omega)]
      have : maxI (0 : Int) ((i : Int) - 1) = ((i - 1 : Nat) : Int) := by
        unfold maxI
        split <;> omega
      rw [this, w64 (by omega) (by omega)]
      omega
    rw [hmax, if_pos (by omega)]
    have := l39 (q := k + 2) (by omega) (inl := inlN B (callN B (k + 1)) (inlN B (callN B k) (lvl B k).2 k) (k + 1)) (k + 2) key v0 (i : Int) (4 * (i - 1)) hmax (by omega) (v0.1.drop (4 * (i - 1))).length 0 (k + 2) (by omega) (by rw [List.length_drop]; omega)
    refine this.trans (congrArg some ?_)
    rw [List.drop_zero]
    refine above_drop v0.1 (4 * (i - 1)) (fun j hj hjl => ?_)
    have h1 := hlow (by omega)
    exact cmpKe_lt.2 ((pair_lt hpair hj (by omega)).trans (cmpKe_lt.1 h1))
theorem s9 {k : Nat} (hk : 100000 ≤ k) {l : List En} {b : List Int} (hb : Bytes b) (key : Ke) : callN B k 9 [argAV (.sl EntryT) l, argAV (.sl u8) b, argAV KeyT key] = (some true : Option Bool) := by
  obtain ⟨k, rfl⟩ := Nat.exists_eq_add_of_le' (show 1 ≤ k by omega)
  refine (callS k 9 _).trans ((t9 (callN B k) (lvl B k).2 k l b key).trans ?_)
  have aw : (((callN B k 19 []).bind fun (v0 : Bool) => some (v0)) : Option Bool) = some true := bnd (s19 (by omega)) rfl
  obtain ⟨r, hr⟩ := s36 (k := k) l (by omega)
  refine bnd hr ?_
  cases r with
  | true => exact aw
  | false =>
  rw [beq_self_eq_true, cond_true]
  by_cases c2 : (l.length : Int) > 80
  · rw [decide_eq_true c2]; exact aw
  rw [decide_eq_false c2, beq_self_eq_true, cond_true]
  by_cases c3 : (b.length : Int) > 3000
  · rw [decide_eq_true c3]; exact aw
  rw [decide_eq_false c3, beq_self_eq_true, cond_true]
  by_cases c4 : (key.1.size : Int) > 300
  · rw [decide_eq_true c4]; exact aw
  rw [decide_eq_false c4, cond_false]
  have hgl := (getBlock_rising b).1
  refine bnd (s17 (l := l) (by omega) (by omega)) ?_
  refine bnd (s37 (l := l) (by omega) (by omega)) ?_
  refine bnd (s34 hb (by omega) (by omega)) ?_
  refine bnd (s38 hb (by omega) (by omega)) ?_
  refine bnd (s39 hb (by omega) (by omega) key) ?_
  refine bnd (s40 (l := (getBlock b).1) (by omega) (by omega) key) ?_
  rw [beq_self_eq_true, beq_self_eq_true, cond_true]
  refine bnd (s18 (by omega) _) ?_
  rw [beq_self_eq_true, beq_self_eq_true, cond_true]
  refine bnd (s41 (l := (getBlock b).1) (by omega) (by omega)) ?_
  rw [beq_self_eq_true, cond_true, beq_self_eq_true, beq_self_eq_true, cond_true]
  have := same_self ((above key (getBlock b).1).1.1.1, (above key (getBlock b).1).1.1.2.1, (above key (getBlock b).1).1.1.2.2.1, (above key (getBlock b).1).1.2.1)
  simp only at this
  rw [this, beq_self_eq_true, cond_true, beq_self_eq_true, beq_self_eq_true, cond_true]
  exact aw
end Go.Eng.Bk
/- A table read: what the document's function answers. -/
namespace Go.Eng.Bk
open Go Go.Proofs Go.Eng
set_option linter.unusedVariables false
set_option linter.unusedSimpArgs false
theorem frm_put_bytes (l : List En) : Bytes (frm (putBlock l).1) := frm_bytes (putBlock_bytes l)
theorem putK_bytes (a : Ke) : Bytes (putK a) := by
  unfold putK
  split
  · exact ((enc_bytes _).append (bytesOf_bytes _)).append (enc_bytes _)
  · exact Bytes.nil
theorem bodyP_bytes : ∀ (ls : List (List En)) (bl pl : List Int), Bytes bl → Bytes pl → Bytes (bodyP ls bl pl).1 ∧ Bytes (bodyP ls bl pl).2
  | [], bl, pl, h1, h2 => ⟨h1, h2⟩
  | part :: r, bl, pl, h1, h2 => bodyP_bytes r _ _ (h1.append (frm_put_bytes part)) (((h2.append (putK_bytes _)).append (enc_bytes _)).append (enc_bytes _))
theorem magic_bytes : Bytes magicL := fun x hx => by
  have : x = 105 ∨ x = 99 ∨ x = 98 ∨ x = 49 := by simpa [magicL] using hx
  omega
theorem tableL_bytes (l : List En) (per : Nat) {f : List Int} (hf : Bytes f) : Bytes (tableL l per f) := by
  obtain ⟨h1, h2⟩ := bodyP_bytes (chunks per l) [] [] Bytes.nil Bytes.nil
  exact (((((h1.append (frm_bytes hf)).append (frm_bytes h2)).append (fx_bytes _ _)).append (fx_bytes _ _)).append (fx_bytes _ _)).append magic_bytes
/-- What is made of what was read, the document's. -/
def finR (b : List Int) (u : List Int × Int × Bool × Unit) : Option (List En × Nat) → List En × List Int × Int × Unit
  | none => ([], [], 5, ())
  | some (l, per) => if u.2.2.1 = false ∨ per = 0 ∨ rising l = false ∨ tableL l per u.1 ≠ b then ([], [], 5, ()) else (l, u.1, 0, ())
theorem l47e {k : Nat} {inl : InlT} {b : List Int} (hb : Bytes b) (hlen : b.length ≤ 1000000000) (hk : b.length + 20000000 ≤ k) (at_ : Nat) (hat : at_ < 4294967296) {l : List En} {per : Nat} (h1 : l.length ≤ 256) (h2 : per ≤ 64) (h3 : per = 0 ∨ 1 ≤ l.length) :
    (KA B (callN B k) inl 47 k [1, 1, 1, 1, 1, 0, 1] (FI B (callN B k) inl 47)) (.exit 0) (s47_8x12 b ((at_ : Int), true, ()) l (per : Int)) = (some (finR b (unf b at_) (some (l, per))) : Option (List En × List Int × Int × Unit)) := by
  rw [s47_8x12_k]
  show _ = some (if (unf b at_).2.2.1 = false ∨ per = 0 ∨ rising l = false ∨ tableL l per (unf b at_).1 ≠ b then ([], [], 5, ()) else (l, (unf b at_).1, 0, ()))
  dsimp only
  refine bnd (s88 hb hlen at_ (by omega) (by omega)) ?_
  rcases unf_cases hb at_ with hu | ⟨c, n, hu, hc, hn, hn2, hcb⟩
  · rw [hu]
    dsimp only
    rw [show ((!false) == false) = false from rfl, cond_false, if_pos (.inl rfl)]
  rw [hu]
  dsimp only
  rw [show ((!true) == false) = true from rfl, cond_true]
  by_cases h0 : per = 0
  · rw [show ((per : Int) == (0 : Int)) = true from beq_iff_eq.2 (by omega), show (true == false) = false from rfl, cond_false, if_pos (.inr (.inl h0))]
  rw [show ((per : Int) == (0 : Int)) = false from beq_eq_false_iff_ne.2 (by omega), show (false == false) = true from rfl, cond_true]
  refine bnd (s70 (by omega) (by omega)) ?_
  cases hr : rising l with
  | false => rw [if_pos (.inr (.inr (.inl rfl)))]; rfl
  | true =>
    rw [show ((!true) == false) = true from rfl, cond_true]
    refine bnd (s86 (by omega) h1 per (by omega) (by omega) (f := c) (by omega)) ?_
    by_cases he : tableL l per c = b
    · rw [he, beq_self_eq_true, show (!true) = false from rfl, cond_false, if_neg (fun h => by
        rcases h with h | h | h | h
        · cases h
        · exact h0 h
        · cases h
        · exact h rfl)]
    · rw [show ((strOf (tableL l per c)).toList == (strOf b).toList) = false from beq_eq_false_iff_ne.2 (fun h => he (strOf_inj (tableL_bytes l per hcb) hb (ba_ext h))), show (!false) = true from rfl, cond_true, if_pos (.inr (.inr (.inr he)))]
theorem l47 {k : Nat} {inl : InlT} {b : List Int} (hb : Bytes b) (hlen : b.length ≤ 1000000000) (hk : b.length + 20000000 ≤ k) (at_ : Nat) (hat : at_ < 4294967296) (d : Nat) : ∀ (p m per : Nat) (l : List En), b.length + 1 ≤ p + d → p ≤ b.length → d < m → l.length ≤ 256 → per ≤ 64 → (per = 0 ∨ 1 ≤ l.length) →
    LP B (callN B k) inl 47 m [1, 1, 1, 1, 1, 0, 1] (s47_8 b ((at_ : Int), true, ()) l (per : Int) (p : Int)) (KA B (callN B k) inl 47 k [1, 1, 1, 1, 1, 0, 1] (FI B (callN B k) inl 47)) = (some (finR b (unf b at_) (rdL b at_ d p per l)) : Option (List En × List Int × Int × Unit)) := by
  induction d with
  | zero => intro p m per l h1 h2; omega
  | succ d ih =>
    intro p m per l h1 h2 hm h3 h4 h5
    obtain ⟨m, rfl⟩ : ∃ k, m = k + 1 := ⟨m - 1, by omega⟩
    rw [s47_8_l]
    dsimp only
    by_cases hp : p < at_
    · rw [bT (by omega)]
      refine bnd (s88 hb (by omega) p (by omega) (by omega)) ?_
      rcases unf_cases hb p with hu | ⟨c, n, hu, hc, hn, hn2, hcb⟩
      · rw [rdL_no hp (by rw [hu]; simp), hu]
        refine bnd (s38 (b := []) Bytes.nil (by simp) (by simp only [List.length_nil]; omega)) ?_
        dsimp only
        rw [show ((!false) == false) = false from rfl, cond_false, s47_8x11_k]
        rfl
      · rw [hu]
        dsimp only
        refine bnd (s38 hcb (by omega) (by omega)) ?_
        rw [show ((!true) == false) = true from rfl, cond_true]
        rcases getBlock_cases c with hg | ⟨part, hg, hpb⟩
        · rw [rdL_no hp (by rw [hu]; dsimp only; rw [hg]; simp), hg]
          dsimp only
          rw [show ((!false) == false) = false from rfl, cond_false, s47_8x11_k]
          rfl
        · have hz := putBlock_zero (l := part) (by rw [hpb])
          rw [hg]
          dsimp only
          rw [show ((!true) == false) = true from rfl, cond_true, w64 (x := (l.length : Int) + (part.length : Int)) (by omega) (by omega)]
          by_cases h256 : l.length + part.length ≤ 256
          · rw [bF (by omega), rdL_go hp hu hg h256]
            have hrest : LP B (callN B k) inl 47 m [1, 1, 1, 1, 1, 0, 1] (s47_8 b ((at_ : Int), true, ()) (l ++ part) (((if per = 0 then part.length else per : Nat)) : Int) ((p + 8 + n : Nat) : Int)) (KA B (callN B k) inl 47 k [1, 1, 1, 1, 1, 0, 1] (FI B (callN B k) inl 47)) = _ := ih (p + 8 + n) m (if per = 0 then part.length else per) (l ++ part) (by omega) (by omega) (by omega) (by rw [List.length_append]; exact h256) (by split <;> omega) (.inr (by rw [List.length_append]; omega))
            by_cases h0 : per = 0
            · rw [if_pos h0] at hrest ⊢
              rw [show ((per : Int) == (0 : Int)) = true from beq_iff_eq.2 (by omega), cond_true, if_pos (by omega)]
              exact hrest
            · rw [if_neg h0] at hrest ⊢
              rw [show ((per : Int) == (0 : Int)) = false from beq_eq_false_iff_ne.2 (by omega), cond_false, if_pos (by omega)]
              exact hrest
          · rw [bT (by omega), rdL_no hp (by rw [hu]; dsimp only; rw [hg]; simp; omega), s47_8x11_k]
            rfl
    · rw [bF (by omega), rdL_end hp]
      exact l47e hb hlen hk at_ hat h3 h4 h5
/-- A table read, the document's. -/
def readR (b : List Int) : List En × List Int × Int × Unit :=
  if (gfx b ((b.length : Int) - 16) 4).2.1 = true then finR b (unf b (gfx b ((b.length : Int) - 16) 4).1.toNat) (rdL b (gfx b ((b.length : Int) - 16) 4).1.toNat (b.length + 1) 0 0 []) else ([], [], 5, ())
theorem s47 {k : Nat} {b : List Int} (hb : Bytes b) (hlen : b.length ≤ 1000000000) (hk : b.length + 20000010 ≤ k) : callN B k 47 [argAV (.sl u8) b] = (some (readR b) : Option (List En × List Int × Int × Unit)) := by
  obtain ⟨k, rfl⟩ := Nat.exists_eq_add_of_le' (show 1 ≤ k by omega)
  refine (callS k 47 _).trans ((t47 (callN B k) (lvl B k).2 k b).trans ?_)
  rw [w64 (x := (b.length : Int) - 16) (by omega) (by omega)]
  refine bnd (s75 (by omega) hb (by omega) _ (by omega) 4 (by omega) (by omega)) ?_
  unfold readR
  rcases gfx_cases b ((b.length : Int) - 16) 4 with hg | ⟨n, hg, h16, _, hn⟩
  · rw [hg]; rfl
  · rw [hg]
    dsimp only
    rw [show ((!true) == false) = true from rfl, cond_true, Int.toNat_natCast, bF (by omega), if_pos rfl]
    have hn2 : n < 4294967296 := by
      have := bval_lt ((b.drop ((b.length : Int) - 16).toNat).take 4) 0 0 ((hb.drop _).take _) (by decide)
      rw [← hn] at this
      have hl4 : ((b.drop ((b.length : Int) - 16).toNat).take 4).length ≤ 4 := by rw [List.length_take]; omega
      exact Nat.lt_of_lt_of_le this (Nat.le_trans (Nat.pow_le_pow_right (by omega) (by omega : 0 + ((b.drop ((b.length : Int) - 16).toNat).take 4).length ≤ 4)) (by decide))
    exact l47 hb hlen (by omega) n hn2 (b.length + 1) 0 k 0 [] (by omega) (by omega) (by omega) (by simp) (by omega) (.inl rfl)
end Go.Eng.Bk
/- Reading what was written answers what was put in; BlockBack's function answers true. -/
namespace Go.Eng.Bk
open Go Go.Proofs Go.Eng
set_option linter.unusedVariables false
set_option linter.unusedSimpArgs false
theorem entryM_enc {e : En} (he : mayE e = true) {n : Nat} (h64 : n ≤ 64) {ahead : ByteArray} (hn : n ≤ ahead.size) (hsp : ahead.extract 0 n ++ rest e.1.1 n = e.1.1) (pre more : List Int) :
    entryM (pre ++ (encE n e ++ more)) (pre.length : Int) ahead = (e, ((pre.length + (encE n e).length : Nat) : Int), true, ()) := by
  obtain ⟨h1, h2, h3⟩ := mayE_true he
  obtain ⟨_, k2, k3, k4⟩ := mayB_true h1
  obtain ⟨t1, t2⟩ := tail_bound h1
  have hrs := rest_size e.1.1 n
  have hL : pre ++ (encE n e ++ more) = pre ++ (enc n ++ (enc (rest e.1.1 n).size ++ (bytesOf (rest e.1.1 n) ++ (enc (tailN e.1) ++ (enc e.2.1.size ++ (bytesOf e.2.1 ++ more)))))) := by
    simp only [encE, List.append_assoc]
  have hlen : (encE n e).length = (enc n).length + (enc (rest e.1.1 n).size).length + (rest e.1.1 n).size + (enc (tailN e.1)).length + (enc e.2.1.size).length + e.2.1.size := by
    simp only [encE, List.length_append, bytesOf_length]; omega
  rw [hL, hlen]
  generalize hrr : rest e.1.1 n = rs at *
  have g1 := getN_enc (n := n) (by omega) pre (enc rs.size ++ (bytesOf rs ++ (enc (tailN e.1) ++ (enc e.2.1.size ++ (bytesOf e.2.1 ++ more)))))
  have g2 := getT_enc (s := rs) (by omega) (pre ++ enc n) (enc (tailN e.1) ++ (enc e.2.1.size ++ (bytesOf e.2.1 ++ more)))
  have g3 := getN_enc (n := tailN e.1) t1 (pre ++ enc n ++ enc rs.size ++ bytesOf rs) (enc e.2.1.size ++ (bytesOf e.2.1 ++ more))
  have g4 := getT_enc (s := e.2.1) (by omega) (pre ++ enc n ++ enc rs.size ++ bytesOf rs ++ enc (tailN e.1)) more
  simp only [List.append_assoc, List.length_append, bytesOf_length] at g1 g2 g3 g4
  generalize pre ++ (enc n ++ (enc rs.size ++ (bytesOf rs ++ (enc (tailN e.1) ++ (enc e.2.1.size ++ (bytesOf e.2.1 ++ more)))))) = L at *
  have p1 : (pre.length : Int) + ((enc n).length : Int) = ((pre.length + (enc n).length : Nat) : Int) := by omega
  have p2 : pre.length + (enc n).length + (enc rs.size).length + rs.size = pre.length + ((enc n).length + ((enc rs.size).length + rs.size)) := by omega
  have p3 : ((pre.length + ((enc n).length + ((enc rs.size).length + rs.size)) : Nat) : Int) + ((enc (tailN e.1)).length : Int) = ((pre.length + ((enc n).length + ((enc rs.size).length + (rs.size + (enc (tailN e.1)).length))) : Nat) : Int) := by omega
  rw [p1] at g1
  rw [p2] at g2
  rw [p3] at g3
  unfold entryM
  rw [g1]
  simp only
  rw [g2]
  simp only
  rw [g3]
  simp only
  rw [g4]
  simp only [Int.toNat_natCast]
  rw [if_pos ⟨trivial, by omega, trivial, trivial⟩, hsp]
  have e1 : ((tailN e.1 / 2 : Nat) : Int) = e.1.2.1 := by omega
  have e2 : ((tailN e.1 % 2 + 1 : Nat) : Int) = e.1.2.2.1 := by omega
  rw [e1, e2]
  refine Prod.ext rfl (Prod.ext ?_ rfl)
  show ((_ : Nat) : Int) = ((_ : Nat) : Int)
  omega
theorem bytesOf_take (s : ByteArray) (n : Nat) : bytesOf (s.extract 0 n) = (bytesOf s).take n := by
  unfold bytesOf
  rw [ByteArray.data_extract, Array.toList_extract, List.extract_eq_take_drop, List.drop_zero, Nat.sub_zero, List.map_take]
theorem extract_join (s : ByteArray) (n : Nat) : s.extract 0 n ++ rest s n = s := by
  apply bytesOf_inj
  have : bytesOf (s.extract 0 n ++ rest s n) = bytesOf (s.extract 0 n) ++ bytesOf (rest s n) := by
    unfold bytesOf; rw [ByteArray.data_append, Array.toList_append, List.map_append]
  rw [this, bytesOf_take]
  have h2 : bytesOf (rest s n) = (bytesOf s).drop n := by
    unfold bytesOf
    rw [ByteArray.data_extract, Array.toList_extract, List.extract_eq_take_drop, List.map_take, List.map_drop, List.take_of_length_le]
    rw [List.length_drop, List.length_map, Array.length_toList]
    exact Nat.le_refl _
  rw [h2, List.take_append_drop]
/-- The bytes of the entries from one place on. -/
def tl (l : List En) : Nat → Nat → List Int
  | 0, _ => []
  | d + 1, i => encE (shAt l i) (l.getD i d0) ++ tl l d (i + 1)
theorem putB_tl (l : List En) : ∀ (d i : Nat) (out pl : List Int), (putB l d i out pl).1 = out ++ tl l d i
  | 0, _, out, _ => (List.append_nil out).symm
  | d + 1, i, out, pl => by
    show (putB l d (i + 1) (out ++ encE (shAt l i) (l.getD i d0)) _).1 = out ++ (encE (shAt l i) (l.getD i d0) ++ tl l d (i + 1))
    rw [putB_tl l d (i + 1), List.append_assoc]
theorem getLoop_tl {l : List En} (h64 : l.length ≤ 64) (hm : ∀ j, j < l.length → mayE (l.getD j d0) = true) (x : List Int) (d : Nat) : ∀ (i n : Nat) (pre : List Int) (ahead : ByteArray) (out : List En), i + d = l.length → d < n → x = pre ++ tl l d i → out = l.take i → (0 < i → ahead = (l.getD (i - 1) d0).1.1) →
    getLoop x n pre.length ahead out = some l := by
  induction d with
  | zero =>
    intro i n pre ahead out hi hn hx ho _
    obtain ⟨n, rfl⟩ : ∃ k, n = k + 1 := ⟨n - 1, by omega⟩
    have : x = pre := by rw [hx]; exact List.append_nil pre
    simp only [getLoop]
    rw [if_neg (by rw [this]; omega), ho, List.take_of_length_le (by omega)]
  | succ d ih =>
    intro i n pre ahead out hi hn hx ho ha
    obtain ⟨n, rfl⟩ : ∃ k, n = k + 1 := ⟨n - 1, by omega⟩
    have he := hm i (by omega)
    have hsl := shAt_le he
    have hx2 : x = pre ++ (encE (shAt l i) (l.getD i d0) ++ tl l d (i + 1)) := hx
    have hnn : shAt l i ≤ ahead.size ∧ ahead.extract 0 (shAt l i) ++ rest (l.getD i d0).1.1 (shAt l i) = (l.getD i d0).1.1 := by
      by_cases h4 : i % 4 = 0
      · have h0 : shAt l i = 0 := by unfold shAt; rw [if_pos h4]
        rw [h0]
        refine ⟨Nat.zero_le _, ?_⟩
        have h1 : ahead.extract 0 0 = (l.getD i d0).1.1.extract 0 0 := by
          apply bytesOf_inj; rw [bytesOf_take, bytesOf_take]; rfl
        rw [h1, extract_join]
      · have h0 : shAt l i = shr (bytesOf (l.getD (i - 1) d0).1.1) (bytesOf (l.getD i d0).1.1) := by unfold shAt; rw [if_neg h4]
        have haa := ha (by omega)
        have hle := (shr_le (bytesOf (l.getD (i - 1) d0).1.1) (bytesOf (l.getD i d0).1.1)).1
        have htk := shr_take (bytesOf (l.getD (i - 1) d0).1.1) (bytesOf (l.getD i d0).1.1)
        rw [← haa, bytesOf_length] at hle
        rw [← haa] at htk h0
        refine ⟨by omega, ?_⟩
        have h1 : ahead.extract 0 (shAt l i) = (l.getD i d0).1.1.extract 0 (shAt l i) := by
          apply bytesOf_inj; rw [bytesOf_take, bytesOf_take, h0]; exact htk
        rw [h1, extract_join]
    have hE := entryM_enc he hsl.2 hnn.1 hnn.2 pre (tl l d (i + 1))
    have hpos : 1 ≤ (encE (shAt l i) (l.getD i d0)).length := by
      have := enc_length_pos (shAt l i)
      simp only [encE, List.length_append]; omega
    rw [← hx2] at hE
    simp only [getLoop]
    rw [if_pos (by rw [hx2, List.length_append, List.length_append]; omega), hE]
    have hol : out.length = i := by rw [ho, List.length_take]; omega
    rw [if_pos ⟨rfl, by omega⟩]
    have := ih (i + 1) n (pre ++ encE (shAt l i) (l.getD i d0)) (l.getD i d0).1.1 (out ++ [l.getD i d0]) (by omega) (by omega) (by rw [hx2, List.append_assoc]) (by rw [ho, List.take_add_one, getD_lt' (show i < l.length by omega), List.getElem?_eq_getElem (by omega)]; rfl) (fun _ => rfl)
    rw [List.length_append] at this
    simp only [Int.toNat_natCast]
    exact this
/-- What is read from a written block. -/
theorem getBlock_put {l : List En} (h0 : l.length ≠ 0) (hr : rising l = true) (h64 : l.length ≤ 64) : getBlock (putBlock l).1 = (l, true, ()) := by
  have hp := putBlock_ok h0 hr h64
  have hz : (putBlock l).2.1 = 0 := by rw [hp]; rfl
  obtain ⟨x, y, a, hb, hy, ha1, ha2, hx, hg⟩ := putBlock_end hz
  have hlen : (putBlock l).1.length = x.length + 4 * a + 2 := by rw [hb, List.length_append, List.length_append, fx_length, hy]
  have hgl := getLoop_tl (l := l) h64 (rising_may hr) x l.length 0 ((putBlock l).1.length + 1) [] ⟨#[]⟩ [] (by omega) (by
    have := putB_tl l l.length 0 [] []
    have h2 : ∀ d i, d ≤ (tl l d i).length := by
      intro d
      induction d with
      | zero => intro i; exact Nat.zero_le _
      | succ d ih =>
        intro i
        have := ih (i + 1)
        have hp := enc_length_pos (shAt l i)
        show d + 1 ≤ (encE (shAt l i) (l.getD i d0) ++ tl l d (i + 1)).length
        simp only [encE, List.length_append]; omega
    have h3 := h2 l.length 0
    rw [hx, this, List.nil_append] at hlen
    omega) (by rw [hx, putB_tl]) rfl (fun h => absurd h (by omega))
  unfold getBlock
  rw [hg]
  simp only
  rw [if_pos ⟨trivial, by omega⟩]
  have e1 : (((putBlock l).1.length : Int) - 2 - 4 * (a : Int)).toNat = x.length := by omega
  have e2 : (putBlock l).1.take x.length = x := by rw [hb, List.append_assoc, List.take_left]
  rw [e1, e2]
  have hgl' : getLoop x ((putBlock l).1.length + 1) 0 ⟨#[]⟩ [] = some l := hgl
  rw [hgl']
  unfold getRes
  simp only
  rw [if_pos ⟨hz, trivial⟩]
theorem cmpKe_self (a : Ke) : cmpKe a a = 0 := cmpK_self _ _ _
theorem above_self {l : List En} (h : l.Pairwise LtE) {i : Nat} (hi : i < l.length) : above (l.getD i d0).1 l = (l.getD i d0, true, ()) := by
  rw [← above_drop l i (fun j hj hl => cmpKe_lt.2 (pair_lt h hj hi))]
  obtain ⟨e, t, hdr, _⟩ := drop_cons (l := l) (i := i) hi
  rw [hdr, dgetD hdr]
  show (if cmpKe e.1 e.1 ≥ 0 then (e, true, ()) else above e.1 t) = _
  rw [if_pos (by rw [cmpKe_self]; omega)]
theorem s10 {k : Nat} (hk : 100000 ≤ k) {a0 : List Int} (h0 : Bytes a0) (a1 a2 a3 a4 : Nat) (h1 : a1 < 256) (h2 : a2 < 256) (h3 : a3 < 256) (h4 : a4 < 256) : callN B k 10 [argAV (.sl u8) a0, argAV u8 (a1 : Int), argAV u8 (a2 : Int), argAV u8 (a3 : Int), argAV u8 (a4 : Int)] = (some true : Option Bool) := by
  obtain ⟨k, rfl⟩ := Nat.exists_eq_add_of_le' (show 1 ≤ k by omega)
  refine (callS k 10 _).trans ((t10 (callN B k) (lvl B k).2 k a0 (a1 : Int) (a2 : Int) (a3 : Int) (a4 : Int)).trans ?_)
  have aw : (((callN B k 19 []).bind fun (v0 : Bool) => some (v0)) : Option Bool) = some true := bnd (s19 (by omega)) rfl
  by_cases c1 : (((a0.length : Int) == (0 : Int)) == false) = true
  case neg => rw [Bool.not_eq_true] at c1; rw [c1]; exact aw
  rw [c1, cond_true]
  by_cases c2 : (a0.length : Int) > 64
  · rw [decide_eq_true c2]; exact aw
  rw [decide_eq_false c2, cond_false]
  have hpos : 0 < a0.length := by
    cases h : a0.length with
    | zero => rw [h] at c1; exact absurd c1 (by decide)
    | succ n => omega
  have hm := mkL_good h0 (by omega) a1
  have hr := mkL_rising h0 (by omega) a1
  have hml : (mkL a0 a1).length = a0.length := hm.2.2.2
  refine bnd (s33 h0 (by omega) (by omega) a1 h1) ?_
  generalize mkL a0 a1 = l at hm hr hml ⊢
  have hp := putBlock_ok (l := l) (by omega) hr (by omega)
  have hz : (putBlock l).2.1 = 0 := by rw [hp]; rfl
  have hbl := putBlock_length l
  have hby := putBlock_bytes l
  have hgb := getBlock_put (l := l) (by omega) hr (by omega)
  refine bnd (s17 (l := l) (by omega) (by omega)) ?_
  rw [hz]
  generalize (putBlock l).1 = b at hbl hby hgb ⊢
  refine bnd (s34 hby (by omega) (by omega)) ?_
  rw [hgb]
  refine bnd (s18 (by omega) _) ?_
  rw [show (((0 : Int) != (0 : Int)) == false) = true from rfl, cond_true, Bool.not_true, beq_self_eq_true, cond_true]
  refine bnd (s41 (l := l) (by omega) (by omega)) ?_
  rw [Bool.not_true, cond_false, if_neg (by omega)]
  rw [w64 (x := (a2 : Int)) (by omega) (by omega), w64 (x := (a3 : Int)) (by omega) (by omega), w64 (x := (a4 : Int)) (by omega) (by omega)]
  have hmod : Int.tmod (a2 : Int) (l.length : Int) = ((a2 % l.length : Nat) : Int) := rfl
  rw [hmod]
  have hlt : a2 % l.length < l.length := Nat.mod_lt _ (by omega)
  rw [if_pos (by omega), Int.toNat_natCast]
  refine bnd (s39 hby (by omega) (by omega) (l.getD (a2 % l.length) d0).1) ?_
  have hmod5 : Int.tmod (a3 : Int) 50 = ((a3 % 50 : Nat) : Int) := rfl
  rw [hmod5]
  refine bnd (s42 (by omega) (a3 % 50) (by omega)) ?_
  have hds := dg_size (n := a3 % 50) (by omega)
  rw [if_neg (by rw [i64max]; have : (ByteArray.mk #[(107 : UInt8), (101 : UInt8), (121 : UInt8)]).size = 3 := rfl; omega)]
  refine bnd (s39 hby (by omega) (by omega) (keyB ++ dg (a3 % 50), (a4 : Int), 1, ())) ?_
  refine bnd (s40 (l := l) (by omega) (by omega) (keyB ++ dg (a3 % 50), (a4 : Int), 1, ())) ?_
  rw [hgb]
  simp only
  rw [above_self (rising_pair hr) hlt]
  have e1 := same_self ((l.getD (a2 % l.length) d0).1.1, (l.getD (a2 % l.length) d0).1.2.1, (l.getD (a2 % l.length) d0).1.2.2.1, (l.getD (a2 % l.length) d0).2.1)
  have e2 := same_self ((above (keyB ++ dg (a3 % 50), (a4 : Int), 1, ()) l).1.1.1, (above (keyB ++ dg (a3 % 50), (a4 : Int), 1, ()) l).1.1.2.1, (above (keyB ++ dg (a3 % 50), (a4 : Int), 1, ()) l).1.1.2.2.1, (above (keyB ++ dg (a3 % 50), (a4 : Int), 1, ()) l).1.2.1)
  simp only at e1 e2
  simp only
  rw [beq_self_eq_true, cond_true, e1, beq_self_eq_true, cond_true, e2, beq_self_eq_true, cond_true, beq_self_eq_true, beq_self_eq_true, cond_true]
  exact aw
end Go.Eng.Bk
/- Tables: what is put is read again, what is read was put; the two readers agree. -/
namespace Go.Eng.Bk
open Go Go.Proofs Go.Eng
set_option linter.unusedVariables false
set_option linter.unusedSimpArgs false
theorem bval_fx4 {n : Nat} (h : n < 4294967296) : bval 0 (fx n 4) = n := bval_fx n 4 0 (Nat.div_eq_of_lt (by rw [show (256 : Nat) ^ 4 = 4294967296 from by decide]; exact h))
theorem take_app {α : Type} (a b : List α) {n : Nat} (h : a.length = n) : (a ++ b).take n = a := by subst h; exact List.take_left
theorem drop_app {α : Type} (a b : List α) {n : Nat} (h : a.length = n) : (a ++ b).drop n = b := by subst h; exact List.drop_left
theorem unf_frm (a c : List Int) {f : List Int} (h : f.length ≤ 1048576) : unf (a ++ (frm f ++ c)) a.length = (f, ((a.length + 8 + f.length : Nat) : Int), true, ()) := by
  have e : frm f = fx f.length 4 ++ (fx (crc f) 4 ++ f) := by unfold frm; rw [if_neg (by omega), List.append_assoc]
  have d0 : (a ++ (frm f ++ c)).drop a.length = fx f.length 4 ++ ((fx (crc f) 4 ++ f) ++ c) := by rw [drop_app _ _ rfl, e, List.append_assoc]
  have d4 : (a ++ (frm f ++ c)).drop (a.length + 4) = fx (crc f) 4 ++ (f ++ c) := by rw [← List.drop_drop, d0, drop_app _ _ (fx_length _ _), List.append_assoc]
  have d8 : (a ++ (frm f ++ c)).drop (a.length + 8) = f ++ c := by rw [show a.length + 8 = (a.length + 4) + 4 from rfl, ← List.drop_drop, d4, drop_app _ _ (fx_length _ _)]
  have hn : bval 0 (((a ++ (frm f ++ c)).drop a.length).take 4) = f.length := by rw [d0, take_app _ _ (fx_length _ _), bval_fx4 (by omega)]
  have := unf_yes (l := a ++ (frm f ++ c)) (p := a.length) hn h (by rw [List.length_append, List.length_append, frm_length h]; omega) (by rw [d4, d8, take_app _ _ (fx_length _ _), take_app _ _ rfl, bval_fx4 (crc_lt f)])
  rw [this, d8, take_app _ _ rfl]
/-! ### parts -/
theorem chunksF_flat {α : Type} {p : Nat} (hp : 1 ≤ p) : ∀ (f : Nat) (l : List α), l.length ≤ f → (chunksF p f l).flatten = l
  | 0, [], _ => rfl
  | 0, x :: l, h => by rw [List.length_cons] at h; omega
  | f + 1, [], _ => rfl
  | f + 1, x :: l, h => by
    show ((x :: l).take p :: chunksF p f ((x :: l).drop p)).flatten = _
    rw [List.flatten_cons, chunksF_flat hp f _ (by rw [List.length_drop]; rw [List.length_cons] at h ⊢; omega), List.take_append_drop]
theorem chunks_flat {α : Type} {p : Nat} (hp : 1 ≤ p) (l : List α) : (chunks p l).flatten = l := chunksF_flat hp _ l (Nat.le_refl _)
theorem chunksF_good {p : Nat} (hp : 1 ≤ p) : ∀ (f : Nat) (l : List En), rising l = true → ∀ q ∈ chunksF p f l, q.length ≠ 0 ∧ q.length ≤ p ∧ rising q = true
  | 0, _, _, q, h => by cases h
  | f + 1, [], _, q, h => by cases h
  | f + 1, x :: l, hr, q, h => by
    have sub : ∀ {m : List En}, m.Sublist (x :: l) → rising m = true := fun {m} hs => rising_of (fun e he => rising_mem hr e (hs.subset he)) ((rising_pair hr).sublist hs)
    rcases List.mem_cons.1 (show q ∈ (x :: l).take p :: chunksF p f ((x :: l).drop p) from h) with h | h
    · rw [h]
      refine ⟨?_, ?_, sub (List.take_sublist _ _)⟩
      · rw [List.length_take, List.length_cons]; omega
      · rw [List.length_take]; omega
    · exact chunksF_good hp f _ (sub (List.drop_sublist _ _)) q h
def headN : List (List En) → Nat
  | [] => 0
  | q :: _ => q.length
theorem chunks_head {p : Nat} {l : List En} (h : 1 ≤ l.length) : headN (chunks p l) = min p l.length := by
  cases l with
  | nil => simp at h
  | cons x l =>
    show ((x :: l).take p).length = _
    rw [List.length_take]
theorem chunks_all {p : Nat} {l : List En} (h : 1 ≤ l.length) (hp : l.length ≤ p) : chunks p l = [l] := by
  cases l with
  | nil => simp at h
  | cons x l =>
    show (x :: l).take p :: chunksF p l.length ((x :: l).drop p) = _
    rw [List.take_of_length_le hp, List.drop_of_length_le hp]
    cases l.length <;> rfl
theorem chunks_min {p : Nat} {l : List En} (h : 1 ≤ l.length) : chunks (min p l.length) l = chunks p l := by
  by_cases hp : p ≤ l.length
  · rw [Nat.min_eq_left hp]
  · rw [Nat.min_eq_right (by omega), chunks_all h (Nat.le_refl _), chunks_all h (by omega)]
theorem tableL_min {p : Nat} {l : List En} (h : 1 ≤ l.length) (f : List Int) : tableL l (min p l.length) f = tableL l p f := by
  unfold tableL bodyT
  rw [chunks_min h]
def blk (ls : List (List En)) : List Int := (ls.map fun q => frm (putBlock q).1).flatten
theorem bodyP_blk : ∀ (ls : List (List En)) (bl pl : List Int), (bodyP ls bl pl).1 = bl ++ blk ls
  | [], bl, pl => (List.append_nil _).symm
  | q :: r, bl, pl => by
    show (bodyP r _ _).1 = bl ++ (frm (putBlock q).1 ++ blk r)
    rw [bodyP_blk r, List.append_assoc]
theorem rd_blk (c : List Int) (at_ : Nat) : ∀ (ls : List (List En)) (a : List Int) (acc : List En) (per m : Nat), (∀ q ∈ ls, q.length ≠ 0 ∧ q.length ≤ 64 ∧ rising q = true) → at_ = a.length + (blk ls).length → ls.length + 1 ≤ m → acc.length + ls.flatten.length ≤ 256 →
    rdL (a ++ (blk ls ++ c)) at_ m a.length per acc = some (acc ++ ls.flatten, if per = 0 then headN ls else per)
  | [], a, acc, per, m, _, hat, hm, _ => by
    obtain ⟨m, rfl⟩ : ∃ k, m = k + 1 := ⟨m - 1, by simp only [List.length_nil] at hm; omega⟩
    rw [rdL_end (by rw [hat]; simp [blk])]
    refine congrArg some (Prod.ext (List.append_nil _).symm ?_)
    show per = if per = 0 then 0 else per
    split <;> omega
  | q :: r, a, acc, per, m, hq, hat, hm, hl => by
    rw [List.length_cons] at hm
    obtain ⟨m, rfl⟩ : ∃ k, m = k + 1 := ⟨m - 1, by omega⟩
    obtain ⟨h0, h64, hr⟩ := hq q (by simp)
    have hpl := putBlock_length q
    have hblk : blk (q :: r) = frm (putBlock q).1 ++ blk r := rfl
    have hfl : (frm (putBlock q).1).length = (putBlock q).1.length + 8 := frm_length (by omega)
    rw [List.flatten_cons, List.length_append] at hl
    have hu : unf (a ++ (blk (q :: r) ++ c)) a.length = ((putBlock q).1, ((a.length + 8 + (putBlock q).1.length : Nat) : Int), true, ()) := by
      rw [hblk, List.append_assoc]
      exact unf_frm a (blk r ++ c) (by omega)
    rw [rdL_go (by rw [hat, hblk, List.length_append]; omega) hu (getBlock_put h0 hr h64) (by omega)]
    have ih := rd_blk c at_ r (a ++ frm (putBlock q).1) (acc ++ q) (if per = 0 then q.length else per) m (fun x hx => hq x (by simp [hx])) (by rw [hat, hblk, List.length_append, List.length_append]; omega) (by omega) (by rw [List.length_append]; omega)
    rw [show a.length + 8 + (putBlock q).1.length = (a ++ frm (putBlock q).1).length from by rw [List.length_append, hfl]; omega, hblk]
    rw [List.append_assoc] at ih ⊢
    rw [ih]
    refine congrArg some (Prod.ext (by rw [List.append_assoc]; rfl) ?_)
    show (if (if per = 0 then q.length else per) = 0 then headN r else (if per = 0 then q.length else per)) = if per = 0 then q.length else per
    by_cases hp0 : per = 0
    · rw [if_pos hp0, if_neg h0]
    · rw [if_neg hp0, if_neg hp0]
/-! ### a table -/
/-- What a table may be made of. -/
structure TOk (l : List En) (per : Nat) (f : List Int) : Prop where
  p1 : 1 ≤ per
  p64 : per ≤ 64
  l1 : 1 ≤ l.length
  l256 : l.length ≤ 256
  ris : rising l = true
  flen : f.length ≤ 1048576
  fb : Bytes f
theorem blk_ge : ∀ ls : List (List En), ls.length ≤ (blk ls).length
  | [] => Nat.le_refl _
  | q :: r => by
    show _ ≤ (frm (putBlock q).1 ++ blk r).length
    have h1 := blk_ge r
    have h2 := putBlock_length q
    rw [List.length_append, frm_length (by omega), List.length_cons]
    omega
theorem bodyT_blk (l : List En) (per : Nat) : (bodyT l per).1 = blk (chunks per l) := bodyP_blk _ _ _
theorem tableL_len {l : List En} {per : Nat} {f : List Int} (h : TOk l per f) : (tableL l per f).length ≤ 15000000 ∧ (tableL l per f).length = (bodyT l per).1.length + (frm f).length + (frm (bodyT l per).2).length + 16 := by
  have h1 := bodyT_len (l := l) (per := per) h.p1 h.l256
  have h2 := frm_le f
  have h3 := frm_le (bodyT l per).2
  have := h.flen
  have e : (tableL l per f).length = (bodyT l per).1.length + (frm f).length + (frm (bodyT l per).2).length + 16 := by
    unfold tableL wholeL
    rw [List.length_append, List.length_append, List.length_append, List.length_append, List.length_append, List.length_append, fx_length, fx_length, fx_length]
    rfl
  exact ⟨by omega, e⟩
theorem tableL_foot {l : List En} {per : Nat} {f : List Int} (h : TOk l per f) : gfx (tableL l per f) (((tableL l per f).length : Int) - 16) 4 = (((bodyT l per).1.length : Int), true, ()) := by
  obtain ⟨h1, h2⟩ := tableL_len h
  have h3 := bodyT_len (l := l) (per := per) h.p1 h.l256
  have e : tableL l per f = ((bodyT l per).1 ++ frm f ++ frm (bodyT l per).2) ++ (fx (bodyT l per).1.length 4 ++ (fx ((bodyT l per).1 ++ frm f).length 4 ++ fx l.length 4 ++ magicL)) := by
    unfold tableL wholeL
    simp only [List.append_assoc]
  have hl : ((bodyT l per).1 ++ frm f ++ frm (bodyT l per).2).length = (tableL l per f).length - 16 := by rw [h2]; simp only [List.length_append]; omega
  have := gfx_yes (l := tableL l per f) (p := (tableL l per f).length - 16) (z := 4) (by omega)
  rw [show (((tableL l per f).length - 16 : Nat) : Int) = ((tableL l per f).length : Int) - 16 from by omega] at this
  rw [this, ← hl]
  conv => lhs; rw [e]
  rw [drop_app _ _ rfl, take_app _ _ (fx_length _ _), bval_fx4 (by omega)]
theorem tableL_filter {l : List En} {per : Nat} {f : List Int} (h : TOk l per f) : unf (tableL l per f) (bodyT l per).1.length = (f, (((bodyT l per).1.length + 8 + f.length : Nat) : Int), true, ()) := by
  have e : tableL l per f = (bodyT l per).1 ++ (frm f ++ (frm (bodyT l per).2 ++ (fx (bodyT l per).1.length 4 ++ (fx ((bodyT l per).1 ++ frm f).length 4 ++ (fx l.length 4 ++ magicL))))) := by
    unfold tableL wholeL
    simp only [List.append_assoc]
  rw [e]
  exact unf_frm _ _ h.flen
theorem rd_table {l : List En} {per : Nat} {f : List Int} (h : TOk l per f) (c : List Int) (m : Nat) (hm : (chunks per l).length + 1 ≤ m) : rdL ((bodyT l per).1 ++ c) (bodyT l per).1.length m 0 0 [] = some (l, min per l.length) := by
  have hc := chunks_length h.p1 l
  have hl := h.l256
  have hfl := chunks_flat h.p1 l
  have := rd_blk c (bodyT l per).1.length (chunks per l) [] [] 0 m (fun q hq => by
    obtain ⟨h1, h2, h3⟩ := chunksF_good h.p1 l.length l h.ris q hq
    have := h.p64
    exact ⟨h1, by omega, h3⟩) (by rw [bodyT_blk]; simp) (by omega) (by rw [hfl]; simp only [List.length_nil]; omega)
  rw [List.nil_append, ← bodyT_blk] at this
  refine (show rdL ((bodyT l per).1 ++ c) (bodyT l per).1.length m 0 0 [] = _ from this).trans ?_
  rw [hfl, if_pos rfl, chunks_head h.l1]
  rfl
/-- What was put is read: the program's. -/
theorem readP_put {l : List En} {per : Nat} {f : List Int} (h : TOk l per f) : readP (tableL l per f) = (l, f, true, ()) := by
  obtain ⟨h1, h2⟩ := tableL_len h
  have h3 := h.l1
  have h4 := h.p1
  unfold readP
  rw [tableL_foot h]
  dsimp only
  rw [Int.toNat_natCast, tableL_filter h, if_pos ⟨rfl, by omega, rfl⟩]
  have e : (tableL l per f).take (bodyT l per).1.length = (bodyT l per).1 ++ [] := by
    unfold tableL wholeL
    simp only [List.append_assoc]
    rw [take_app _ _ rfl, List.append_nil]
  have hc := blk_ge (chunks per l)
  rw [← bodyT_blk] at hc
  rw [e, rd_table h [] _ (by omega)]
  show (if min per l.length = 0 ∨ rising l = false then ([], [], false, ()) else (l, f, decide (tableL l (min per l.length) f = tableL l per f), ())) = _
  rw [if_neg (fun hh => hh.elim (by omega) (fun hh => by rw [h.ris] at hh; cases hh)), tableL_min h.l1, decide_eq_true rfl]
/-- What was put is read: the document's. -/
theorem readR_put {l : List En} {per : Nat} {f : List Int} (h : TOk l per f) : readR (tableL l per f) = (l, f, 0, ()) := by
  obtain ⟨h1, h2⟩ := tableL_len h
  have h3 := h.l1
  have h4 := h.p1
  unfold readR
  rw [tableL_foot h]
  dsimp only
  rw [Int.toNat_natCast, tableL_filter h, if_pos rfl]
  have hc := blk_ge (chunks per l)
  rw [← bodyT_blk] at hc
  have e : ∃ c, tableL l per f = (bodyT l per).1 ++ c := ⟨frm f ++ (frm (bodyT l per).2 ++ (fx (bodyT l per).1.length 4 ++ (fx ((bodyT l per).1 ++ frm f).length 4 ++ (fx l.length 4 ++ magicL)))), by
    unfold tableL wholeL
    simp only [List.append_assoc]⟩
  obtain ⟨c, e⟩ := e
  have hr := rd_table h c ((tableL l per f).length + 1) (by omega)
  rw [← e] at hr
  rw [hr]
  show (if true = false ∨ min per l.length = 0 ∨ rising l = false ∨ tableL l (min per l.length) f ≠ tableL l per f then ([], [], 5, ()) else (l, f, 0, ())) = _
  rw [if_neg (fun hh => by
    rcases hh with hh | hh | hh | hh
    · cases hh
    · omega
    · rw [h.ris] at hh; cases hh
    · exact hh (tableL_min h.l1 f))]
/-! ### what is read was put -/
theorem rdL_ok {src : List Int} (hs : Bytes src) (at_ : Nat) : ∀ (m p per : Nat) (l : List En) (l' : List En) (per' : Nat), rdL src at_ m p per l = some (l', per') → l.length ≤ 256 → per ≤ 64 → (per = 0 ∨ 1 ≤ l.length) → l'.length ≤ 256 ∧ per' ≤ 64 ∧ (per' = 0 ∨ 1 ≤ l'.length)
  | 0, _, _, _, _, _, h, _, _, _ => by cases h
  | m + 1, p, per, l, l', per', h, h1, h2, h3 => by
    by_cases hp : p < at_
    · by_cases hc : (unf src p).2.2.1 = true ∧ (getBlock (unf src p).1).2.1 = true ∧ l.length + (getBlock (unf src p).1).1.length ≤ 256
      · have h' := ((if_pos hp).trans (if_pos hc)).symm.trans h
        have hz : (getBlock (unf src p).1).1.length ≠ 0 ∧ (getBlock (unf src p).1).1.length ≤ 64 := by
          rcases getBlock_cases (unf src p).1 with hg | ⟨out, hg, hpb⟩
          · rw [hg] at hc; cases hc.2.1
          · have := putBlock_zero (l := out) (by rw [hpb])
            rw [hg]
            exact ⟨this.1, this.2.2⟩
        exact rdL_ok hs at_ m _ _ _ l' per' h' (by rw [List.length_append]; exact hc.2.2) (by split <;> omega) (.inr (by rw [List.length_append]; omega))
      · rw [rdL_no hp hc] at h; cases h
    · rw [rdL_end hp] at h
      cases h
      exact ⟨h1, h2, h3⟩
theorem readP_cases {b : List Int} (hb : Bytes b) : (readP b).2.2.1 = false ∨ ∃ l per f, TOk l per f ∧ tableL l per f = b := by
  unfold readP
  split
  · rename_i hc
    obtain ⟨_, _, hu⟩ := hc
    generalize (gfx b ((b.length : Int) - 16) 4).1.toNat = at_ at hu ⊢
    cases hr : rdL (b.take at_) at_ (b.length + 1) 0 0 [] with
    | none => exact .inl rfl
    | some q =>
      obtain ⟨l, per⟩ := q
      obtain ⟨h1, h2, h3⟩ := rdL_ok (hb.take at_) at_ _ _ _ _ _ _ hr (by simp) (by omega) (.inl rfl)
      show (if per = 0 ∨ rising l = false then ([], [], false, ()) else (l, (unf b at_).1, decide (tableL l per (unf b at_).1 = b), ()) : List En × List Int × Bool × Unit).2.2.1 = false ∨ _
      split
      · exact .inl rfl
      · rename_i hn
        by_cases he : tableL l per (unf b at_).1 = b
        · refine .inr ⟨l, per, (unf b at_).1, ?_, he⟩
          rcases unf_cases hb at_ with hv | ⟨c, n, hv, hc, hn1, hn2, hcb⟩
          · rw [hv] at hu; cases hu
          · rw [hv]
            exact ⟨by omega, h2, by omega, h1, by
              cases hri : rising l with
              | true => rfl
              | false => exact absurd (.inr hri) hn, by show c.length ≤ _; omega, hcb⟩
        · exact .inl (decide_eq_false he)
  · exact .inl rfl
theorem readR_cases {b : List Int} (hb : Bytes b) : readR b = ([], [], 5, ()) ∨ ∃ l per f, TOk l per f ∧ tableL l per f = b := by
  unfold readR
  split
  · generalize (gfx b ((b.length : Int) - 16) 4).1.toNat = at_
    cases hr : rdL b at_ (b.length + 1) 0 0 [] with
    | none => exact .inl rfl
    | some q =>
      obtain ⟨l, per⟩ := q
      obtain ⟨h1, h2, h3⟩ := rdL_ok hb at_ _ _ _ _ _ _ hr (by simp) (by omega) (.inl rfl)
      by_cases hn : (unf b at_).2.2.1 = false ∨ per = 0 ∨ rising l = false ∨ tableL l per (unf b at_).1 ≠ b
      · exact .inl (if_pos hn)
      · refine .inr ⟨l, per, (unf b at_).1, ?_, by
          by_cases he : tableL l per (unf b at_).1 = b
          · exact he
          · exact absurd (.inr (.inr (.inr he))) hn⟩
        rcases unf_cases hb at_ with hv | ⟨c, n, hv, hc, hn1, hn2, hcb⟩
        · rw [hv] at hn; exact absurd (.inl rfl) hn
        · rw [hv] at hn ⊢
          exact ⟨by
            by_cases h0 : per = 0
            · exact absurd (.inr (.inl h0)) hn
            · omega, h2, by
            by_cases h0 : per = 0
            · exact absurd (.inr (.inl h0)) hn
            · omega, h1, by
            cases hri : rising l with
            | true => rfl
            | false => exact absurd (.inr (.inr (.inl hri))) hn, by show c.length ≤ _; omega, hcb⟩
  · exact .inl rfl
/-- The two readers agree. -/
theorem read_both {b : List Int} (hb : Bytes b) : ((readP b).2.2.1 = false ∧ readR b = ([], [], 5, ())) ∨ ∃ l per f, TOk l per f ∧ tableL l per f = b ∧ readP b = (l, f, true, ()) ∧ readR b = (l, f, 0, ()) := by
  have hput : ∀ {l per f}, TOk l per f → tableL l per f = b → readP b = (l, f, true, ()) ∧ readR b = (l, f, 0, ()) := fun h e => by
    subst e
    exact ⟨readP_put h, readR_put h⟩
  rcases readP_cases hb with h | ⟨l, per, f, h, e⟩
  · rcases readR_cases hb with h' | ⟨l, per, f, h', e⟩
    · exact .inl ⟨h, h'⟩
    · have := (hput h' e).1
      rw [this] at h; cases h
  · exact .inr ⟨l, per, f, h, e, hput h e⟩
end Go.Eng.Bk
/- A table's entries; the statements' example. -/
namespace Go.Eng.Bk
open Go Go.Proofs Go.Eng
set_option linter.unusedVariables false
set_option linter.unusedSimpArgs false
theorem tok_filt {l : List En} {per : Nat} (x : Nat) (p1 : 1 ≤ per) (p64 : per ≤ 64) (l1 : 1 ≤ l.length) (l256 : l.length ≤ 256) (hr : rising l = true) : TOk l per (filt (usr l) x) :=
  ⟨p1, p64, l1, l256, hr, by have := filt_le (keys := usr l) x (by have := usr_len l; omega); omega, filt_bytes _ _⟩
theorem pt_good {l : List En} {per : Nat} (x : Nat) (p1 : 1 ≤ per) (p64 : per ≤ 64) (l1 : 1 ≤ l.length) (l256 : l.length ≤ 256) (hr : rising l = true) : putTable l (per : Int) x = (tableL l per (filt (usr l) x), 0, ()) := by
  have := pt_ok (l := l) (per := (per : Int)) (x := x) (fun h => by
    rcases h with h | h | h | h
    · omega
    · omega
    · omega
    · rw [hr] at h; cases h) (by omega)
  rw [this, Int.toNat_natCast]
/-- A table's entries, or why there are none. -/
def allP (b : List Int) : List En × Int × Unit := if (readP b).2.2.1 = false then ([], 5, ()) else ((readP b).1, 0, ())
theorem allP_put {l : List En} {per : Nat} {f : List Int} (h : TOk l per f) : allP (tableL l per f) = (l, 0, ()) := by
  unfold allP
  rw [readP_put h]
  rfl
theorem s45 {k : Nat} {b : List Int} (hb : Bytes b) (hlen : b.length ≤ 1000000000) (hk : b.length + 20000020 ≤ k) : callN B k 45 [argAV (.sl u8) b] = (some (allP b) : Option (List En × Int × Unit)) := by
  obtain ⟨k, rfl⟩ := Nat.exists_eq_add_of_le' (show 1 ≤ k by omega)
  refine (callS k 45 _).trans ((t45 (callN B k) (lvl B k).2 k b).trans ?_)
  refine bnd (s85 hb hlen (by omega)) ?_
  unfold allP
  cases (readP b).2.2.1 <;> rfl
theorem one_bytes : Bytes [(1 : Int)] := fun x hx => by
  have : x = 1 := by simpa using hx
  omega
theorem s44 {k : Nat} (hk : 40000000 ≤ k) : callN B k 44 [] = (some true : Option Bool) := by
  obtain ⟨k, rfl⟩ := Nat.exists_eq_add_of_le' (show 1 ≤ k by omega)
  refine (callS k 44 _).trans ((t44 (callN B k) (lvl B k).2 k).trans ?_)
  have hr := mkL_rising (ns := [(1 : Int)]) one_bytes (by simp) 0
  have hl : (mkL [(1 : Int)] 0).length = 1 := (mkL_good (ns := [(1 : Int)]) one_bytes (by simp) 0).2.2.2
  refine bnd (s33 (ns := [(1 : Int)]) one_bytes (by simp) (by simp only [List.length_cons, List.length_nil]; omega) 0 (by omega)) ?_
  refine bnd (s43 (l := mkL [(1 : Int)] 0) (by omega) (by omega) 4 4621819117588971520) ?_
  have ht := tok_filt (l := mkL [(1 : Int)] 0) (per := 4) 4621819117588971520 (by omega) (by omega) (by omega) (by omega) hr
  have hlen := tableL_len ht
  have hbt := bodyT_len (l := mkL [(1 : Int)] 0) (per := 4) (by omega) (by omega)
  have hfl := frm_length (l := (bodyT (mkL [(1 : Int)] 0) 4).2) (by omega)
  have hpt : putTable (mkL [(1 : Int)] 0) (4 : Int) 4621819117588971520 = (tableL (mkL [(1 : Int)] 0) 4 (filt (usr (mkL [(1 : Int)] 0)) 4621819117588971520), 0, ()) := pt_good (per := 4) 4621819117588971520 (by omega) (by omega) (by omega) (by omega) hr
  rw [hpt]
  refine bnd (s45 (b := tableL (mkL [(1 : Int)] 0) 4 (filt (usr (mkL [(1 : Int)] 0)) 4621819117588971520)) (tableL_bytes _ _ ht.fb) (by omega) (by omega)) ?_
  rw [allP_put ht]
  refine bnd (s18 (by omega) _) ?_
  rw [show (((0 : Int) == (0 : Int)) == true) = true from rfl, cond_true]
  refine bnd (s18 (by omega) _) ?_
  rw [show (((0 : Int) == (0 : Int)) == true) = true from rfl, cond_true, hl, show ((((1 : Nat) : Int) == (1 : Int)) == true) = true from rfl, cond_true]
  dsimp only
  exact congrArg some (decide_eq_true (by omega))
end Go.Eng.Bk
/- What the machine answers at some functions of the program: printed by the generator, each checked by the kernel. -/
namespace Go.Eng.Bk
open Go Go.Proofs Go.Eng
set_option linter.unusedVariables false
set_option maxRecDepth 100000
section
variable (call : CallT B) (inl : InlT) (m : Nat)
/-! function 51 -/
def s51_1 (a0 : (List En)) (a1 : ByteArray) (a2 : Int) (x0 : Int) : St := { t := [(.v (.sl EntryT) (a0)), (.v .str (a1)), (.v (.int .i64) (a2)), .bad, .bad, .bad, (.ptr 0 0), .bad, (.v (.int .i64) (x0)), .bad, .bad, .bad, .bad, .bad, .bad, .bad, .bad, .bad, .bad, .bad, .bad, .bad, .bad, .bad, .bad, .bad, .bad, .bad, .bad, .bad, .bad, .bad, .bad, .bad, .bad, .bad, .bad, (.raw undef)], bx := [(some (26, [(.v .str ((ByteArray.mk #[]))), (.v (.int .i64) ((0 : Int))), (.v (.int .i64) ((0 : Int))), (.v .str ((ByteArray.mk #[])))]))], live := 0, g := [] }
def s51_1x2 (y0 : (List En)) (y1 : Int) : St := { t := [.bad, .bad, .bad, .bad, .bad, .bad, (.ptr 0 0), (.v .bool (true)), .bad, .bad, .bad, .bad, .bad, .bad, .bad, .bad, .bad, .bad, .bad, .bad, .bad, .bad, .bad, .bad, .bad, .bad, .bad, .bad, .bad, .bad, .bad, .bad, .bad, .bad, .bad, .bad, .bad, (.raw undef)], bx := [(some (26, [(.v .str ((List.getD y0 y1.toNat (((ByteArray.mk #[]), (0 : Int), (0 : Int), ()), (ByteArray.mk #[]), ())).fst.fst)), (.v (.int .i64) ((List.getD y0 y1.toNat (((ByteArray.mk #[]), (0 : Int), (0 : Int), ()), (ByteArray.mk #[]), ())).fst.snd.fst)), (.v (.int .i64) ((List.getD y0 y1.toNat (((ByteArray.mk #[]), (0 : Int), (0 : Int), ()), (ByteArray.mk #[]), ())).fst.snd.snd.fst)), (.v .str ((List.getD y0 y1.toNat (((ByteArray.mk #[]), (0 : Int), (0 : Int), ()), (ByteArray.mk #[]), ())).snd.fst))])), none, none, none, none, none, none, none, none, none, none, none, none, none, none, none, none, none, none, none, none, none, none, none, none, none, none, none, none], live := 0, g := [] }
def s51_1x3 : St := { t := [.bad, .bad, .bad, .bad, .bad, .bad, (.ptr 0 0), .bad, .bad, .bad, .bad, .bad, .bad, .bad, .bad, .bad, .bad, .bad, .bad, .bad, .bad, .bad, .bad, .bad, .bad, .bad, .bad, .bad, .bad, .bad, .bad, .bad, .bad, .bad, .bad, .bad, .bad, (.raw undef)], bx := [(some (26, [(.v .str ((ByteArray.mk #[]))), (.v (.int .i64) ((0 : Int))), (.v (.int .i64) ((0 : Int))), (.v .str ((ByteArray.mk #[])))])), none, none, none, none], live := 0, g := [] }
theorem s51_1_l {R : Type} (K : AEx → St → Option R) (a0 : (List En)) (a1 : ByteArray) (a2 : Int) (x0 : Int) : LP B call inl 51 (m + 1) [1, 0, 1] (s51_1 a0 a1 a2 x0) K = (bif decide (x0 < (↑(List.length a0) : Int)) then (if (0 : Int) ≤ x0 ∧ x0 < (↑(List.length a0) : Int) then (bif (ByteArray.toList (List.getD a0 x0.toNat (((ByteArray.mk #[]), (0 : Int), (0 : Int), ()), (ByteArray.mk #[]), ())).fst.fst == ByteArray.toList a1) == true then (if (0 : Int) ≤ x0 ∧ x0 < (↑(List.length a0) : Int) then (bif decide ((List.getD a0 x0.toNat (((ByteArray.mk #[]), (0 : Int), (0 : Int), ()), (ByteArray.mk #[]), ())).fst.snd.fst ≤ a2) then (if (0 : Int) ≤ x0 ∧ x0 < (↑(List.length a0) : Int) then (K .ret (s51_1x2 a0 x0)) else (none)) else (LP B call inl 51 m [1, 0, 1] (s51_1 a0 a1 a2 (IntKind.i64.wrap (x0 + (1 : Int)))) K)) else (none)) else (LP B call inl 51 m [1, 0, 1] (s51_1 a0 a1 a2 (IntKind.i64.wrap (x0 + (1 : Int)))) K)) else (none)) else (K (.exit 0) (s51_1x3 ))) := by kernel_rfl
theorem s51_1x2_k (a0 : (List En)) (x0 : Int) : (KA B call inl 51 m [1, 0, 1] (FI B call inl 51)) .ret (s51_1x2 a0 x0) = (some (((((List.getD a0 x0.toNat (((ByteArray.mk #[]), (0 : Int), (0 : Int), ()), (ByteArray.mk #[]), ())).fst.fst, (List.getD a0 x0.toNat (((ByteArray.mk #[]), (0 : Int), (0 : Int), ()), (ByteArray.mk #[]), ())).fst.snd.fst, (List.getD a0 x0.toNat (((ByteArray.mk #[]), (0 : Int), (0 : Int), ()), (ByteArray.mk #[]), ())).fst.snd.snd.fst, ()), (List.getD a0 x0.toNat (((ByteArray.mk #[]), (0 : Int), (0 : Int), ()), (ByteArray.mk #[]), ())).snd.fst, ()), true, ()))) := by kernel_rfl
theorem s51_1x3_k : (KA B call inl 51 m [1, 0, 1] (FI B call inl 51)) (.exit 0) (s51_1x3 ) = (some (((((ByteArray.mk #[]), (0 : Int), (0 : Int), ()), (ByteArray.mk #[]), ()), false, ()))) := by kernel_rfl
theorem t51 (a0 : (List En)) (a1 : ByteArray) (a2 : Int) : stepN B call inl m 51 [argAV (.sl EntryT) a0, argAV .str a1, argAV (.int .i64) a2] = (LP B call inl 51 m [1, 0, 1] (s51_1 a0 a1 a2 ((0 : Int))) (KA B call inl 51 m [1, 0, 1] (FI B call inl 51)) : Option (En × Bool × Unit)) := by kernel_rfl
end
end Go.Eng.Bk
/- What the machine answers at some functions of the program: printed by the generator, each checked by the kernel. -/
namespace Go.Eng.Bk
open Go Go.Proofs Go.Eng
set_option linter.unusedVariables false
set_option maxRecDepth 100000
section
variable (call : CallT B) (inl : InlT) (m : Nat)
/-! function 48 -/
def c48_78_2 (y0 : (List Int)) (y1 : ByteArray) (y2 : Int) (y3 : ((List En) × (List Int) × Bool × Unit)) (y4 : Bool) : St := { t := [(.v (.sl (.int .u8)) (y0)), (.v .str (y1)), (.v (.int .i64) (y2)), (.raw undef), (.raw undef), (.raw undef), (.ptr 0 0), (.v .bool (false)), (.v (.int .i64) ((0 : Int))), (.ptr 9 0), (.v (.sl (.int .u8)) (y3.snd.fst)), (.v .bool (y3.snd.snd.fst)), (.ptr 22 0), (.raw undef), (.tup [(.own 32 26 EntryT (y3.fst)), (.v (.sl (.int .u8)) (y3.snd.fst)), (.v .bool (y3.snd.snd.fst))]), (.v (.sl (.int .u8)) (y0)), (.tup [(.own 32 26 EntryT (y3.fst)), (.v (.sl (.int .u8)) (y3.snd.fst)), (.v .bool (y3.snd.snd.fst))]), (.own 32 26 EntryT (y3.fst)), (.v (.sl (.int .u8)) (y3.snd.fst)), (.v .bool (y3.snd.snd.fst)), (.v .bool (y3.snd.snd.fst)), (.v .bool (!y3.snd.snd.fst)), (.raw undef), (.v (.sl (.int .u8)) (y3.snd.fst)), (.v .str (y1)), (.v .bool (y4)), (.v .bool (!y4)), (.raw undef), (.v .str (y1)), (.v (.int .i64) (y2)), (.agg [(.v .str (y1)), (.v (.int .i64) (y2)), (.v (.int .i64) ((2 : Int)))]), (.own 32 26 EntryT (y3.fst)), (.v (.int .i64) ((↑(List.length y3.fst) : Int))), (.fn 89 [(.ptr 9 0), (.ptr 22 0)]), (.raw undef), (.raw undef), (.raw undef), (.raw undef), (.raw undef), (.raw undef), (.raw undef), (.raw undef), (.raw undef), (.raw undef), (.raw undef), (.raw undef), (.raw undef), (.raw undef), (.raw undef), (.raw undef), (.raw undef), (.raw undef), (.raw undef), (.raw undef)], bx := [(some (26, [(.v .str ((ByteArray.mk #[]))), (.v (.int .i64) ((0 : Int))), (.v (.int .i64) ((0 : Int))), (.v .str ((ByteArray.mk #[])))])), none, none, none, none, none, none, none, none, (some (22, [(.own 32 26 EntryT (y3.fst))])), none, none, none, none, none, none, none, none, none, none, none, none, (some (24, [(.v .str (y1)), (.v (.int .i64) (y2)), (.v (.int .i64) ((2 : Int)))])), none, none, none, none, none, none], live := 4294967296, g := [] }
def s78_7 (a0 : (List Int)) (a1 : ByteArray) (a2 : Int) (v0 : ((List En) × (List Int) × Bool × Unit)) (v1 : Bool) (x4 : Int) (x5 : Int) : St := { t := [.bad, (.fn 89 [(.ptr 0 0), (.ptr 1 0)]), .bad, .bad, (.v (.int .i64) ((0 : Int))), (.v (.int .i64) (x4)), (.v (.int .i64) (x5)), .bad, .bad, .bad, .bad, .bad, .bad, .bad, .bad, .bad, .bad, .bad, .bad, .bad, .bad, .bad, .bad, .bad, .bad, (.raw undef)], bx := [(some (22, [(.own 0 26 EntryT (v0.fst))])), (some (24, [(.v .str (a1)), (.v (.int .i64) (a2)), (.v (.int .i64) ((2 : Int)))])), (some (26, [(.v .str ((ByteArray.mk #[]))), (.v (.int .i64) ((0 : Int))), (.v (.int .i64) ((0 : Int))), (.v .str ((ByteArray.mk #[])))])), none], live := 1, g := [(.v (.sl (.int .u8)) (a0)), (.v .str (a1)), (.v (.int .i64) (a2)), (.raw undef), (.raw undef), (.raw undef), (.ptr 2 0), (.v .bool (false)), (.v (.int .i64) ((0 : Int))), (.ptr 0 0), (.v (.sl (.int .u8)) (v0.snd.fst)), (.v .bool (v0.snd.snd.fst)), (.ptr 1 0), (.raw undef), .bad, (.v (.sl (.int .u8)) (a0)), .bad, (.own 0 26 EntryT (v0.fst)), (.v (.sl (.int .u8)) (v0.snd.fst)), (.v .bool (v0.snd.snd.fst)), (.v .bool (v0.snd.snd.fst)), (.v .bool (!v0.snd.snd.fst)), (.raw undef), (.v (.sl (.int .u8)) (v0.snd.fst)), (.v .str (a1)), (.v .bool (v1)), (.v .bool (!v1)), (.raw undef), (.v .str (a1)), (.v (.int .i64) (a2)), (.agg [(.v .str (a1)), (.v (.int .i64) (a2)), (.v (.int .i64) ((2 : Int)))]), (.own 0 26 EntryT (v0.fst)), (.v (.int .i64) ((↑(List.length v0.fst) : Int))), (.fn 89 [(.ptr 0 0), (.ptr 1 0)]), (.raw undef), (.raw undef), (.raw undef), (.raw undef), (.raw undef), (.raw undef), (.raw undef), (.raw undef), (.raw undef), (.raw undef), (.raw undef), (.raw undef), (.raw undef), (.raw undef), (.raw undef), (.raw undef), (.raw undef), (.raw undef), (.raw undef), (.raw undef)] }
def c78_89_8 (y0 : (List Int)) (y1 : ByteArray) (y2 : Int) (y3 : ((List En) × (List Int) × Bool × Unit)) (y4 : Bool) (y5 : Int) (y6 : Int) : St := { t := [.bad, (.fn 89 [(.ptr 0 0), (.ptr 1 0)]), .bad, .bad, (.v (.int .i64) ((0 : Int))), (.v (.int .i64) (y5)), (.v (.int .i64) (y6)), (.v (.int .i64) (IntKind.i64.wrap ((IntKind.u64.wrap (IntKind.i64.wrap (y5 + y6))).fdiv ((2 : Int) ^ Min.min (Int.toNat (1 : Int)) IntKind.u64.bits)))), .bad, (.v (.int .i64) (y5)), (.v (.int .i64) (y6)), (.v .bool (decide (y5 < y6))), (.v (.int .i64) (y5)), (.v (.int .i64) (y6)), (.v (.int .i64) (IntKind.i64.wrap (y5 + y6))), (.v (.int .u64) (IntKind.u64.wrap (IntKind.i64.wrap (y5 + y6)))), (.v (.int .u64) ((IntKind.u64.wrap (IntKind.i64.wrap (y5 + y6))).fdiv ((2 : Int) ^ Min.min (Int.toNat (1 : Int)) IntKind.u64.bits))), (.v (.int .i64) (IntKind.i64.wrap ((IntKind.u64.wrap (IntKind.i64.wrap (y5 + y6))).fdiv ((2 : Int) ^ Min.min (Int.toNat (1 : Int)) IntKind.u64.bits)))), (.fn 89 [(.ptr 0 0), (.ptr 1 0)]), (.v (.int .i64) (IntKind.i64.wrap ((IntKind.u64.wrap (IntKind.i64.wrap (y5 + y6))).fdiv ((2 : Int) ^ Min.min (Int.toNat (1 : Int)) IntKind.u64.bits)))), .bad, .bad, .bad, .bad, .bad, (.raw undef)], bx := [(some (22, [(.own 0 26 EntryT (y3.fst))])), (some (24, [(.v .str (y1)), (.v (.int .i64) (y2)), (.v (.int .i64) ((2 : Int)))])), (some (26, [(.v .str ((ByteArray.mk #[]))), (.v (.int .i64) ((0 : Int))), (.v (.int .i64) ((0 : Int))), (.v .str ((ByteArray.mk #[])))])), none, none, none, none, none, none, none, none, none, none, none, none, none, none, none], live := 1, g := [(.v (.sl (.int .u8)) (y0)), (.v .str (y1)), (.v (.int .i64) (y2)), (.raw undef), (.raw undef), (.raw undef), (.ptr 2 0), (.v .bool (false)), (.v (.int .i64) ((0 : Int))), (.ptr 0 0), (.v (.sl (.int .u8)) (y3.snd.fst)), (.v .bool (y3.snd.snd.fst)), (.ptr 1 0), (.raw undef), .bad, (.v (.sl (.int .u8)) (y0)), .bad, (.own 0 26 EntryT (y3.fst)), (.v (.sl (.int .u8)) (y3.snd.fst)), (.v .bool (y3.snd.snd.fst)), (.v .bool (y3.snd.snd.fst)), (.v .bool (!y3.snd.snd.fst)), (.raw undef), (.v (.sl (.int .u8)) (y3.snd.fst)), (.v .str (y1)), (.v .bool (y4)), (.v .bool (!y4)), (.raw undef), (.v .str (y1)), (.v (.int .i64) (y2)), (.agg [(.v .str (y1)), (.v (.int .i64) (y2)), (.v (.int .i64) ((2 : Int)))]), (.own 0 26 EntryT (y3.fst)), (.v (.int .i64) ((↑(List.length y3.fst) : Int))), (.fn 89 [(.ptr 0 0), (.ptr 1 0)]), (.raw undef), (.raw undef), (.raw undef), (.raw undef), (.raw undef), (.raw undef), (.raw undef), (.raw undef), (.raw undef), (.raw undef), (.raw undef), (.raw undef), (.raw undef), (.raw undef), (.raw undef), (.raw undef), (.raw undef), (.raw undef), (.raw undef), (.raw undef)] }
def c78_89_8r10 (y0 : (List Int)) (y1 : ByteArray) (y2 : Int) (y3 : ((List En) × (List Int) × Bool × Unit)) (y4 : Bool) (y5 : Int) (y6 : Int) : St := { t := [.bad, (.fn 89 [(.ptr 0 0), (.ptr 1 0)]), .bad, .bad, (.v (.int .i64) ((0 : Int))), (.v (.int .i64) (y5)), (.v (.int .i64) (y6)), (.v (.int .i64) (IntKind.i64.wrap ((IntKind.u64.wrap (IntKind.i64.wrap (y5 + y6))).fdiv ((2 : Int) ^ Min.min (Int.toNat (1 : Int)) IntKind.u64.bits)))), .bad, (.v (.int .i64) (y5)), (.v (.int .i64) (y6)), (.v .bool (decide (y5 < y6))), (.v (.int .i64) (y5)), (.v (.int .i64) (y6)), (.v (.int .i64) (IntKind.i64.wrap (y5 + y6))), (.v (.int .u64) (IntKind.u64.wrap (IntKind.i64.wrap (y5 + y6)))), (.v (.int .u64) ((IntKind.u64.wrap (IntKind.i64.wrap (y5 + y6))).fdiv ((2 : Int) ^ Min.min (Int.toNat (1 : Int)) IntKind.u64.bits))), (.v (.int .i64) (IntKind.i64.wrap ((IntKind.u64.wrap (IntKind.i64.wrap (y5 + y6))).fdiv ((2 : Int) ^ Min.min (Int.toNat (1 : Int)) IntKind.u64.bits)))), (.fn 89 [(.ptr 0 0), (.ptr 1 0)]), (.v (.int .i64) (IntKind.i64.wrap ((IntKind.u64.wrap (IntKind.i64.wrap (y5 + y6))).fdiv ((2 : Int) ^ Min.min (Int.toNat (1 : Int)) IntKind.u64.bits)))), .bad, .bad, .bad, .bad, .bad, (.raw undef)], bx := [(some (22, [(.own 0 26 EntryT (y3.fst))])), (some (24, [(.v .str (y1)), (.v (.int .i64) (y2)), (.v (.int .i64) ((2 : Int)))])), (some (26, [(.v .str ((ByteArray.mk #[]))), (.v (.int .i64) ((0 : Int))), (.v (.int .i64) ((0 : Int))), (.v .str ((ByteArray.mk #[])))])), none, none, none, none, none, none, none, none, none, none, none, none, none, none, none, none, none, none, none, none, none, none, none, none, none], live := 1, g := [(.v (.sl (.int .u8)) (y0)), (.v .str (y1)), (.v (.int .i64) (y2)), (.raw undef), (.raw undef), (.raw undef), (.ptr 2 0), (.v .bool (false)), (.v (.int .i64) ((0 : Int))), (.ptr 0 0), (.v (.sl (.int .u8)) (y3.snd.fst)), (.v .bool (y3.snd.snd.fst)), (.ptr 1 0), (.raw undef), .bad, (.v (.sl (.int .u8)) (y0)), .bad, (.own 0 26 EntryT (y3.fst)), (.v (.sl (.int .u8)) (y3.snd.fst)), (.v .bool (y3.snd.snd.fst)), (.v .bool (y3.snd.snd.fst)), (.v .bool (!y3.snd.snd.fst)), (.raw undef), (.v (.sl (.int .u8)) (y3.snd.fst)), (.v .str (y1)), (.v .bool (y4)), (.v .bool (!y4)), (.raw undef), (.v .str (y1)), (.v (.int .i64) (y2)), (.agg [(.v .str (y1)), (.v (.int .i64) (y2)), (.v (.int .i64) ((2 : Int)))]), (.own 0 26 EntryT (y3.fst)), (.v (.int .i64) ((↑(List.length y3.fst) : Int))), (.fn 89 [(.ptr 0 0), (.ptr 1 0)]), (.raw undef), (.raw undef), (.raw undef), (.raw undef), (.raw undef), (.raw undef), (.raw undef), (.raw undef), (.raw undef), (.raw undef), (.raw undef), (.raw undef), (.raw undef), (.raw undef), (.raw undef), (.raw undef), (.raw undef), (.raw undef), (.raw undef), (.raw undef)] }
theorem c78_89_8_i {R : Type} (K : AV → St → Option R) (a0 : (List Int)) (a1 : ByteArray) (a2 : Int) (v0 : ((List En) × (List Int) × Bool × Unit)) (v1 : Bool) (x4 : Int) (x5 : Int) : inlN B call inl m R 89 [(.v (.int .i64) (IntKind.i64.wrap ((IntKind.u64.wrap (IntKind.i64.wrap (x4 + x5))).fdiv ((2 : Int) ^ Min.min (Int.toNat (1 : Int)) IntKind.u64.bits)))), (.ptr 0 0), (.ptr 1 0)] (c78_89_8 a0 a1 a2 v0 v1 x4 x5) K = (if (0 : Int) ≤ IntKind.i64.wrap ((IntKind.u64.wrap (IntKind.i64.wrap (x4 + x5))).fdiv ((2 : Int) ^ Min.min (Int.toNat (1 : Int)) IntKind.u64.bits)) ∧ IntKind.i64.wrap ((IntKind.u64.wrap (IntKind.i64.wrap (x4 + x5))).fdiv ((2 : Int) ^ Min.min (Int.toNat (1 : Int)) IntKind.u64.bits)) < (↑(List.length v0.fst) : Int) then ((call 80 [(.agg [(.v .str ((List.getD v0.fst (IntKind.i64.wrap ((IntKind.u64.wrap (IntKind.i64.wrap (x4 + x5))).fdiv ((2 : Int) ^ Min.min (Int.toNat (1 : Int)) IntKind.u64.bits))).toNat (((ByteArray.mk #[]), (0 : Int), (0 : Int), ()), (ByteArray.mk #[]), ())).fst.fst)), (.v (.int .i64) ((List.getD v0.fst (IntKind.i64.wrap ((IntKind.u64.wrap (IntKind.i64.wrap (x4 + x5))).fdiv ((2 : Int) ^ Min.min (Int.toNat (1 : Int)) IntKind.u64.bits))).toNat (((ByteArray.mk #[]), (0 : Int), (0 : Int), ()), (ByteArray.mk #[]), ())).fst.snd.fst)), (.v (.int .i64) ((List.getD v0.fst (IntKind.i64.wrap ((IntKind.u64.wrap (IntKind.i64.wrap (x4 + x5))).fdiv ((2 : Int) ^ Min.min (Int.toNat (1 : Int)) IntKind.u64.bits))).toNat (((ByteArray.mk #[]), (0 : Int), (0 : Int), ()), (ByteArray.mk #[]), ())).fst.snd.snd.fst))]), (.agg [(.v .str (a1)), (.v (.int .i64) (a2)), (.v (.int .i64) ((2 : Int)))])]).bind fun (v9 : Int) => K (.v .bool (decide (v9 ≥ (0 : Int)))) (c78_89_8r10 a0 a1 a2 v0 v1 x4 x5)) else (none)) := by kernel_rfl
theorem c78_89_8r10_k12 {R : Type} (K : AEx → St → Option R) (a0 : (List Int)) (a1 : ByteArray) (a2 : Int) (v0 : ((List En) × (List Int) × Bool × Unit)) (v1 : Bool) (x4 : Int) (x5 : Int) (v11 : Int) : (IN B call inl 78 m [1, 1, 0] [1, 1, 0, 2] K) (.v .bool (decide (v11 ≥ (0 : Int)))) (c78_89_8r10 a0 a1 a2 v0 v1 x4 x5) = (bif !decide (v11 ≥ (0 : Int)) then (LP B call inl 78 m [1, 1, 0] (s78_7 a0 a1 a2 v0 v1 (IntKind.i64.wrap (IntKind.i64.wrap ((IntKind.u64.wrap (IntKind.i64.wrap (x4 + x5))).fdiv ((2 : Int) ^ Min.min (Int.toNat (1 : Int)) IntKind.u64.bits)) + (1 : Int))) (x5)) K) else (LP B call inl 78 m [1, 1, 0] (s78_7 a0 a1 a2 v0 v1 (x4) (IntKind.i64.wrap ((IntKind.u64.wrap (IntKind.i64.wrap (x4 + x5))).fdiv ((2 : Int) ^ Min.min (Int.toNat (1 : Int)) IntKind.u64.bits)))) K)) := by kernel_rfl
def s78_7x13 (y0 : (List Int)) (y1 : ByteArray) (y2 : Int) (y3 : ((List En) × (List Int) × Bool × Unit)) (y4 : Bool) (y5 : Int) : St := { t := [.bad, .bad, .bad, .bad, (.v (.int .i64) ((0 : Int))), (.v (.int .i64) (y5)), .bad, .bad, .bad, .bad, .bad, .bad, .bad, .bad, .bad, .bad, .bad, .bad, .bad, .bad, .bad, .bad, .bad, .bad, .bad, (.raw undef)], bx := [(some (22, [(.own 0 26 EntryT (y3.fst))])), (some (24, [(.v .str (y1)), (.v (.int .i64) (y2)), (.v (.int .i64) ((2 : Int)))])), (some (26, [(.v .str ((ByteArray.mk #[]))), (.v (.int .i64) ((0 : Int))), (.v (.int .i64) ((0 : Int))), (.v .str ((ByteArray.mk #[])))])), none, none, none, none], live := 1, g := [(.v (.sl (.int .u8)) (y0)), (.v .str (y1)), (.v (.int .i64) (y2)), (.raw undef), (.raw undef), (.raw undef), (.ptr 2 0), (.v .bool (false)), (.v (.int .i64) ((0 : Int))), (.ptr 0 0), (.v (.sl (.int .u8)) (y3.snd.fst)), (.v .bool (y3.snd.snd.fst)), (.ptr 1 0), (.raw undef), .bad, (.v (.sl (.int .u8)) (y0)), .bad, (.own 0 26 EntryT (y3.fst)), (.v (.sl (.int .u8)) (y3.snd.fst)), (.v .bool (y3.snd.snd.fst)), (.v .bool (y3.snd.snd.fst)), (.v .bool (!y3.snd.snd.fst)), (.raw undef), (.v (.sl (.int .u8)) (y3.snd.fst)), (.v .str (y1)), (.v .bool (y4)), (.v .bool (!y4)), (.raw undef), (.v .str (y1)), (.v (.int .i64) (y2)), (.agg [(.v .str (y1)), (.v (.int .i64) (y2)), (.v (.int .i64) ((2 : Int)))]), (.own 0 26 EntryT (y3.fst)), (.v (.int .i64) ((↑(List.length y3.fst) : Int))), (.fn 89 [(.ptr 0 0), (.ptr 1 0)]), (.raw undef), (.raw undef), (.raw undef), (.raw undef), (.raw undef), (.raw undef), (.raw undef), (.raw undef), (.raw undef), (.raw undef), (.raw undef), (.raw undef), (.raw undef), (.raw undef), (.raw undef), (.raw undef), (.raw undef), (.raw undef), (.raw undef), (.raw undef)] }
theorem s78_7_l {R : Type} (K : AEx → St → Option R) (a0 : (List Int)) (a1 : ByteArray) (a2 : Int) (v0 : ((List En) × (List Int) × Bool × Unit)) (v1 : Bool) (x4 : Int) (x5 : Int) : LP B call inl 78 (m + 1) [1, 1, 0] (s78_7 a0 a1 a2 v0 v1 x4 x5) K = (bif decide (x4 < x5) then (inl _ 89 [(.v (.int .i64) (IntKind.i64.wrap ((IntKind.u64.wrap (IntKind.i64.wrap (x4 + x5))).fdiv ((2 : Int) ^ Min.min (Int.toNat (1 : Int)) IntKind.u64.bits)))), (.ptr 0 0), (.ptr 1 0)] (c78_89_8 a0 a1 a2 v0 v1 x4 x5) (IN B call inl 78 m [1, 1, 0] [1, 1, 0, 2] K)) else (K (.exit 0) (s78_7x13 a0 a1 a2 v0 v1 x4))) := by kernel_rfl
def c48_78_2r15 (y0 : (List Int)) (y1 : ByteArray) (y2 : Int) (y3 : ((List En) × (List Int) × Bool × Unit)) (y4 : Bool) : St := { t := [(.v (.sl (.int .u8)) (y0)), (.v .str (y1)), (.v (.int .i64) (y2)), (.raw undef), (.raw undef), (.raw undef), (.ptr 2 0), (.v .bool (false)), (.v (.int .i64) ((0 : Int))), (.ptr 0 0), (.v (.sl (.int .u8)) (y3.snd.fst)), (.v .bool (y3.snd.snd.fst)), (.ptr 1 0), (.raw undef), .bad, (.v (.sl (.int .u8)) (y0)), .bad, (.own 0 26 EntryT (y3.fst)), (.v (.sl (.int .u8)) (y3.snd.fst)), (.v .bool (y3.snd.snd.fst)), (.v .bool (y3.snd.snd.fst)), (.v .bool (!y3.snd.snd.fst)), (.raw undef), (.v (.sl (.int .u8)) (y3.snd.fst)), (.v .str (y1)), (.v .bool (y4)), (.v .bool (!y4)), (.raw undef), (.v .str (y1)), (.v (.int .i64) (y2)), (.agg [(.v .str (y1)), (.v (.int .i64) (y2)), (.v (.int .i64) ((2 : Int)))]), (.own 0 26 EntryT (y3.fst)), (.v (.int .i64) ((↑(List.length y3.fst) : Int))), (.fn 89 [(.ptr 0 0), (.ptr 1 0)]), (.raw undef), (.raw undef), (.raw undef), (.raw undef), (.raw undef), (.raw undef), (.raw undef), (.raw undef), (.raw undef), (.raw undef), (.raw undef), (.raw undef), (.raw undef), (.raw undef), (.raw undef), (.raw undef), (.raw undef), (.raw undef), (.raw undef), (.raw undef)], bx := [(some (22, [(.own 0 26 EntryT (y3.fst))])), (some (24, [(.v .str (y1)), (.v (.int .i64) (y2)), (.v (.int .i64) ((2 : Int)))])), (some (26, [(.v .str ((ByteArray.mk #[]))), (.v (.int .i64) ((0 : Int))), (.v (.int .i64) ((0 : Int))), (.v .str ((ByteArray.mk #[])))])), none, none, none, none, none, none], live := 1, g := [] }
theorem s78_7x13_k {R : Type} (K : AV → St → Option R) (a0 : (List Int)) (a1 : ByteArray) (a2 : Int) (v0 : ((List En) × (List Int) × Bool × Unit)) (v1 : Bool) (x4 : Int) : (KA B call inl 78 m [1, 1, 0] (FN B call inl 78 54 K)) (.exit 0) (s78_7x13 a0 a1 a2 v0 v1 x4) = (K (.v (.int .i64) (x4)) (c48_78_2r15 a0 a1 a2 v0 v1)) := by kernel_rfl
theorem c48_78_2_i {R : Type} (K : AV → St → Option R) (a0 : (List Int)) (a1 : ByteArray) (a2 : Int) (v0 : ((List En) × (List Int) × Bool × Unit)) (v1 : Bool) : inlN B call inl m R 78 [(.v (.int .i64) ((↑(List.length v0.fst) : Int))), (.fn 89 [(.ptr 9 0), (.ptr 22 0)])] (c48_78_2 a0 a1 a2 v0 v1) K = (LP B call inl 78 m [1, 1, 0] (s78_7 a0 a1 a2 v0 v1 ((0 : Int)) ((↑(List.length v0.fst) : Int))) (KA B call inl 78 m [1, 1, 0] (FN B call inl 78 54 K))) := by kernel_rfl
theorem c48_78_2r15_k21 (a0 : (List Int)) (a1 : ByteArray) (a2 : Int) (v0 : ((List En) × (List Int) × Bool × Unit)) (v1 : Bool) (x17 : Int) : (IA B call inl 48 m [1, 1, 1, 1, 1, 0, 3] (FI B call inl 48)) (.v (.int .i64) (x17)) (c48_78_2r15 a0 a1 a2 v0 v1) = (bif (x17 == (↑(List.length v0.fst) : Int)) == false then (if (0 : Int) ≤ x17 ∧ x17 < (↑(List.length v0.fst) : Int) then (bif !ByteArray.toList (List.getD v0.fst x17.toNat (((ByteArray.mk #[]), (0 : Int), (0 : Int), ()), (ByteArray.mk #[]), ())).fst.fst == ByteArray.toList a1 then (some (((((ByteArray.mk #[]), (0 : Int), (0 : Int), ()), (ByteArray.mk #[]), ()), false, (0 : Int), ()))) else (if (0 : Int) ≤ x17 ∧ x17 < (↑(List.length v0.fst) : Int) then (some (((((List.getD v0.fst x17.toNat (((ByteArray.mk #[]), (0 : Int), (0 : Int), ()), (ByteArray.mk #[]), ())).fst.fst, (List.getD v0.fst x17.toNat (((ByteArray.mk #[]), (0 : Int), (0 : Int), ()), (ByteArray.mk #[]), ())).fst.snd.fst, (List.getD v0.fst x17.toNat (((ByteArray.mk #[]), (0 : Int), (0 : Int), ()), (ByteArray.mk #[]), ())).fst.snd.snd.fst, ()), (List.getD v0.fst x17.toNat (((ByteArray.mk #[]), (0 : Int), (0 : Int), ()), (ByteArray.mk #[]), ())).snd.fst, ()), true, (0 : Int), ()))) else (none))) else (none)) else (some (((((ByteArray.mk #[]), (0 : Int), (0 : Int), ()), (ByteArray.mk #[]), ()), false, (0 : Int), ())))) := by kernel_rfl
theorem t48 (a0 : (List Int)) (a1 : ByteArray) (a2 : Int) : stepN B call inl m 48 [argAV (.sl (.int .u8)) a0, argAV .str a1, argAV (.int .i64) a2] = ((call 85 [(.v (.sl (.int .u8)) (a0))]).bind fun (v0 : ((List En) × (List Int) × Bool × Unit)) => bif !v0.snd.snd.fst then (some (((((ByteArray.mk #[]), (0 : Int), (0 : Int), ()), (ByteArray.mk #[]), ()), false, (5 : Int), ()))) else ((call 26 [(.v (.sl (.int .u8)) (v0.snd.fst)), (.v .str (a1))]).bind fun (v1 : Bool) => bif !v1 then (some (((((ByteArray.mk #[]), (0 : Int), (0 : Int), ()), (ByteArray.mk #[]), ()), false, (0 : Int), ()))) else (inl _ 78 [(.v (.int .i64) ((↑(List.length v0.fst) : Int))), (.fn 89 [(.ptr 9 0), (.ptr 22 0)])] (c48_78_2 a0 a1 a2 v0 v1) (IA B call inl 48 m [1, 1, 1, 1, 1, 0, 3] (FI B call inl 48)))) : Option (En × Bool × Int × Unit)) := by kernel_rfl
end
end Go.Eng.Bk
/- A user's newest entry; a table's ends: what the functions answer. -/
namespace Go.Eng.Bk
open Go Go.Proofs Go.Eng
set_option linter.unusedVariables false
set_option linter.unusedSimpArgs false
/-- A user's first entry that is not above a number. -/
def newest (u : ByteArray) (s : Int) : List En → En × Bool × Unit
  | [] => (noEn, false, ())
  | e :: l => if e.1.1 = u ∧ e.1.2.1 ≤ s then (e, true, ()) else newest u s l
theorem newest_no {u : ByteArray} {s : Int} : ∀ {l : List En}, (∀ e ∈ l, ¬ (e.1.1 = u ∧ e.1.2.1 ≤ s)) → newest u s l = (noEn, false, ())
  | [], _ => rfl
  | e :: l, h => by
    show (if e.1.1 = u ∧ e.1.2.1 ≤ s then _ else newest u s l) = _
    rw [if_neg (h e (by simp)), newest_no (fun x hx => h x (by simp [hx]))]
theorem newest_skip {u : ByteArray} {s : Int} : ∀ (l : List En) (n : Nat), (∀ j, j < n → j < l.length → ¬ ((l.getD j noEn).1.1 = u ∧ (l.getD j noEn).1.2.1 ≤ s)) → newest u s (l.drop n) = newest u s l
  | _, 0, _ => rfl
  | [], n + 1, _ => rfl
  | e :: t, n + 1, h => by
    have h0 : ¬ (e.1.1 = u ∧ e.1.2.1 ≤ s) := h 0 (by omega) (by simp)
    have ha : newest u s (e :: t) = newest u s t := if_neg h0
    rw [ha, List.drop_succ_cons]
    exact newest_skip t n (fun j hj hl => h (j + 1) (by omega) (by simpa using hl))
theorem l51 {call : CallT B} {inl : InlT} (m0 : Nat) {l : List En} (u : ByteArray) (s : Int) (hlen : l.length ≤ 1000000) (d : Nat) : ∀ (i m : Nat), i + d = l.length → d < m →
    LP B call inl 51 m [1, 0, 1] (s51_1 l u s (i : Int)) (KA B call inl 51 m0 [1, 0, 1] (FI B call inl 51)) = (some (newest u s (l.drop i)) : Option (En × Bool × Unit)) := by
  induction d with
  | zero =>
    intro i m hd hm
    obtain ⟨m, rfl⟩ : ∃ k, m = k + 1 := ⟨m - 1, by omega⟩
    rw [s51_1_l, bF (by omega), s51_1x3_k, List.drop_of_length_le (by omega)]
    rfl
  | succ d ih =>
    intro i m hd hm
    obtain ⟨m, rfl⟩ : ∃ k, m = k + 1 := ⟨m - 1, by omega⟩
    obtain ⟨e, t, hct, he⟩ := drop_cons (l := l) (i := i) (by omega)
    have hB : (0 : Int) ≤ (i : Int) ∧ (i : Int) < (l.length : Int) := by omega
    have ih' := ih (i + 1) m (by omega) (by omega)
    rw [dsucc hct] at ih'
    have hn : newest u s (e :: t) = if e.1.1 = u ∧ e.1.2.1 ≤ s then (e, true, ()) else newest u s t := rfl
    rw [s51_1_l, bT (by omega), Int.toNat_natCast, if_pos hB, w64 (x := (i : Int) + 1) (by omega) (by omega)]
    have hg : l.getD i noEn = e := dgetD hct _
    rw [show l.getD i (((ByteArray.mk #[]), (0 : Int), (0 : Int), ()), (ByteArray.mk #[]), ()) = e from hg, hct, hn]
    by_cases hu : e.1.1 = u
    · have e1 : ((ByteArray.toList e.1.1 == ByteArray.toList u) == true) = true := by rw [hu, beq_self_eq_true, beq_self_eq_true]
      rw [e1, cond_true]
      try rw [if_pos hB]
      by_cases hs : e.1.2.1 ≤ s
      · rw [bT hs]
        try rw [if_pos hB]
        rw [s51_1x2_k, Int.toNat_natCast, show l.getD i (((ByteArray.mk #[]), (0 : Int), (0 : Int), ()), (ByteArray.mk #[]), ()) = e from hg]
        exact congrArg some (if_pos ⟨hu, hs⟩).symm
      · rw [bF hs, if_neg (fun h => hs h.2)]
        exact ih'
    · have e1 : ((ByteArray.toList e.1.1 == ByteArray.toList u) == true) = false := by rw [beq_eq_false_iff_ne.2 (fun h => hu (ba_ext h))]; rfl
      rw [e1, cond_false, if_neg (fun h => hu h.1)]
      exact ih'
theorem s51 {k : Nat} {l : List En} (u : ByteArray) (s : Int) (hlen : l.length ≤ 1000000) (hk : l.length + 5 ≤ k) : callN B k 51 [argAV (.sl EntryT) l, argAV .str u, argAV i64 s] = (some (newest u s l) : Option (En × Bool × Unit)) := by
  obtain ⟨k, rfl⟩ := Nat.exists_eq_add_of_le' (show 1 ≤ k by omega)
  refine (callS k 51 _).trans ((t51 (callN B k) (lvl B k).2 k l u s).trans ?_)
  exact l51 k u s hlen l.length 0 k (by omega) (by omega)
/-- The key ahead of which nothing of a user is that is not above a number. -/
abbrev fk (u : ByteArray) (s : Int) : Ke := (u, s, 2, ())
theorem fk_lt {e : En} {u : ByteArray} {s : Int} (h : cmpKe e.1 (fk u s) < 0) (hm : mayE e = true) : ¬ (e.1.1 = u ∧ e.1.2.1 ≤ s) := by
  rintro ⟨h1, h2⟩
  obtain ⟨_, _, _, hk⟩ := mayB_true (mayE_true hm).1
  rcases cmpKe_lt.1 h with h | ⟨_, h | ⟨_, h⟩⟩
  · rw [show e.1.1 = u from h1] at h
    exact LtK.irr (.inl h : LtK u 0 0 u 0 0)
  · have h : e.1.2.1 > s := h
    omega
  · have h : e.1.2.2.1 > 2 := h
    omega
theorem fk_ge {e : En} {u : ByteArray} {s : Int} (h : ¬ cmpKe e.1 (fk u s) < 0) : (e.1.1 = u ∧ e.1.2.1 ≤ s) ∨ Op.bytesLess u.toList e.1.1.toList = true := by
  rcases cmpKe_cases e.1 (fk u s) with h1 | ⟨h1, h2, _⟩ | h1
  · exact absurd (cmpKe_lt.2 h1) h
  · exact .inl ⟨h1, Int.le_of_eq h2⟩
  · rcases h1 with h1 | ⟨h1, h2 | ⟨h2, _⟩⟩
    · exact .inr h1
    · exact .inl ⟨(ba_ext h1).symm, by have h2 : s > e.1.2.1 := h2; omega⟩
    · exact .inl ⟨(ba_ext h1).symm, by have h2 : s = e.1.2.1 := h2; omega⟩
/-- What the search by halves finds. -/
theorem find_newest {l : List En} (hr : rising l = true) (u : ByteArray) (s : Int) {i : Nat} (hi : i ≤ l.length) (hlow : 0 < i → cmpKe (l.getD (i - 1) noEn).1 (fk u s) < 0) (hhigh : i < l.length → ¬ cmpKe (l.getD i noEn).1 (fk u s) < 0) :
    newest u s l = if i < l.length ∧ (l.getD i noEn).1.1 = u then (l.getD i noEn, true, ()) else (noEn, false, ()) := by
  have hp := rising_pair hr
  rw [← newest_skip l i (fun j hj hjl => by
    refine fk_lt (cmpKe_lt.2 ?_) (rising_may hr j hjl)
    by_cases hj1 : j = i - 1
    · subst hj1; exact cmpKe_lt.1 (hlow (by omega))
    · exact (pair_lt hp (show j < i - 1 by omega) (by omega)).trans (cmpKe_lt.1 (hlow (by omega))))]
  by_cases hil : i < l.length
  · obtain ⟨e, t, hct, he⟩ := drop_cons (l := l) (i := i) hil
    have hg : l.getD i noEn = e := dgetD hct _
    have hh := fk_ge (hhigh hil)
    rw [hg] at hh ⊢
    rw [hct]
    by_cases hu : e.1.1 = u
    · rw [if_pos ⟨hil, hu⟩]
      refine if_pos (hh.resolve_right (fun h => ?_))
      rw [hu] at h
      exact LtK.irr (.inl h : LtK u 0 0 u 0 0)
    · have hlt : Op.bytesLess u.toList e.1.1.toList = true := hh.resolve_left (fun h => hu h.1)
      rw [if_neg (fun h => hu h.2)]
      refine newest_no (fun x hx => ?_)
      rintro ⟨hx1, _⟩
      rcases List.mem_cons.1 hx with rfl | hx
      · exact hu hx1
      · have hsub : (e :: t).Pairwise LtE := by rw [← hct]; exact hp.sublist (List.drop_sublist _ _)
        have hex : LtE e x := (List.pairwise_cons.1 hsub).1 x hx
        rcases hex with h | ⟨h, _⟩
        · rw [show x.1.1 = u from hx1] at h
          exact LtK.irr (LtK.trans (.inl hlt : LtK u 0 0 e.1.1 0 0) (.inl h : LtK e.1.1 0 0 u 0 0))
        · exact hu ((ba_ext h).trans hx1)
  · rw [if_neg (fun h => hil h.1), List.drop_of_length_le (by omega)]
    rfl
theorem l78b {q : Nat} (hq : 8 ≤ q) {inl : InlT} {mq : Nat} {R : Type} (m0 : Nat) (K : AV → St → Option R) (b : List Int) (u : ByteArray) (s : Int) (v0 : List En × List Int × Bool × Unit) (v1 : Bool) (hlen : v0.1.length ≤ 1000) {r : Option R}
    (hr : ∀ i : Nat, i ≤ v0.1.length → (0 < i → cmpKe (v0.1.getD (i - 1) noEn).1 (fk u s) < 0) → (i < v0.1.length → ¬ cmpKe (v0.1.getD i noEn).1 (fk u s) < 0) → K (.v i64 (i : Int)) (c48_78_2r15 b u s v0 v1) = r) (d : Nat) : ∀ (i j m : Nat), i ≤ j → j ≤ i + d → j ≤ v0.1.length → d < m → (0 < i → cmpKe (v0.1.getD (i - 1) noEn).1 (fk u s) < 0) → (j < v0.1.length → ¬ cmpKe (v0.1.getD j noEn).1 (fk u s) < 0) →
    LP B (callN B (q + 1)) (inlN B (callN B q) inl mq) 78 m [1, 1, 0] (s78_7 b u s v0 v1 (i : Int) (j : Int)) (KA B (callN B (q + 1)) (inlN B (callN B q) inl mq) 78 m0 [1, 1, 0] (FN B (callN B (q + 1)) (inlN B (callN B q) inl mq) 78 54 K)) = r := by
  induction d with
  | zero =>
    intro i j m h1 h2 h3 hm hi hj
    obtain ⟨m, rfl⟩ : ∃ k, m = k + 1 := ⟨m - 1, by omega⟩
    obtain rfl : i = j := by omega
    rw [s78_7_l, bF (by omega), s78_7x13_k]
    exact hr i (by omega) hi hj
  | succ d ih =>
    intro i j m h1 h2 h3 hm hi hj
    obtain ⟨m, rfl⟩ : ∃ k, m = k + 1 := ⟨m - 1, by omega⟩
    by_cases hij : i < j
    · rw [s78_7_l, bT (by omega), c78_89_8_i]
      have hmid := mid i j (by omega)
      rw [hmid, if_pos (by omega), Int.toNat_natCast]
      refine bnd (s80 (by omega) (v0.1.getD ((i + j) / 2) noEn).1 (fk u s)) ?_
      rw [c78_89_8r10_k12, hmid]
      have hw : IntKind.i64.wrap ((((i + j) / 2 : Nat) : Int) + 1) = (((i + j) / 2 + 1 : Nat) : Int) := by rw [w64 (by omega) (by omega)]; omega
      rw [hw]
      by_cases hc : cmpKe (v0.1.getD ((i + j) / 2) noEn).1 (fk u s) ≥ 0
      · rw [decide_eq_true hc, Bool.not_true, cond_false]
        exact ih i ((i + j) / 2) m (by omega) (by omega) (by omega) (by omega) hi (fun _ => by omega)
      · rw [decide_eq_false hc, Bool.not_false, cond_true]
        exact ih ((i + j) / 2 + 1) j m (by omega) (by omega) (by omega) (by omega) (fun _ => by rw [Nat.add_sub_cancel]; omega) hj
    · obtain rfl : i = j := by omega
      rw [s78_7_l, bF (by omega), s78_7x13_k]
      exact hr i (by omega) hi hj
/-- A user's entry in a table. -/
def findT (b : List Int) (u : ByteArray) (s : Int) : En × Bool × Int × Unit :=
  if (readP b).2.2.1 = false then (noEn, false, 5, ()) else if may (readP b).2.1 u = false then (noEn, false, 0, ()) else ((newest u s (readP b).1).1, (newest u s (readP b).1).2.1, 0, ())
theorem s49 {k : Nat} {b : List Int} (hb : Bytes b) (hlen : b.length ≤ 1000000000) (u : ByteArray) (hu : u.size ≤ 100000000) (s : Int) (hk : b.length + u.size + 20000100 ≤ k) : callN B k 49 [argAV (.sl u8) b, argAV .str u, argAV i64 s] = (some (findT b u s) : Option (En × Bool × Int × Unit)) := by
  obtain ⟨k, rfl⟩ := Nat.exists_eq_add_of_le' (show 1 ≤ k by omega)
  refine (callS k 49 _).trans ((t49 (callN B k) (lvl B k).2 k b u s).trans ?_)
  refine bnd (s47 hb hlen (by omega)) ?_
  unfold findT
  rcases read_both hb with ⟨h1, h2⟩ | ⟨l, per, f, ht, he, h1, h2⟩
  · rw [h2, if_pos h1]; rfl
  · rw [h1, h2, if_neg (by simp)]
    dsimp only
    rw [show ((0 : Int) != (0 : Int)) = false from rfl, cond_false]
    have hfl := ht.flen
    have hl := ht.l256
    refine bnd (s27 ht.fb (by omega) (key := u) (by omega) (by omega)) ?_
    cases hm : may f u with
    | false => rfl
    | true =>
      rw [show (!true) = false from rfl, cond_false, if_neg (by simp)]
      exact bnd (s51 (l := l) u s (by omega) (by omega)) rfl
theorem s48 {k : Nat} {b : List Int} (hb : Bytes b) (hlen : b.length ≤ 1000000000) (u : ByteArray) (hu : u.size ≤ 100000000) (s : Int) (hk : b.length + u.size + 20000100 ≤ k) : callN B k 48 [argAV (.sl u8) b, argAV .str u, argAV i64 s] = (some (findT b u s) : Option (En × Bool × Int × Unit)) := by
  obtain ⟨k, rfl⟩ := Nat.exists_eq_add_of_le' (show 3 ≤ k by omega)
  refine (callS (k + 2) 48 _).trans ((t48 (callN B (k + 2)) (lvl B (k + 2)).2 (k + 2) b u s).trans ?_)
  refine bnd (s85 hb hlen (by omega)) ?_
  unfold findT
  rcases readP_cases hb with h1 | ⟨l, per, f, ht, he⟩
  · rw [if_pos h1, h1]; rfl
  · have h1 : readP b = (l, f, true, ()) := by rw [← he]; exact readP_put ht
    rw [h1, if_neg (by simp)]
    dsimp only
    rw [show (!true) = false from rfl, cond_false]
    have hfl := ht.flen
    have hl := ht.l256
    refine bnd (s26 ht.fb (by omega) (key := u) (by omega) (by omega)) ?_
    cases hm : may f u with
    | false => rfl
    | true =>
      rw [show (!true) = false from rfl, cond_false, if_neg (by simp), lvl2, lvl2]
      refine (c48_78_2_i _ _ _ _ b u s (l, f, true, ()) true).trans ?_
      refine l78b (by omega) (k + 1) _ b u s (l, f, true, ()) true (by show l.length ≤ 1000; omega) ?_ l.length 0 l.length (k + 1) (by omega) (by omega) (Nat.le_refl _) (by omega) (fun h => absurd h (by omega)) (fun h => absurd h (Nat.lt_irrefl _))
      intro i hi hlow hhigh
      refine (c48_78_2r15_k21 _ _ _ b u s (l, f, true, ()) true (i : Int)).trans ?_
      dsimp only at hi hlow hhigh ⊢
      rw [find_newest ht.ris u s hi hlow hhigh]
      by_cases hil : i < l.length
      · have hB : (0 : Int) ≤ (i : Int) ∧ (i : Int) < (l.length : Int) := by omega
        rw [show ((i : Int) == (l.length : Int)) = false from beq_eq_false_iff_ne.2 (by omega), show (false == false) = true from rfl, cond_true, if_pos hB, Int.toNat_natCast]
        by_cases hue : (l.getD i noEn).1.1 = u
        · have e1 : (!(ByteArray.toList (l.getD i noEn).1.1 == ByteArray.toList u)) = false := by rw [hue, beq_self_eq_true]; rfl
          rw [e1, cond_false]
          try rw [if_pos hB]
          rw [if_pos ⟨hil, hue⟩]
        · have e1 : (!(ByteArray.toList (l.getD i noEn).1.1 == ByteArray.toList u)) = true := by rw [beq_eq_false_iff_ne.2 (fun h => hue (ba_ext h))]; rfl
          rw [e1, cond_true, if_neg (fun h => hue h.2)]
      · rw [show ((i : Int) == (l.length : Int)) = true from beq_iff_eq.2 (by omega), show (true == false) = false from rfl, cond_false, if_neg (fun h => hil h.1)]
end Go.Eng.Bk
/- What the machine answers at some functions of the program: printed by the generator, each checked by the kernel. -/
namespace Go.Eng.Bk
open Go Go.Proofs Go.Eng
set_option linter.unusedVariables false
set_option maxRecDepth 100000
section
variable (call : CallT B) (inl : InlT) (m : Nat)
/-! function 14 -/
theorem t14 (a0 : (List En)) (a1 : Int) (a2 : Nat) (a3 : (List Int)) (a4 : ByteArray) (a5 : Int) : stepN B call inl m 14 [argAV (.sl EntryT) a0, argAV (.int .i64) a1, argAV (.flt .f64) a2, argAV (.sl (.int .u8)) a3, argAV .str a4, argAV (.int .i64) a5] = ((call 36 [(.v (.sl EntryT) (a0))]).bind fun (v0 : Bool) => bif v0 == false then (bif decide ((↑(List.length a3) : Int) > (3000 : Int)) == false then (bif decide ((↑(ByteArray.size a4) : Int) > (300 : Int)) then ((call 44 []).bind fun (v1 : Bool) => some (v1)) else ((call 43 [(.v (.sl EntryT) (a0)), (.v (.int .i64) (a1)), (.v (.flt .f64) (a2))]).bind fun (v2 : ((List Int) × Int × Unit)) => (call 46 [(.v (.sl EntryT) (a0)), (.v (.int .i64) (a1)), (.v (.flt .f64) (a2))]).bind fun (v3 : ((List Int) × Int × Unit)) => (call 45 [(.v (.sl (.int .u8)) (a3))]).bind fun (v4 : ((List En) × Int × Unit)) => (call 47 [(.v (.sl (.int .u8)) (a3))]).bind fun (v5 : ((List En) × (List Int) × Int × Unit)) => (call 48 [(.v (.sl (.int .u8)) (a3)), (.v .str (a4)), (.v (.int .i64) (a5))]).bind fun (v6 : (En × Bool × Int × Unit)) => (call 49 [(.v (.sl (.int .u8)) (a3)), (.v .str (a4)), (.v (.int .i64) (a5))]).bind fun (v7 : (En × Bool × Int × Unit)) => (call 50 [(.v (.sl EntryT) (a0))]).bind fun (v8 : (ByteArray × ByteArray × Unit)) => bif decide ((↑(List.length a0) : Int) > (0 : Int)) then (if (0 : Int) ≤ (0 : Int) ∧ (0 : Int) < (↑(List.length a0) : Int) then (if (0 : Int) ≤ IntKind.i64.wrap ((↑(List.length a0) : Int) - (1 : Int)) ∧ IntKind.i64.wrap ((↑(List.length a0) : Int) - (1 : Int)) < (↑(List.length a0) : Int) then (bif ((strOf v2.fst).toList == (strOf v3.fst).toList) == true then ((call 18 [(.v (.int .i64) (v2.snd.fst))]).bind fun (v9 : Int) => bif (v9 == v3.snd.fst) == true then ((call 41 [(.v (.sl EntryT) (v4.fst)), (.v (.sl EntryT) (v5.fst))]).bind fun (v10 : Bool) => bif v10 == true then ((call 18 [(.v (.int .i64) (v4.snd.fst))]).bind fun (v11 : Int) => bif (v11 == v5.snd.snd.fst) == true then (bif (ByteArray.toList v6.fst.fst.fst == ByteArray.toList v7.fst.fst.fst && (v6.fst.fst.snd.fst == v7.fst.fst.snd.fst && (v6.fst.fst.snd.snd.fst == v7.fst.fst.snd.snd.fst && ByteArray.toList v6.fst.snd.fst == ByteArray.toList v7.fst.snd.fst))) == true then (bif (v6.snd.fst == v7.snd.fst) == true then ((call 18 [(.v (.int .i64) (v6.snd.snd.fst))]).bind fun (v12 : Int) => bif (v12 == v7.snd.snd.fst) == true then (bif (ByteArray.toList v8.fst == ByteArray.toList (List.getD a0 (Int.toNat (0 : Int)) (((ByteArray.mk #[]), (0 : Int), (0 : Int), ()), (ByteArray.mk #[]), ())).fst.fst) == true then (bif (ByteArray.toList v8.snd.fst == ByteArray.toList (List.getD a0 (IntKind.i64.wrap ((↑(List.length a0) : Int) - (1 : Int))).toNat (((ByteArray.mk #[]), (0 : Int), (0 : Int), ()), (ByteArray.mk #[]), ())).fst.fst) == true then ((call 44 []).bind fun (v13 : Bool) => some (v13)) else (some (false))) else (some (false))) else (some (false))) else (some (false))) else (some (false))) else (some (false))) else (some (false))) else (some (false))) else (some (false))) else (none)) else (none)) else (bif ((strOf v2.fst).toList == (strOf v3.fst).toList) == true then ((call 18 [(.v (.int .i64) (v2.snd.fst))]).bind fun (v14 : Int) => bif (v14 == v3.snd.fst) == true then ((call 41 [(.v (.sl EntryT) (v4.fst)), (.v (.sl EntryT) (v5.fst))]).bind fun (v15 : Bool) => bif v15 == true then ((call 18 [(.v (.int .i64) (v4.snd.fst))]).bind fun (v16 : Int) => bif (v16 == v5.snd.snd.fst) == true then (bif (ByteArray.toList v6.fst.fst.fst == ByteArray.toList v7.fst.fst.fst && (v6.fst.fst.snd.fst == v7.fst.fst.snd.fst && (v6.fst.fst.snd.snd.fst == v7.fst.fst.snd.snd.fst && ByteArray.toList v6.fst.snd.fst == ByteArray.toList v7.fst.snd.fst))) == true then (bif (v6.snd.fst == v7.snd.fst) == true then ((call 18 [(.v (.int .i64) (v6.snd.snd.fst))]).bind fun (v17 : Int) => bif (v17 == v7.snd.snd.fst) == true then (bif (ByteArray.toList v8.fst == (ByteArray.mk #[]).toList) == true then (bif (ByteArray.toList v8.snd.fst == (ByteArray.mk #[]).toList) == true then ((call 44 []).bind fun (v18 : Bool) => some (v18)) else (some (false))) else (some (false))) else (some (false))) else (some (false))) else (some (false))) else (some (false))) else (some (false))) else (some (false))) else (some (false))))) else ((call 44 []).bind fun (v19 : Bool) => some (v19))) else ((call 44 []).bind fun (v20 : Bool) => some (v20)) : Option Bool) := by kernel_rfl
end
end Go.Eng.Bk
/- TableAll's function answers true. -/
namespace Go.Eng.Bk
open Go Go.Proofs Go.Eng
set_option linter.unusedVariables false
set_option linter.unusedSimpArgs false
theorem l36b {call : CallT B} {inl : InlT} (m0 : Nat) {l : List En} (d : Nat) : ∀ (i m : Nat), i + d = 400 → d < m →
    ∃ r : Bool, LP B call inl 36 m [1, 0, 1] (s36_1 l (i : Int)) (KA B call inl 36 m0 [1, 0, 1] (FI B call inl 36)) = (some r : Option Bool) ∧ (r = false → l.length ≤ 400) := by
  induction d with
  | zero =>
    intro i m hd hm
    obtain ⟨m, rfl⟩ : ∃ k, m = k + 1 := ⟨m - 1, by omega⟩
    by_cases h : (i : Int) < (l.length : Int)
    · exact ⟨_, by rw [s36_1_l, decide_eq_true h, beq_self_eq_true, cond_true, bF (by omega), s36_1x3_k], fun h => by have := of_decide_eq_false h; omega⟩
    · exact ⟨_, by rw [s36_1_l, decide_eq_false h, show (false == true) = false from rfl, cond_false, s36_1x3_k], fun h => by have := of_decide_eq_false h; omega⟩
  | succ d ih =>
    intro i m hd hm
    obtain ⟨m, rfl⟩ : ∃ k, m = k + 1 := ⟨m - 1, by omega⟩
    by_cases h : (i : Int) < (l.length : Int)
    · obtain ⟨r, hr⟩ := ih (i + 1) m (by omega) (by omega)
      rw [s36_1_l, decide_eq_true h, beq_self_eq_true, cond_true, bT (by omega), if_pos (by omega), if_pos (by omega), w64 (x := (i : Int) + 1) (by omega) (by omega), s36_1x2_k]
      generalize decide (((List.getD l (i : Int).toNat (((ByteArray.mk #[]), (0 : Int), (0 : Int), ()), (ByteArray.mk #[]), ())).fst.fst.size : Int) > 300) = c1
      generalize decide (((List.getD l (i : Int).toNat (((ByteArray.mk #[]), (0 : Int), (0 : Int), ()), (ByteArray.mk #[]), ())).snd.fst.size : Int) > 1000) = c2
      cases c1 with
      | true => exact ⟨true, rfl, fun h => by cases h⟩
      | false =>
        cases c2 with
        | true => exact ⟨true, rfl, fun h => by cases h⟩
        | false => exact ⟨r, hr⟩
    · exact ⟨_, by rw [s36_1_l, decide_eq_false h, show (false == true) = false from rfl, cond_false, s36_1x3_k], fun h => by have := of_decide_eq_false h; omega⟩
theorem s36b {k : Nat} (l : List En) (hk : 500 ≤ k) : ∃ r : Bool, callN B k 36 [argAV (.sl EntryT) l] = (some r : Option Bool) ∧ (r = false → l.length ≤ 400) := by
  obtain ⟨k, rfl⟩ := Nat.exists_eq_add_of_le' (show 1 ≤ k by omega)
  obtain ⟨r, hr, h2⟩ := l36b (call := callN B k) (inl := (lvl B k).2) k (l := l) 400 0 k (by omega) (by omega)
  exact ⟨r, (callS k 36 _).trans ((t36 (callN B k) (lvl B k).2 k l).trans hr), h2⟩
/-- The first user, and the last one. -/
def ends (l : List En) : ByteArray × ByteArray × Unit := if l.length = 0 then (ByteArray.mk #[], ByteArray.mk #[], ()) else ((l.getD 0 noEn).1.1, (l.getD (l.length - 1) noEn).1.1, ())
theorem s50 {k : Nat} {l : List En} (hlen : l.length ≤ 1000000) (hk : 5 ≤ k) : callN B k 50 [argAV (.sl EntryT) l] = (some (ends l) : Option (ByteArray × ByteArray × Unit)) := by
  obtain ⟨k, rfl⟩ := Nat.exists_eq_add_of_le' (show 1 ≤ k by omega)
  refine (callS k 50 _).trans ((t50 (callN B k) (lvl B k).2 k l).trans ?_)
  unfold ends
  by_cases h : l.length = 0
  · rw [show ((l.length : Int) == (0 : Int)) = true from beq_iff_eq.2 (by omega), cond_true, if_pos h]
  · rw [show ((l.length : Int) == (0 : Int)) = false from beq_eq_false_iff_ne.2 (by omega), cond_false, if_pos (by omega), w64 (x := (l.length : Int) - 1) (by omega) (by omega), if_pos (by omega), if_neg h, show ((l.length : Int) - 1).toNat = l.length - 1 from by omega]
    rfl
theorem all_parts {b : List Int} (hb : Bytes b) : (allP b).1 = (readR b).1 ∧ (allP b).2.1 = (readR b).2.2.1 ∧ (allP b).1.length ≤ 256 := by
  unfold allP
  rcases read_both hb with ⟨h1, h2⟩ | ⟨l, per, f, ht, he, h1, h2⟩
  · rw [if_pos h1, h2]; exact ⟨rfl, rfl, by simp⟩
  · rw [h1, h2, if_neg (by simp)]; exact ⟨rfl, rfl, ht.l256⟩
theorem tail14 {q : Nat} (hq : 45000000 ≤ q) {l : List En} {per : Int} {x : Nat} {b : List Int} (hb : Bytes b) (u : ByteArray) (s : Int) (v8 : ByteArray × ByteArray × Unit) {a c : ByteArray} (ha : v8.1 = a) (hc : v8.2.1 = c) :
    (bif ((strOf (putTable l per x).fst).toList == (strOf (putTable l per x).fst).toList) == true then ((callN B q 18 [(.v (.int .i64) ((putTable l per x).snd.fst))]).bind fun (v9 : Int) => bif (v9 == (putTable l per x).snd.fst) == true then ((callN B q 41 [(.v (.sl EntryT) ((allP b).fst)), (.v (.sl EntryT) ((readR b).fst))]).bind fun (v10 : Bool) => bif v10 == true then ((callN B q 18 [(.v (.int .i64) ((allP b).snd.fst))]).bind fun (v11 : Int) => bif (v11 == (readR b).snd.snd.fst) == true then (bif (ByteArray.toList (findT b u s).fst.fst.fst == ByteArray.toList (findT b u s).fst.fst.fst && ((findT b u s).fst.fst.snd.fst == (findT b u s).fst.fst.snd.fst && ((findT b u s).fst.fst.snd.snd.fst == (findT b u s).fst.fst.snd.snd.fst && ByteArray.toList (findT b u s).fst.snd.fst == ByteArray.toList (findT b u s).fst.snd.fst))) == true then (bif ((findT b u s).snd.fst == (findT b u s).snd.fst) == true then ((callN B q 18 [(.v (.int .i64) ((findT b u s).snd.snd.fst))]).bind fun (v12 : Int) => bif (v12 == (findT b u s).snd.snd.fst) == true then (bif (ByteArray.toList v8.fst == ByteArray.toList a) == true then (bif (ByteArray.toList v8.snd.fst == ByteArray.toList c) == true then ((callN B q 44 []).bind fun (v13 : Bool) => some (v13)) else (some (false))) else (some (false))) else (some (false))) else (some (false))) else (some (false))) else (some (false))) else (some (false))) else (some (false))) else (some (false)) : Option Bool) = some true := by
  subst ha
  subst hc
  obtain ⟨h1, h2, h3⟩ := all_parts hb
  rw [beq_self_eq_true, beq_self_eq_true, cond_true]
  refine bnd (s18 (by omega) _) ?_
  rw [beq_self_eq_true, beq_self_eq_true, cond_true, ← h1]
  refine bnd (s41 (l := (allP b).1) (by omega) (by omega)) ?_
  rw [show (true == true) = true from rfl, cond_true]
  refine bnd (s18 (by omega) _) ?_
  rw [← h2, beq_self_eq_true, beq_self_eq_true, cond_true]
  have hs := same_self ((findT b u s).1.1.1, (findT b u s).1.1.2.1, (findT b u s).1.1.2.2.1, (findT b u s).1.2.1)
  simp only at hs
  rw [hs, show (true == true) = true from rfl, cond_true, beq_self_eq_true, beq_self_eq_true, cond_true]
  refine bnd (s18 (by omega) _) ?_
  rw [beq_self_eq_true, beq_self_eq_true, cond_true, beq_self_eq_true, beq_self_eq_true, cond_true, beq_self_eq_true, beq_self_eq_true, cond_true]
  exact bnd (s44 (by omega)) rfl
theorem s14 {k : Nat} (hk : 50000000 ≤ k) (l : List En) (per : Int) (x : Nat) {b : List Int} (hb : Bytes b) (u : ByteArray) (s : Int) : callN B k 14 [argAV (.sl EntryT) l, argAV i64 per, argAV (.flt .f64) x, argAV (.sl u8) b, argAV .str u, argAV i64 s] = (some true : Option Bool) := by
  obtain ⟨k, rfl⟩ := Nat.exists_eq_add_of_le' (show 1 ≤ k by omega)
  refine (callS k 14 _).trans ((t14 (callN B k) (lvl B k).2 k l per x b u s).trans ?_)
  have aw : (((callN B k 44 []).bind fun (v0 : Bool) => some (v0)) : Option Bool) = some true := bnd (s44 (by omega)) rfl
  obtain ⟨r, hr, hr2⟩ := s36b (k := k) l (by omega)
  refine bnd hr ?_
  cases r with
  | true => exact aw
  | false =>
  have hl := hr2 rfl
  rw [show (false == false) = true from rfl, cond_true]
  by_cases c3 : (b.length : Int) > 3000
  · rw [decide_eq_true c3]; exact aw
  rw [decide_eq_false c3, show (false == false) = true from rfl, cond_true]
  by_cases c4 : (u.size : Int) > 300
  · rw [bT c4]; exact aw
  rw [bF c4]
  refine bnd (s43 (l := l) (by omega) (by omega) per x) ?_
  refine bnd (s46 (l := l) (by omega) (by omega) per x) ?_
  refine bnd (s45 hb (by omega) (by omega)) ?_
  refine bnd (s47 hb (by omega) (by omega)) ?_
  refine bnd (s48 hb (by omega) u (by omega) s (by omega)) ?_
  refine bnd (s49 hb (by omega) u (by omega) s (by omega)) ?_
  refine bnd (s50 (l := l) (by omega) (by omega)) ?_
  by_cases h0 : l.length = 0
  · rw [bF (by omega)]
    refine tail14 (by omega) hb u s (ends l) ?_ ?_
    · unfold ends; rw [if_pos h0]
    · unfold ends; rw [if_pos h0]
  · rw [bT (by omega), if_pos (by omega), w64 (x := (l.length : Int) - 1) (by omega) (by omega), if_pos (by omega), show ((l.length : Int) - 1).toNat = l.length - 1 from by omega]
    refine tail14 (by omega) hb u s (ends l) ?_ ?_
    · unfold ends; rw [if_neg h0]; rfl
    · unfold ends; rw [if_neg h0]
end Go.Eng.Bk
/- What the machine answers at some functions of the program: printed by the generator, each checked by the kernel. -/
namespace Go.Eng.Bk
open Go Go.Proofs Go.Eng
set_option linter.unusedVariables false
set_option maxRecDepth 100000
section
variable (call : CallT B) (inl : InlT) (m : Nat)
/-! function 12 -/
def s12_23 (a4 : Int) (a5 : Int) (a7 : Int) (v5 : ByteArray) (x13 : (List Int)) (x14 : (List Int)) (x15 : Int) : St := { t := [.bad, .bad, .bad, .bad, (.v (.int .u16) (a4)), (.v (.int .u8) (a5)), .bad, (.v (.int .u8) (a7)), .bad, .bad, .bad, .bad, .bad, .bad, .bad, .bad, .bad, .bad, .bad, (.own 0 5 (.int .u8) (x13)), .bad, (.own 1 5 (.int .u8) (x14)), .bad, (.v .str ((ByteArray.mk #[(107 : UInt8), (101 : UInt8), (121 : UInt8)]) ++ v5)), (.v (.int .i64) (x15)), .bad, .bad, .bad, .bad, .bad, .bad, .bad, .bad, .bad, .bad, .bad, .bad, .bad, .bad, .bad, .bad, .bad, .bad, .bad, .bad, .bad, .bad, .bad, .bad, .bad, .bad, .bad, .bad, .bad, .bad, .bad, .bad, .bad, .bad, .bad, .bad, .bad, .bad, .bad, .bad, .bad, .bad, .bad, .bad, .bad, .bad, .bad, .bad, .bad, .bad, .bad, .bad, .bad, .bad, .bad, .bad, .bad, .bad, .bad, .bad, .bad, .bad, .bad, .bad, .bad, .bad, .bad, .bad, .bad, .bad, .bad, .bad, .bad, .bad, .bad, .bad, .bad, .bad, .bad, .bad, .bad, .bad, .bad, .bad, .bad, .bad, .bad, .bad, .bad, .bad, .bad, .bad, .bad, .bad, .bad, .bad, .bad, .bad, .bad, .bad, .bad, .bad, .bad, .bad, .bad, .bad, .bad, .bad, .bad, .bad, .bad, .bad, .bad, .bad, .bad, .bad, .bad, .bad, .bad, .bad, .bad, .bad, .bad, .bad, .bad, .bad, .bad, .bad, .bad, .bad, .bad, .bad, .bad, .bad, .bad, .bad, .bad, .bad, .bad, .bad, .bad, .bad, .bad, (.raw undef)], bx := [none, none], live := 3, g := [] }
def s12_23x31 (y0 : (En × Bool × Int × Unit)) (y1 : (En × Bool × Int × Unit)) : St := { t := [.bad, .bad, .bad, .bad, .bad, .bad, .bad, .bad, .bad, .bad, .bad, .bad, .bad, .bad, .bad, .bad, (.v .bool (false)), .bad, .bad, .bad, .bad, .bad, .bad, .bad, .bad, .bad, .bad, .bad, .bad, .bad, .bad, .bad, .bad, .bad, .bad, .bad, .bad, .bad, .bad, .bad, .bad, .bad, .bad, .bad, .bad, .bad, .bad, .bad, .bad, .bad, .bad, .bad, .bad, .bad, .bad, .bad, .bad, .bad, .bad, .bad, .bad, .bad, .bad, .bad, .bad, .bad, .bad, .bad, .bad, .bad, .bad, .bad, .bad, .bad, .bad, .bad, .bad, .bad, .bad, .bad, .bad, .bad, .bad, .bad, .bad, .bad, .bad, .bad, .bad, .bad, .bad, .bad, .bad, .bad, .bad, .bad, .bad, .bad, .bad, .bad, .bad, .bad, .bad, .bad, .bad, .bad, .bad, .bad, .bad, .bad, .bad, .bad, .bad, .bad, .bad, .bad, .bad, .bad, .bad, .bad, .bad, .bad, .bad, .bad, .bad, .bad, .bad, .bad, .bad, .bad, .bad, .bad, .bad, .bad, .bad, .bad, .bad, .bad, .bad, .bad, .bad, .bad, .bad, .bad, .bad, .bad, .bad, .bad, .bad, .bad, .bad, .bad, .bad, .bad, .bad, .bad, .bad, .bad, .bad, .bad, .bad, .bad, .bad, .bad, .bad, .bad, .bad, .bad, (.raw undef)], bx := [none, none, none, none, none, none, none, none, none, none, none, none, none, none, none, none, none, none, none, none, none, none, none, none, none, none, none, none, none, (some (26, [(.v .str (y0.fst.fst.fst)), (.v (.int .i64) (y0.fst.fst.snd.fst)), (.v (.int .i64) (y0.fst.fst.snd.snd.fst)), (.v .str (y0.fst.snd.fst))])), none, none, none, none, none, none, none, none, none, none, none, none, (some (26, [(.v .str (y1.fst.fst.fst)), (.v (.int .i64) (y1.fst.fst.snd.fst)), (.v (.int .i64) (y1.fst.fst.snd.snd.fst)), (.v .str (y1.fst.snd.fst))])), none, none, none, none, none, none, none, none, none, none, none, none, none, none, none, none, none, none, none, none, none, none, none, none, none, none, none, none, none, none], live := 237684487542793013880143478787, g := [] }
def s12_23x32 : St := { t := [.bad, .bad, .bad, .bad, .bad, .bad, .bad, .bad, .bad, .bad, .bad, .bad, .bad, .bad, .bad, .bad, .bad, .bad, .bad, .bad, .bad, .bad, .bad, .bad, .bad, .bad, .bad, .bad, .bad, .bad, .bad, .bad, .bad, .bad, .bad, .bad, .bad, .bad, .bad, .bad, .bad, .bad, .bad, .bad, .bad, .bad, .bad, .bad, .bad, .bad, .bad, .bad, .bad, .bad, .bad, .bad, .bad, .bad, .bad, .bad, .bad, .bad, .bad, .bad, .bad, .bad, .bad, .bad, .bad, .bad, .bad, .bad, .bad, .bad, .bad, .bad, .bad, .bad, .bad, .bad, .bad, .bad, .bad, .bad, .bad, .bad, .bad, .bad, .bad, .bad, .bad, .bad, .bad, .bad, .bad, .bad, .bad, .bad, .bad, .bad, .bad, .bad, .bad, .bad, .bad, .bad, .bad, .bad, .bad, .bad, .bad, .bad, .bad, .bad, .bad, .bad, .bad, .bad, .bad, .bad, .bad, .bad, .bad, .bad, .bad, .bad, .bad, .bad, .bad, .bad, .bad, .bad, .bad, .bad, .bad, .bad, .bad, .bad, .bad, .bad, .bad, .bad, .bad, .bad, .bad, .bad, .bad, .bad, .bad, .bad, .bad, .bad, .bad, .bad, .bad, .bad, .bad, .bad, .bad, .bad, .bad, .bad, .bad, .bad, .bad, .bad, .bad, .bad, (.raw undef)], bx := [none, none, none, none], live := 3, g := [] }
theorem s12_23_l {R : Type} (K : AEx → St → Option R) (a4 : Int) (a5 : Int) (a7 : Int) (v5 : ByteArray) (x13 : (List Int)) (x14 : (List Int)) (x15 : Int) : LP B call inl 12 (m + 1) [1, 1, 1, 1, 1, 1, 1, 1, 0, 1] (s12_23 a4 a5 a7 v5 x13 x14 x15) K = (bif decide (x15 < (2 : Int)) then ((call 45 [(.v (.sl (.int .u8)) (x13))]).bind fun (v24 : ((List En) × Int × Unit)) => (call 47 [(.v (.sl (.int .u8)) (x14))]).bind fun (v25 : ((List En) × (List Int) × Int × Unit)) => (call 48 [(.v (.sl (.int .u8)) (x13)), (.v .str ((ByteArray.mk #[(107 : UInt8), (101 : UInt8), (121 : UInt8)]) ++ v5)), (.v (.int .i64) (IntKind.i64.wrap a7))]).bind fun (v26 : (En × Bool × Int × Unit)) => (call 49 [(.v (.sl (.int .u8)) (x14)), (.v .str ((ByteArray.mk #[(107 : UInt8), (101 : UInt8), (121 : UInt8)]) ++ v5)), (.v (.int .i64) (IntKind.i64.wrap a7))]).bind fun (v27 : (En × Bool × Int × Unit)) => (call 41 [(.v (.sl EntryT) (v24.fst)), (.v (.sl EntryT) (v25.fst))]).bind fun (v28 : Bool) => bif (!v28) == false then ((call 18 [(.v (.int .i64) (v24.snd.fst))]).bind fun (v29 : Int) => bif (v29 != v25.snd.snd.fst) == false then (bif (!(ByteArray.toList v26.fst.fst.fst == ByteArray.toList v27.fst.fst.fst && (v26.fst.fst.snd.fst == v27.fst.fst.snd.fst && (v26.fst.fst.snd.snd.fst == v27.fst.fst.snd.snd.fst && ByteArray.toList v26.fst.snd.fst == ByteArray.toList v27.fst.snd.fst)))) == false then (bif (!v26.snd.fst == v27.snd.fst) == false then ((call 18 [(.v (.int .i64) (v26.snd.snd.fst))]).bind fun (v30 : Int) => bif v30 != v27.snd.snd.fst then (K .ret (s12_23x31 v26 v27)) else (if (↑(List.length x13) : Int) = (0 : Int) then (none) else (if (0 : Int) ≤ (IntKind.i64.wrap a4).tmod (↑(List.length x13) : Int) ∧ (IntKind.i64.wrap a4).tmod (↑(List.length x13) : Int) < (↑(List.length x13) : Int) then (if (0 : Int) ≤ (IntKind.i64.wrap a4).tmod (↑(List.length x13) : Int) ∧ (IntKind.i64.wrap a4).tmod (↑(List.length x13) : Int) < (↑(List.length x13) : Int) then (if (↑(List.length x14) : Int) = (0 : Int) then (none) else (if (0 : Int) ≤ (IntKind.i64.wrap a4).tmod (↑(List.length x14) : Int) ∧ (IntKind.i64.wrap a4).tmod (↑(List.length x14) : Int) < (↑(List.length x14) : Int) then (if (0 : Int) ≤ (IntKind.i64.wrap a4).tmod (↑(List.length x14) : Int) ∧ (IntKind.i64.wrap a4).tmod (↑(List.length x14) : Int) < (↑(List.length x14) : Int) then (LP B call inl 12 m [1, 1, 1, 1, 1, 1, 1, 1, 0, 1] (s12_23 a4 a5 a7 v5 (List.set x13 ((IntKind.i64.wrap a4).tmod (↑(List.length x13) : Int)).toNat (IntKind.u8.wrap (↑(BitVec.ofInt IntKind.u8.bits (List.getD x13 ((IntKind.i64.wrap a4).tmod (↑(List.length x13) : Int)).toNat (0 : Int)) ^^^ BitVec.ofInt IntKind.u8.bits a5).toNat : Int))) (List.set x14 ((IntKind.i64.wrap a4).tmod (↑(List.length x14) : Int)).toNat (IntKind.u8.wrap (↑(BitVec.ofInt IntKind.u8.bits (List.getD x14 ((IntKind.i64.wrap a4).tmod (↑(List.length x14) : Int)).toNat (0 : Int)) ^^^ BitVec.ofInt IntKind.u8.bits a5).toNat : Int))) (IntKind.i64.wrap (x15 + (1 : Int)))) K) else (none)) else (none))) else (none)) else (none)))) else (K .ret (s12_23x31 v26 v27))) else (K .ret (s12_23x31 v26 v27))) else (K .ret (s12_23x31 v26 v27))) else (K .ret (s12_23x31 v26 v27))) else (K (.exit 0) (s12_23x32 ))) := by kernel_rfl
theorem s12_23x31_k (v35 : (En × Bool × Int × Unit)) (v36 : (En × Bool × Int × Unit)) : (KA B call inl 12 m [1, 1, 1, 1, 1, 1, 1, 1, 0, 1] (FI B call inl 12)) .ret (s12_23x31 v35 v36) = (some (false)) := by kernel_rfl
theorem s12_23x32_k : (KA B call inl 12 m [1, 1, 1, 1, 1, 1, 1, 1, 0, 1] (FI B call inl 12)) (.exit 0) (s12_23x32 ) = ((call 44 []).bind fun (v40 : Bool) => some (v40)) := by kernel_rfl
theorem t12 (a0 : (List Int)) (a1 : Int) (a2 : Int) (a3 : Nat) (a4 : Int) (a5 : Int) (a6 : Int) (a7 : Int) : stepN B call inl m 12 [argAV (.sl (.int .u8)) a0, argAV (.int .u8) a1, argAV (.int .u8) a2, argAV (.flt .f64) a3, argAV (.int .u16) a4, argAV (.int .u8) a5, argAV (.int .u8) a6, argAV (.int .u8) a7] = (bif ((↑(List.length a0) : Int) == (0 : Int)) == false then (bif decide ((↑(List.length a0) : Int) > (120 : Int)) then ((call 44 []).bind fun (v0 : Bool) => some (v0)) else ((call 33 [(.v (.sl (.int .u8)) (a0)), (.v (.int .u8) (a1))]).bind fun (v1 : (List En)) => (call 43 [(.v (.sl EntryT) (v1)), (.v (.int .i64) (IntKind.i64.wrap ((1 : Int) + (IntKind.i64.wrap a2).tmod (64 : Int)))), (.v (.flt .f64) (a3))]).bind fun (v2 : ((List Int) × Int × Unit)) => (call 46 [(.v (.sl EntryT) (v1)), (.v (.int .i64) (IntKind.i64.wrap ((1 : Int) + (IntKind.i64.wrap a2).tmod (64 : Int)))), (.v (.flt .f64) (a3))]).bind fun (v3 : ((List Int) × Int × Unit)) => bif (!(strOf v2.fst).toList == (strOf v3.fst).toList) == false then ((call 18 [(.v (.int .i64) (v2.snd.fst))]).bind fun (v4 : Int) => bif (v4 != v3.snd.fst) == false then (bif (↑(List.length v3.fst) : Int) == (0 : Int) then (some (false)) else ((call 42 [(.v (.int .i64) ((IntKind.i64.wrap a6).tmod (50 : Int)))]).bind fun (v5 : ByteArray) => if (↑((ByteArray.mk #[(107 : UInt8), (101 : UInt8), (121 : UInt8)]).size + ByteArray.size v5) : Int) > IntKind.i64.max then (none) else (LP B call inl 12 m [1, 1, 1, 1, 1, 1, 1, 1, 0, 1] (s12_23 a4 a5 a7 v5 (v2.fst) (v3.fst) ((0 : Int))) (KA B call inl 12 m [1, 1, 1, 1, 1, 1, 1, 1, 0, 1] (FI B call inl 12))))) else (some (false))) else (some (false)))) else ((call 44 []).bind fun (v41 : Bool) => some (v41)) : Option Bool) := by kernel_rfl
end
end Go.Eng.Bk
/- TableMade's function answers true. -/
namespace Go.Eng.Bk
open Go Go.Proofs Go.Eng
set_option linter.unusedVariables false
set_option linter.unusedSimpArgs false
theorem set_bytes8 {l : List Int} (h : Bytes l) (i : Nat) (x : Int) : Bytes (l.set i (IntKind.u8.wrap x)) := fun y hy => by
  rcases List.mem_or_eq_of_mem_set hy with h' | h'
  · exact h y h'
  · rw [h', wu8]; omega
theorem l12 {q : Nat} (hq : 45000000 ≤ q) {inl : InlT} (m0 : Nat) (a4 : Nat) (h4 : a4 < 65536) (a5 : Int) (a7 : Int) (v5 : ByteArray) (h5 : v5.size ≤ 1000) (d : Nat) : ∀ (i m : Nat) (b : List Int), i + d = 2 → d < m → Bytes b → b.length ≤ 15000000 → 1 ≤ b.length →
    LP B (callN B q) inl 12 m [1, 1, 1, 1, 1, 1, 1, 1, 0, 1] (s12_23 (a4 : Int) a5 a7 v5 b b (i : Int)) (KA B (callN B q) inl 12 m0 [1, 1, 1, 1, 1, 1, 1, 1, 0, 1] (FI B (callN B q) inl 12)) = (some true : Option Bool) := by
  induction d with
  | zero =>
    intro i m b hi hm hb hl h1
    obtain ⟨m, rfl⟩ : ∃ k, m = k + 1 := ⟨m - 1, by omega⟩
    rw [s12_23_l, bF (by omega), s12_23x32_k]
    exact bnd (s44 (by omega)) rfl
  | succ d ih =>
    intro i m b hi hm hb hl h1
    obtain ⟨m, rfl⟩ : ∃ k, m = k + 1 := ⟨m - 1, by omega⟩
    have hs5 : ((ByteArray.mk #[(107 : UInt8), (101 : UInt8), (121 : UInt8)]) ++ v5).size ≤ 2000 := by
      rw [ByteArray.size_append]
      have : (ByteArray.mk #[(107 : UInt8), (101 : UInt8), (121 : UInt8)]).size = 3 := rfl
      omega
    obtain ⟨e1, e2, e3⟩ := all_parts hb
    rw [s12_23_l, bT (by omega)]
    refine bnd (s45 hb (by omega) (by omega)) ?_
    refine bnd (s47 hb (by omega) (by omega)) ?_
    refine bnd (s48 hb (by omega) _ (by omega) _ (by omega)) ?_
    refine bnd (s49 hb (by omega) _ (by omega) _ (by omega)) ?_
    rw [← e1]
    refine bnd (s41 (l := (allP b).1) (by omega) (by omega)) ?_
    rw [show ((!true) == false) = true from rfl, cond_true]
    refine bnd (s18 (by omega) _) ?_
    rw [← e2, bne_self_eq_false, show (false == false) = true from rfl, cond_true]
    generalize findT b ((ByteArray.mk #[(107 : UInt8), (101 : UInt8), (121 : UInt8)]) ++ v5) (IntKind.i64.wrap a7) = v26
    have hs := same_self (v26.1.1.1, v26.1.1.2.1, v26.1.1.2.2.1, v26.1.2.1)
    simp only at hs
    rw [hs, show ((!true) == false) = true from rfl, cond_true, beq_self_eq_true, show ((!true) == false) = true from rfl, cond_true]
    refine bnd (s18 (by omega) _) ?_
    have hz : ¬ ((b.length : Int) = (0 : Int)) := by omega
    have hw : IntKind.i64.wrap (a4 : Int) = (a4 : Int) := w64 (by omega) (by omega)
    have htm : (a4 : Int).tmod (b.length : Int) = ((a4 % b.length : Nat) : Int) := rfl
    have hlt := Nat.mod_lt a4 (show b.length > 0 by omega)
    have hB : (0 : Int) ≤ ((a4 % b.length : Nat) : Int) ∧ ((a4 % b.length : Nat) : Int) < (b.length : Int) := by omega
    rw [bne_self_eq_false, cond_false, if_neg hz, hw, htm, if_pos hB]
    try rw [if_pos hB]
    try rw [if_neg hz]
    try rw [if_pos hB]
    try rw [if_pos hB]
    rw [w64 (x := (i : Int) + 1) (by omega) (by omega)]
    exact ih (i + 1) m _ (by omega) (by omega) (set_bytes8 hb _ _) (by rw [List.length_set]; exact hl) (by rw [List.length_set]; exact h1)
theorem s12 {k : Nat} (hk : 50000000 ≤ k) {ns : List Int} (hn : Bytes ns) (sp per at_ by_ us : Nat) (h1 : sp < 256) (h2 : per < 256) (h4 : at_ < 65536) (h5 : by_ < 256) (h6 : us < 256) (x : Nat) (seq : Int) : callN B k 12 [argAV (.sl u8) ns, argAV u8 (sp : Int), argAV u8 (per : Int), argAV (.flt .f64) x, argAV u16 (at_ : Int), argAV u8 (by_ : Int), argAV u8 (us : Int), argAV u8 seq] = (some true : Option Bool) := by
  obtain ⟨k, rfl⟩ := Nat.exists_eq_add_of_le' (show 1 ≤ k by omega)
  refine (callS k 12 _).trans ((t12 (callN B k) (lvl B k).2 k ns (sp : Int) (per : Int) x (at_ : Int) (by_ : Int) (us : Int) seq).trans ?_)
  have aw : (((callN B k 44 []).bind fun (v0 : Bool) => some (v0)) : Option Bool) = some true := bnd (s44 (by omega)) rfl
  by_cases h0 : ns.length = 0
  · rw [show ((ns.length : Int) == (0 : Int)) = true from beq_iff_eq.2 (by omega), show (true == false) = false from rfl, cond_false]; exact aw
  rw [show ((ns.length : Int) == (0 : Int)) = false from beq_eq_false_iff_ne.2 (by omega), show (false == false) = true from rfl, cond_true]
  by_cases h120 : (ns.length : Int) > 120
  · rw [bT h120]; exact aw
  rw [bF h120]
  have hr := mkL_rising (ns := ns) hn (by omega) sp
  have hl : (mkL ns sp).length = ns.length := (mkL_good (ns := ns) hn (by omega) sp).2.2.2
  have hper : IntKind.i64.wrap ((1 : Int) + (IntKind.i64.wrap (per : Int)).tmod (64 : Int)) = ((1 + per % 64 : Nat) : Int) := by
    rw [w64 (x := (per : Int)) (by omega) (by omega), show (per : Int).tmod 64 = ((per % 64 : Nat) : Int) from rfl, w64 (by omega) (by omega)]; omega
  have hus : (IntKind.i64.wrap (us : Int)).tmod (50 : Int) = ((us % 50 : Nat) : Int) := by
    rw [w64 (x := (us : Int)) (by omega) (by omega)]; rfl
  rw [hper, hus]
  refine bnd (s33 (ns := ns) hn (by omega) (by omega) sp h1) ?_
  refine bnd (s43 (l := mkL ns sp) (by omega) (by omega) ((1 + per % 64 : Nat) : Int) x) ?_
  refine bnd (s46 (l := mkL ns sp) (by omega) (by omega) ((1 + per % 64 : Nat) : Int) x) ?_
  rw [pt_good (l := mkL ns sp) (per := 1 + per % 64) x (by omega) (by omega) (by omega) (by omega) hr]
  have ht := tok_filt (l := mkL ns sp) (per := 1 + per % 64) x (by omega) (by omega) (by omega) (by omega) hr
  have htl := tableL_len ht
  dsimp only
  rw [beq_self_eq_true, show ((!true) == false) = true from rfl, cond_true]
  refine bnd (s18 (by omega) _) ?_
  rw [bne_self_eq_false, show (false == false) = true from rfl, cond_true, show (((tableL (mkL ns sp) (1 + per % 64) (filt (usr (mkL ns sp)) x)).length : Int) == (0 : Int)) = false from beq_eq_false_iff_ne.2 (by omega), cond_false]
  refine bnd (s42 (by omega) (us % 50) (by omega)) ?_
  have hd : (dg (us % 50)).size ≤ 1000 := Nat.le_trans (dg_size (by omega)) (by omega)
  have h3 : (ByteArray.mk #[(107 : UInt8), (101 : UInt8), (121 : UInt8)]).size = 3 := rfl
  rw [if_neg (by rw [h3, show IntKind.i64.max = 9223372036854775807 from by decide]; omega)]
  exact l12 (by omega) k at_ h4 (by_ : Int) seq (dg (us % 50)) hd 2 0 k _ (by omega) (by omega) (tableL_bytes _ _ ht.fb) (by omega) (by omega)
end Go.Eng.Bk
