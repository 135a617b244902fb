/- Qt, part 3: several texts of mine, laid together. -/
import Derived.Test.YtogancdiihbjfaaQtb
set_option linter.unusedVariables false
set_option linter.unusedSimpArgs false
/- What the machine answers at some functions of the program: printed by the generator, each checked by the kernel. -/
namespace Go.Eng.Bk
open Go Go.Proofs Go.Eng
set_option linter.unusedVariables false
set_option maxRecDepth 100000
section
variable (call : CallT B) (inl : InlT) (m : Nat)
/-! function 54 -/
def s54_1 (a0 : ByteArray) (a1 : ByteArray) (x0 : Int) : St := { t := [(.v .str (a0)), (.v .str (a1)), .bad, .bad, (.v (.int .i64) ((0 : Int))), (.v (.int .i64) (x0)), .bad, .bad, .bad, .bad, .bad, .bad, .bad, .bad, .bad, .bad, .bad, .bad, .bad, .bad, .bad, .bad, .bad, .bad, (.raw undef)], bx := [], live := 0, g := [] }
def s54_1x2 (x0 : Int) : St := { t := [.bad, .bad, .bad, .bad, (.v (.int .i64) ((0 : Int))), (.v (.int .i64) (x0)), .bad, .bad, .bad, .bad, .bad, .bad, .bad, .bad, .bad, .bad, .bad, .bad, .bad, .bad, .bad, .bad, .bad, .bad, (.raw undef)], bx := [none, none, none, none, none, none, none, none, none, none, none, none, none, none, none, none], live := 0, g := [] }
theorem s54_1_l {R : Type} (K : AEx → St → Option R) (a0 : ByteArray) (a1 : ByteArray) (x0 : Int) : LP B call inl 54 (m + 1) [1, 1, 0] (s54_1 a0 a1 x0) K = (bif decide (x0 < minI (↑(ByteArray.size a0) : Int) (↑(ByteArray.size a1) : Int)) == true then (if (0 : Int) ≤ x0 ∧ x0 < (↑(ByteArray.size a0) : Int) then (if (0 : Int) ≤ x0 ∧ x0 < (↑(ByteArray.size a1) : Int) then (bif byteAt a0 x0 == byteAt a1 x0 then (LP B call inl 54 m [1, 1, 0] (s54_1 a0 a1 (IntKind.i64.wrap (x0 + (1 : Int)))) K) else (K (.exit 0) (s54_1x2 x0))) else (none)) else (none)) else (K (.exit 0) (s54_1x2 x0))) := by kernel_rfl
theorem s54_1x2_k (x0 : Int) : (KA B call inl 54 m [1, 1, 0] (FI B call inl 54)) (.exit 0) (s54_1x2 x0) = (some (x0)) := by kernel_rfl
theorem t54 (a0 : ByteArray) (a1 : ByteArray) : stepN B call inl m 54 [argAV .str a0, argAV .str a1] = (LP B call inl 54 m [1, 1, 0] (s54_1 a0 a1 ((0 : Int))) (KA B call inl 54 m [1, 1, 0] (FI B call inl 54)) : Option Int) := by kernel_rfl
/-! function 55 -/
def s55_2 (x0 : Int) (x1 : (List Int)) : St := { t := [(.v (.int .i64) (x0)), .bad, .nilS, (.own 0 5 (.int .u8) (x1)), .bad, .bad, .bad, .bad, .bad, .bad, .bad, .bad, .bad, .bad, .bad, .bad, (.raw undef), (.raw undef), (.raw undef), (.raw undef), (.raw undef)], bx := [none], live := 1, g := [] }
def s55_2x3 (x0 : Int) (x1 : (List Int)) : St := { t := [(.v (.int .i64) (x0)), .bad, .nilS, (.own 0 5 (.int .u8) (x1)), .bad, .bad, .bad, .bad, .bad, .bad, .bad, .bad, .bad, .bad, .bad, .bad, (.raw undef), (.raw undef), (.raw undef), (.raw undef), (.raw undef)], bx := [none, none, none], live := 1, g := [] }
theorem s55_2_l {R : Type} (K : AEx → St → Option R) (x0 : Int) (x1 : (List Int)) : LP B call inl 55 (m + 1) [1, 1, 1, 0] (s55_2 x0 x1) K = (bif decide (x0 > (127 : Int)) then (if (x1.length + [IntKind.u8.wrap (↑(BitVec.ofInt IntKind.u8.bits (IntKind.u8.wrap x0) ||| BitVec.ofInt IntKind.u8.bits (128 : Int)).toNat : Int)].length) * (1 : Nat) ≤ 140737488355328 then (LP B call inl 55 m [1, 1, 1, 0] (s55_2 (Int.fdiv x0 ((2 : Int) ^ Min.min (Int.toNat (7 : Int)) IntKind.i64.bits)) (x1 ++ [IntKind.u8.wrap (↑(BitVec.ofInt IntKind.u8.bits (IntKind.u8.wrap x0) ||| BitVec.ofInt IntKind.u8.bits (128 : Int)).toNat : Int)])) K) else (none)) else (K (.exit 0) (s55_2x3 x0 x1))) := by kernel_rfl
theorem s55_2x3_k (x0 : Int) (x1 : (List Int)) : (KA B call inl 55 m [1, 1, 1, 0] (FI B call inl 55)) (.exit 0) (s55_2x3 x0 x1) = (if (x1.length + [IntKind.u8.wrap x0].length) * (1 : Nat) ≤ 140737488355328 then (some (x1 ++ [IntKind.u8.wrap x0])) else (none)) := by kernel_rfl
theorem t55 (a0 : Int) : stepN B call inl m 55 [argAV (.int .i64) a0] = (bif decide (a0 < (0 : Int)) then (some ([])) else (LP B call inl 55 m [1, 1, 1, 0] (s55_2 (a0) ([])) (KA B call inl 55 m [1, 1, 1, 0] (FI B call inl 55))) : Option (List Int)) := by kernel_rfl
/-! function 56 -/
theorem t56 (a0 : ByteArray) : stepN B call inl m 56 [argAV .str a0] = ((call 55 [(.v (.int .i64) ((↑(ByteArray.size a0) : Int)))]).bind fun (v0 : (List Int)) => if (List.length v0 + ByteArray.size a0) * (1 : Nat) ≤ 140737488355328 then (some (v0 ++ bytesOf a0)) else (none) : Option (List Int)) := by kernel_rfl
/-! function 57 -/
theorem t57 (a0 : Ke) : stepN B call inl m 57 [argAV KeyT a0] = (some (IntKind.i64.wrap (IntKind.i64.wrap (IntKind.i64.wrap ((2 : Int) * a0.snd.fst) + a0.snd.snd.fst) - (1 : Int))) : Option Int) := by kernel_rfl
/-! function 97 -/
def s97_2 (a0 : (List Int)) (a1 : Int) (x0 : Int) (x1 : Int) : St := { t := [(.v (.sl (.int .u8)) (a0)), (.v (.int .i64) (a1)), .bad, .bad, (.v (.int .i64) (x0)), .bad, .bad, .bad, .bad, .bad, .bad, (.v (.int .i64) (x1)), .bad, .bad, .bad, .bad, .bad, .bad, .bad, .bad, .bad, .bad, .bad, .bad, .bad, .bad, .bad, .bad, .bad, .bad, .bad, .bad, .bad, .bad, .bad, .bad, .bad, .bad, .bad, .bad, .bad, .bad, .bad, .bad, .bad, .bad, .bad, .bad, .bad, .bad], bx := [], live := 0, g := [] }
def s97_2x3 (x0 : Int) : St := { t := [.bad, .bad, .bad, .bad, (.v (.int .i64) (x0)), .bad, .bad, .bad, .bad, .bad, .bad, .bad, .bad, .bad, .bad, .bad, .bad, .bad, .bad, .bad, .bad, .bad, .bad, .bad, .bad, .bad, .bad, .bad, .bad, .bad, .bad, .bad, .bad, .bad, .bad, .bad, .bad, .bad, .bad, .bad, .bad, .bad, .bad, .bad, .bad, .bad, .bad, .bad, .bad, .bad], bx := [none, none, none, none, none, none, none, none, none], live := 0, g := [] }
def s97_2x4 (a0 : (List Int)) (a1 : Int) (x0 : Int) (x1 : Int) : St := { t := [.bad, .bad, .bad, .bad, (.v (.int .i64) (IntKind.i64.wrap (↑(BitVec.ofInt IntKind.i64.bits x0 ||| BitVec.ofInt IntKind.i64.bits (IntKind.i64.wrap (IntKind.i64.wrap (IntKind.u8.wrap (↑(BitVec.ofInt IntKind.u8.bits (List.getD a0 (IntKind.i64.wrap (a1 + x1)).toNat (0 : Int)) &&& BitVec.ofInt IntKind.u8.bits (127 : Int)).toNat : Int)) * (2 : Int) ^ Min.min (IntKind.i64.wrap ((7 : Int) * x1)).toNat IntKind.i64.bits))).toNat : Int))), .bad, .bad, .bad, .bad, .bad, .bad, .bad, .bad, .bad, .bad, .bad, .bad, .bad, .bad, .bad, .bad, .bad, .bad, .bad, .bad, .bad, .bad, .bad, .bad, .bad, .bad, .bad, .bad, .bad, .bad, .bad, .bad, .bad, .bad, .bad, .bad, .bad, .bad, .bad, .bad, .bad, .bad, .bad, .bad, .bad], bx := [none, none, none, none, none, none, none, none, none, none, none, none, none, none, none, none, none, none, none, none, none, none, none, none, none, none, none, none, none, none, none, none, none, none, none], live := 0, g := [] }
def s97_2x5 (a0 : (List Int)) (a1 : Int) (x0 : Int) (x1 : Int) : St := { t := [.bad, .bad, .bad, .bad, (.v (.int .i64) (IntKind.i64.wrap (↑(BitVec.ofInt IntKind.i64.bits x0 ||| BitVec.ofInt IntKind.i64.bits (IntKind.i64.wrap (IntKind.i64.wrap (IntKind.u8.wrap (↑(BitVec.ofInt IntKind.u8.bits (List.getD a0 (IntKind.i64.wrap (a1 + x1)).toNat (0 : Int)) &&& BitVec.ofInt IntKind.u8.bits (127 : Int)).toNat : Int)) * (2 : Int) ^ Min.min (IntKind.i64.wrap ((7 : Int) * x1)).toNat IntKind.i64.bits))).toNat : Int))), (.v (.int .i64) (IntKind.i64.wrap (IntKind.i64.wrap (a1 + x1) + (1 : Int)))), (.v .bool (true)), .bad, .bad, .bad, .bad, .bad, .bad, .bad, .bad, .bad, .bad, .bad, .bad, .bad, .bad, .bad, .bad, .bad, .bad, .bad, .bad, .bad, .bad, .bad, .bad, .bad, .bad, .bad, .bad, .bad, .bad, .bad, .bad, .bad, .bad, .bad, .bad, .bad, .bad, .bad, .bad, .bad, .bad, .bad], bx := [none, none, none, none, none, none, none, none, none, none, none, none, none, none, none, none, none, none, none, none, none, none, none, none, none, none, none, none, none, none, none, none, none, none, none, none, none, none, none, none, none, none, none], live := 0, g := [] }
def s97_2x6 (x0 : Int) : St := { t := [.bad, .bad, .bad, .bad, (.v (.int .i64) (x0)), .bad, .bad, .bad, .bad, .bad, .bad, .bad, .bad, .bad, .bad, .bad, .bad, .bad, .bad, .bad, .bad, .bad, .bad, .bad, .bad, .bad, .bad, .bad, .bad, .bad, .bad, .bad, .bad, .bad, .bad, .bad, .bad, .bad, .bad, .bad, .bad, .bad, .bad, .bad, .bad, .bad, .bad, .bad, .bad, .bad], bx := [none], live := 0, g := [] }
theorem s97_2_l {R : Type} (K : AEx → St → Option R) (a0 : (List Int)) (a1 : Int) (x0 : Int) (x1 : Int) : LP B call inl 97 (m + 1) [1, 1, 1, 0, 1] (s97_2 a0 a1 x0 x1) K = (bif decide (x1 < (9 : Int)) then (bif decide (a1 ≥ IntKind.i64.wrap ((↑(List.length a0) : Int) - x1)) then (K (.exit 0) (s97_2x3 x0)) else (if (0 : Int) ≤ IntKind.i64.wrap (a1 + x1) ∧ IntKind.i64.wrap (a1 + x1) < (↑(List.length a0) : Int) then (if IntKind.i64.wrap ((7 : Int) * x1) < (0 : Int) then (none) else (bif decide (List.getD a0 (IntKind.i64.wrap (a1 + x1)).toNat (0 : Int) > (127 : Int)) then (LP B call inl 97 m [1, 1, 1, 0, 1] (s97_2 a0 a1 (IntKind.i64.wrap (↑(BitVec.ofInt IntKind.i64.bits x0 ||| BitVec.ofInt IntKind.i64.bits (IntKind.i64.wrap (IntKind.i64.wrap (IntKind.u8.wrap (↑(BitVec.ofInt IntKind.u8.bits (List.getD a0 (IntKind.i64.wrap (a1 + x1)).toNat (0 : Int)) &&& BitVec.ofInt IntKind.u8.bits (127 : Int)).toNat : Int)) * (2 : Int) ^ Min.min (IntKind.i64.wrap ((7 : Int) * x1)).toNat IntKind.i64.bits))).toNat : Int)) (IntKind.i64.wrap (x1 + (1 : Int)))) K) else (bif (List.getD a0 (IntKind.i64.wrap (a1 + x1)).toNat (0 : Int) == (0 : Int)) == true then (bif decide (x1 > (0 : Int)) then (K (.exit 0) (s97_2x4 a0 a1 x0 x1)) else (K .ret (s97_2x5 a0 a1 x0 x1))) else (K .ret (s97_2x5 a0 a1 x0 x1))))) else (none))) else (K (.exit 0) (s97_2x6 x0))) := by kernel_rfl
theorem s97_2x3_k (x0 : Int) : (KA B call inl 97 m [1, 1, 1, 0, 1] (FI B call inl 97)) (.exit 0) (s97_2x3 x0) = (some (((0 : Int), (0 : Int), false, ()))) := by kernel_rfl
theorem s97_2x4_k (a0 : (List Int)) (a1 : Int) (x0 : Int) (x1 : Int) : (KA B call inl 97 m [1, 1, 1, 0, 1] (FI B call inl 97)) (.exit 0) (s97_2x4 a0 a1 x0 x1) = (some (((0 : Int), (0 : Int), false, ()))) := by kernel_rfl
theorem s97_2x5_k (a0 : (List Int)) (a1 : Int) (x0 : Int) (x1 : Int) : (KA B call inl 97 m [1, 1, 1, 0, 1] (FI B call inl 97)) .ret (s97_2x5 a0 a1 x0 x1) = (some ((IntKind.i64.wrap (↑(BitVec.ofInt IntKind.i64.bits x0 ||| BitVec.ofInt IntKind.i64.bits (IntKind.i64.wrap (IntKind.i64.wrap (IntKind.u8.wrap (↑(BitVec.ofInt IntKind.u8.bits (List.getD a0 (IntKind.i64.wrap (a1 + x1)).toNat (0 : Int)) &&& BitVec.ofInt IntKind.u8.bits (127 : Int)).toNat : Int)) * (2 : Int) ^ Min.min (IntKind.i64.wrap ((7 : Int) * x1)).toNat IntKind.i64.bits))).toNat : Int), IntKind.i64.wrap (IntKind.i64.wrap (a1 + x1) + (1 : Int)), true, ()))) := by kernel_rfl
theorem s97_2x6_k (x0 : Int) : (KA B call inl 97 m [1, 1, 1, 0, 1] (FI B call inl 97)) (.exit 0) (s97_2x6 x0) = (some (((0 : Int), (0 : Int), false, ()))) := by kernel_rfl
theorem t97 (a0 : (List Int)) (a1 : Int) : stepN B call inl m 97 [argAV (.sl (.int .u8)) a0, argAV (.int .i64) a1] = (bif decide (a1 < (0 : Int)) then (some (((0 : Int), (0 : Int), false, ()))) else (LP B call inl 97 m [1, 1, 1, 0, 1] (s97_2 a0 a1 ((0 : Int)) ((0 : Int))) (KA B call inl 97 m [1, 1, 1, 0, 1] (FI B call inl 97))) : Option (Int × Int × Bool × Unit)) := by kernel_rfl
/-! function 98 -/
theorem t98 (a0 : (List Int)) (a1 : Int) : stepN B call inl m 98 [argAV (.sl (.int .u8)) a0, argAV (.int .i64) a1] = ((call 97 [(.v (.sl (.int .u8)) (a0)), (.v (.int .i64) (a1))]).bind fun (v0 : (Int × Int × Bool × Unit)) => bif (!v0.snd.snd.fst) == false then (bif decide (v0.fst > IntKind.i64.wrap ((↑(List.length a0) : Int) - v0.snd.fst)) then (some (((ByteArray.mk #[]), (0 : Int), false, ()))) else (if (0 : Int) ≤ v0.snd.fst ∧ v0.snd.fst ≤ IntKind.i64.wrap (v0.snd.fst + v0.fst) ∧ IntKind.i64.wrap (v0.snd.fst + v0.fst) ≤ (↑(List.length a0) : Int) then (some ((strOf (List.drop (Int.toNat v0.snd.fst) (List.take (IntKind.i64.wrap (v0.snd.fst + v0.fst)).toNat a0)), IntKind.i64.wrap (v0.snd.fst + v0.fst), true, ()))) else (none))) else (some (((ByteArray.mk #[]), (0 : Int), false, ()))) : Option (ByteArray × Int × Bool × Unit)) := by kernel_rfl
/-! function 99 -/
theorem t99 (a0 : Int) : stepN B call inl m 99 [argAV (.int .i64) a0] = (some ((IntKind.i64.wrap (Int.tdiv a0 (2 : Int)), IntKind.i64.wrap (Int.tmod a0 (2 : Int) + (1 : Int)), ())) : Option (Int × Int × Unit)) := by kernel_rfl
/-! function 67 -/
def s67_2 (a0 : (List Int)) (a1 : Int) (a2 : Int) (x0 : Int) (x1 : Int) : St := { t := [.bad, .bad, .bad, .bad, .bad, .bad, (.v (.int .i64) ((0 : Int))), (.v .bool (false)), (.v (.int .i64) (x0)), .bad, .bad, .bad, .bad, .bad, .bad, .bad, .bad, .bad, .bad, .bad, .bad, .bad, .bad, .bad, .bad, .bad, .bad, .bad, .bad, .bad, .bad, .bad, .bad, .bad, .bad, .bad, .bad, .bad, .bad, .bad, (.v (.sl (.int .u8)) (List.drop (Int.toNat a1) (List.take (IntKind.i64.wrap (a1 + a2)).toNat a0))), (.v (.int .i64) ((↑(List.drop (Int.toNat a1) (List.take (IntKind.i64.wrap (a1 + a2)).toNat a0)).length : Int))), (.v (.int .i64) (x1)), .bad, .bad, .bad, .bad, .bad, .bad, .bad, .bad, .bad, (.raw undef)], bx := [], live := 0, g := [] }
def s67_2x3 (x0 : Int) : St := { t := [.bad, .bad, .bad, .bad, .bad, .bad, (.v (.int .i64) ((0 : Int))), (.v .bool (false)), (.v (.int .i64) (x0)), .bad, .bad, .bad, .bad, .bad, .bad, .bad, .bad, .bad, .bad, .bad, .bad, .bad, .bad, .bad, .bad, .bad, .bad, .bad, .bad, .bad, .bad, .bad, .bad, .bad, .bad, .bad, .bad, .bad, .bad, .bad, .bad, .bad, .bad, .bad, .bad, .bad, .bad, .bad, .bad, .bad, .bad, .bad, (.raw undef)], bx := [none], live := 0, g := [] }
theorem s67_2_l {R : Type} (K : AEx → St → Option R) (a0 : (List Int)) (a1 : Int) (a2 : Int) (x0 : Int) (x1 : Int) : LP B call inl 67 (m + 1) [1, 1, 1, 0, 1] (s67_2 a0 a1 a2 x0 x1) K = (bif decide (x1 < (↑(List.drop (Int.toNat a1) (List.take (IntKind.i64.wrap (a1 + a2)).toNat a0)).length : Int)) then (if (0 : Int) ≤ x1 ∧ x1 < (↑(List.drop (Int.toNat a1) (List.take (IntKind.i64.wrap (a1 + a2)).toNat a0)).length : Int) then (LP B call inl 67 m [1, 1, 1, 0, 1] (s67_2 a0 a1 a2 (IntKind.i64.wrap (↑(BitVec.ofInt IntKind.i64.bits (IntKind.i64.wrap (x0 * (2 : Int) ^ Min.min (Int.toNat (8 : Int)) IntKind.i64.bits)) ||| BitVec.ofInt IntKind.i64.bits (IntKind.i64.wrap ((List.drop (Int.toNat a1) (List.take (IntKind.i64.wrap (a1 + a2)).toNat a0)).getD x1.toNat (0 : Int)))).toNat : Int)) (IntKind.i64.wrap (x1 + (1 : Int)))) K) else (none)) else (K (.exit 0) (s67_2x3 x0))) := by kernel_rfl
theorem s67_2x3_k (x0 : Int) : (KA B call inl 67 m [1, 1, 1, 0, 1] (FI B call inl 67)) (.exit 0) (s67_2x3 x0) = (some ((x0, true, ()))) := by kernel_rfl
theorem t67 (a0 : (List Int)) (a1 : Int) (a2 : Int) : stepN B call inl m 67 [argAV (.sl (.int .u8)) a0, argAV (.int .i64) a1, argAV (.int .i64) a2] = (bif decide (a2 < (1 : Int)) == false then (bif decide (a2 > (7 : Int)) == false then (bif decide (a1 < (0 : Int)) == false then (bif decide (a1 > (↑(List.length a0) : Int)) == false then (bif decide (a2 > IntKind.i64.wrap ((↑(List.length a0) : Int) - a1)) then (some (((0 : Int), false, ()))) else (if (0 : Int) ≤ a1 ∧ a1 ≤ IntKind.i64.wrap (a1 + a2) ∧ IntKind.i64.wrap (a1 + a2) ≤ (↑(List.length a0) : Int) then (LP B call inl 67 m [1, 1, 1, 0, 1] (s67_2 a0 a1 a2 ((0 : Int)) ((0 : Int))) (KA B call inl 67 m [1, 1, 1, 0, 1] (FI B call inl 67))) else (none))) else (some (((0 : Int), false, ())))) else (some (((0 : Int), false, ())))) else (some (((0 : Int), false, ())))) else (some (((0 : Int), false, ()))) : Option (Int × Bool × Unit)) := by kernel_rfl
/-! function 68 -/
theorem t68 (a0 : (List Int)) (a1 : Int) (a2 : ByteArray) : stepN B call inl m 68 [argAV (.sl (.int .u8)) a0, argAV (.int .i64) a1, argAV .str a2] = ((call 97 [(.v (.sl (.int .u8)) (a0)), (.v (.int .i64) (a1))]).bind fun (v0 : (Int × Int × Bool × Unit)) => bif (!v0.snd.snd.fst) == false then (bif decide (v0.fst > (↑(ByteArray.size a2) : Int)) then (some (((((ByteArray.mk #[]), (0 : Int), (0 : Int), ()), (ByteArray.mk #[]), ()), (0 : Int), false, ()))) else ((call 98 [(.v (.sl (.int .u8)) (a0)), (.v (.int .i64) (v0.snd.fst))]).bind fun (v1 : (ByteArray × Int × Bool × Unit)) => bif !v1.snd.snd.fst then (some (((((ByteArray.mk #[]), (0 : Int), (0 : Int), ()), (ByteArray.mk #[]), ()), (0 : Int), false, ()))) else ((call 97 [(.v (.sl (.int .u8)) (a0)), (.v (.int .i64) (v1.snd.fst))]).bind fun (v2 : (Int × Int × Bool × Unit)) => bif !v2.snd.snd.fst then (some (((((ByteArray.mk #[]), (0 : Int), (0 : Int), ()), (ByteArray.mk #[]), ()), (0 : Int), false, ()))) else ((call 98 [(.v (.sl (.int .u8)) (a0)), (.v (.int .i64) (v2.snd.fst))]).bind fun (v3 : (ByteArray × Int × Bool × Unit)) => if (0 : Int) ≤ v0.fst ∧ v0.fst ≤ (↑(ByteArray.size a2) : Int) then (if (↑((ByteArray.extract a2 (0 : Nat) (Int.toNat v0.fst)).size + ByteArray.size v1.fst) : Int) > IntKind.i64.max then (none) else ((call 99 [(.v (.int .i64) (v2.fst))]).bind fun (v4 : (Int × Int × Unit)) => some ((((ByteArray.extract a2 (0 : Nat) (Int.toNat v0.fst) ++ v1.fst, v4.fst, v4.snd.fst, ()), v3.fst, ()), v3.snd.fst, v3.snd.snd.fst, ())))) else (none))))) else (some (((((ByteArray.mk #[]), (0 : Int), (0 : Int), ()), (ByteArray.mk #[]), ()), (0 : Int), false, ()))) : Option (En × Int × Bool × Unit)) := by kernel_rfl
/-! function 69 -/
def s69_1 (a0 : (List Int)) (a1 : (List Int)) (x0 : Int) : St := { t := [(.v (.sl (.int .u8)) (a0)), (.v (.sl (.int .u8)) (a1)), .bad, .bad, .bad, .bad, .bad, .bad, .bad, .bad, .bad, .bad, (.v (.int .i64) ((↑(List.length a0) : Int))), (.v (.int .i64) (x0)), .bad, .bad, .bad, .bad, .bad, .bad, .bad, .bad, .bad, .bad, .bad, .bad], bx := [], live := 0, g := [] }
def s69_1x2 : St := { t := [.bad, .bad, .bad, .bad, (.v .bool (false)), .bad, .bad, .bad, .bad, .bad, .bad, .bad, .bad, .bad, .bad, .bad, .bad, .bad, .bad, .bad, .bad, .bad, .bad, .bad, .bad, .bad], bx := [none, none, none, none, none, none, none, none, none, none, none, none, none], live := 0, g := [] }
def s69_1x3 : St := { t := [.bad, .bad, .bad, .bad, .bad, .bad, .bad, .bad, .bad, .bad, .bad, .bad, .bad, .bad, .bad, .bad, .bad, .bad, .bad, .bad, .bad, .bad, .bad, .bad, .bad, .bad], bx := [none], live := 0, g := [] }
theorem s69_1_l {R : Type} (K : AEx → St → Option R) (a0 : (List Int)) (a1 : (List Int)) (x0 : Int) : LP B call inl 69 (m + 1) [1, 1, 0, 1] (s69_1 a0 a1 x0) K = (bif decide (x0 < (↑(List.length a0) : Int)) then (if (0 : Int) ≤ x0 ∧ x0 < (↑(List.length a0) : Int) then (if (0 : Int) ≤ x0 ∧ x0 < (↑(List.length a1) : Int) then (bif List.getD a0 x0.toNat (0 : Int) != List.getD a1 x0.toNat (0 : Int) then (K .ret (s69_1x2 )) else (LP B call inl 69 m [1, 1, 0, 1] (s69_1 a0 a1 (IntKind.i64.wrap (x0 + (1 : Int)))) K)) else (none)) else (none)) else (K (.exit 0) (s69_1x3 ))) := by kernel_rfl
theorem s69_1x2_k : (KA B call inl 69 m [1, 1, 0, 1] (FI B call inl 69)) .ret (s69_1x2 ) = (some (false)) := by kernel_rfl
theorem s69_1x3_k : (KA B call inl 69 m [1, 1, 0, 1] (FI B call inl 69)) (.exit 0) (s69_1x3 ) = (some (true)) := by kernel_rfl
theorem t69 (a0 : (List Int)) (a1 : (List Int)) : stepN B call inl m 69 [argAV (.sl (.int .u8)) a0, argAV (.sl (.int .u8)) a1] = (bif (↑(List.length a0) : Int) != (↑(List.length a1) : Int) then (some (false)) else (LP B call inl 69 m [1, 1, 0, 1] (s69_1 a0 a1 ((0 : Int))) (KA B call inl 69 m [1, 1, 0, 1] (FI B call inl 69))) : Option Bool) := by kernel_rfl
/-! function 53 -/
def s53_2 (a0 : Int) (a1 : Int) (x0 : (List Int)) (x1 : Int) : St := { t := [(.v (.int .i64) (a0)), (.v (.int .i64) (a1)), .bad, .bad, .nilS, (.own 0 5 (.int .u8) (x0)), .bad, .bad, .bad, .bad, .bad, .bad, .bad, .bad, .bad, (.v (.int .i64) (a1)), (.v (.int .i64) (x1)), .bad, .bad, .bad, .bad, .bad, .bad, .bad, .bad, .bad, .bad, .bad, .bad, .bad, .bad, (.raw undef)], bx := [none], live := 1, g := [] }
def s53_2x3 (x0 : (List Int)) : St := { t := [.bad, .bad, .bad, .bad, .nilS, (.own 0 5 (.int .u8) (x0)), .bad, .bad, .bad, .bad, .bad, .bad, .bad, .bad, .bad, .bad, .bad, .bad, .bad, .bad, .bad, .bad, .bad, .bad, .bad, .bad, .bad, .bad, .bad, .bad, .bad, (.raw undef)], bx := [none, none], live := 1, g := [] }
theorem s53_2_l {R : Type} (K : AEx → St → Option R) (a0 : Int) (a1 : Int) (x0 : (List Int)) (x1 : Int) : LP B call inl 53 (m + 1) [1, 1, 1, 0, 1] (s53_2 a0 a1 x0 x1) K = (bif decide (x1 < a1) then (if IntKind.i64.wrap ((8 : Int) * IntKind.i64.wrap (IntKind.i64.wrap (a1 - (1 : Int)) - x1)) < (0 : Int) then (none) else (if (0 : Int) ≤ x1 ∧ x1 < (↑x0.length : Int) then (LP B call inl 53 m [1, 1, 1, 0, 1] (s53_2 a0 a1 (x0.set x1.toNat (IntKind.u8.wrap (Int.fdiv a0 ((2 : Int) ^ Min.min (IntKind.i64.wrap ((8 : Int) * IntKind.i64.wrap (IntKind.i64.wrap (a1 - (1 : Int)) - x1))).toNat IntKind.i64.bits)))) (IntKind.i64.wrap (x1 + (1 : Int)))) K) else (none))) else (K (.exit 0) (s53_2x3 x0))) := by kernel_rfl
theorem s53_2x3_k (x0 : (List Int)) : (KA B call inl 53 m [1, 1, 1, 0, 1] (FI B call inl 53)) (.exit 0) (s53_2x3 x0) = (some (x0)) := by kernel_rfl
theorem t53 (a0 : Int) (a1 : Int) : stepN B call inl m 53 [argAV (.int .i64) a0, argAV (.int .i64) a1] = (bif decide (a1 < (1 : Int)) == false then (bif decide (a1 > (8 : Int)) then (some ([])) else (if (0 : Int) ≤ a1 ∧ a1 = a1 ∧ a1 * (↑(1 : Nat) : Int) ≤ (↑(140737488355328) : Int) then (LP B call inl 53 m [1, 1, 1, 0, 1] (s53_2 a0 a1 (List.replicate (Int.toNat a1) (0 : Int)) ((0 : Int))) (KA B call inl 53 m [1, 1, 1, 0, 1] (FI B call inl 53))) else (none))) else (some ([])) : Option (List Int)) := by kernel_rfl
/-! function 112 -/
theorem t112 (a0 : Ke) : stepN B call inl m 112 [argAV KeyT a0] = (bif decide ((↑(ByteArray.size a0.fst) : Int) ≤ (64 : Int)) == true then (bif decide (a0.snd.fst ≥ (0 : Int)) == true then (bif decide (a0.snd.fst ≤ (9007199254740992 : Int)) == true then (bif (a0.snd.snd.fst == (1 : Int)) == false then (some (a0.snd.snd.fst == (2 : Int))) else (some (true))) else (some (false))) else (some (false))) else (some (false)) : Option Bool) := by kernel_rfl
/-! function 90 -/
theorem t90 (a0 : En) : stepN B call inl m 90 [argAV EntryT a0] = ((call 112 [(.agg [(.v .str (a0.fst.fst)), (.v (.int .i64) (a0.fst.snd.fst)), (.v (.int .i64) (a0.fst.snd.snd.fst))])]).bind fun (v0 : Bool) => bif v0 == true then (bif decide ((↑(ByteArray.size a0.snd.fst) : Int) ≤ (512 : Int)) == true then (bif (a0.fst.snd.snd.fst == (1 : Int)) == false then (some (ByteArray.toList a0.snd.fst == (ByteArray.mk #[]).toList)) else (some (true))) else (some (false))) else (some (false)) : Option Bool) := by kernel_rfl
/-! function 80 -/
theorem t80 (a0 : Ke) (a1 : Ke) : stepN B call inl m 80 [argAV KeyT a0, argAV KeyT a1] = ((call 101 [(.v .str (a0.fst)), (.v .str (a1.fst))]).bind fun (v0 : Int) => (call 102 [(.v (.int .i64) (a1.snd.fst)), (.v (.int .i64) (a0.snd.fst))]).bind fun (v1 : Int) => (call 102 [(.v (.int .i64) (a1.snd.snd.fst)), (.v (.int .i64) (a0.snd.snd.fst))]).bind fun (v2 : Int) => (call 100 [(.v (.sl (.int .i64)) ([v0, v1, v2]))]).bind fun (v3 : Int) => some (v3) : Option Int) := by kernel_rfl
/-! function 100 -/
def s100_1 (a0 : (List Int)) (x0 : Int) : St := { t := [.bad, .bad, .bad, (.v (.int .i64) ((0 : Int))), .bad, .bad, (.v (.sl (.int .i64)) (a0)), (.v (.int .i64) ((↑(List.length a0) : Int))), (.v (.int .i64) (x0)), .bad, .bad, .bad, .bad, .bad, .bad, .bad, .bad, (.raw undef)], bx := [], live := 0, g := [] }
def s100_1x2 (a0 : (List Int)) (x0 : Int) : St := { t := [.bad, .bad, (.v (.int .i64) (List.getD a0 x0.toNat (0 : Int))), (.v (.int .i64) ((0 : Int))), .bad, .bad, .bad, .bad, .bad, .bad, .bad, .bad, .bad, .bad, .bad, .bad, .bad, (.raw undef)], bx := [none, none, none, none, none, none, none, none, none], live := 0, g := [] }
def s100_1x3 : St := { t := [.bad, .bad, .bad, (.v (.int .i64) ((0 : Int))), .bad, .bad, .bad, .bad, .bad, .bad, .bad, .bad, .bad, .bad, .bad, .bad, .bad, (.raw undef)], bx := [none], live := 0, g := [] }
theorem s100_1_l {R : Type} (K : AEx → St → Option R) (a0 : (List Int)) (x0 : Int) : LP B call inl 100 (m + 1) [1, 1, 0, 1] (s100_1 a0 x0) K = (bif decide (x0 < (↑(List.length a0) : Int)) then (if (0 : Int) ≤ x0 ∧ x0 < (↑(List.length a0) : Int) then (bif List.getD a0 x0.toNat (0 : Int) != (0 : Int) then (K .ret (s100_1x2 a0 x0)) else (LP B call inl 100 m [1, 1, 0, 1] (s100_1 a0 (IntKind.i64.wrap (x0 + (1 : Int)))) K)) else (none)) else (K (.exit 0) (s100_1x3 ))) := by kernel_rfl
theorem s100_1x2_k (a0 : (List Int)) (x0 : Int) : (KA B call inl 100 m [1, 1, 0, 1] (FI B call inl 100)) .ret (s100_1x2 a0 x0) = (some (List.getD a0 x0.toNat (0 : Int))) := by kernel_rfl
theorem s100_1x3_k : (KA B call inl 100 m [1, 1, 0, 1] (FI B call inl 100)) (.exit 0) (s100_1x3 ) = (some ((0 : Int))) := by kernel_rfl
theorem t100 (a0 : (List Int)) : stepN B call inl m 100 [argAV (.sl (.int .i64)) a0] = (LP B call inl 100 m [1, 1, 0, 1] (s100_1 a0 ((0 : Int))) (KA B call inl 100 m [1, 1, 0, 1] (FI B call inl 100)) : Option Int) := by kernel_rfl
/-! function 101 -/
theorem t101 (a0 : ByteArray) (a1 : ByteArray) : stepN B call inl m 101 [argAV .str a0, argAV .str a1] = ((call 115 [(.v .str (a0))]).bind fun (v0 : Bool) => (call 115 [(.v .str (a1))]).bind fun (v1 : Bool) => bif v0 then (bif v1 then (some ((0 : Int))) else (some ((-1 : Int)))) else (bif v1 then (some ((1 : Int))) else (bif Op.bytesLess (ByteArray.toList a0) (ByteArray.toList a1) then (some ((-1 : Int))) else (bif !(Op.bytesLess (ByteArray.toList a0) (ByteArray.toList a1) || ByteArray.toList a0 == ByteArray.toList a1) then (some ((1 : Int))) else (some ((0 : Int)))))) : Option Int) := by kernel_rfl
/-! function 102 -/
theorem t102 (a0 : Int) (a1 : Int) : stepN B call inl m 102 [argAV (.int .i64) a0, argAV (.int .i64) a1] = ((call 116 [(.v (.int .i64) (a0))]).bind fun (v0 : Bool) => (call 116 [(.v (.int .i64) (a1))]).bind fun (v1 : Bool) => bif v0 then (bif v1 then (some ((0 : Int))) else (some ((-1 : Int)))) else (bif v1 then (some ((1 : Int))) else (bif decide (a0 < a1) then (some ((-1 : Int))) else (bif decide (a0 > a1) then (some ((1 : Int))) else (some ((0 : Int)))))) : Option Int) := by kernel_rfl
/-! function 115 -/
theorem t115 (a0 : ByteArray) : stepN B call inl m 115 [argAV .str a0] = (some (!ByteArray.toList a0 == ByteArray.toList a0) : Option Bool) := by kernel_rfl
/-! function 116 -/
theorem t116 (a0 : Int) : stepN B call inl m 116 [argAV (.int .i64) a0] = (some (a0 != a0) : Option Bool) := by kernel_rfl
/-! function 52 -/
def s52_4 (a0 : (List En)) (x1 : Int) : St := { t := [(.v (.sl EntryT) (a0)), .bad, .bad, .bad, .bad, (.v (.sl EntryT) (a0)), (.v (.int .i64) ((↑(List.length a0) : Int))), (.v (.int .i64) (x1)), .bad, .bad, .bad, .bad, .bad, .bad, .bad, .bad, .bad, .bad, .bad, .bad, .bad, .bad, .bad, .bad, .bad, .bad, .bad, .bad, .bad, .bad, .bad], bx := [], live := 0, g := [] }
def s52_4x6 (a0 : (List En)) (x1 : Int) : St := { t := [.bad, .bad, (.v .bool (false)), .bad, .bad, .bad, .bad, .bad, .bad, .bad, .bad, .bad, .bad, .bad, .bad, .bad, .bad, .bad, .bad, .bad, .bad, .bad, .bad, .bad, .bad, .bad, .bad, .bad, .bad, .bad, .bad], bx := [none, none, none, none, (some (26, [(.v .str ((List.getD a0 x1.toNat (((ByteArray.mk #[]), (0 : Int), (0 : Int), ()), (ByteArray.mk #[]), ())).fst.fst)), (.v (.int .i64) ((List.getD a0 x1.toNat (((ByteArray.mk #[]), (0 : Int), (0 : Int), ()), (ByteArray.mk #[]), ())).fst.snd.fst)), (.v (.int .i64) ((List.getD a0 x1.toNat (((ByteArray.mk #[]), (0 : Int), (0 : Int), ()), (ByteArray.mk #[]), ())).fst.snd.snd.fst)), (.v .str ((List.getD a0 x1.toNat (((ByteArray.mk #[]), (0 : Int), (0 : Int), ()), (ByteArray.mk #[]), ())).snd.fst))])), none, none, none, none, none, none, none], live := 0, g := [] }
def s52_4x8 (a0 : (List En)) (x1 : Int) : St := { t := [.bad, .bad, (.v .bool (false)), .bad, .bad, .bad, .bad, .bad, .bad, .bad, .bad, .bad, .bad, .bad, .bad, .bad, .bad, .bad, .bad, .bad, .bad, .bad, .bad, .bad, .bad, .bad, .bad, .bad, .bad, .bad, .bad], bx := [none, none, none, none, (some (26, [(.v .str ((List.getD a0 x1.toNat (((ByteArray.mk #[]), (0 : Int), (0 : Int), ()), (ByteArray.mk #[]), ())).fst.fst)), (.v (.int .i64) ((List.getD a0 x1.toNat (((ByteArray.mk #[]), (0 : Int), (0 : Int), ()), (ByteArray.mk #[]), ())).fst.snd.fst)), (.v (.int .i64) ((List.getD a0 x1.toNat (((ByteArray.mk #[]), (0 : Int), (0 : Int), ()), (ByteArray.mk #[]), ())).fst.snd.snd.fst)), (.v .str ((List.getD a0 x1.toNat (((ByteArray.mk #[]), (0 : Int), (0 : Int), ()), (ByteArray.mk #[]), ())).snd.fst))])), none, none, none, none, none, none, none, none, none, none, none, none, none, none, none, none, none, none, none, none, none], live := 0, g := [] }
def s52_4x9 : St := { t := [.bad, .bad, .bad, .bad, .bad, .bad, .bad, .bad, .bad, .bad, .bad, .bad, .bad, .bad, .bad, .bad, .bad, .bad, .bad, .bad, .bad, .bad, .bad, .bad, .bad, .bad, .bad, .bad, .bad, .bad, .bad], bx := [none], live := 0, g := [] }
theorem s52_4_l {R : Type} (K : AEx → St → Option R) (a0 : (List En)) (x1 : Int) : LP B call inl 52 (m + 1) [1, 1, 0, 1] (s52_4 a0 x1) K = (bif decide (x1 < (↑(List.length a0) : Int)) then (if (0 : Int) ≤ x1 ∧ x1 < (↑(List.length a0) : Int) then ((call 90 [(.agg [(.v .str ((List.getD a0 x1.toNat (((ByteArray.mk #[]), (0 : Int), (0 : Int), ()), (ByteArray.mk #[]), ())).fst.fst)), (.v (.int .i64) ((List.getD a0 x1.toNat (((ByteArray.mk #[]), (0 : Int), (0 : Int), ()), (ByteArray.mk #[]), ())).fst.snd.fst)), (.v (.int .i64) ((List.getD a0 x1.toNat (((ByteArray.mk #[]), (0 : Int), (0 : Int), ()), (ByteArray.mk #[]), ())).fst.snd.snd.fst)), (.v .str ((List.getD a0 x1.toNat (((ByteArray.mk #[]), (0 : Int), (0 : Int), ()), (ByteArray.mk #[]), ())).snd.fst))])]).bind fun (v5 : Bool) => bif !v5 then (K .ret (s52_4x6 a0 x1)) else (bif x1 == (0 : Int) then (LP B call inl 52 m [1, 1, 0, 1] (s52_4 a0 (IntKind.i64.wrap (x1 + (1 : Int)))) K) else (if (0 : Int) ≤ IntKind.i64.wrap (x1 - (1 : Int)) ∧ IntKind.i64.wrap (x1 - (1 : Int)) < (↑(List.length a0) : Int) then ((call 80 [(.agg [(.v .str ((List.getD a0 (IntKind.i64.wrap (x1 - (1 : Int))).toNat (((ByteArray.mk #[]), (0 : Int), (0 : Int), ()), (ByteArray.mk #[]), ())).fst.fst)), (.v (.int .i64) ((List.getD a0 (IntKind.i64.wrap (x1 - (1 : Int))).toNat (((ByteArray.mk #[]), (0 : Int), (0 : Int), ()), (ByteArray.mk #[]), ())).fst.snd.fst)), (.v (.int .i64) ((List.getD a0 (IntKind.i64.wrap (x1 - (1 : Int))).toNat (((ByteArray.mk #[]), (0 : Int), (0 : Int), ()), (ByteArray.mk #[]), ())).fst.snd.snd.fst))]), (.agg [(.v .str ((List.getD a0 x1.toNat (((ByteArray.mk #[]), (0 : Int), (0 : Int), ()), (ByteArray.mk #[]), ())).fst.fst)), (.v (.int .i64) ((List.getD a0 x1.toNat (((ByteArray.mk #[]), (0 : Int), (0 : Int), ()), (ByteArray.mk #[]), ())).fst.snd.fst)), (.v (.int .i64) ((List.getD a0 x1.toNat (((ByteArray.mk #[]), (0 : Int), (0 : Int), ()), (ByteArray.mk #[]), ())).fst.snd.snd.fst))])]).bind fun (v7 : Int) => bif decide (v7 ≥ (0 : Int)) then (K .ret (s52_4x8 a0 x1)) else (LP B call inl 52 m [1, 1, 0, 1] (s52_4 a0 (IntKind.i64.wrap (x1 + (1 : Int)))) K)) else (none)))) else (none)) else (K (.exit 0) (s52_4x9 ))) := by kernel_rfl
theorem s52_4x6_k (a0 : (List En)) (x1 : Int) : (KA B call inl 52 m [1, 1, 0, 1] (FI B call inl 52)) .ret (s52_4x6 a0 x1) = (some (false)) := by kernel_rfl
theorem s52_4x8_k (a0 : (List En)) (x1 : Int) : (KA B call inl 52 m [1, 1, 0, 1] (FI B call inl 52)) .ret (s52_4x8 a0 x1) = (some (false)) := by kernel_rfl
theorem s52_4x9_k : (KA B call inl 52 m [1, 1, 0, 1] (FI B call inl 52)) (.exit 0) (s52_4x9 ) = (some (true)) := by kernel_rfl
theorem t52 (a0 : (List En)) : stepN B call inl m 52 [argAV (.sl EntryT) a0] = (LP B call inl 52 m [1, 1, 0, 1] (s52_4 a0 ((0 : Int))) (KA B call inl 52 m [1, 1, 0, 1] (FI B call inl 52)) : Option Bool) := by kernel_rfl
/-! function 18 -/
theorem t18 (a0 : Int) : stepN B call inl m 18 [argAV (.int .i64) a0] = (some (a0) : Option Int) := by kernel_rfl
end
end Go.Eng.Bk
/- What the machine answers at some functions of the program: printed by the generator, each checked by the kernel. -/
namespace Go.Eng.Bk
open Go Go.Proofs Go.Eng
set_option linter.unusedVariables false
set_option maxRecDepth 100000
section
variable (call : CallT B) (inl : InlT) (m : Nat)
/-! function 70 -/
def s70_4 (a0 : (List En)) (x1 : Int) : St := { t := [(.v (.sl EntryT) (a0)), .bad, .bad, (.v (.int .i64) (x1)), .bad, .bad, .bad, .bad, .bad, .bad, .bad, .bad, .bad, .bad, .bad, .bad, .bad, .bad, .bad, .bad, .bad, .bad, .bad, .bad, .bad, .bad, .bad, .bad, .bad, .bad, .bad, .bad, .bad, .bad, .bad], bx := [], live := 0, g := [] }
def s70_4x7 : St := { t := [.bad, .bad, (.v .bool (false)), .bad, .bad, .bad, .bad, .bad, .bad, .bad, .bad, .bad, .bad, .bad, .bad, .bad, .bad, .bad, .bad, .bad, .bad, .bad, .bad, .bad, .bad, .bad, .bad, .bad, .bad, .bad, .bad, .bad, .bad, .bad, .bad], bx := [none, none, none, none, none, none, none, none, none, none, none, none, none, none, none, none, none, none, none, none, none, none, none, none, none, none, none, none, none, none], live := 0, g := [] }
def s70_4x8 : St := { t := [.bad, .bad, .bad, .bad, .bad, .bad, .bad, .bad, .bad, .bad, .bad, .bad, .bad, .bad, .bad, .bad, .bad, .bad, .bad, .bad, .bad, .bad, .bad, .bad, .bad, .bad, .bad, .bad, .bad, .bad, .bad, .bad, .bad, .bad, .bad], bx := [none, none, none, none], live := 0, g := [] }
theorem s70_4_l {R : Type} (K : AEx → St → Option R) (a0 : (List En)) (x1 : Int) : LP B call inl 70 (m + 1) [1, 0, 1] (s70_4 a0 x1) K = (bif decide (x1 < (↑(List.length a0) : Int)) then (if (0 : Int) ≤ x1 ∧ x1 < (↑(List.length a0) : Int) then ((call 96 [(.agg [(.v .str ((List.getD a0 x1.toNat (((ByteArray.mk #[]), (0 : Int), (0 : Int), ()), (ByteArray.mk #[]), ())).fst.fst)), (.v (.int .i64) ((List.getD a0 x1.toNat (((ByteArray.mk #[]), (0 : Int), (0 : Int), ()), (ByteArray.mk #[]), ())).fst.snd.fst)), (.v (.int .i64) ((List.getD a0 x1.toNat (((ByteArray.mk #[]), (0 : Int), (0 : Int), ()), (ByteArray.mk #[]), ())).fst.snd.snd.fst)), (.v .str ((List.getD a0 x1.toNat (((ByteArray.mk #[]), (0 : Int), (0 : Int), ()), (ByteArray.mk #[]), ())).snd.fst))])]).bind fun (v5 : Bool) => bif (!v5) == false then (bif decide (x1 > (0 : Int)) == true then (if (0 : Int) ≤ IntKind.i64.wrap (x1 - (1 : Int)) ∧ IntKind.i64.wrap (x1 - (1 : Int)) < (↑(List.length a0) : Int) then (if (0 : Int) ≤ x1 ∧ x1 < (↑(List.length a0) : Int) then ((call 81 [(.agg [(.v .str ((List.getD a0 (IntKind.i64.wrap (x1 - (1 : Int))).toNat (((ByteArray.mk #[]), (0 : Int), (0 : Int), ()), (ByteArray.mk #[]), ())).fst.fst)), (.v (.int .i64) ((List.getD a0 (IntKind.i64.wrap (x1 - (1 : Int))).toNat (((ByteArray.mk #[]), (0 : Int), (0 : Int), ()), (ByteArray.mk #[]), ())).fst.snd.fst)), (.v (.int .i64) ((List.getD a0 (IntKind.i64.wrap (x1 - (1 : Int))).toNat (((ByteArray.mk #[]), (0 : Int), (0 : Int), ()), (ByteArray.mk #[]), ())).fst.snd.snd.fst))]), (.agg [(.v .str ((List.getD a0 x1.toNat (((ByteArray.mk #[]), (0 : Int), (0 : Int), ()), (ByteArray.mk #[]), ())).fst.fst)), (.v (.int .i64) ((List.getD a0 x1.toNat (((ByteArray.mk #[]), (0 : Int), (0 : Int), ()), (ByteArray.mk #[]), ())).fst.snd.fst)), (.v (.int .i64) ((List.getD a0 x1.toNat (((ByteArray.mk #[]), (0 : Int), (0 : Int), ()), (ByteArray.mk #[]), ())).fst.snd.snd.fst))])]).bind fun (v6 : Int) => bif decide (v6 ≥ (0 : Int)) then (K .ret (s70_4x7 )) else (LP B call inl 70 m [1, 0, 1] (s70_4 a0 (IntKind.i64.wrap (x1 + (1 : Int)))) K)) else (none)) else (none)) else (LP B call inl 70 m [1, 0, 1] (s70_4 a0 (IntKind.i64.wrap (x1 + (1 : Int)))) K)) else (K .ret (s70_4x7 ))) else (none)) else (K (.exit 0) (s70_4x8 ))) := by kernel_rfl
theorem s70_4x7_k : (KA B call inl 70 m [1, 0, 1] (FI B call inl 70)) .ret (s70_4x7 ) = (some (false)) := by kernel_rfl
theorem s70_4x8_k : (KA B call inl 70 m [1, 0, 1] (FI B call inl 70)) (.exit 0) (s70_4x8 ) = (some (true)) := by kernel_rfl
theorem t70 (a0 : (List En)) : stepN B call inl m 70 [argAV (.sl EntryT) a0] = (LP B call inl 70 m [1, 0, 1] (s70_4 a0 ((0 : Int))) (KA B call inl 70 m [1, 0, 1] (FI B call inl 70)) : Option Bool) := by kernel_rfl
/-! function 71 -/
def s71_3 (x0 : (List Int)) (x1 : Int) (x2 : Int) : St := { t := [.bad, .bad, .bad, .bad, .nilS, (.own 0 5 (.int .u8) (x0)), (.v (.int .u64) (x1)), (.v (.int .i64) (x2)), .bad, .bad, .bad, .bad, .bad, .bad, .bad, .bad, .bad, .bad, .bad, .bad, .bad, .bad, .bad, .bad, .bad, .bad, .bad, .bad, .bad, .bad, .bad, (.raw undef)], bx := [none], live := 1, g := [] }
def s71_3x4 (x0 : (List Int)) : St := { t := [.bad, .bad, .bad, .bad, .nilS, (.own 0 5 (.int .u8) (x0)), .bad, .bad, .bad, .bad, .bad, .bad, .bad, .bad, .bad, .bad, .bad, .bad, .bad, .bad, .bad, .bad, .bad, .bad, .bad, .bad, .bad, .bad, .bad, .bad, .bad, (.raw undef)], bx := [none, none, none], live := 1, g := [] }
theorem s71_3_l {R : Type} (K : AEx → St → Option R) (x0 : (List Int)) (x1 : Int) (x2 : Int) : LP B call inl 71 (m + 1) [1, 1, 1, 1, 0, 1] (s71_3 x0 x1 x2) K = (bif decide (x2 ≥ (0 : Int)) then (if (0 : Int) ≤ x2 ∧ x2 < (↑x0.length : Int) then (LP B call inl 71 m [1, 1, 1, 1, 0, 1] (s71_3 (x0.set x2.toNat (IntKind.u8.wrap x1)) (x1.fdiv ((2 : Int) ^ Min.min (Int.toNat (8 : Int)) IntKind.u64.bits)) (IntKind.i64.wrap (x2 - (1 : Int)))) K) else (none)) else (K (.exit 0) (s71_3x4 x0))) := by kernel_rfl
theorem s71_3x4_k (x0 : (List Int)) : (KA B call inl 71 m [1, 1, 1, 1, 0, 1] (FI B call inl 71)) (.exit 0) (s71_3x4 x0) = (some (x0)) := by kernel_rfl
theorem t71 (a0 : Int) (a1 : Int) : stepN B call inl m 71 [argAV (.int .i64) a0, argAV (.int .i64) a1] = (bif decide (a1 < (1 : Int)) == false then (bif decide (a1 > (8 : Int)) then (some ([])) else (if (0 : Int) ≤ a1 ∧ a1 = a1 ∧ a1 * (↑(1 : Nat) : Int) ≤ (↑(140737488355328) : Int) then (LP B call inl 71 m [1, 1, 1, 1, 0, 1] (s71_3 (List.replicate (Int.toNat a1) (0 : Int)) (IntKind.u64.wrap a0) (IntKind.i64.wrap (a1 - (1 : Int)))) (KA B call inl 71 m [1, 1, 1, 1, 0, 1] (FI B call inl 71))) else (none))) else (some ([])) : Option (List Int)) := by kernel_rfl
/-! function 72 -/
def s72_1 (a0 : ByteArray) (a1 : ByteArray) (x0 : Int) : St := { t := [(.v .str (a0)), (.v .str (a1)), .bad, .bad, (.v (.int .i64) ((0 : Int))), (.v (.int .i64) (x0)), .bad, .bad, .bad, .bad, .bad, .bad, .bad, .bad, .bad, .bad, .bad, .bad, .bad, .bad, .bad, .bad, .bad, .bad, .bad, .bad, .bad, (.raw undef)], bx := [], live := 0, g := [] }
def s72_1x2 (x0 : Int) : St := { t := [.bad, .bad, .bad, .bad, (.v (.int .i64) ((0 : Int))), (.v (.int .i64) (x0)), .bad, .bad, .bad, .bad, .bad, .bad, .bad, .bad, .bad, .bad, .bad, .bad, .bad, .bad, .bad, .bad, .bad, .bad, .bad, .bad, .bad, (.raw undef)], bx := [none, none, none, none, none, none, none, none, none, none, none, none, none, none, none, none, none, none, none], live := 0, g := [] }
theorem s72_1_l {R : Type} (K : AEx → St → Option R) (a0 : ByteArray) (a1 : ByteArray) (x0 : Int) : LP B call inl 72 (m + 1) [1, 1, 0] (s72_1 a0 a1 x0) K = (bif decide (x0 < (↑(ByteArray.size a0) : Int)) == true then (bif decide (x0 < (↑(ByteArray.size a1) : Int)) == true then (if (0 : Int) ≤ x0 ∧ x0 < (↑(ByteArray.size a0) : Int) then (if (0 : Int) ≤ x0 ∧ x0 < (↑(ByteArray.size a1) : Int) then (bif byteAt a0 x0 == byteAt a1 x0 then (LP B call inl 72 m [1, 1, 0] (s72_1 a0 a1 (IntKind.i64.wrap (x0 + (1 : Int)))) K) else (K (.exit 0) (s72_1x2 x0))) else (none)) else (none)) else (K (.exit 0) (s72_1x2 x0))) else (K (.exit 0) (s72_1x2 x0))) := by kernel_rfl
theorem s72_1x2_k (x0 : Int) : (KA B call inl 72 m [1, 1, 0] (FI B call inl 72)) (.exit 0) (s72_1x2 x0) = (some (x0)) := by kernel_rfl
theorem t72 (a0 : ByteArray) (a1 : ByteArray) : stepN B call inl m 72 [argAV .str a0, argAV .str a1] = (LP B call inl 72 m [1, 1, 0] (s72_1 a0 a1 ((0 : Int))) (KA B call inl 72 m [1, 1, 0] (FI B call inl 72)) : Option Int) := by kernel_rfl
/-! function 73 -/
def s73_2 (x0 : Int) (x1 : (List Int)) : St := { t := [(.v (.int .i64) (x0)), .bad, .nilS, (.own 0 5 (.int .u8) (x1)), .bad, .bad, .bad, .bad, .bad, .bad, .bad, .bad, .bad, .bad, .bad, .bad, .bad, (.raw undef), (.raw undef), (.raw undef), (.raw undef), (.raw undef)], bx := [none], live := 1, g := [] }
def s73_2x3 (x0 : Int) (x1 : (List Int)) : St := { t := [(.v (.int .i64) (x0)), .bad, .nilS, (.own 0 5 (.int .u8) (x1)), .bad, .bad, .bad, .bad, .bad, .bad, .bad, .bad, .bad, .bad, .bad, .bad, .bad, (.raw undef), (.raw undef), (.raw undef), (.raw undef), (.raw undef)], bx := [none, none, none], live := 1, g := [] }
theorem s73_2_l {R : Type} (K : AEx → St → Option R) (x0 : Int) (x1 : (List Int)) : LP B call inl 73 (m + 1) [1, 1, 1, 0] (s73_2 x0 x1) K = (bif decide (x0 ≥ (128 : Int)) then (if (x1.length + [IntKind.u8.wrap (IntKind.i64.wrap ((128 : Int) + Int.tmod x0 (128 : Int)))].length) * (1 : Nat) ≤ 140737488355328 then (LP B call inl 73 m [1, 1, 1, 0] (s73_2 (IntKind.i64.wrap (Int.tdiv x0 (128 : Int))) (x1 ++ [IntKind.u8.wrap (IntKind.i64.wrap ((128 : Int) + Int.tmod x0 (128 : Int)))])) K) else (none)) else (K (.exit 0) (s73_2x3 x0 x1))) := by kernel_rfl
theorem s73_2x3_k (x0 : Int) (x1 : (List Int)) : (KA B call inl 73 m [1, 1, 1, 0] (FI B call inl 73)) (.exit 0) (s73_2x3 x0 x1) = (if (x1.length + [IntKind.u8.wrap x0].length) * (1 : Nat) ≤ 140737488355328 then (some (x1 ++ [IntKind.u8.wrap x0])) else (none)) := by kernel_rfl
theorem t73 (a0 : Int) : stepN B call inl m 73 [argAV (.int .i64) a0] = (bif decide (a0 < (0 : Int)) then (some ([])) else (LP B call inl 73 m [1, 1, 1, 0] (s73_2 (a0) ([])) (KA B call inl 73 m [1, 1, 1, 0] (FI B call inl 73))) : Option (List Int)) := by kernel_rfl
/-! function 74 -/
theorem t74 (a0 : ByteArray) : stepN B call inl m 74 [argAV .str a0] = ((call 73 [(.v (.int .i64) ((↑(ByteArray.size a0) : Int)))]).bind fun (v0 : (List Int)) => if (List.length v0 + ByteArray.size a0) * (1 : Nat) ≤ 140737488355328 then (some (v0 ++ bytesOf a0)) else (none) : Option (List Int)) := by kernel_rfl
/-! function 75 -/
def s75_2 (a0 : (List Int)) (a1 : Int) (a2 : Int) (x0 : Int) (x1 : Int) : St := { t := [(.v (.sl (.int .u8)) (a0)), (.v (.int .i64) (a1)), (.v (.int .i64) (a2)), .bad, .bad, .bad, (.v (.int .i64) ((0 : Int))), (.v .bool (false)), (.v (.int .i64) (x0)), (.v (.int .i64) (x1)), .bad, .bad, .bad, .bad, .bad, .bad, .bad, .bad, .bad, .bad, .bad, .bad, .bad, .bad, .bad, .bad, .bad, .bad, .bad, .bad, .bad, .bad, .bad, .bad, .bad, .bad, .bad, .bad, .bad, .bad, .bad, .bad, .bad, (.raw undef)], bx := [], live := 0, g := [] }
def s75_2x3 (x0 : Int) : St := { t := [.bad, .bad, .bad, .bad, .bad, .bad, (.v (.int .i64) ((0 : Int))), (.v .bool (false)), (.v (.int .i64) (x0)), .bad, .bad, .bad, .bad, .bad, .bad, .bad, .bad, .bad, .bad, .bad, .bad, .bad, .bad, .bad, .bad, .bad, .bad, .bad, .bad, .bad, .bad, .bad, .bad, .bad, .bad, .bad, .bad, .bad, .bad, .bad, .bad, .bad, .bad, (.raw undef)], bx := [none, none, none], live := 0, g := [] }
theorem s75_2_l {R : Type} (K : AEx → St → Option R) (a0 : (List Int)) (a1 : Int) (a2 : Int) (x0 : Int) (x1 : Int) : LP B call inl 75 (m + 1) [1, 1, 1, 0, 1] (s75_2 a0 a1 a2 x0 x1) K = (bif decide (x1 < a2) then (if (0 : Int) ≤ IntKind.i64.wrap (a1 + x1) ∧ IntKind.i64.wrap (a1 + x1) < (↑(List.length a0) : Int) then (LP B call inl 75 m [1, 1, 1, 0, 1] (s75_2 a0 a1 a2 (IntKind.i64.wrap (IntKind.i64.wrap ((256 : Int) * x0) + IntKind.i64.wrap (List.getD a0 (IntKind.i64.wrap (a1 + x1)).toNat (0 : Int)))) (IntKind.i64.wrap (x1 + (1 : Int)))) K) else (none)) else (K (.exit 0) (s75_2x3 x0))) := by kernel_rfl
theorem s75_2x3_k (x0 : Int) : (KA B call inl 75 m [1, 1, 1, 0, 1] (FI B call inl 75)) (.exit 0) (s75_2x3 x0) = (some ((x0, true, ()))) := by kernel_rfl
theorem t75 (a0 : (List Int)) (a1 : Int) (a2 : Int) : stepN B call inl m 75 [argAV (.sl (.int .u8)) a0, argAV (.int .i64) a1, argAV (.int .i64) a2] = (bif decide (a2 < (1 : Int)) == false then (bif decide (a2 > (7 : Int)) == false then (bif decide (a1 < (0 : Int)) == false then (bif decide (a1 > IntKind.i64.wrap ((↑(List.length a0) : Int) - a2)) then (some (((0 : Int), false, ()))) else (LP B call inl 75 m [1, 1, 1, 0, 1] (s75_2 a0 a1 a2 ((0 : Int)) ((0 : Int))) (KA B call inl 75 m [1, 1, 1, 0, 1] (FI B call inl 75)))) else (some (((0 : Int), false, ())))) else (some (((0 : Int), false, ())))) else (some (((0 : Int), false, ()))) : Option (Int × Bool × Unit)) := by kernel_rfl
/-! function 76 -/
def s76_2 (a0 : (List Int)) (a1 : Int) (x0 : Int) (x1 : Int) : St := { t := [(.v (.sl (.int .u8)) (a0)), (.v (.int .i64) (a1)), .bad, .bad, .bad, .bad, .bad, (.v (.int .i64) (x0)), (.v (.int .i64) (x1)), .bad, .bad, .bad, .bad, .bad, .bad, .bad, .bad, .bad, .bad, .bad, .bad, .bad, .bad, .bad, .bad, .bad, .bad, .bad, .bad, .bad, .bad, .bad, .bad, .bad, .bad, .bad, .bad, .bad, .bad, .bad, .bad, .bad, .bad, .bad, .bad, .bad, .bad, .bad, .bad, .bad, .bad, .bad, .bad, .bad, .bad, .bad, .bad, .bad], bx := [], live := 0, g := [] }
def s76_2x3 : St := { t := [.bad, .bad, .bad, .bad, (.v (.int .i64) ((0 : Int))), (.v (.int .i64) ((0 : Int))), (.v .bool (false)), .bad, .bad, .bad, .bad, .bad, .bad, .bad, .bad, .bad, .bad, .bad, .bad, .bad, .bad, .bad, .bad, .bad, .bad, .bad, .bad, .bad, .bad, .bad, .bad, .bad, .bad, .bad, .bad, .bad, .bad, .bad, .bad, .bad, .bad, .bad, .bad, .bad, .bad, .bad, .bad, .bad, .bad, .bad, .bad, .bad, .bad, .bad, .bad, .bad, .bad, .bad], bx := [none, none, none, none, none, none, none, none, none, none, none, none, none, none, none, none, none, none, none, none, none, none, none, none, none, none, none, none, none, none, none, none, none, none, none, none, none, none], live := 0, g := [] }
def s76_2x4 (a0 : (List Int)) (a1 : Int) (x0 : Int) (x1 : Int) : St := { t := [.bad, .bad, .bad, .bad, (.v (.int .i64) (IntKind.i64.wrap (↑(BitVec.ofInt IntKind.i64.bits x0 ||| BitVec.ofInt IntKind.i64.bits (IntKind.i64.wrap ((IntKind.i64.wrap (List.getD a0 (IntKind.i64.wrap (a1 + x1)).toNat (0 : Int))).tmod (128 : Int) * (2 : Int) ^ Min.min (IntKind.u64.wrap (IntKind.i64.wrap ((7 : Int) * x1))).toNat IntKind.i64.bits))).toNat : Int))), (.v (.int .i64) (IntKind.i64.wrap (IntKind.i64.wrap (a1 + x1) + (1 : Int)))), (.v .bool (true)), .bad, .bad, .bad, .bad, .bad, .bad, .bad, .bad, .bad, .bad, .bad, .bad, .bad, .bad, .bad, .bad, .bad, .bad, .bad, .bad, .bad, .bad, .bad, .bad, .bad, .bad, .bad, .bad, .bad, .bad, .bad, .bad, .bad, .bad, .bad, .bad, .bad, .bad, .bad, .bad, .bad, .bad, .bad, .bad, .bad, .bad, .bad, .bad, .bad, .bad, .bad], bx := [none, none, none, none, none, none, none, none, none, none, none, none, none, none, none, none, none, none, none, none, none, none, none, none, none, none, none, none, none, none, none, none, none, none, none, none, none, none, none, none, none, none, none], live := 0, g := [] }
def s76_2x5 : St := { t := [.bad, .bad, .bad, .bad, .bad, .bad, .bad, .bad, .bad, .bad, .bad, .bad, .bad, .bad, .bad, .bad, .bad, .bad, .bad, .bad, .bad, .bad, .bad, .bad, .bad, .bad, .bad, .bad, .bad, .bad, .bad, .bad, .bad, .bad, .bad, .bad, .bad, .bad, .bad, .bad, .bad, .bad, .bad, .bad, .bad, .bad, .bad, .bad, .bad, .bad, .bad, .bad, .bad, .bad, .bad, .bad, .bad, .bad], bx := [none, none, none, none, none, none, none, none, none, none], live := 0, g := [] }
theorem s76_2_l {R : Type} (K : AEx → St → Option R) (a0 : (List Int)) (a1 : Int) (x0 : Int) (x1 : Int) : LP B call inl 76 (m + 1) [1, 1, 1, 0, 1] (s76_2 a0 a1 x0 x1) K = (bif decide (x1 < (9 : Int)) == true then (bif decide (x1 < IntKind.i64.wrap ((↑(List.length a0) : Int) - a1)) then (if (0 : Int) ≤ IntKind.i64.wrap (a1 + x1) ∧ IntKind.i64.wrap (a1 + x1) < (↑(List.length a0) : Int) then (if IntKind.u64.wrap (IntKind.i64.wrap ((7 : Int) * x1)) < (0 : Int) then (none) else (bif decide (IntKind.i64.wrap (List.getD a0 (IntKind.i64.wrap (a1 + x1)).toNat (0 : Int)) ≥ (128 : Int)) then (LP B call inl 76 m [1, 1, 1, 0, 1] (s76_2 a0 a1 (IntKind.i64.wrap (↑(BitVec.ofInt IntKind.i64.bits x0 ||| BitVec.ofInt IntKind.i64.bits (IntKind.i64.wrap ((IntKind.i64.wrap (List.getD a0 (IntKind.i64.wrap (a1 + x1)).toNat (0 : Int))).tmod (128 : Int) * (2 : Int) ^ Min.min (IntKind.u64.wrap (IntKind.i64.wrap ((7 : Int) * x1))).toNat IntKind.i64.bits))).toNat : Int)) (IntKind.i64.wrap (x1 + (1 : Int)))) K) else (bif (IntKind.i64.wrap (List.getD a0 (IntKind.i64.wrap (a1 + x1)).toNat (0 : Int)) == (0 : Int)) == true then (bif decide (x1 > (0 : Int)) then (K .ret (s76_2x3 )) else (K .ret (s76_2x4 a0 a1 x0 x1))) else (K .ret (s76_2x4 a0 a1 x0 x1))))) else (none)) else (K (.exit 0) (s76_2x5 ))) else (K (.exit 0) (s76_2x5 ))) := by kernel_rfl
theorem s76_2x3_k : (KA B call inl 76 m [1, 1, 1, 0, 1] (FI B call inl 76)) .ret (s76_2x3 ) = (some (((0 : Int), (0 : Int), false, ()))) := by kernel_rfl
theorem s76_2x4_k (a0 : (List Int)) (a1 : Int) (x0 : Int) (x1 : Int) : (KA B call inl 76 m [1, 1, 1, 0, 1] (FI B call inl 76)) .ret (s76_2x4 a0 a1 x0 x1) = (some ((IntKind.i64.wrap (↑(BitVec.ofInt IntKind.i64.bits x0 ||| BitVec.ofInt IntKind.i64.bits (IntKind.i64.wrap ((IntKind.i64.wrap (List.getD a0 (IntKind.i64.wrap (a1 + x1)).toNat (0 : Int))).tmod (128 : Int) * (2 : Int) ^ Min.min (IntKind.u64.wrap (IntKind.i64.wrap ((7 : Int) * x1))).toNat IntKind.i64.bits))).toNat : Int), IntKind.i64.wrap (IntKind.i64.wrap (a1 + x1) + (1 : Int)), true, ()))) := by kernel_rfl
theorem s76_2x5_k : (KA B call inl 76 m [1, 1, 1, 0, 1] (FI B call inl 76)) (.exit 0) (s76_2x5 ) = (some (((0 : Int), (0 : Int), false, ()))) := by kernel_rfl
theorem t76 (a0 : (List Int)) (a1 : Int) : stepN B call inl m 76 [argAV (.sl (.int .u8)) a0, argAV (.int .i64) a1] = (bif decide (a1 < (0 : Int)) == false then (bif decide (a1 ≥ (↑(List.length a0) : Int)) then (some (((0 : Int), (0 : Int), false, ()))) else (LP B call inl 76 m [1, 1, 1, 0, 1] (s76_2 a0 a1 ((0 : Int)) ((0 : Int))) (KA B call inl 76 m [1, 1, 1, 0, 1] (FI B call inl 76)))) else (some (((0 : Int), (0 : Int), false, ()))) : Option (Int × Int × Bool × Unit)) := by kernel_rfl
/-! function 77 -/
theorem t77 (a0 : (List Int)) (a1 : Int) : stepN B call inl m 77 [argAV (.sl (.int .u8)) a0, argAV (.int .i64) a1] = ((call 76 [(.v (.sl (.int .u8)) (a0)), (.v (.int .i64) (a1))]).bind fun (v0 : (Int × Int × Bool × Unit)) => bif (!v0.snd.snd.fst) == false then (bif decide (v0.fst > IntKind.i64.wrap ((↑(List.length a0) : Int) - v0.snd.fst)) then (some (((ByteArray.mk #[]), (0 : Int), false, ()))) else (if (0 : Int) ≤ v0.snd.fst ∧ v0.snd.fst ≤ IntKind.i64.wrap (v0.snd.fst + v0.fst) ∧ IntKind.i64.wrap (v0.snd.fst + v0.fst) ≤ (↑(List.length a0) : Int) then (some ((strOf (List.drop (Int.toNat v0.snd.fst) (List.take (IntKind.i64.wrap (v0.snd.fst + v0.fst)).toNat a0)), IntKind.i64.wrap (v0.snd.fst + v0.fst), true, ()))) else (none))) else (some (((ByteArray.mk #[]), (0 : Int), false, ()))) : Option (ByteArray × Int × Bool × Unit)) := by kernel_rfl
/-! function 81 -/
theorem t81 (a0 : Ke) (a1 : Ke) : stepN B call inl m 81 [argAV KeyT a0, argAV KeyT a1] = (bif !ByteArray.toList a0.fst == ByteArray.toList a1.fst then (bif Op.bytesLess (ByteArray.toList a0.fst) (ByteArray.toList a1.fst) then (some ((-1 : Int))) else (some ((1 : Int)))) else (bif a0.snd.fst != a1.snd.fst then (bif decide (a0.snd.fst > a1.snd.fst) then (some ((-1 : Int))) else (some ((1 : Int)))) else (bif a0.snd.snd.fst != a1.snd.snd.fst then (bif decide (a0.snd.snd.fst > a1.snd.snd.fst) then (some ((-1 : Int))) else (some ((1 : Int)))) else (some ((0 : Int))))) : Option Int) := by kernel_rfl
/-! function 96 -/
theorem t96 (a0 : En) : stepN B call inl m 96 [argAV EntryT a0] = ((call 114 [(.agg [(.v .str (a0.fst.fst)), (.v (.int .i64) (a0.fst.snd.fst)), (.v (.int .i64) (a0.fst.snd.snd.fst))])]).bind fun (v0 : Bool) => bif v0 == true then (bif decide ((↑(ByteArray.size a0.snd.fst) : Int) ≤ (512 : Int)) == true then (bif (a0.fst.snd.snd.fst == (1 : Int)) == false then (some (ByteArray.toList a0.snd.fst == (ByteArray.mk #[]).toList)) else (some (true))) else (some (false))) else (some (false)) : Option Bool) := by kernel_rfl
/-! function 114 -/
theorem t114 (a0 : Ke) : stepN B call inl m 114 [argAV KeyT a0] = (bif decide ((↑(ByteArray.size a0.fst) : Int) ≤ (64 : Int)) == true then ((call 122 [(.v (.int .i64) (a0.snd.fst))]).bind fun (v0 : Bool) => bif v0 == true then (bif (a0.snd.snd.fst == (1 : Int)) == false then (some (a0.snd.snd.fst == (2 : Int))) else (some (true))) else (some (false))) else (some (false)) : Option Bool) := by kernel_rfl
/-! function 122 -/
theorem t122 (a0 : Int) : stepN B call inl m 122 [argAV (.int .i64) a0] = (bif decide (a0 ≥ (0 : Int)) == true then (some (decide (a0 ≤ (9007199254740992 : Int)))) else (some (false)) : Option Bool) := by kernel_rfl
/-! function 40 -/
def s40_3 (a0 : (List En)) (a1 : Ke) (x1 : Int) : St := { t := [(.v (.sl EntryT) (a0)), .bad, .bad, (.ptr 0 0), (.ptr 1 0), .bad, (.v (.int .i64) (x1)), .bad, .bad, .bad, .bad, .bad, .bad, .bad, .bad, .bad, .bad, .bad, .bad, .bad, .bad, .bad, .bad, .bad, .bad, (.raw undef)], bx := [(some (24, [(.v .str (a1.fst)), (.v (.int .i64) (a1.snd.fst)), (.v (.int .i64) (a1.snd.snd.fst))])), (some (26, [(.v .str ((ByteArray.mk #[]))), (.v (.int .i64) ((0 : Int))), (.v (.int .i64) ((0 : Int))), (.v .str ((ByteArray.mk #[])))]))], live := 0, g := [] }
def s40_3x5 (a0 : (List En)) (a1 : Ke) (x1 : Int) : St := { t := [.bad, .bad, .bad, .bad, (.ptr 1 0), (.v .bool (true)), .bad, .bad, .bad, .bad, .bad, .bad, .bad, .bad, .bad, .bad, .bad, .bad, .bad, .bad, .bad, .bad, .bad, .bad, .bad, (.raw undef)], bx := [(some (24, [(.v .str (a1.fst)), (.v (.int .i64) (a1.snd.fst)), (.v (.int .i64) (a1.snd.snd.fst))])), (some (26, [(.v .str ((List.getD a0 x1.toNat (((ByteArray.mk #[]), (0 : Int), (0 : Int), ()), (ByteArray.mk #[]), ())).fst.fst)), (.v (.int .i64) ((List.getD a0 x1.toNat (((ByteArray.mk #[]), (0 : Int), (0 : Int), ()), (ByteArray.mk #[]), ())).fst.snd.fst)), (.v (.int .i64) ((List.getD a0 x1.toNat (((ByteArray.mk #[]), (0 : Int), (0 : Int), ()), (ByteArray.mk #[]), ())).fst.snd.snd.fst)), (.v .str ((List.getD a0 x1.toNat (((ByteArray.mk #[]), (0 : Int), (0 : Int), ()), (ByteArray.mk #[]), ())).snd.fst))])), none, none, none, none, none, none, none, none, none, none, none, none, none, none, none, none, none, none], live := 0, g := [] }
def s40_3x6 (a1 : Ke) : St := { t := [.bad, .bad, .bad, .bad, (.ptr 1 0), .bad, .bad, .bad, .bad, .bad, .bad, .bad, .bad, .bad, .bad, .bad, .bad, .bad, .bad, .bad, .bad, .bad, .bad, .bad, .bad, (.raw undef)], bx := [(some (24, [(.v .str (a1.fst)), (.v (.int .i64) (a1.snd.fst)), (.v (.int .i64) (a1.snd.snd.fst))])), (some (26, [(.v .str ((ByteArray.mk #[]))), (.v (.int .i64) ((0 : Int))), (.v (.int .i64) ((0 : Int))), (.v .str ((ByteArray.mk #[])))])), none, none, none, none], live := 0, g := [] }
theorem s40_3_l {R : Type} (K : AEx → St → Option R) (a0 : (List En)) (a1 : Ke) (x1 : Int) : LP B call inl 40 (m + 1) [1, 0, 1] (s40_3 a0 a1 x1) K = (bif decide (x1 < (↑(List.length a0) : Int)) then (if (0 : Int) ≤ x1 ∧ x1 < (↑(List.length a0) : Int) then ((call 81 [(.agg [(.v .str ((List.getD a0 x1.toNat (((ByteArray.mk #[]), (0 : Int), (0 : Int), ()), (ByteArray.mk #[]), ())).fst.fst)), (.v (.int .i64) ((List.getD a0 x1.toNat (((ByteArray.mk #[]), (0 : Int), (0 : Int), ()), (ByteArray.mk #[]), ())).fst.snd.fst)), (.v (.int .i64) ((List.getD a0 x1.toNat (((ByteArray.mk #[]), (0 : Int), (0 : Int), ()), (ByteArray.mk #[]), ())).fst.snd.snd.fst))]), (.agg [(.v .str (a1.fst)), (.v (.int .i64) (a1.snd.fst)), (.v (.int .i64) (a1.snd.snd.fst))])]).bind fun (v4 : Int) => bif decide (v4 ≥ (0 : Int)) then (if (0 : Int) ≤ x1 ∧ x1 < (↑(List.length a0) : Int) then (K .ret (s40_3x5 a0 a1 x1)) else (none)) else (LP B call inl 40 m [1, 0, 1] (s40_3 a0 a1 (IntKind.i64.wrap (x1 + (1 : Int)))) K)) else (none)) else (K (.exit 0) (s40_3x6 a1))) := by kernel_rfl
theorem s40_3x5_k (a0 : (List En)) (a1 : Ke) (x1 : Int) : (KA B call inl 40 m [1, 0, 1] (FI B call inl 40)) .ret (s40_3x5 a0 a1 x1) = (some (((((List.getD a0 x1.toNat (((ByteArray.mk #[]), (0 : Int), (0 : Int), ()), (ByteArray.mk #[]), ())).fst.fst, (List.getD a0 x1.toNat (((ByteArray.mk #[]), (0 : Int), (0 : Int), ()), (ByteArray.mk #[]), ())).fst.snd.fst, (List.getD a0 x1.toNat (((ByteArray.mk #[]), (0 : Int), (0 : Int), ()), (ByteArray.mk #[]), ())).fst.snd.snd.fst, ()), (List.getD a0 x1.toNat (((ByteArray.mk #[]), (0 : Int), (0 : Int), ()), (ByteArray.mk #[]), ())).snd.fst, ()), true, ()))) := by kernel_rfl
theorem s40_3x6_k (a1 : Ke) : (KA B call inl 40 m [1, 0, 1] (FI B call inl 40)) (.exit 0) (s40_3x6 a1) = (some (((((ByteArray.mk #[]), (0 : Int), (0 : Int), ()), (ByteArray.mk #[]), ()), false, ()))) := by kernel_rfl
theorem t40 (a0 : (List En)) (a1 : Ke) : stepN B call inl m 40 [argAV (.sl EntryT) a0, argAV KeyT a1] = (LP B call inl 40 m [1, 0, 1] (s40_3 a0 a1 ((0 : Int))) (KA B call inl 40 m [1, 0, 1] (FI B call inl 40)) : Option (En × Bool × Unit)) := by kernel_rfl
/-! function 41 -/
def s41_1 (a0 : (List En)) (a1 : (List En)) (x0 : Int) : St := { t := [(.v (.sl EntryT) (a0)), (.v (.sl EntryT) (a1)), .bad, .bad, .bad, (.v (.int .i64) (x0)), .bad, .bad, .bad, .bad, .bad, .bad, .bad, .bad, .bad, .bad, .bad, .bad, .bad, .bad, .bad, .bad, .bad, .bad, .bad, .bad], bx := [], live := 0, g := [] }
def s41_1x2 : St := { t := [.bad, .bad, .bad, .bad, (.v .bool (false)), .bad, .bad, .bad, .bad, .bad, .bad, .bad, .bad, .bad, .bad, .bad, .bad, .bad, .bad, .bad, .bad, .bad, .bad, .bad, .bad, .bad], bx := [none, none, none, none, none, none, none, none, none, none, none, none, none, none], live := 0, g := [] }
def s41_1x3 : St := { t := [.bad, .bad, .bad, .bad, .bad, .bad, .bad, .bad, .bad, .bad, .bad, .bad, .bad, .bad, .bad, .bad, .bad, .bad, .bad, .bad, .bad, .bad, .bad, .bad, .bad, .bad], bx := [none, none, none, none], live := 0, g := [] }
theorem s41_1_l {R : Type} (K : AEx → St → Option R) (a0 : (List En)) (a1 : (List En)) (x0 : Int) : LP B call inl 41 (m + 1) [1, 1, 0, 1] (s41_1 a0 a1 x0) K = (bif decide (x0 < (↑(List.length a0) : Int)) then (if (0 : Int) ≤ x0 ∧ x0 < (↑(List.length a0) : Int) then (if (0 : Int) ≤ x0 ∧ x0 < (↑(List.length a1) : Int) then (bif !(ByteArray.toList (List.getD a0 x0.toNat (((ByteArray.mk #[]), (0 : Int), (0 : Int), ()), (ByteArray.mk #[]), ())).fst.fst == ByteArray.toList (List.getD a1 x0.toNat (((ByteArray.mk #[]), (0 : Int), (0 : Int), ()), (ByteArray.mk #[]), ())).fst.fst && ((List.getD a0 x0.toNat (((ByteArray.mk #[]), (0 : Int), (0 : Int), ()), (ByteArray.mk #[]), ())).fst.snd.fst == (List.getD a1 x0.toNat (((ByteArray.mk #[]), (0 : Int), (0 : Int), ()), (ByteArray.mk #[]), ())).fst.snd.fst && ((List.getD a0 x0.toNat (((ByteArray.mk #[]), (0 : Int), (0 : Int), ()), (ByteArray.mk #[]), ())).fst.snd.snd.fst == (List.getD a1 x0.toNat (((ByteArray.mk #[]), (0 : Int), (0 : Int), ()), (ByteArray.mk #[]), ())).fst.snd.snd.fst && ByteArray.toList (List.getD a0 x0.toNat (((ByteArray.mk #[]), (0 : Int), (0 : Int), ()), (ByteArray.mk #[]), ())).snd.fst == ByteArray.toList (List.getD a1 x0.toNat (((ByteArray.mk #[]), (0 : Int), (0 : Int), ()), (ByteArray.mk #[]), ())).snd.fst))) then (K .ret (s41_1x2 )) else (LP B call inl 41 m [1, 1, 0, 1] (s41_1 a0 a1 (IntKind.i64.wrap (x0 + (1 : Int)))) K)) else (none)) else (none)) else (K (.exit 0) (s41_1x3 ))) := by kernel_rfl
theorem s41_1x2_k : (KA B call inl 41 m [1, 1, 0, 1] (FI B call inl 41)) .ret (s41_1x2 ) = (some (false)) := by kernel_rfl
theorem s41_1x3_k : (KA B call inl 41 m [1, 1, 0, 1] (FI B call inl 41)) (.exit 0) (s41_1x3 ) = (some (true)) := by kernel_rfl
theorem t41 (a0 : (List En)) (a1 : (List En)) : stepN B call inl m 41 [argAV (.sl EntryT) a0, argAV (.sl EntryT) a1] = (bif (↑(List.length a0) : Int) != (↑(List.length a1) : Int) then (some (false)) else (LP B call inl 41 m [1, 1, 0, 1] (s41_1 a0 a1 ((0 : Int))) (KA B call inl 41 m [1, 1, 0, 1] (FI B call inl 41))) : Option Bool) := by kernel_rfl
/-! function 42 -/
def s42_2 (x0 : Int) (x1 : ByteArray) : St := { t := [(.v (.int .i64) (x0)), .bad, (.v .str ((ByteArray.mk #[]))), (.v .str (x1)), .bad, .bad, .bad, .bad, .bad, .bad, .bad, .bad, .bad, .bad, .bad, .bad, (.raw undef), (.raw undef), (.raw undef), (.raw undef), (.raw undef), (.raw undef), (.raw undef)], bx := [], live := 0, g := [] }
def s42_2x3 (x0 : Int) (x1 : ByteArray) : St := { t := [(.v (.int .i64) (x0)), .bad, (.v .str ((ByteArray.mk #[]))), (.v .str (x1)), .bad, .bad, .bad, .bad, .bad, .bad, .bad, .bad, .bad, .bad, .bad, .bad, (.raw undef), (.raw undef), (.raw undef), (.raw undef), (.raw undef), (.raw undef), (.raw undef)], bx := [none, none], live := 0, g := [] }
theorem s42_2_l {R : Type} (K : AEx → St → Option R) (x0 : Int) (x1 : ByteArray) : LP B call inl 42 (m + 1) [1, 1, 0] (s42_2 x0 x1) K = (bif decide (x0 ≥ (10 : Int)) then (if (↑((strOf [IntKind.u8.wrap (IntKind.i64.wrap ((48 : Int) + Int.tmod x0 (10 : Int)))]).size + x1.size) : Int) > IntKind.i64.max then (none) else (LP B call inl 42 m [1, 1, 0] (s42_2 (IntKind.i64.wrap (Int.tdiv x0 (10 : Int))) (strOf [IntKind.u8.wrap (IntKind.i64.wrap ((48 : Int) + Int.tmod x0 (10 : Int)))] ++ x1)) K)) else (K (.exit 0) (s42_2x3 x0 x1))) := by kernel_rfl
theorem s42_2x3_k (x0 : Int) (x1 : ByteArray) : (KA B call inl 42 m [1, 1, 0] (FI B call inl 42)) (.exit 0) (s42_2x3 x0 x1) = (if (↑((strOf [IntKind.u8.wrap (IntKind.i64.wrap ((48 : Int) + x0))]).size + x1.size) : Int) > IntKind.i64.max then (none) else (some (strOf [IntKind.u8.wrap (IntKind.i64.wrap ((48 : Int) + x0))] ++ x1))) := by kernel_rfl
theorem t42 (a0 : Int) : stepN B call inl m 42 [argAV (.int .i64) a0] = (LP B call inl 42 m [1, 1, 0] (s42_2 (a0) ((ByteArray.mk #[]))) (KA B call inl 42 m [1, 1, 0] (FI B call inl 42)) : Option ByteArray) := by kernel_rfl
end
end Go.Eng.Bk
/- What the functions of numbers, texts and keys answer. -/
namespace Go.Eng.Bk
open Go Go.Proofs Go.Eng
set_option linter.unusedVariables false
set_option linter.unusedSimpArgs false
/-! ### numbers -/
theorem l55 {call : CallT B} {inl : InlT} (m0 : Nat) (d : Nat) : ∀ (n : Nat) (out : List Int) (m : Nat), n < 128 ^ (d + 1) → out.length + d < 140737488355327 → d < m →
    LP B call inl 55 m [1, 1, 1, 0] (s55_2 (n : Int) out) (KA B call inl 55 m0 [1, 1, 1, 0] (FI B call inl 55)) = (some (out ++ enc n) : Option (List Int)) := by
  induction d with
  | zero =>
    intro n out m h ho hm
    obtain ⟨m, rfl⟩ : ∃ k, m = k + 1 := ⟨m - 1, by omega⟩
    have h1 : n < 128 := by simpa using h
    rw [s55_2_l, bF (by omega), s55_2x3_k, if_pos (by simp only [List.length_cons, List.length_nil]; omega), enc_lt h1, wu8]
    have : (n : Int) % 256 = n := by omega
    rw [this]
  | succ d ih =>
    intro n out m h ho hm
    obtain ⟨m, rfl⟩ : ∃ k, m = k + 1 := ⟨m - 1, by omega⟩
    by_cases h1 : n < 128
    · rw [s55_2_l, bF (by omega), s55_2x3_k, if_pos (by simp only [List.length_cons, List.length_nil]; omega), enc_lt h1, wu8]
      have : (n : Int) % 256 = n := by omega
      rw [this]
    · rw [s55_2_l, bT (by omega), if_pos (by simp only [List.length_cons, List.length_nil]; omega), enc_ge h1]
      have e1 : IntKind.u8.wrap (n : Int) = ((n % 256 : Nat) : Int) := by rw [wu8]; omega
      have e2 : Int.fdiv (n : Int) ((2 : Int) ^ Min.min (Int.toNat (7 : Int)) IntKind.i64.bits) = ((n / 128 : Nat) : Int) := by
        have : (2 : Int) ^ Min.min (Int.toNat (7 : Int)) IntKind.i64.bits = 128 := by decide
        rw [this, Int.fdiv_eq_ediv_of_nonneg _ (by omega)]; omega
      rw [e1, e2, or128 _ (by omega), show n % 256 % 128 = n % 128 from by omega]
      rw [ih (n / 128) _ m (by rw [Nat.pow_succ] at h; omega) (by simp only [List.length_append, List.length_cons, List.length_nil]; omega) (by omega)]
      exact congrArg some (by simp)
theorem s55 {k : Nat} (hk : 12 ≤ k) {n : Nat} (hn : n < 9223372036854775808) : callN B k 55 [.v i64 (n : Int)] = (some (enc n) : Option (List Int)) := by
  obtain ⟨k, rfl⟩ := Nat.exists_eq_add_of_le' (show 1 ≤ k by omega)
  refine (callS k 55 _).trans ((t55 (callN B k) (lvl B k).2 k (n : Int)).trans ?_)
  rw [bF (by omega)]
  exact l55 k 8 n [] k (by rw [show (128 : Nat) ^ (8 + 1) = 9223372036854775808 from by decide]; exact hn) (by simp) (by omega)
theorem s56 {k : Nat} (hk : 13 ≤ k) {s : ByteArray} (hs : s.size ≤ 70368744177664) : callN B k 56 [.v .str s] = (some (enc s.size ++ bytesOf s) : Option (List Int)) := by
  obtain ⟨k, rfl⟩ := Nat.exists_eq_add_of_le' (show 1 ≤ k by omega)
  refine (callS k 56 _).trans ((t56 (callN B k) (lvl B k).2 k s).trans ?_)
  refine bnd (s55 (by omega) (by omega)) ?_
  have := enc_length9 (n := s.size) (by omega)
  rw [if_pos (by omega)]
abbrev g3 {α β γ : Type} (x : α × β × γ) : α × β × γ × Unit := (x.1, x.2.1, x.2.2, ())
theorem l97 {call : CallT B} {inl : InlT} (m0 : Nat) {l : List Int} (hl : Bytes l) (hlen : l.length ≤ 140737488351232) (p : Nat) (d : Nat) : ∀ (i n m : Nat), i + d = 9 → n < 128 ^ i → d < m →
    LP B call inl 97 m [1, 1, 1, 0, 1] (s97_2 l (p : Int) (n : Int) (i : Int)) (KA B call inl 97 m0 [1, 1, 1, 0, 1] (FI B call inl 97)) =
      (some (match dec i n (l.drop (p + i)) with | some (v, j) => ((v : Int), (p : Int) + j, true, ()) | none => (0, 0, false, ())) : Option (Int × Int × Bool × Unit)) := by
  induction d with
  | zero =>
    intro i n m hd hn hm
    obtain ⟨m, rfl⟩ : ∃ k, m = k + 1 := ⟨m - 1, by omega⟩
    obtain rfl : i = 9 := by omega
    rw [s97_2_l, bF (by omega), s97_2x6_k]
    cases l.drop (p + 9) <;> rfl
  | succ d ih =>
    intro i n m hd hn hm
    obtain ⟨m, rfl⟩ : ∃ k, m = k + 1 := ⟨m - 1, by omega⟩
    rw [s97_2_l, bT (by omega), w64 (x := (l.length : Int) - i) (by omega) (by omega)]
    cases hd0 : l.drop (p + i) with
    | nil =>
      have : l.length ≤ p + i := by simpa using hd0
      rw [bT (by omega), s97_2x3_k]
      rfl
    | cons c t =>
      have hlt := drop_lt hd0
      have hc := hl c (by have : c ∈ l.drop (p + i) := by rw [hd0]; simp
                          exact List.mem_of_mem_drop this)
      obtain ⟨cn, rfl⟩ : ∃ m : Nat, c = m := ⟨c.toNat, by omega⟩
      have hpi : (p : Int) + (i : Int) = ((p + i : Nat) : Int) := by omega
      have h7i : (7 : Int) * (i : Int) = ((7 * i : Nat) : Int) := by omega
      have hpos : ((p + i : Nat) : Int) + 1 = (p : Int) + ((i + 1 : Nat) : Int) := by omega
      have hi1 : (i : Int) + 1 = ((i + 1 : Nat) : Int) := by omega
      have hpw : 128 ^ i ≤ 128 ^ 8 := Nat.pow_le_pow_right (by omega) (by omega)
      have hm : (cn % 128) * 128 ^ i ≤ 127 * 128 ^ i := Nat.mul_le_mul_right _ (by omega)
      have hsum : n + (cn % 128) * 2 ^ (7 * i) < 128 ^ (i + 1) := by
        rw [← pow7, Nat.pow_succ]; omega
      have h8 : (128 : Nat) ^ 8 = 72057594037927936 := by decide
      have hs2 : n + (cn % 128) * 2 ^ (7 * i) < 9223372036854775808 := by
        rw [← pow7]; omega
      have hget : ∀ x, List.getD l (IntKind.i64.wrap ((p : Int) + (i : Int))).toNat x = (cn : Int) := by
        intro x
        rw [hpi, w64 (x := ((p + i : Nat) : Int)) (by omega) (by omega), Int.toNat_natCast]
        exact getD_drop hd0 x
      have hor : ∀ x, IntKind.i64.wrap (↑(BitVec.ofInt IntKind.i64.bits (n : Int) ||| BitVec.ofInt IntKind.i64.bits (IntKind.i64.wrap (IntKind.i64.wrap (IntKind.u8.wrap (↑(BitVec.ofInt IntKind.u8.bits (List.getD l (IntKind.i64.wrap ((p : Int) + (i : Int))).toNat x) &&& BitVec.ofInt IntKind.u8.bits (127 : Int)).toNat : Int)) * (2 : Int) ^ Min.min (IntKind.i64.wrap ((7 : Int) * (i : Int))).toNat IntKind.i64.bits))).toNat : Int) = ((n + (cn % 128) * 2 ^ (7 * i) : Nat) : Int) := by
        intro x
        rw [hget x, and127 cn (by omega), h7i, w64 (x := ((7 * i : Nat) : Int)) (by omega) (by omega), w64 (x := ((cn % 128 : Nat) : Int)) (by omega) (by omega), shl_nat _ _ (by omega) (by omega), or_shift _ _ _ (by rw [← pow7]; exact hn) hs2]
      have hw1 : IntKind.i64.wrap ((p : Int) + (i : Int)) = ((p + i : Nat) : Int) := by rw [hpi]; exact w64 (by omega) (by omega)
      have hw2 : IntKind.i64.wrap ((7 : Int) * (i : Int)) = ((7 * i : Nat) : Int) := by rw [h7i]; exact w64 (by omega) (by omega)
      rw [bF (by omega), if_pos (by rw [hw1]; omega), if_neg (by rw [hw2]; omega), hor 0, hget]
      simp only [dec, Int.toNat_natCast]
      rw [if_pos (by omega : i < 9)]
      by_cases h1 : cn > 127
      · rw [bT (by omega), if_pos (by omega), w64 (x := (i : Int) + 1) (by omega) (by omega), hi1]
        rw [ih (i + 1) (n + cn % 128 * 2 ^ (7 * i)) m (by omega) hsum (by omega), show p + (i + 1) = p + i + 1 from by omega, drop_succ hd0, ← pow7]
      · have hcm : cn % 128 = cn := by omega
        rw [bF (by omega), if_neg (by omega)]
        have hret : KA B call inl 97 m0 [1, 1, 1, 0, 1] (FI B call inl 97) .ret (s97_2x5 l (p : Int) (n : Int) (i : Int)) = (some ((((n + cn * 128 ^ i : Nat) : Int), (p : Int) + ((i + 1 : Nat) : Int), true, ())) : Option (Int × Int × Bool × Unit)) := by
          rw [s97_2x5_k, hor, hw1, w64 (x := ((p + i : Nat) : Int) + 1) (by omega) (by omega), hcm, ← pow7, hpos]
        by_cases h2 : cn = 0
        · subst h2
          rw [show ((((0 : Nat) : Int) == (0 : Int)) == true) = true from rfl, cond_true]
          by_cases h3 : 0 < i
          · rw [bT (by omega), s97_2x4_k, if_pos ⟨rfl, h3⟩]
          · rw [bF (by omega), hret, if_neg (fun h => h3 h.2)]
        · have : (((cn : Int) == (0 : Int)) == true) = false := by
            have : ((cn : Int) == (0 : Int)) = false := beq_eq_false_iff_ne.2 (by omega)
            rw [this]; rfl
          rw [this, cond_false, hret, if_neg (fun h => h2 (by have := h.1; omega))]
theorem s97 {k : Nat} (hk : 12 ≤ k) {l : List Int} (hl : Bytes l) (hlen : l.length ≤ 140737488351232) (at_ : Int) : callN B k 97 [.v (.sl u8) l, .v i64 at_] = (some (g3 (getN l at_)) : Option (Int × Int × Bool × Unit)) := by
  obtain ⟨k, rfl⟩ := Nat.exists_eq_add_of_le' (show 1 ≤ k by omega)
  refine (callS k 97 _).trans ((t97 (callN B k) (lvl B k).2 k l at_).trans ?_)
  unfold getN
  by_cases h : at_ < 0
  · rw [bT h, if_pos h]
  · rw [bF h, if_neg h]
    obtain ⟨p, rfl⟩ : ∃ m : Nat, at_ = m := ⟨at_.toNat, by omega⟩
    refine (l97 k hl hlen p 9 0 0 k (by omega) (by simp) (by omega)).trans ?_
    simp only [Nat.add_zero, Int.toNat_natCast]
    cases dec 0 0 (List.drop p l) with
    | none => rfl
    | some q => rfl
theorem s98 {k : Nat} (hk : 13 ≤ k) {l : List Int} (hl : Bytes l) (hlen : l.length ≤ 140737488351232) (at_ : Int) : callN B k 98 [.v (.sl u8) l, .v i64 at_] = (some (g3 (getT l at_)) : Option (ByteArray × Int × Bool × Unit)) := by
  obtain ⟨k, rfl⟩ := Nat.exists_eq_add_of_le' (show 1 ≤ k by omega)
  refine (callS k 98 _).trans ((t98 (callN B k) (lvl B k).2 k l at_).trans ?_)
  refine bnd (s97 (by omega) hl hlen at_) ?_
  unfold getT
  rcases getN_cases hl at_ with h | ⟨p, n, j, rfl, hd, h, hn, h1, h9, hp⟩
  · rw [h]; rfl
  · rw [h]
    have hw1 : IntKind.i64.wrap ((List.length l : Int) - ((p + j : Nat) : Int)) = (List.length l : Int) - ((p + j : Nat) : Int) := w64 (by omega) (by omega)
    change (bif decide ((n : Int) > IntKind.i64.wrap ((List.length l : Int) - ((p + j : Nat) : Int))) then _ else _) = _
    rw [hw1]
    by_cases hc : (n : Int) > (l.length : Int) - ((p + j : Nat) : Int)
    · rw [bT hc]
      simp only [if_true]
      rw [if_pos hc]
    · have hw2 : IntKind.i64.wrap (((p + j : Nat) : Int) + (n : Int)) = ((p + j : Nat) : Int) + (n : Int) := w64 (by omega) (by omega)
      rw [bF hc]
      change (if (0 : Int) ≤ ((p + j : Nat) : Int) ∧ ((p + j : Nat) : Int) ≤ IntKind.i64.wrap (((p + j : Nat) : Int) + (n : Int)) ∧ IntKind.i64.wrap (((p + j : Nat) : Int) + (n : Int)) ≤ (List.length l : Int) then some (strOf (List.drop (Int.toNat ((p + j : Nat) : Int)) (List.take (IntKind.i64.wrap (((p + j : Nat) : Int) + (n : Int))).toNat l)), IntKind.i64.wrap (((p + j : Nat) : Int) + (n : Int)), true, ()) else none) = _
      rw [hw2, if_pos (by omega)]
      simp only [if_true]
      rw [if_neg hc]
/-! ### numbers in so many bytes -/
/-- So many bytes of a number, the highest one first. -/
def fx (n : Nat) : Nat → List Int
  | 0 => []
  | k + 1 => ((n / 256 ^ k % 256 : Nat) : Int) :: fx n k
theorem fx_length (n : Nat) : ∀ k, (fx n k).length = k
  | 0 => rfl
  | k + 1 => by simp [fx, fx_length n k]
theorem fx_bytes (n : Nat) : ∀ k, Bytes (fx n k)
  | 0 => Bytes.nil
  | k + 1 => fun x hx => by
    rcases List.mem_cons.1 hx with h | h
    · subst h; omega
    · exact fx_bytes n k x h
theorem set_app {α : Type} (a : List α) (b : List α) (x : α) (h : b ≠ []) : (a ++ b).set a.length x = a ++ (x :: b.tail) := by
  cases b with
  | nil => exact (h rfl).elim
  | cons y b => simp
theorem fx_app (n : Nat) (i : Nat) : ∀ k, fx n (k + 1) = (fx (n / 256) k) ++ [((n % 256 : Nat) : Int)]
  | 0 => by simp [fx]
  | k + 1 => by
    have ih := fx_app n i k
    have e1 : fx n (k + 1 + 1) = ((n / 256 ^ (k + 1) % 256 : Nat) : Int) :: fx n (k + 1) := rfl
    have e2 : fx (n / 256) (k + 1) = ((n / 256 / 256 ^ k % 256 : Nat) : Int) :: fx (n / 256) k := rfl
    rw [e1, ih, e2, Nat.div_div_eq_div_mul, show 256 * 256 ^ k = 256 ^ (k + 1) from by rw [Nat.pow_succ, Nat.mul_comm]]
    rfl
theorem l53 {call : CallT B} {inl : InlT} (m0 n z : Nat) (hz : z ≤ 8) (d : Nat) : ∀ (i m : Nat) (a : List Int), i + d = z → a.length = i → d < m →
    LP B call inl 53 m [1, 1, 1, 0, 1] (s53_2 (n : Int) (z : Int) (a ++ List.replicate d 0) (i : Int)) (KA B call inl 53 m0 [1, 1, 1, 0, 1] (FI B call inl 53)) = (some (a ++ fx n d) : Option (List Int)) := by
  induction d with
  | zero =>
    intro i m a hd ha hm
    obtain ⟨m, rfl⟩ : ∃ k, m = k + 1 := ⟨m - 1, by omega⟩
    rw [s53_2_l, bF (by omega), s53_2x3_k]
    rfl
  | succ d ih =>
    intro i m a hd ha hm
    obtain ⟨m, rfl⟩ : ∃ k, m = k + 1 := ⟨m - 1, by omega⟩
    have e1 : IntKind.i64.wrap ((8 : Int) * IntKind.i64.wrap (IntKind.i64.wrap ((z : Int) - (1 : Int)) - (i : Int))) = ((8 * d : Nat) : Int) := by
      rw [w64 (x := (z : Int) - 1) (by omega) (by omega), w64 (x := (z : Int) - 1 - (i : Int)) (by omega) (by omega), w64 (by omega) (by omega)]
      omega
    have e2 : IntKind.i64.wrap ((i : Int) + (1 : Int)) = ((i + 1 : Nat) : Int) := w64 (by omega) (by omega)
    rw [s53_2_l, bT (by omega), e1, if_neg (by omega), if_pos (by simp only [List.length_append, List.length_replicate]; omega), e2]
    have e3 : IntKind.u8.wrap (Int.fdiv (n : Int) ((2 : Int) ^ Min.min (Int.toNat ((8 * d : Nat) : Int)) IntKind.i64.bits)) = ((n / 256 ^ d % 256 : Nat) : Int) := by
      have hb : IntKind.i64.bits = 64 := rfl
      rw [hb, Int.toNat_natCast, Nat.min_eq_left (by omega), wu8, Int.fdiv_eq_ediv_of_nonneg _ (by exact Int.pow_nonneg (by omega))]
      have : (2 : Int) ^ (8 * d) = ((256 ^ d : Nat) : Int) := by rw [Int.pow_mul, Int.natCast_pow, show (2 : Int) ^ 8 = ((256 : Nat) : Int) from by decide]
      rw [this]
      omega
    rw [e3, Int.toNat_natCast]
    have e4 : (a ++ List.replicate (d + 1) (0 : Int)).set i ((n / 256 ^ d % 256 : Nat) : Int) = (a ++ [((n / 256 ^ d % 256 : Nat) : Int)]) ++ List.replicate d 0 := by
      rw [← ha, set_app _ _ _ (by rw [List.replicate_succ]; exact List.cons_ne_nil _ _), List.replicate_succ, List.tail_cons, List.append_assoc]
      rfl
    rw [e4]
    refine (ih (i + 1) m _ (by omega) (by simp [ha]) (by omega)).trans ?_
    exact congrArg some (by simp [fx])
theorem s53 {k : Nat} (hk : 10 ≤ k) (n z : Nat) (h1 : 1 ≤ z) (h8 : z ≤ 8) : callN B k 53 [.v i64 (n : Int), .v i64 (z : Int)] = (some (fx n z) : Option (List Int)) := by
  obtain ⟨k, rfl⟩ := Nat.exists_eq_add_of_le' (show 1 ≤ k by omega)
  refine (callS k 53 _).trans ((t53 (callN B k) (lvl B k).2 k (n : Int) (z : Int)).trans ?_)
  rw [decide_eq_false (show ¬ ((z : Int) < 1) by omega), beq_self_eq_true, cond_true, bF (by omega), if_pos (by omega)]
  have := l53 (call := callN B k) (inl := (lvl B k).2) k n z h8 z 0 k [] (by omega) rfl (by omega)
  exact this
theorem l71 {call : CallT B} {inl : InlT} (m0 : Nat) (d : Nat) : ∀ (n m : Nat) (b : List Int), d < 9 → d < m → n < 18446744073709551616 →
    LP B call inl 71 m [1, 1, 1, 1, 0, 1] (s71_3 (List.replicate d 0 ++ b) (n : Int) ((d : Int) - 1)) (KA B call inl 71 m0 [1, 1, 1, 1, 0, 1] (FI B call inl 71)) = (some (fx n d ++ b) : Option (List Int)) := by
  induction d with
  | zero =>
    intro n m b hd hm hn
    obtain ⟨m, rfl⟩ : ∃ k, m = k + 1 := ⟨m - 1, by omega⟩
    rw [s71_3_l, bF (by omega), s71_3x4_k]
    rfl
  | succ d ih =>
    intro n m b hd hm hn
    obtain ⟨m, rfl⟩ : ∃ k, m = k + 1 := ⟨m - 1, by omega⟩
    have e0 : (((d + 1 : Nat) : Int) - 1) = (d : Int) := by omega
    rw [e0, s71_3_l, bT (by omega), if_pos (by simp only [List.length_append, List.length_replicate]; omega), w64 (x := (d : Int) - 1) (by omega) (by omega), wu8, Int.toNat_natCast]
    have e3 : Int.fdiv (n : Int) ((2 : Int) ^ Min.min (Int.toNat (8 : Int)) IntKind.u64.bits) = ((n / 256 : Nat) : Int) := by
      have : (2 : Int) ^ Min.min (Int.toNat (8 : Int)) IntKind.u64.bits = 256 := by decide
      rw [this, Int.fdiv_eq_ediv_of_nonneg _ (by omega)]; omega
    have e4 : (List.replicate (d + 1) (0 : Int) ++ b).set d ((n : Int) % 256) = List.replicate d 0 ++ (((n % 256 : Nat) : Int) :: b) := by
      have : List.replicate (d + 1) (0 : Int) ++ b = List.replicate d 0 ++ (0 :: b) := by rw [List.replicate_succ']; simp
      rw [this]
      have := set_app (List.replicate d (0 : Int)) (0 :: b) ((n : Int) % 256) (by simp)
      rw [List.length_replicate] at this
      rw [this]
      simp
    rw [e3, e4]
    refine (ih (n / 256) m _ (by omega) (by omega) (by omega)).trans ?_
    exact congrArg some (by rw [fx_app n 0 d]; simp)
theorem s71 {k : Nat} (hk : 11 ≤ k) (n z : Nat) (h1 : 1 ≤ z) (h8 : z ≤ 8) (hn : n < 9223372036854775808) : callN B k 71 [.v i64 (n : Int), .v i64 (z : Int)] = (some (fx n z) : Option (List Int)) := by
  obtain ⟨k, rfl⟩ := Nat.exists_eq_add_of_le' (show 1 ≤ k by omega)
  refine (callS k 71 _).trans ((t71 (callN B k) (lvl B k).2 k (n : Int) (z : Int)).trans ?_)
  rw [decide_eq_false (show ¬ ((z : Int) < 1) by omega), beq_self_eq_true, cond_true, bF (by omega), if_pos (by omega), w64 (x := (z : Int) - 1) (by omega) (by omega)]
  have hu : IntKind.u64.wrap (n : Int) = (n : Int) := by
    have hb : IntKind.u64.bits = 64 := rfl
    have hs : IntKind.u64.signed = false := rfl
    unfold IntKind.wrap
    rw [hb, hs]
    simp
    omega
  rw [hu, Int.toNat_natCast]
  have := l71 (call := callN B k) (inl := (lvl B k).2) k z n k [] (by omega) (by omega) (by omega)
  rw [List.append_nil, List.append_nil] at this
  exact this
end Go.Eng.Bk
/- What the functions of numbers, texts and keys answer, the program's and the document's. -/
namespace Go.Eng.Bk
open Go Go.Proofs Go.Eng
set_option linter.unusedVariables false
set_option linter.unusedSimpArgs false
/-- A row of bytes as a number, the highest one first. -/
def bval : Nat → List Int → Nat
  | a, [] => a
  | a, c :: t => bval (a * 256 + c.toNat) t
theorem bval_lt : ∀ (l : List Int) (a k : Nat), Bytes l → a < 256 ^ k → bval a l < 256 ^ (k + l.length)
  | [], a, k, _, h => by simpa [bval] using h
  | c :: t, a, k, hb, h => by
    have hc := hb c (by simp)
    simp only [bval, List.length_cons]
    have := bval_lt t (a * 256 + c.toNat) (k + 1) (fun x hx => hb x (by simp [hx])) (by rw [Nat.pow_succ]; omega)
    rwa [show k + 1 + t.length = k + (t.length + 1) from by omega] at this
theorem or_low (n c : Nat) (hc : c < 256) (hn : n * 256 < 9223372036854775808 - 256) : IntKind.i64.wrap (((BitVec.ofInt IntKind.i64.bits ((n * 256 : Nat) : Int) ||| BitVec.ofInt IntKind.i64.bits (c : Int)).toNat : Nat) : Int) = ((n * 256 + c : Nat) : Int) := by
  rw [BitVec.or_comm]
  have := or_shift c n 8 (by omega) (by omega)
  rw [show (2 : Nat) ^ 8 = 256 from rfl] at this
  rw [this]
  omega
theorem l67 {call : CallT B} {inl : InlT} (m0 : Nat) {l : List Int} (at_ z : Nat) {sub : List Int} (hsub : List.drop at_ (List.take (IntKind.i64.wrap ((at_ : Int) + (z : Int))).toNat l) = sub) (hb : Bytes sub) (hlen : sub.length ≤ 7) (d : Nat) :
    ∀ (i n m : Nat), i + d = sub.length → n < 256 ^ i → d < m →
    LP B call inl 67 m [1, 1, 1, 0, 1] (s67_2 l (at_ : Int) (z : Int) (n : Int) (i : Int)) (KA B call inl 67 m0 [1, 1, 1, 0, 1] (FI B call inl 67)) = (some (((bval n (sub.drop i) : Nat) : Int), true, ()) : Option (Int × Bool × Unit)) := by
  induction d with
  | zero =>
    intro i n m hd hn hm
    obtain ⟨m, rfl⟩ : ∃ k, m = k + 1 := ⟨m - 1, by omega⟩
    rw [s67_2_l]
    simp only [Int.toNat_natCast, hsub]
    rw [bF (by omega), s67_2x3_k, List.drop_of_length_le (by omega)]
    rfl
  | succ d ih =>
    intro i n m hd hn hm
    obtain ⟨m, rfl⟩ : ∃ k, m = k + 1 := ⟨m - 1, by omega⟩
    obtain ⟨c, t, hct, hc⟩ := drop_cons (l := sub) (i := i) (by omega)
    have hc' := hb c hc
    obtain ⟨cn, rfl⟩ : ∃ k : Nat, c = k := ⟨c.toNat, by omega⟩
    have hp : 256 ^ i ≤ 256 ^ 6 := Nat.pow_le_pow_right (by omega) (by omega)
    have h6 : (256 : Nat) ^ 6 = 281474976710656 := by decide
    have e2 : (n : Int) * (2 : Int) ^ Min.min (Int.toNat (8 : Int)) IntKind.i64.bits = ((n * 256 : Nat) : Int) := by
      have : (2 : Int) ^ Min.min (Int.toNat (8 : Int)) IntKind.i64.bits = 256 := by decide
      rw [this]; omega
    rw [s67_2_l]
    simp only [Int.toNat_natCast, hsub]
    rw [bT (by omega), if_pos (by omega), dgetD hct, e2, w64 (x := ((n * 256 : Nat) : Int)) (by omega) (by omega), w64 (x := (cn : Int)) (by omega) (by omega), or_low n cn (by omega) (by omega), w64 (x := (i : Int) + 1) (by omega) (by omega)]
    refine (ih (i + 1) (n * 256 + cn) m (by omega) (by rw [Nat.pow_succ]; omega) (by omega)).trans ?_
    rw [dsucc hct, hct]
    rfl
/-- The number that stands at a place, in so many bytes. -/
def gfx (l : List Int) (at_ : Int) (z : Nat) : Int × Bool × Unit := if at_ < 0 ∨ (z : Int) > (l.length : Int) - at_ then (0, false, ()) else (((bval 0 ((l.drop at_.toNat).take z) : Nat) : Int), true, ())
theorem gfx_no {l : List Int} {at_ : Int} {z : Nat} (h : at_ < 0 ∨ (z : Int) > (l.length : Int) - at_) : gfx l at_ z = (0, false, ()) := if_pos h
theorem gfx_yes {l : List Int} {p : Nat} {z : Nat} (h : p + z ≤ l.length) : gfx l (p : Int) z = (((bval 0 ((l.drop p).take z) : Nat) : Int), true, ()) := by
  unfold gfx
  rw [if_neg (by omega), Int.toNat_natCast]
theorem s67 {k : Nat} (hk : 9 ≤ k) {l : List Int} (hl : Bytes l) (hlen : l.length ≤ 140737488351232) (at_ : Int) (hat : -100 ≤ at_) (z : Nat) (h1 : 1 ≤ z) (h7 : z ≤ 7) : callN B k 67 [.v (.sl u8) l, .v i64 at_, .v i64 (z : Int)] = (some (gfx l at_ z) : Option (Int × Bool × Unit)) := by
  obtain ⟨k, rfl⟩ := Nat.exists_eq_add_of_le' (show 1 ≤ k by omega)
  refine (callS k 67 _).trans ((t67 (callN B k) (lvl B k).2 k l at_ (z : Int)).trans ?_)
  rw [decide_eq_false (show ¬ ((z : Int) < 1) by omega), beq_self_eq_true, cond_true, decide_eq_false (show ¬ ((z : Int) > 7) by omega), beq_self_eq_true, cond_true]
  by_cases h : at_ < 0
  · rw [decide_eq_true h]; exact congrArg some (gfx_no (.inl h)).symm
  · rw [decide_eq_false h, beq_self_eq_true, cond_true]
    by_cases h2 : at_ > (l.length : Int)
    · rw [decide_eq_true h2]; exact congrArg some (gfx_no (.inr (by omega))).symm
    · rw [decide_eq_false h2, beq_self_eq_true, cond_true, w64 (x := (l.length : Int) - at_) (by omega) (by omega)]
      by_cases h3 : (z : Int) > (l.length : Int) - at_
      · rw [bT h3]; exact congrArg some (gfx_no (.inr h3)).symm
      · rw [bF h3, w64 (x := at_ + (z : Int)) (by omega) (by omega), if_pos (by omega)]
        obtain ⟨p, rfl⟩ : ∃ m : Nat, at_ = m := ⟨at_.toNat, by omega⟩
        have hsub : List.drop p (List.take (IntKind.i64.wrap ((p : Int) + (z : Int))).toNat l) = (l.drop p).take z := by
          rw [w64 (by omega) (by omega), show ((p : Int) + (z : Int)).toNat = p + z from by omega, List.drop_take]
          congr 1; omega
        have hll : ((l.drop p).take z).length = z := by rw [List.length_take, List.length_drop]; omega
        have := l67 (call := callN B k) (inl := (lvl B k).2) k p z hsub ((hl.drop p).take z) (by omega) z 0 0 k (by omega) (by simp) (by omega)
        rw [List.drop_zero] at this
        exact this.trans (congrArg some (gfx_yes (by omega)).symm)
theorem l75 {call : CallT B} {inl : InlT} (m0 : Nat) {l : List Int} (hl : Bytes l) (hlen : l.length ≤ 140737488351232) (at_ z : Nat) (hz : z ≤ 7) (haz : at_ + z ≤ l.length) (d : Nat) :
    ∀ (i n m : Nat), i + d = z → n < 256 ^ i → d < m →
    LP B call inl 75 m [1, 1, 1, 0, 1] (s75_2 l (at_ : Int) (z : Int) (n : Int) (i : Int)) (KA B call inl 75 m0 [1, 1, 1, 0, 1] (FI B call inl 75)) = (some (((bval n ((l.drop (at_ + i)).take d) : Nat) : Int), true, ()) : Option (Int × Bool × Unit)) := by
  induction d with
  | zero =>
    intro i n m hd hn hm
    obtain ⟨m, rfl⟩ : ∃ k, m = k + 1 := ⟨m - 1, by omega⟩
    rw [s75_2_l, bF (by omega), s75_2x3_k, List.take_zero]
    rfl
  | succ d ih =>
    intro i n m hd hn hm
    obtain ⟨m, rfl⟩ : ∃ k, m = k + 1 := ⟨m - 1, by omega⟩
    obtain ⟨c, t, hct, hc⟩ := drop_cons (l := l) (i := at_ + i) (by omega)
    have hc' := hl c hc
    obtain ⟨cn, rfl⟩ : ∃ k : Nat, c = k := ⟨c.toNat, by omega⟩
    have hp : 256 ^ i ≤ 256 ^ 6 := Nat.pow_le_pow_right (by omega) (by omega)
    have h6 : (256 : Nat) ^ 6 = 281474976710656 := by decide
    have e1 : IntKind.i64.wrap ((at_ : Int) + (i : Int)) = ((at_ + i : Nat) : Int) := w64 (by omega) (by omega)
    rw [s75_2_l, bT (by omega), e1, if_pos (by omega), Int.toNat_natCast, dgetD hct, w64 (x := (256 : Int) * (n : Int)) (by omega) (by omega), w64 (x := (cn : Int)) (by omega) (by omega), w64 (x := (256 : Int) * (n : Int) + (cn : Int)) (by omega) (by omega), w64 (x := (i : Int) + 1) (by omega) (by omega)]
    have e2 : (256 : Int) * (n : Int) + (cn : Int) = ((n * 256 + cn : Nat) : Int) := by omega
    have e3 : (i : Int) + 1 = ((i + 1 : Nat) : Int) := by omega
    rw [e2, e3]
    refine (ih (i + 1) (n * 256 + cn) m (by omega) (by rw [Nat.pow_succ]; omega) (by omega)).trans ?_
    rw [show at_ + (i + 1) = at_ + i + 1 from by omega, dsucc hct, hct]
    rfl
theorem s75 {k : Nat} (hk : 9 ≤ k) {l : List Int} (hl : Bytes l) (hlen : l.length ≤ 140737488351232) (at_ : Int) (hat : -100 ≤ at_) (z : Nat) (h1 : 1 ≤ z) (h7 : z ≤ 7) : callN B k 75 [.v (.sl u8) l, .v i64 at_, .v i64 (z : Int)] = (some (gfx l at_ z) : Option (Int × Bool × Unit)) := by
  obtain ⟨k, rfl⟩ := Nat.exists_eq_add_of_le' (show 1 ≤ k by omega)
  refine (callS k 75 _).trans ((t75 (callN B k) (lvl B k).2 k l at_ (z : Int)).trans ?_)
  rw [decide_eq_false (show ¬ ((z : Int) < 1) by omega), beq_self_eq_true, cond_true, decide_eq_false (show ¬ ((z : Int) > 7) by omega), beq_self_eq_true, cond_true]
  by_cases h : at_ < 0
  · rw [decide_eq_true h]; exact congrArg some (gfx_no (.inl h)).symm
  · rw [decide_eq_false h, beq_self_eq_true, cond_true, w64 (x := (l.length : Int) - (z : Int)) (by omega) (by omega)]
    by_cases h3 : at_ > (l.length : Int) - (z : Int)
    · rw [bT h3]; exact congrArg some (gfx_no (.inr (by omega))).symm
    · rw [bF h3]
      obtain ⟨p, rfl⟩ : ∃ m : Nat, at_ = m := ⟨at_.toNat, by omega⟩
      have := l75 (call := callN B k) (inl := (lvl B k).2) k hl hlen p z h7 (by omega) z 0 0 k (by omega) (by simp) (by omega)
      rw [Nat.add_zero] at this
      exact this.trans (congrArg some (gfx_yes (by omega)).symm)
/-! ### the same rows -/
theorem l69 {call : CallT B} {inl : InlT} (m0 : Nat) {a b : List Int} (hab : a.length = b.length) (hlen : a.length ≤ 140737488351232) (d : Nat) : ∀ (i m : Nat), i + d = a.length → d < m →
    LP B call inl 69 m [1, 1, 0, 1] (s69_1 a b (i : Int)) (KA B call inl 69 m0 [1, 1, 0, 1] (FI B call inl 69)) = (some (decide (a.drop i = b.drop i)) : Option Bool) := by
  induction d with
  | zero =>
    intro i m hd hm
    obtain ⟨m, rfl⟩ : ∃ k, m = k + 1 := ⟨m - 1, by omega⟩
    rw [s69_1_l, bF (by omega), s69_1x3_k, List.drop_of_length_le (by omega), List.drop_of_length_le (by omega)]
    rfl
  | succ d ih =>
    intro i m hd hm
    obtain ⟨m, rfl⟩ : ∃ k, m = k + 1 := ⟨m - 1, by omega⟩
    obtain ⟨c, t, hct, _⟩ := drop_cons (l := a) (i := i) (by omega)
    obtain ⟨e, u, heu, _⟩ := drop_cons (l := b) (i := i) (by omega)
    rw [s69_1_l, bT (by omega), if_pos (by omega), if_pos (by omega), Int.toNat_natCast, dgetD hct, dgetD heu, w64 (x := (i : Int) + 1) (by omega) (by omega), hct, heu]
    by_cases hce : c = e
    · subst hce
      have : (c != c) = false := by simp
      rw [this, cond_false]
      refine (ih (i + 1) m (by omega) (by omega)).trans ?_
      rw [dsucc hct, dsucc heu]
      exact congrArg some (by simp)
    · have : (c != e) = true := by simpa using hce
      rw [this, cond_true, s69_1x2_k]
      have : ¬ (c :: t = e :: u) := fun h => hce (List.cons.inj h).1
      exact congrArg some (decide_eq_false this).symm
theorem s69 {k : Nat} (a b : List Int) (hlen : a.length ≤ 140737488351232) (hk : a.length + 2 ≤ k) : callN B k 69 [.v (.sl u8) a, .v (.sl u8) b] = (some (decide (a = b)) : Option Bool) := by
  obtain ⟨k, rfl⟩ := Nat.exists_eq_add_of_le' (show 1 ≤ k by omega)
  refine (callS k 69 _).trans ((t69 (callN B k) (lvl B k).2 k a b).trans ?_)
  by_cases h : a.length = b.length
  · have : ((a.length : Int) != (b.length : Int)) = false := by simp [h]
    rw [this, cond_false]
    have := l69 (call := callN B k) (inl := (lvl B k).2) k h hlen a.length 0 k (by omega) (by omega)
    rw [List.drop_zero, List.drop_zero] at this
    exact this
  · have h1 : ((a.length : Int) != (b.length : Int)) = true := by simp; omega
    rw [h1, cond_true, decide_eq_false (fun e => h (by rw [e]))]
/-! ### how far two texts are alike -/
def shr : List Int → List Int → Nat
  | x :: a, y :: b => if x = y then shr a b + 1 else 0
  | _, _ => 0
theorem shr_le : ∀ a b : List Int, shr a b ≤ a.length ∧ shr a b ≤ b.length
  | x :: a, y :: b => by
    have := shr_le a b
    simp only [shr, List.length_cons]
    split <;> omega
  | [], _ => by simp [shr]
  | _ :: _, [] => by simp [shr]
theorem shr_take : ∀ a b : List Int, a.take (shr a b) = b.take (shr a b)
  | x :: a, y :: b => by
    simp only [shr]
    split
    · rename_i h; subst h; simp [shr_take a b]
    · rfl
  | [], _ => by simp [shr]
  | _ :: _, [] => by simp [shr]
theorem shr_comm : ∀ a b : List Int, shr a b = shr b a
  | x :: a, y :: b => by
    simp only [shr, shr_comm a b]
    by_cases h : x = y
    · rw [if_pos h, if_pos h.symm]
    · rw [if_neg h, if_neg (fun e => h e.symm)]
  | [], b => by cases b <;> simp [shr]
  | _ :: _, [] => by simp [shr]
theorem byteAt_get (s : ByteArray) {i : Nat} {c : Int} {t : List Int} (h : (bytesOf s).drop i = c :: t) : byteAt s (i : Int) = c := by
  have hlt : i < (bytesOf s).length := drop_lt h
  have hlt' : i < s.size := by rw [← bytesOf_length]; exact hlt
  have hg := dgetD h 0
  unfold byteAt
  rw [dif_pos (by simpa using hlt')]
  rw [← hg, List.getD_eq_getElem?_getD, List.getElem?_eq_getElem hlt, Option.getD_some]
  simp only [bytesOf, List.getElem_map]
  rfl
theorem l54 {call : CallT B} {inl : InlT} (m0 : Nat) (a b : ByteArray) (ha : a.size ≤ 140737488351232) (d : Nat) : ∀ (i m : Nat), i + d = a.size → d < m →
    LP B call inl 54 m [1, 1, 0] (s54_1 a b (i : Int)) (KA B call inl 54 m0 [1, 1, 0] (FI B call inl 54)) = (some ((i + shr ((bytesOf a).drop i) ((bytesOf b).drop i) : Nat) : Int) : Option Int) := by
  have hal := bytesOf_length a
  have hbl := bytesOf_length b
  induction d with
  | zero =>
    intro i m hd hm
    obtain ⟨m, rfl⟩ : ∃ k, m = k + 1 := ⟨m - 1, by omega⟩
    rw [s54_1_l, decide_eq_false (by unfold minI; split <;> omega), show (false == true) = false from rfl, cond_false, s54_1x2_k, List.drop_of_length_le (by omega : (bytesOf a).length ≤ i)]
    simp [shr]
    rfl
  | succ d ih =>
    intro i m hd hm
    obtain ⟨m, rfl⟩ : ∃ k, m = k + 1 := ⟨m - 1, by omega⟩
    obtain ⟨c, t, hct, _⟩ := drop_cons (l := bytesOf a) (i := i) (by omega)
    rw [s54_1_l]
    by_cases hb : i < b.size
    · obtain ⟨e, u, heu, _⟩ := drop_cons (l := bytesOf b) (i := i) (by omega)
      rw [decide_eq_true (by unfold minI; split <;> omega), beq_self_eq_true, cond_true, if_pos (by omega), if_pos (by omega), byteAt_get a hct, byteAt_get b heu, hct, heu, w64 (x := (i : Int) + 1) (by omega) (by omega)]
      simp only [shr]
      by_cases hce : c = e
      · rw [beq_iff_eq.2 hce, cond_true, if_pos hce]
        refine (ih (i + 1) m (by omega) (by omega)).trans ?_
        rw [dsucc hct, dsucc heu, show i + 1 + shr t u = i + (shr t u + 1) from by omega]
      · rw [beq_eq_false_iff_ne.2 hce, cond_false, if_neg hce, s54_1x2_k]
        rfl
    · rw [decide_eq_false (by unfold minI; split <;> omega), show (false == true) = false from rfl, cond_false, s54_1x2_k, List.drop_of_length_le (by omega : (bytesOf b).length ≤ i), hct]
      rfl
theorem s54 {k : Nat} (a b : ByteArray) (ha : a.size ≤ 140737488351232) (hk : a.size + 2 ≤ k) : callN B k 54 [.v .str a, .v .str b] = (some ((shr (bytesOf a) (bytesOf b) : Nat) : Int) : Option Int) := by
  obtain ⟨k, rfl⟩ := Nat.exists_eq_add_of_le' (show 1 ≤ k by omega)
  refine (callS k 54 _).trans ((t54 (callN B k) (lvl B k).2 k a b).trans ?_)
  have := l54 (call := callN B k) (inl := (lvl B k).2) k a b ha a.size 0 k (by omega) (by omega)
  rw [Nat.zero_add, List.drop_zero, List.drop_zero] at this
  exact this
theorem l72 {call : CallT B} {inl : InlT} (m0 : Nat) (a b : ByteArray) (ha : a.size ≤ 140737488351232) (d : Nat) : ∀ (i m : Nat), i + d = a.size → d < m →
    LP B call inl 72 m [1, 1, 0] (s72_1 a b (i : Int)) (KA B call inl 72 m0 [1, 1, 0] (FI B call inl 72)) = (some ((i + shr ((bytesOf a).drop i) ((bytesOf b).drop i) : Nat) : Int) : Option Int) := by
  have hal := bytesOf_length a
  have hbl := bytesOf_length b
  induction d with
  | zero =>
    intro i m hd hm
    obtain ⟨m, rfl⟩ : ∃ k, m = k + 1 := ⟨m - 1, by omega⟩
    rw [s72_1_l, decide_eq_false (by omega), show (false == true) = false from rfl, cond_false, s72_1x2_k, List.drop_of_length_le (by omega : (bytesOf a).length ≤ i)]
    simp [shr]
    rfl
  | succ d ih =>
    intro i m hd hm
    obtain ⟨m, rfl⟩ : ∃ k, m = k + 1 := ⟨m - 1, by omega⟩
    obtain ⟨c, t, hct, _⟩ := drop_cons (l := bytesOf a) (i := i) (by omega)
    rw [s72_1_l, decide_eq_true (by omega), beq_self_eq_true, cond_true]
    by_cases hb : i < b.size
    · obtain ⟨e, u, heu, _⟩ := drop_cons (l := bytesOf b) (i := i) (by omega)
      rw [decide_eq_true (by omega), beq_self_eq_true, cond_true, if_pos (by omega), if_pos (by omega), byteAt_get a hct, byteAt_get b heu, hct, heu, w64 (x := (i : Int) + 1) (by omega) (by omega)]
      simp only [shr]
      by_cases hce : c = e
      · rw [beq_iff_eq.2 hce, cond_true, if_pos hce]
        refine (ih (i + 1) m (by omega) (by omega)).trans ?_
        rw [dsucc hct, dsucc heu, show i + 1 + shr t u = i + (shr t u + 1) from by omega]
      · rw [beq_eq_false_iff_ne.2 hce, cond_false, if_neg hce, s72_1x2_k]
        rfl
    · rw [decide_eq_false (by omega), show (false == true) = false from rfl, cond_false, s72_1x2_k, List.drop_of_length_le (by omega : (bytesOf b).length ≤ i), hct]
      rfl
theorem s72 {k : Nat} (a b : ByteArray) (ha : a.size ≤ 140737488351232) (hk : a.size + 2 ≤ k) : callN B k 72 [.v .str a, .v .str b] = (some ((shr (bytesOf a) (bytesOf b) : Nat) : Int) : Option Int) := by
  obtain ⟨k, rfl⟩ := Nat.exists_eq_add_of_le' (show 1 ≤ k by omega)
  refine (callS k 72 _).trans ((t72 (callN B k) (lvl B k).2 k a b).trans ?_)
  have := l72 (call := callN B k) (inl := (lvl B k).2) k a b ha a.size 0 k (by omega) (by omega)
  rw [Nat.zero_add, List.drop_zero, List.drop_zero] at this
  exact this
end Go.Eng.Bk
/- What the functions of numbers, texts, keys and entries answer, the program's and the document's (on). -/
namespace Go.Eng.Bk
open Go Go.Proofs Go.Eng
set_option linter.unusedVariables false
set_option linter.unusedSimpArgs false
theorem l73 {call : CallT B} {inl : InlT} (m0 : Nat) (d : Nat) : ∀ (n : Nat) (out : List Int) (m : Nat), n < 128 ^ (d + 1) → n < 9223372036854775808 → out.length + d < 140737488355327 → d < m →
    LP B call inl 73 m [1, 1, 1, 0] (s73_2 (n : Int) out) (KA B call inl 73 m0 [1, 1, 1, 0] (FI B call inl 73)) = (some (out ++ enc n) : Option (List Int)) := by
  have last : ∀ (n : Nat) (out : List Int) (m : Nat), n < 128 → out.length < 140737488355327 → 
      LP B call inl 73 (m + 1) [1, 1, 1, 0] (s73_2 (n : Int) out) (KA B call inl 73 m0 [1, 1, 1, 0] (FI B call inl 73)) = (some (out ++ enc n) : Option (List Int)) := by
    intro n out m h1 ho
    rw [s73_2_l, bF (by omega), s73_2x3_k, if_pos (by simp only [List.length_cons, List.length_nil]; omega), enc_lt h1, wu8]
    have : (n : Int) % 256 = n := by omega
    rw [this]
  induction d with
  | zero =>
    intro n out m h hn ho hm
    obtain ⟨m, rfl⟩ : ∃ k, m = k + 1 := ⟨m - 1, by omega⟩
    exact last n out m (by simpa using h) (by omega)
  | succ d ih =>
    intro n out m h hn ho hm
    obtain ⟨m, rfl⟩ : ∃ k, m = k + 1 := ⟨m - 1, by omega⟩
    by_cases h1 : n < 128
    · exact last n out m h1 (by omega)
    · have e1 : Int.tmod (n : Int) (128 : Int) = ((n % 128 : Nat) : Int) := rfl
      have e2 : Int.tdiv (n : Int) (128 : Int) = ((n / 128 : Nat) : Int) := rfl
      have e3 : IntKind.u8.wrap (IntKind.i64.wrap ((128 : Int) + ((n % 128 : Nat) : Int))) = ((n % 128 + 128 : Nat) : Int) := by
        rw [w64 (by omega) (by omega), wu8]; omega
      rw [s73_2_l, bT (by omega), if_pos (by simp only [List.length_cons, List.length_nil]; omega), enc_ge h1, e1, e2, e3, w64 (x := ((n / 128 : Nat) : Int)) (by omega) (by omega)]
      refine (ih (n / 128) _ m (by rw [Nat.pow_succ] at h; omega) (by omega) (by simp only [List.length_append, List.length_cons, List.length_nil]; omega) (by omega)).trans ?_
      exact congrArg some (by simp)
theorem s73 {k : Nat} (hk : 12 ≤ k) {n : Nat} (hn : n < 9223372036854775808) : callN B k 73 [.v i64 (n : Int)] = (some (enc n) : Option (List Int)) := by
  obtain ⟨k, rfl⟩ := Nat.exists_eq_add_of_le' (show 1 ≤ k by omega)
  refine (callS k 73 _).trans ((t73 (callN B k) (lvl B k).2 k (n : Int)).trans ?_)
  rw [bF (by omega)]
  exact l73 k 8 n [] k (by rw [show (128 : Nat) ^ (8 + 1) = 9223372036854775808 from by decide]; exact hn) hn (by simp) (by omega)
theorem s74 {k : Nat} (hk : 13 ≤ k) {s : ByteArray} (hs : s.size ≤ 70368744177664) : callN B k 74 [.v .str s] = (some (enc s.size ++ bytesOf s) : Option (List Int)) := by
  obtain ⟨k, rfl⟩ := Nat.exists_eq_add_of_le' (show 1 ≤ k by omega)
  refine (callS k 74 _).trans ((t74 (callN B k) (lvl B k).2 k s).trans ?_)
  refine bnd (s73 (by omega) (by omega)) ?_
  have := enc_length9 (n := s.size) (by omega)
  rw [if_pos (by omega)]
theorem l76 {call : CallT B} {inl : InlT} (m0 : Nat) {l : List Int} (hl : Bytes l) (hlen : l.length ≤ 140737488351232) (p : Nat) (hp : p ≤ l.length) (d : Nat) : ∀ (i n m : Nat), i + d = 9 → n < 128 ^ i → d < m →
    LP B call inl 76 m [1, 1, 1, 0, 1] (s76_2 l (p : Int) (n : Int) (i : Int)) (KA B call inl 76 m0 [1, 1, 1, 0, 1] (FI B call inl 76)) =
      (some (match dec i n (l.drop (p + i)) with | some (v, j) => ((v : Int), (p : Int) + j, true, ()) | none => (0, 0, false, ())) : Option (Int × Int × Bool × Unit)) := by
  induction d with
  | zero =>
    intro i n m hd hn hm
    obtain ⟨m, rfl⟩ : ∃ k, m = k + 1 := ⟨m - 1, by omega⟩
    obtain rfl : i = 9 := by omega
    rw [s76_2_l, decide_eq_false (by omega), show (false == true) = false from rfl, cond_false, s76_2x5_k]
    cases l.drop (p + 9) <;> rfl
  | succ d ih =>
    intro i n m hd hn hm
    obtain ⟨m, rfl⟩ : ∃ k, m = k + 1 := ⟨m - 1, by omega⟩
    by_cases hlp : l.length ≤ p + i
    · have hdn : l.drop (p + i) = [] := List.drop_of_length_le hlp
      rw [s76_2_l, decide_eq_true (by omega), beq_self_eq_true, cond_true]
      have hw : IntKind.i64.wrap ((l.length : Int) - (p : Int)) ≤ (i : Int) := by
        rw [w64 (by omega) (by omega)]; omega
      rw [bF (by omega), s76_2x5_k, hdn]
      rfl
    · rw [s76_2_l, decide_eq_true (by omega), beq_self_eq_true, cond_true, w64 (x := (l.length : Int) - (p : Int)) (by omega) (by omega)]
      cases hd0 : l.drop (p + i) with
      | nil =>
        have : l.length ≤ p + i := by simpa using hd0
        exact absurd this hlp
      | cons c t =>
        have hlt := drop_lt hd0
        have hc := hl c (by have : c ∈ l.drop (p + i) := by rw [hd0]; simp
                            exact List.mem_of_mem_drop this)
        obtain ⟨cn, rfl⟩ : ∃ m : Nat, c = m := ⟨c.toNat, by omega⟩
        have hpi : (p : Int) + (i : Int) = ((p + i : Nat) : Int) := by omega
        have hpos : ((p + i : Nat) : Int) + 1 = (p : Int) + ((i + 1 : Nat) : Int) := by omega
        have hi1 : (i : Int) + 1 = ((i + 1 : Nat) : Int) := by omega
        have hpw : 128 ^ i ≤ 128 ^ 8 := Nat.pow_le_pow_right (by omega) (by omega)
        have hmm : (cn % 128) * 128 ^ i ≤ 127 * 128 ^ i := Nat.mul_le_mul_right _ (by omega)
        have hsum : n + (cn % 128) * 2 ^ (7 * i) < 128 ^ (i + 1) := by
          rw [← pow7, Nat.pow_succ]; omega
        have h8 : (128 : Nat) ^ 8 = 72057594037927936 := by decide
        have hs2 : n + (cn % 128) * 2 ^ (7 * i) < 9223372036854775808 := by
          rw [← pow7]; omega
        have hw1 : IntKind.i64.wrap ((p : Int) + (i : Int)) = ((p + i : Nat) : Int) := by rw [hpi]; exact w64 (by omega) (by omega)
        have hw2 : IntKind.u64.wrap (IntKind.i64.wrap ((7 : Int) * (i : Int))) = ((7 * i : Nat) : Int) := by
          rw [w64 (by omega) (by omega), wu64 (by omega) (by omega)]; omega
        have hget : IntKind.i64.wrap (List.getD l (IntKind.i64.wrap ((p : Int) + (i : Int))).toNat (0 : Int)) = (cn : Int) := by
          rw [hw1, Int.toNat_natCast, getD_drop hd0]; exact w64 (by omega) (by omega)
        have hor : IntKind.i64.wrap (↑(BitVec.ofInt IntKind.i64.bits (n : Int) ||| BitVec.ofInt IntKind.i64.bits (IntKind.i64.wrap ((IntKind.i64.wrap (List.getD l (IntKind.i64.wrap ((p : Int) + (i : Int))).toNat (0 : Int))).tmod (128 : Int) * (2 : Int) ^ Min.min (IntKind.u64.wrap (IntKind.i64.wrap ((7 : Int) * (i : Int)))).toNat IntKind.i64.bits))).toNat : Int) = ((n + (cn % 128) * 2 ^ (7 * i) : Nat) : Int) := by
          rw [hget, hw2, show Int.tmod (cn : Int) (128 : Int) = ((cn % 128 : Nat) : Int) from rfl, shl_nat _ _ (by omega) (by omega), or_shift _ _ _ (by rw [← pow7]; exact hn) hs2]
        have hret : KA B call inl 76 m0 [1, 1, 1, 0, 1] (FI B call inl 76) .ret (s76_2x4 l (p : Int) (n : Int) (i : Int)) = (some ((((n + cn % 128 * 128 ^ i : Nat) : Int), (p : Int) + ((i + 1 : Nat) : Int), true, ())) : Option (Int × Int × Bool × Unit)) := by
          rw [s76_2x4_k, hor, hw1, w64 (x := ((p + i : Nat) : Int) + 1) (by omega) (by omega), ← pow7, hpos]
        rw [bT (by omega), if_pos (by rw [hw1]; omega), if_neg (by rw [hw2]; omega), hor, hget]
        simp only [dec, Int.toNat_natCast]
        rw [if_pos (by omega : i < 9)]
        by_cases h1 : cn > 127
        · rw [bT (by omega), if_pos (by omega), w64 (x := (i : Int) + 1) (by omega) (by omega), hi1]
          rw [ih (i + 1) (n + cn % 128 * 2 ^ (7 * i)) m (by omega) hsum (by omega), show p + (i + 1) = p + i + 1 from by omega, drop_succ hd0, ← pow7]
        · have hcm : cn % 128 = cn := by omega
          rw [hcm] at hret
          rw [bF (by omega), if_neg (by omega)]
          by_cases h2 : cn = 0
          · subst h2
            rw [show ((((0 : Nat) : Int) == (0 : Int)) == true) = true from rfl, cond_true]
            by_cases h3 : 0 < i
            · rw [bT (by omega), s76_2x3_k, if_pos ⟨rfl, h3⟩]
            · rw [bF (by omega), hret, if_neg (fun h => h3 h.2)]
          · have : (((cn : Int) == (0 : Int)) == true) = false := by
              have : ((cn : Int) == (0 : Int)) = false := beq_eq_false_iff_ne.2 (by omega)
              rw [this]; rfl
            rw [this, cond_false, hret, if_neg (fun h => h2 (by have := h.1; omega))]
theorem getN_no {l : List Int} {p : Nat} (h : l.length ≤ p) : getN l (p : Int) = (0, 0, false) := by
  unfold getN
  rw [if_neg (by omega), Int.toNat_natCast, List.drop_of_length_le h]
  rfl
theorem s76 {k : Nat} (hk : 12 ≤ k) {l : List Int} (hl : Bytes l) (hlen : l.length ≤ 140737488351232) (at_ : Int) : callN B k 76 [.v (.sl u8) l, .v i64 at_] = (some (g3 (getN l at_)) : Option (Int × Int × Bool × Unit)) := by
  obtain ⟨k, rfl⟩ := Nat.exists_eq_add_of_le' (show 1 ≤ k by omega)
  refine (callS k 76 _).trans ((t76 (callN B k) (lvl B k).2 k l at_).trans ?_)
  by_cases h : at_ < 0
  · rw [decide_eq_true h]
    exact congrArg some (by unfold getN; rw [if_pos h])
  · rw [decide_eq_false h, beq_self_eq_true, cond_true]
    obtain ⟨p, rfl⟩ : ∃ m : Nat, at_ = m := ⟨at_.toNat, by omega⟩
    by_cases h2 : l.length ≤ p
    · rw [bT (by omega)]
      exact congrArg some (by rw [getN_no h2])
    · rw [bF (by omega)]
      refine (l76 k hl hlen p (by omega) 9 0 0 k (by omega) (by simp) (by omega)).trans (congrArg some ?_)
      unfold getN
      rw [if_neg (by omega)]
      simp only [Nat.add_zero, Int.toNat_natCast]
      cases dec 0 0 (List.drop p l) with
      | none => rfl
      | some q => rfl
theorem s77 {k : Nat} (hk : 13 ≤ k) {l : List Int} (hl : Bytes l) (hlen : l.length ≤ 140737488351232) (at_ : Int) : callN B k 77 [.v (.sl u8) l, .v i64 at_] = (some (g3 (getT l at_)) : Option (ByteArray × Int × Bool × Unit)) := by
  obtain ⟨k, rfl⟩ := Nat.exists_eq_add_of_le' (show 1 ≤ k by omega)
  refine (callS k 77 _).trans ((t77 (callN B k) (lvl B k).2 k l at_).trans ?_)
  refine bnd (s76 (by omega) hl hlen at_) ?_
  unfold getT
  rcases getN_cases hl at_ with h | ⟨p, n, j, rfl, hd, h, hn, h1, h9, hp⟩
  · rw [h]; rfl
  · rw [h]
    have hw1 : IntKind.i64.wrap ((List.length l : Int) - ((p + j : Nat) : Int)) = (List.length l : Int) - ((p + j : Nat) : Int) := w64 (by omega) (by omega)
    change (bif decide ((n : Int) > IntKind.i64.wrap ((List.length l : Int) - ((p + j : Nat) : Int))) then _ else _) = _
    rw [hw1]
    by_cases hc : (n : Int) > (l.length : Int) - ((p + j : Nat) : Int)
    · rw [bT hc]
      simp only [if_true]
      rw [if_pos hc]
    · have hw2 : IntKind.i64.wrap (((p + j : Nat) : Int) + (n : Int)) = ((p + j : Nat) : Int) + (n : Int) := w64 (by omega) (by omega)
      rw [bF hc]
      change (if (0 : Int) ≤ ((p + j : Nat) : Int) ∧ ((p + j : Nat) : Int) ≤ IntKind.i64.wrap (((p + j : Nat) : Int) + (n : Int)) ∧ IntKind.i64.wrap (((p + j : Nat) : Int) + (n : Int)) ≤ (List.length l : Int) then some (strOf (List.drop (Int.toNat ((p + j : Nat) : Int)) (List.take (IntKind.i64.wrap (((p + j : Nat) : Int) + (n : Int))).toNat l)), IntKind.i64.wrap (((p + j : Nat) : Int) + (n : Int)), true, ()) else none) = _
      rw [hw2, if_pos (by omega)]
      simp only [if_true]
      rw [if_neg hc]
/-! ### keys -/
abbrev d0 : En := ((⟨#[]⟩, 0, 0, ()), ⟨#[]⟩, ())
def mayK (a : Ke) : Bool := mayB a.1 a.2.1 a.2.2.1
def cmpKe (a b : Ke) : Int := cmpK a.1 a.2.1 a.2.2.1 b.1 b.2.1 b.2.2.1
theorem s115 {k : Nat} (h : 1 ≤ k) (x : ByteArray) : callN B k 115 [.v .str x] = (some false : Option Bool) := by
  obtain ⟨k, rfl⟩ := Nat.exists_eq_add_of_le' h
  refine (callS k 115 _).trans ((t115 (callN B k) (lvl B k).2 k x).trans ?_)
  exact congrArg some (by simp)
theorem s116 {k : Nat} (h : 1 ≤ k) (x : Int) : callN B k 116 [.v i64 x] = (some false : Option Bool) := by
  obtain ⟨k, rfl⟩ := Nat.exists_eq_add_of_le' h
  refine (callS k 116 _).trans ((t116 (callN B k) (lvl B k).2 k x).trans ?_)
  exact congrArg some (by simp)
theorem s101 {k : Nat} (h : 2 ≤ k) (a b : ByteArray) : callN B k 101 [.v .str a, .v .str b] = (some (cmpS a b) : Option Int) := by
  obtain ⟨k, rfl⟩ := Nat.exists_eq_add_of_le' (show 1 ≤ k by omega)
  refine (callS k 101 _).trans ((t101 (callN B k) (lvl B k).2 k a b).trans ?_)
  refine bnd (s115 (by omega) _) (bnd (s115 (by omega) _) ?_)
  change @Eq (Option Int) _ _
  simp only [cond_false]
  unfold cmpS
  cases h1 : Op.bytesLess a.toList b.toList with
  | true => simp
  | false =>
    by_cases h2 : a.toList = b.toList
    · simp [h2]
    · simp [h2, beq_eq_false_iff_ne.2 h2]
theorem s102 {k : Nat} (h : 2 ≤ k) (a b : Int) : callN B k 102 [.v i64 a, .v i64 b] = (some (cmpI a b) : Option Int) := by
  obtain ⟨k, rfl⟩ := Nat.exists_eq_add_of_le' (show 1 ≤ k by omega)
  refine (callS k 102 _).trans ((t102 (callN B k) (lvl B k).2 k a b).trans ?_)
  refine bnd (s116 (by omega) _) (bnd (s116 (by omega) _) ?_)
  change @Eq (Option Int) _ _
  simp only [cond_false]
  unfold cmpI
  by_cases h1 : a < b
  · simp [h1]
  · by_cases h2 : a > b
    · simp [h1, h2]
    · simp [h1, h2]
theorem l100 {call : CallT B} {inl : InlT} (m0 m : Nat) (x y z : Int) : LP B call inl 100 (m + 4) [1, 1, 0, 1] (s100_1 [x, y, z] 0) (KA B call inl 100 m0 [1, 1, 0, 1] (FI B call inl 100)) = (some (or3 x y z) : Option Int) := by
  have w1 : IntKind.i64.wrap ((0 : Int) + (1 : Int)) = 1 := by decide +kernel
  have w2 : IntKind.i64.wrap ((1 : Int) + (1 : Int)) = 2 := by decide +kernel
  have w3 : IntKind.i64.wrap ((2 : Int) + (1 : Int)) = 3 := by decide +kernel
  have hz : ∀ u : Int, u ≠ 0 → (u != 0) = true := fun u hu => by simpa using hu
  have hzz : ((0 : Int) != 0) = false := by decide
  unfold or3
  rw [s100_1_l, bT (by simp), if_pos (by simp), show List.getD [x, y, z] (Int.toNat (0 : Int)) (0 : Int) = x from rfl, w1]
  by_cases hx : x = 0
  · rw [hx, hzz, cond_false, if_pos rfl, s100_1_l, bT (by simp), if_pos (by simp), show List.getD [(0 : Int), y, z] (Int.toNat (1 : Int)) (0 : Int) = y from rfl, w2]
    by_cases hy : y = 0
    · rw [hy, hzz, cond_false, if_pos rfl, s100_1_l, bT (by simp), if_pos (by simp), show List.getD [(0 : Int), 0, z] (Int.toNat (2 : Int)) (0 : Int) = z from rfl, w3]
      by_cases hc : z = 0
      · rw [hc, hzz, cond_false, s100_1_l, bF (by simp), s100_1x3_k]
      · rw [hz z hc, cond_true, s100_1x2_k]
        rfl
    · rw [hz y hy, cond_true, s100_1x2_k, if_neg hy]
      rfl
  · rw [hz x hx, cond_true, s100_1x2_k, if_neg hx]
    rfl
theorem s100 {k : Nat} (h : 5 ≤ k) (x y z : Int) : callN B k 100 [.v (.sl i64) [x, y, z]] = (some (or3 x y z) : Option Int) := by
  obtain ⟨k, rfl⟩ := Nat.exists_eq_add_of_le' h
  exact (callS (k + 4) 100 _).trans ((t100 (callN B (k + 4)) (lvl B (k + 4)).2 (k + 4) [x, y, z]).trans (l100 _ _ x y z))
theorem s80 {k : Nat} (h : 6 ≤ k) (a b : Ke) : callN B k 80 [argAV KeyT a, argAV KeyT b] = (some (cmpKe a b) : Option Int) := by
  obtain ⟨k, rfl⟩ := Nat.exists_eq_add_of_le' (show 1 ≤ k by omega)
  refine (callS k 80 _).trans ((t80 (callN B k) (lvl B k).2 k a b).trans ?_)
  exact bnd (s101 (by omega) _ _) (bnd (s102 (by omega) _ _) (bnd (s102 (by omega) _ _) (bnd (s100 (by omega) _ _ _) rfl)))
theorem s81 {k : Nat} (h : 1 ≤ k) (a b : Ke) : callN B k 81 [argAV KeyT a, argAV KeyT b] = (some (cmpKe a b) : Option Int) := by
  obtain ⟨k, rfl⟩ := Nat.exists_eq_add_of_le' (show 1 ≤ k by omega)
  refine (callS k 81 _).trans ((t81 (callN B k) (lvl B k).2 k a b).trans ?_)
  unfold cmpKe cmpK or3
  obtain ⟨u, s, d, _⟩ := a
  obtain ⟨v, t, e, _⟩ := b
  change @Eq (Option Int) _ _
  simp only
  have nb : ∀ {x y : Int}, x ≠ y → (x != y) = true := fun h => by simpa using h
  have ne : ∀ {x : Int}, (x != x) = false := by simp
  rcases cmpS_cases u v with ⟨h1, c⟩ | ⟨h1, c⟩ | ⟨h1, c⟩
  · have h2 : (u.toList == v.toList) = false := beq_eq_false_iff_ne.2 (fun e => by rw [e, bl_irr] at h1; cases h1)
    rw [c, h2, h1]; rfl
  · have h2 : (u.toList == v.toList) = true := by rw [h1]; simp
    rw [c, h2]
    rcases cmpI_cases t s with ⟨h3, c2⟩ | ⟨h3, c2⟩ | ⟨h3, c2⟩
    · rw [c2, nb (show s ≠ t by omega), decide_eq_true (show s > t by omega)]; rfl
    · subst h3
      rw [c2, ne]
      rcases cmpI_cases e d with ⟨h4, c4⟩ | ⟨h4, c4⟩ | ⟨h4, c4⟩
      · rw [c4, nb (show d ≠ e by omega), decide_eq_true (show d > e by omega)]; rfl
      · subst h4; rw [c4, ne]; rfl
      · rw [c4, nb (show d ≠ e by omega), decide_eq_false (show ¬ d > e by omega)]; rfl
    · rw [c2, nb (show s ≠ t by omega), decide_eq_false (show ¬ s > t by omega)]; rfl
  · have h2 : (u.toList == v.toList) = false := beq_eq_false_iff_ne.2 (fun e => by rw [e, bl_irr] at h1; cases h1)
    rw [c, h2, bl_asym h1]; rfl
theorem s112 {k : Nat} (h : 1 ≤ k) (a : Ke) : callN B k 112 [argAV KeyT a] = (some (mayK a) : Option Bool) := by
  obtain ⟨k, rfl⟩ := Nat.exists_eq_add_of_le' h
  refine (callS k 112 _).trans ((t112 (callN B k) (lvl B k).2 k a).trans ?_)
  change @Eq (Option Bool) _ _
  unfold mayK mayB
  by_cases h1 : (a.1.size : Int) ≤ 64
  · by_cases h2 : 0 ≤ a.2.1
    · by_cases h3 : a.2.1 ≤ 9007199254740992
      · by_cases h4 : a.2.2.1 = 1
        · simp [h1, h2, h3, h4]
        · by_cases h5 : a.2.2.1 = 2
          · simp [h1, h2, h3, h5]
          · simp [h1, h2, h3, h4, h5, beq_eq_false_iff_ne.2 h4, beq_eq_false_iff_ne.2 h5]
      · simp [h1, h2, h3]
    · simp [h1, h2]
  · simp [h1]
theorem s122 {k : Nat} (h : 1 ≤ k) (x : Int) : callN B k 122 [.v i64 x] = (some (decide (0 ≤ x ∧ x ≤ 9007199254740992)) : Option Bool) := by
  obtain ⟨k, rfl⟩ := Nat.exists_eq_add_of_le' h
  refine (callS k 122 _).trans ((t122 (callN B k) (lvl B k).2 k x).trans ?_)
  change @Eq (Option Bool) _ _
  by_cases h1 : 0 ≤ x
  · simp [h1]
  · simp [h1]
theorem s114 {k : Nat} (h : 2 ≤ k) (a : Ke) : callN B k 114 [argAV KeyT a] = (some (mayK a) : Option Bool) := by
  obtain ⟨k, rfl⟩ := Nat.exists_eq_add_of_le' (show 1 ≤ k by omega)
  refine (callS k 114 _).trans ((t114 (callN B k) (lvl B k).2 k a).trans ?_)
  unfold mayK mayB
  by_cases h1 : (a.1.size : Int) ≤ 64
  · rw [decide_eq_true h1, beq_self_eq_true, cond_true]
    refine bnd (s122 (by omega) _) ?_
    change @Eq (Option Bool) _ _
    by_cases h2 : 0 ≤ a.2.1
    · by_cases h3 : a.2.1 ≤ 9007199254740992
      · by_cases h4 : a.2.2.1 = 1
        · simp [h1, h2, h3, h4]
        · by_cases h5 : a.2.2.1 = 2
          · simp [h1, h2, h3, h5]
          · simp [h1, h2, h3, h4, h5, beq_eq_false_iff_ne.2 h4, beq_eq_false_iff_ne.2 h5]
      · simp [h1, h2, h3]
    · simp [h1, h2]
  · change @Eq (Option Bool) _ _
    simp [h1]
/-- Whether an entry may be. -/
def mayE (e : En) : Bool := mayK e.1 && decide ((e.2.1.size : Int) ≤ 512) && (e.1.2.2.1 == 1 || e.2.1.toList == (ByteArray.mk #[]).toList)
theorem s90 {k : Nat} (h : 2 ≤ k) (a : En) : callN B k 90 [argAV EntryT a] = (some (mayE a) : Option Bool) := by
  obtain ⟨k, rfl⟩ := Nat.exists_eq_add_of_le' (show 1 ≤ k by omega)
  refine (callS k 90 _).trans ((t90 (callN B k) (lvl B k).2 k a).trans ?_)
  refine bnd (s112 (by omega) a.1) ?_
  change @Eq (Option Bool) _ _
  unfold mayE
  cases mayK a.1 <;> cases decide ((a.2.1.size : Int) ≤ 512) <;> cases (a.1.2.2.1 == 1) <;> rfl
theorem s96 {k : Nat} (h : 3 ≤ k) (a : En) : callN B k 96 [argAV EntryT a] = (some (mayE a) : Option Bool) := by
  obtain ⟨k, rfl⟩ := Nat.exists_eq_add_of_le' (show 1 ≤ k by omega)
  refine (callS k 96 _).trans ((t96 (callN B k) (lvl B k).2 k a).trans ?_)
  refine bnd (s114 (by omega) a.1) ?_
  change @Eq (Option Bool) _ _
  unfold mayE
  cases mayK a.1 <;> cases decide ((a.2.1.size : Int) ≤ 512) <;> cases (a.1.2.2.1 == 1) <;> rfl
/-- Whether each may be, and is above the one ahead. -/
def risA (l : List En) : Nat → Nat → Bool
  | 0, _ => true
  | d + 1, i => mayE (l.getD i d0) && (i == 0 || decide (cmpKe (l.getD (i - 1) d0).1 (l.getD i d0).1 < 0)) && risA l d (i + 1)
def rising (l : List En) : Bool := risA l l.length 0
theorem l52 {q : Nat} (hq : 6 ≤ q) {inl : InlT} (m0 : Nat) {l : List En} (hlen : l.length ≤ 140737488351232) (d : Nat) : ∀ (i m : Nat), i + d = l.length → d < m →
    LP B (callN B q) inl 52 m [1, 1, 0, 1] (s52_4 l (i : Int)) (KA B (callN B q) inl 52 m0 [1, 1, 0, 1] (FI B (callN B q) inl 52)) = (some (risA l d i) : Option Bool) := by
  induction d with
  | zero =>
    intro i m hd hm
    obtain ⟨m, rfl⟩ : ∃ k, m = k + 1 := ⟨m - 1, by omega⟩
    rw [s52_4_l, bF (by omega), s52_4x9_k]
    rfl
  | succ d ih =>
    intro i m hd hm
    obtain ⟨m, rfl⟩ : ∃ k, m = k + 1 := ⟨m - 1, by omega⟩
    rw [s52_4_l, bT (by omega), if_pos (by omega), Int.toNat_natCast]
    refine bnd (s90 (by omega) (l.getD i d0)) ?_
    have hr : risA l (d + 1) i = (mayE (l.getD i d0) && (i == 0 || decide (cmpKe (l.getD (i - 1) d0).1 (l.getD i d0).1 < 0)) && risA l d (i + 1)) := rfl
    rw [hr, w64 (x := (i : Int) + 1) (by omega) (by omega)]
    have hnext := ih (i + 1) m (by omega) (by omega)
    cases hm : mayE (l.getD i d0) with
    | false => rw [Bool.not_false, cond_true, s52_4x6_k]; rfl
    | true =>
      rw [Bool.not_true, cond_false]
      by_cases hi : i = 0
      · subst hi
        rw [show (((0 : Nat) : Int) == (0 : Int)) = true from rfl, cond_true]
        exact hnext
      · have h0 : ((i : Int) == (0 : Int)) = false := beq_eq_false_iff_ne.2 (by omega)
        have e1 : IntKind.i64.wrap ((i : Int) - 1) = ((i - 1 : Nat) : Int) := by rw [w64 (by omega) (by omega)]; omega
        rw [h0, cond_false, e1, if_pos (by omega), Int.toNat_natCast]
        refine bnd (s80 (by omega) (l.getD (i - 1) d0).1 (l.getD i d0).1) ?_
        have h1 : (i == 0) = false := beq_eq_false_iff_ne.2 hi
        rw [h1]
        by_cases hc : cmpKe (l.getD (i - 1) d0).1 (l.getD i d0).1 < 0
        · rw [bF (by omega), decide_eq_true hc]
          exact hnext
        · rw [bT (by omega), decide_eq_false hc, s52_4x8_k]
          rfl
theorem s52 {k : Nat} {l : List En} (hlen : l.length ≤ 140737488351232) (hk : l.length + 8 ≤ k) : callN B k 52 [argAV (.sl EntryT) l] = (some (rising l) : Option Bool) := by
  obtain ⟨k, rfl⟩ := Nat.exists_eq_add_of_le' (show 1 ≤ k by omega)
  refine (callS k 52 _).trans ((t52 (callN B k) (lvl B k).2 k l).trans ?_)
  exact l52 (by omega) k hlen l.length 0 k (by omega) (by omega)
theorem l70 {q : Nat} (hq : 6 ≤ q) {inl : InlT} (m0 : Nat) {l : List En} (hlen : l.length ≤ 140737488351232) (d : Nat) : ∀ (i m : Nat), i + d = l.length → d < m →
    LP B (callN B q) inl 70 m [1, 0, 1] (s70_4 l (i : Int)) (KA B (callN B q) inl 70 m0 [1, 0, 1] (FI B (callN B q) inl 70)) = (some (risA l d i) : Option Bool) := by
  induction d with
  | zero =>
    intro i m hd hm
    obtain ⟨m, rfl⟩ : ∃ k, m = k + 1 := ⟨m - 1, by omega⟩
    rw [s70_4_l, bF (by omega), s70_4x8_k]
    rfl
  | succ d ih =>
    intro i m hd hm
    obtain ⟨m, rfl⟩ : ∃ k, m = k + 1 := ⟨m - 1, by omega⟩
    rw [s70_4_l, bT (by omega), if_pos (by omega), Int.toNat_natCast]
    refine bnd (s96 (by omega) (l.getD i d0)) ?_
    have hr : risA l (d + 1) i = (mayE (l.getD i d0) && (i == 0 || decide (cmpKe (l.getD (i - 1) d0).1 (l.getD i d0).1 < 0)) && risA l d (i + 1)) := rfl
    rw [hr, w64 (x := (i : Int) + 1) (by omega) (by omega)]
    have hnext := ih (i + 1) m (by omega) (by omega)
    cases hm : mayE (l.getD i d0) with
    | false => rw [Bool.not_false, show (true == false) = false from rfl, cond_false, s70_4x7_k]; rfl
    | true =>
      rw [Bool.not_true, beq_self_eq_true, cond_true]
      by_cases hi : i = 0
      · subst hi
        rw [decide_eq_false (by omega), show (false == true) = false from rfl, cond_false]
        exact hnext
      · have e1 : IntKind.i64.wrap ((i : Int) - 1) = ((i - 1 : Nat) : Int) := by rw [w64 (by omega) (by omega)]; omega
        rw [decide_eq_true (by omega), beq_self_eq_true, cond_true, e1, if_pos (by omega), if_pos (by omega), Int.toNat_natCast]
        refine bnd (s81 (by omega) (l.getD (i - 1) d0).1 (l.getD i d0).1) ?_
        have h1 : (i == 0) = false := beq_eq_false_iff_ne.2 hi
        rw [h1]
        by_cases hc : cmpKe (l.getD (i - 1) d0).1 (l.getD i d0).1 < 0
        · rw [bF (by omega), decide_eq_true hc]
          exact hnext
        · rw [bT (by omega), decide_eq_false hc, s70_4x7_k]
          rfl
theorem s70 {k : Nat} {l : List En} (hlen : l.length ≤ 140737488351232) (hk : l.length + 8 ≤ k) : callN B k 70 [argAV (.sl EntryT) l] = (some (rising l) : Option Bool) := by
  obtain ⟨k, rfl⟩ := Nat.exists_eq_add_of_le' (show 1 ≤ k by omega)
  refine (callS k 70 _).trans ((t70 (callN B k) (lvl B k).2 k l).trans ?_)
  exact l70 (by omega) k hlen l.length 0 k (by omega) (by omega)
end Go.Eng.Bk
/- What the machine answers at some functions of the program: printed by the generator, each checked by the kernel. -/
namespace Go.Eng.Bk
open Go Go.Proofs Go.Eng
set_option linter.unusedVariables false
set_option maxRecDepth 100000
section
variable (call : CallT B) (inl : InlT) (m : Nat)
/-! function 17 -/
def s17_22 (a0 : (List En)) (x7 : (List Int)) (x8 : (List Int)) (x9 : Int) : St := { t := [(.v (.sl EntryT) (a0)), .bad, .nilS, (.v (.int .i64) ((0 : Int))), (.own 0 5 (.int .u8) (x7)), (.own 1 5 (.int .u8) (x8)), .bad, .bad, .bad, .bad, .bad, .bad, .bad, .bad, .bad, .bad, .bad, .bad, .bad, .bad, .bad, .bad, (.v (.sl EntryT) (a0)), (.v (.int .i64) ((↑(List.length a0) : Int))), (.v (.int .i64) (x9)), .bad, .bad, .bad, .bad, .bad, .bad, .bad, .bad, .bad, .bad, .bad, .bad, .bad, .bad, .bad, .bad, .bad, .bad, .bad, .bad, .bad, .bad, .bad, .bad, .bad, .bad, .bad, .bad, .bad, .bad, .bad, .bad, .bad, .bad, .bad, .bad, .bad, .bad, .bad, .bad, .bad, .bad, .bad, .bad, .bad, .bad, .bad, (.raw undef), (.raw undef), (.raw undef), (.raw undef), (.raw undef), (.raw undef), (.raw undef), (.raw undef), (.raw undef)], bx := [none, none], live := 3, g := [] }
def s17_22x35 (x7 : (List Int)) (x8 : (List Int)) : St := { t := [.bad, .bad, .nilS, (.v (.int .i64) ((0 : Int))), (.own 0 5 (.int .u8) (x7)), (.own 1 5 (.int .u8) (x8)), .bad, .bad, .bad, .bad, .bad, .bad, .bad, .bad, .bad, .bad, .bad, .bad, .bad, .bad, .bad, .bad, .bad, .bad, .bad, .bad, .bad, .bad, .bad, .bad, .bad, .bad, .bad, .bad, .bad, .bad, .bad, .bad, .bad, .bad, .bad, .bad, .bad, .bad, .bad, .bad, .bad, .bad, .bad, .bad, .bad, .bad, .bad, .bad, .bad, .bad, .bad, .bad, .bad, .bad, .bad, .bad, .bad, .bad, .bad, .bad, .bad, .bad, .bad, .bad, .bad, .bad, (.raw undef), (.raw undef), (.raw undef), (.raw undef), (.raw undef), (.raw undef), (.raw undef), (.raw undef), (.raw undef)], bx := [none, none, none], live := 3, g := [] }
theorem s17_22_l {R : Type} (K : AEx → St → Option R) (a0 : (List En)) (x7 : (List Int)) (x8 : (List Int)) (x9 : Int) : LP B call inl 17 (m + 1) [1, 1, 1, 0, 1] (s17_22 a0 x7 x8 x9) K = (bif decide (x9 < (↑(List.length a0) : Int)) then (if (0 : Int) ≤ x9 ∧ x9 < (↑(List.length a0) : Int) then (bif x9.tmod (4 : Int) == (0 : Int) then ((call 53 [(.v (.int .i64) ((↑x7.length : Int))), (.v (.int .i64) ((4 : Int)))]).bind fun (v23 : (List Int)) => if (x8.length + List.length v23) * (1 : Nat) ≤ 140737488355328 then ((call 55 [(.v (.int .i64) ((0 : Int)))]).bind fun (v24 : (List Int)) => if (x7.length + List.length v24) * (1 : Nat) ≤ 140737488355328 then ((call 56 [(.v .str (ByteArray.extract (List.getD a0 x9.toNat (((ByteArray.mk #[]), (0 : Int), (0 : Int), ()), (ByteArray.mk #[]), ())).fst.fst (Int.toNat (0 : Int)) (ByteArray.size (List.getD a0 x9.toNat (((ByteArray.mk #[]), (0 : Int), (0 : Int), ()), (ByteArray.mk #[]), ())).fst.fst)))]).bind fun (v25 : (List Int)) => if ((x7 ++ v24).length + List.length v25) * (1 : Nat) ≤ 140737488355328 then ((call 57 [(.agg [(.v .str ((List.getD a0 x9.toNat (((ByteArray.mk #[]), (0 : Int), (0 : Int), ()), (ByteArray.mk #[]), ())).fst.fst)), (.v (.int .i64) ((List.getD a0 x9.toNat (((ByteArray.mk #[]), (0 : Int), (0 : Int), ()), (ByteArray.mk #[]), ())).fst.snd.fst)), (.v (.int .i64) ((List.getD a0 x9.toNat (((ByteArray.mk #[]), (0 : Int), (0 : Int), ()), (ByteArray.mk #[]), ())).fst.snd.snd.fst))])]).bind fun (v26 : Int) => (call 55 [(.v (.int .i64) (v26))]).bind fun (v27 : (List Int)) => if ((x7 ++ v24 ++ v25).length + List.length v27) * (1 : Nat) ≤ 140737488355328 then ((call 56 [(.v .str ((List.getD a0 x9.toNat (((ByteArray.mk #[]), (0 : Int), (0 : Int), ()), (ByteArray.mk #[]), ())).snd.fst))]).bind fun (v28 : (List Int)) => if ((x7 ++ v24 ++ v25 ++ v27).length + List.length v28) * (1 : Nat) ≤ 140737488355328 then (LP B call inl 17 m [1, 1, 1, 0, 1] (s17_22 a0 (x7 ++ v24 ++ v25 ++ v27 ++ v28) (x8 ++ v23) (IntKind.i64.wrap (x9 + (1 : Int)))) K) else (none)) else (none)) else (none)) else (none)) else (none)) else (if (0 : Int) ≤ IntKind.i64.wrap (x9 - (1 : Int)) ∧ IntKind.i64.wrap (x9 - (1 : Int)) < (↑(List.length a0) : Int) then ((call 54 [(.v .str ((List.getD a0 (IntKind.i64.wrap (x9 - (1 : Int))).toNat (((ByteArray.mk #[]), (0 : Int), (0 : Int), ()), (ByteArray.mk #[]), ())).fst.fst)), (.v .str ((List.getD a0 x9.toNat (((ByteArray.mk #[]), (0 : Int), (0 : Int), ()), (ByteArray.mk #[]), ())).fst.fst))]).bind fun (v29 : Int) => (call 55 [(.v (.int .i64) (v29))]).bind fun (v30 : (List Int)) => if (x7.length + List.length v30) * (1 : Nat) ≤ 140737488355328 then (if (0 : Int) ≤ v29 ∧ v29 ≤ (↑(ByteArray.size (List.getD a0 x9.toNat (((ByteArray.mk #[]), (0 : Int), (0 : Int), ()), (ByteArray.mk #[]), ())).fst.fst) : Int) then ((call 56 [(.v .str (ByteArray.extract (List.getD a0 x9.toNat (((ByteArray.mk #[]), (0 : Int), (0 : Int), ()), (ByteArray.mk #[]), ())).fst.fst (Int.toNat v29) (ByteArray.size (List.getD a0 x9.toNat (((ByteArray.mk #[]), (0 : Int), (0 : Int), ()), (ByteArray.mk #[]), ())).fst.fst)))]).bind fun (v31 : (List Int)) => if ((x7 ++ v30).length + List.length v31) * (1 : Nat) ≤ 140737488355328 then ((call 57 [(.agg [(.v .str ((List.getD a0 x9.toNat (((ByteArray.mk #[]), (0 : Int), (0 : Int), ()), (ByteArray.mk #[]), ())).fst.fst)), (.v (.int .i64) ((List.getD a0 x9.toNat (((ByteArray.mk #[]), (0 : Int), (0 : Int), ()), (ByteArray.mk #[]), ())).fst.snd.fst)), (.v (.int .i64) ((List.getD a0 x9.toNat (((ByteArray.mk #[]), (0 : Int), (0 : Int), ()), (ByteArray.mk #[]), ())).fst.snd.snd.fst))])]).bind fun (v32 : Int) => (call 55 [(.v (.int .i64) (v32))]).bind fun (v33 : (List Int)) => if ((x7 ++ v30 ++ v31).length + List.length v33) * (1 : Nat) ≤ 140737488355328 then ((call 56 [(.v .str ((List.getD a0 x9.toNat (((ByteArray.mk #[]), (0 : Int), (0 : Int), ()), (ByteArray.mk #[]), ())).snd.fst))]).bind fun (v34 : (List Int)) => if ((x7 ++ v30 ++ v31 ++ v33).length + List.length v34) * (1 : Nat) ≤ 140737488355328 then (LP B call inl 17 m [1, 1, 1, 0, 1] (s17_22 a0 (x7 ++ v30 ++ v31 ++ v33 ++ v34) (x8) (IntKind.i64.wrap (x9 + (1 : Int)))) K) else (none)) else (none)) else (none)) else (none)) else (none)) else (none))) else (none)) else (K (.exit 1) (s17_22x35 x7 x8))) := by kernel_rfl
theorem s17_22x35_k (x7 : (List Int)) (x8 : (List Int)) : (KA B call inl 17 m [1, 1, 1, 0, 1] (FI B call inl 17)) (.exit 1) (s17_22x35 x7 x8) = (if (x7.length + x8.length) * (1 : Nat) ≤ 140737488355328 then ((call 53 [(.v (.int .i64) (IntKind.i64.wrap ((↑x8.length : Int).tdiv (4 : Int)))), (.v (.int .i64) ((2 : Int)))]).bind fun (v48 : (List Int)) => if ((x7 ++ x8).length + List.length v48) * (1 : Nat) ≤ 140737488355328 then (some ((x7 ++ x8 ++ v48, (0 : Int), ()))) else (none)) else (none)) := by kernel_rfl
theorem t17 (a0 : (List En)) : stepN B call inl m 17 [argAV (.sl EntryT) a0] = (bif ((↑(List.length a0) : Int) == (0 : Int)) == false then ((call 52 [(.v (.sl EntryT) (a0))]).bind fun (v0 : Bool) => bif !v0 then (some (([], (1 : Int), ()))) else (bif decide ((↑(List.length a0) : Int) > (64 : Int)) then (some (([], (4 : Int), ()))) else (LP B call inl 17 m [1, 1, 1, 0, 1] (s17_22 a0 ([]) ([]) ((0 : Int))) (KA B call inl 17 m [1, 1, 1, 0, 1] (FI B call inl 17))))) else (some (([], (1 : Int), ()))) : Option ((List Int) × Int × Unit)) := by kernel_rfl
/-! function 34 -/
def s34_6 (a0 : (List Int)) (v0 : (Int × Bool × Unit)) (x2 : (List En)) (x3 : ByteArray) (x4 : Int) : St := { t := [(.v (.sl (.int .u8)) (a0)), .bad, .bad, .bad, .bad, .bad, (.v (.int .i64) (IntKind.i64.wrap (IntKind.i64.wrap ((↑(List.length a0) : Int) - (2 : Int)) - IntKind.i64.wrap ((4 : Int) * v0.fst)))), (.own 0 26 EntryT (x2)), (.v .str (x3)), (.v (.int .i64) (x4)), .bad, .bad, .bad, (.raw undef), (.raw undef), .bad, .bad, .bad, .bad, .bad, .bad, .bad, .bad, .bad, .bad, .bad, .bad, .bad, .bad, .bad, .bad, .bad, .bad, .bad, .bad, .bad, .bad, .bad, .bad, .bad, .bad, .bad, .bad, .bad, .bad, .bad, .bad, .bad, .bad, .bad, .bad, .bad, .bad, .bad, .bad, .bad, .bad, .bad, .bad, .bad, .bad, .bad, .bad, .bad, .bad, .bad, .bad, (.raw undef), (.raw undef), (.raw undef), (.raw undef), (.raw undef), (.raw undef), (.raw undef), (.raw undef), (.raw undef), (.raw undef), (.raw undef), (.raw undef), (.raw undef), (.raw undef)], bx := [none], live := 1, g := [] }
def s34_6x8 (y0 : (List Int)) (y1 : (List En)) (y2 : (En × Int × Bool × Unit)) : St := { t := [(.v (.sl (.int .u8)) (y0)), .bad, .nilS, (.v .bool (false)), .bad, .bad, .bad, (.own 0 26 EntryT (y1)), .bad, .bad, .bad, .bad, .bad, (.raw undef), (.raw undef), .bad, .bad, .bad, .bad, .bad, .bad, .bad, .bad, .bad, .bad, .bad, .bad, .bad, .bad, .bad, .bad, .bad, .bad, .bad, .bad, .bad, .bad, .bad, .bad, .bad, .bad, .bad, .bad, .bad, .bad, .bad, .bad, .bad, .bad, .bad, .bad, .bad, .bad, .bad, .bad, .bad, .bad, .bad, .bad, .bad, .bad, .bad, .bad, .bad, .bad, .bad, .bad, (.raw undef), (.raw undef), (.raw undef), (.raw undef), (.raw undef), (.raw undef), (.raw undef), (.raw undef), (.raw undef), (.raw undef), (.raw undef), (.raw undef), (.raw undef), (.raw undef)], bx := [none, none, none, none, none, none, none, none, none, none, none, none, none, none, (some (26, [(.v .str (y2.fst.fst.fst)), (.v (.int .i64) (y2.fst.fst.snd.fst)), (.v (.int .i64) (y2.fst.fst.snd.snd.fst)), (.v .str (y2.fst.snd.fst))])), none, none, none, none, none, none, none, none, none, none, none, none], live := 1, g := [] }
def s34_6x9 (y0 : (List Int)) (y1 : (List En)) : St := { t := [(.v (.sl (.int .u8)) (y0)), .bad, .bad, .bad, .bad, .bad, .bad, (.own 0 26 EntryT (y1)), .bad, .bad, .bad, .bad, .bad, (.raw undef), (.raw undef), .bad, .bad, .bad, .bad, .bad, .bad, .bad, .bad, .bad, .bad, .bad, .bad, .bad, .bad, .bad, .bad, .bad, .bad, .bad, .bad, .bad, .bad, .bad, .bad, .bad, .bad, .bad, .bad, .bad, .bad, .bad, .bad, .bad, .bad, .bad, .bad, .bad, .bad, .bad, .bad, .bad, .bad, .bad, .bad, .bad, .bad, .bad, .bad, .bad, .bad, .bad, .bad, (.raw undef), (.raw undef), (.raw undef), (.raw undef), (.raw undef), (.raw undef), (.raw undef), (.raw undef), (.raw undef), (.raw undef), (.raw undef), (.raw undef), (.raw undef), (.raw undef)], bx := [none, none, none, none], live := 1, g := [] }
theorem s34_6_l {R : Type} (K : AEx → St → Option R) (a0 : (List Int)) (v0 : (Int × Bool × Unit)) (x2 : (List En)) (x3 : ByteArray) (x4 : Int) : LP B call inl 34 (m + 1) [1, 1, 1, 1, 1, 1, 1, 0, 1] (s34_6 a0 v0 x2 x3 x4) K = (bif decide (x4 < IntKind.i64.wrap (IntKind.i64.wrap ((↑(List.length a0) : Int) - (2 : Int)) - IntKind.i64.wrap ((4 : Int) * v0.fst))) then (if (0 : Int) ≤ IntKind.i64.wrap (IntKind.i64.wrap ((↑(List.length a0) : Int) - (2 : Int)) - IntKind.i64.wrap ((4 : Int) * v0.fst)) ∧ IntKind.i64.wrap (IntKind.i64.wrap ((↑(List.length a0) : Int) - (2 : Int)) - IntKind.i64.wrap ((4 : Int) * v0.fst)) ≤ (↑(List.length a0) : Int) then ((call 68 [(.v (.sl (.int .u8)) (List.drop (0 : Nat) (List.take (IntKind.i64.wrap (IntKind.i64.wrap ((↑(List.length a0) : Int) - (2 : Int)) - IntKind.i64.wrap ((4 : Int) * v0.fst))).toNat a0))), (.v (.int .i64) (x4)), (.v .str (x3))]).bind fun (v7 : (En × Int × Bool × Unit)) => bif (!v7.snd.snd.fst) == false then (bif decide ((↑x2.length : Int) > (64 : Int)) then (K .ret (s34_6x8 a0 x2 v7)) else (if (x2.length + [((v7.fst.fst.fst, v7.fst.fst.snd.fst, v7.fst.fst.snd.snd.fst, ()), v7.fst.snd.fst, ())].length) * (48 : Nat) ≤ 140737488355328 then (LP B call inl 34 m [1, 1, 1, 1, 1, 1, 1, 0, 1] (s34_6 a0 v0 (x2 ++ [((v7.fst.fst.fst, v7.fst.fst.snd.fst, v7.fst.fst.snd.snd.fst, ()), v7.fst.snd.fst, ())]) (v7.fst.fst.fst) (v7.snd.fst)) K) else (none))) else (K .ret (s34_6x8 a0 x2 v7))) else (none)) else (K (.exit 0) (s34_6x9 a0 x2))) := by kernel_rfl
theorem s34_6x8_k (a0 : (List Int)) (x2 : (List En)) (v10 : (En × Int × Bool × Unit)) : (KA B call inl 34 m [1, 1, 1, 1, 1, 1, 1, 0, 1] (FI B call inl 34)) .ret (s34_6x8 a0 x2 v10) = (some (([], false, ()))) := by kernel_rfl
theorem s34_6x9_k (a0 : (List Int)) (x2 : (List En)) : (KA B call inl 34 m [1, 1, 1, 1, 1, 1, 1, 0, 1] (FI B call inl 34)) (.exit 0) (s34_6x9 a0 x2) = ((call 17 [(.v (.sl EntryT) (x2))]).bind fun (v11 : ((List Int) × Int × Unit)) => bif (v11.snd.fst != (0 : Int)) == false then ((call 69 [(.v (.sl (.int .u8)) (v11.fst)), (.v (.sl (.int .u8)) (a0))]).bind fun (v12 : Bool) => bif !v12 then (some (([], false, ()))) else (some ((x2, true, ())))) else (some (([], false, ())))) := by kernel_rfl
theorem t34 (a0 : (List Int)) : stepN B call inl m 34 [argAV (.sl (.int .u8)) a0] = ((call 67 [(.v (.sl (.int .u8)) (a0)), (.v (.int .i64) (IntKind.i64.wrap ((↑(List.length a0) : Int) - (2 : Int)))), (.v (.int .i64) ((2 : Int)))]).bind fun (v0 : (Int × Bool × Unit)) => bif (!v0.snd.fst) == false then (bif decide (IntKind.i64.wrap ((4 : Int) * v0.fst) > IntKind.i64.wrap ((↑(List.length a0) : Int) - (2 : Int))) then (some (([], false, ()))) else (LP B call inl 34 m [1, 1, 1, 1, 1, 1, 1, 0, 1] (s34_6 a0 v0 ([]) ((ByteArray.mk #[])) ((0 : Int))) (KA B call inl 34 m [1, 1, 1, 1, 1, 1, 1, 0, 1] (FI B call inl 34)))) else (some (([], false, ()))) : Option ((List En) × Bool × Unit)) := by kernel_rfl
/-! function 35 -/
theorem t35 (a0 : (List Int)) : stepN B call inl m 35 [argAV (.sl (.int .u8)) a0] = ((call 34 [(.v (.sl (.int .u8)) (a0))]).bind fun (v0 : ((List En) × Bool × Unit)) => some (v0.fst) : Option (List En)) := by kernel_rfl
/-! function 36 -/
def s36_1 (a0 : (List En)) (x0 : Int) : St := { t := [(.v (.sl EntryT) (a0)), .bad, .bad, (.v (.int .i64) (x0)), .bad, .bad, .bad, .bad, .bad, .bad, .bad, .bad, .bad, .bad, .bad, .bad, .bad, .bad, .bad, .bad, .bad, .bad, .bad, .bad, .bad, .bad, .bad, .bad, .bad, .bad, .bad, (.raw undef), (.raw undef), (.raw undef)], bx := [], live := 0, g := [] }
def s36_1x2 (a0 : (List En)) : St := { t := [(.v (.sl EntryT) (a0)), .bad, (.v .bool (true)), .bad, .bad, .bad, .bad, .bad, .bad, .bad, .bad, .bad, .bad, .bad, .bad, .bad, .bad, .bad, .bad, .bad, .bad, .bad, .bad, .bad, .bad, .bad, .bad, .bad, .bad, .bad, .bad, (.raw undef), (.raw undef), (.raw undef)], bx := [none, none, none, none, none, none, none, none, none, none, none, none, none, none, none, none, none, none, none, none, none, none, none, none, none, none], live := 0, g := [] }
def s36_1x3 (a0 : (List En)) : St := { t := [(.v (.sl EntryT) (a0)), .bad, .bad, .bad, .bad, .bad, .bad, .bad, .bad, .bad, .bad, .bad, .bad, .bad, .bad, .bad, .bad, .bad, .bad, .bad, .bad, .bad, .bad, .bad, .bad, .bad, .bad, .bad, .bad, .bad, .bad, (.raw undef), (.raw undef), (.raw undef)], bx := [none, none, none, none, none, none, none, none], live := 0, g := [] }
theorem s36_1_l {R : Type} (K : AEx → St → Option R) (a0 : (List En)) (x0 : Int) : LP B call inl 36 (m + 1) [1, 0, 1] (s36_1 a0 x0) K = (bif decide (x0 < (↑(List.length a0) : Int)) == true then (bif decide (x0 < (400 : Int)) then (if (0 : Int) ≤ x0 ∧ x0 < (↑(List.length a0) : Int) then (bif decide ((↑(ByteArray.size (List.getD a0 x0.toNat (((ByteArray.mk #[]), (0 : Int), (0 : Int), ()), (ByteArray.mk #[]), ())).fst.fst) : Int) > (300 : Int)) == false then (if (0 : Int) ≤ x0 ∧ x0 < (↑(List.length a0) : Int) then (bif decide ((↑(ByteArray.size (List.getD a0 x0.toNat (((ByteArray.mk #[]), (0 : Int), (0 : Int), ()), (ByteArray.mk #[]), ())).snd.fst) : Int) > (1000 : Int)) then (K .ret (s36_1x2 a0)) else (LP B call inl 36 m [1, 0, 1] (s36_1 a0 (IntKind.i64.wrap (x0 + (1 : Int)))) K)) else (none)) else (K .ret (s36_1x2 a0))) else (none)) else (K (.exit 0) (s36_1x3 a0))) else (K (.exit 0) (s36_1x3 a0))) := by kernel_rfl
theorem s36_1x2_k (a0 : (List En)) : (KA B call inl 36 m [1, 0, 1] (FI B call inl 36)) .ret (s36_1x2 a0) = (some (true)) := by kernel_rfl
theorem s36_1x3_k (a0 : (List En)) : (KA B call inl 36 m [1, 0, 1] (FI B call inl 36)) (.exit 0) (s36_1x3 a0) = (some (decide ((↑(List.length a0) : Int) > (300 : Int)))) := by kernel_rfl
theorem t36 (a0 : (List En)) : stepN B call inl m 36 [argAV (.sl EntryT) a0] = (LP B call inl 36 m [1, 0, 1] (s36_1 a0 ((0 : Int))) (KA B call inl 36 m [1, 0, 1] (FI B call inl 36)) : Option Bool) := by kernel_rfl
/-! function 19 -/
theorem t19 : stepN B call inl m 19 [] = ((call 17 [(.v (.sl EntryT) ([]))]).bind fun (v0 : ((List Int) × Int × Unit)) => (call 33 [(.v (.sl (.int .u8)) ([(1 : Int), (2 : Int), (3 : Int)])), (.v (.int .u8) ((0 : Int)))]).bind fun (v1 : (List En)) => (call 17 [(.v (.sl EntryT) (v1))]).bind fun (v2 : ((List Int) × Int × Unit)) => (call 18 [(.v (.int .i64) (v0.snd.fst))]).bind fun (v3 : Int) => bif (v3 == (1 : Int)) == true then ((call 18 [(.v (.int .i64) (v2.snd.fst))]).bind fun (v4 : Int) => bif (v4 == (0 : Int)) == true then (some (decide ((↑(List.length v2.fst) : Int) > (0 : Int)))) else (some (false))) else (some (false)) : Option Bool) := by kernel_rfl
/-! function 3 -/
def s3_2 (a0 : Int) (a1 : Int) (x0 : (List En)) (x1 : Int) : St := { t := [.bad, (.v (.int .u8) (a1)), .bad, .bad, (.v .bool (false)), (.v (.int .i64) (IntKind.i64.wrap ((1 : Int) + (IntKind.i64.wrap a0).tmod (100 : Int)))), (.own 0 26 EntryT (x0)), (.v (.int .i64) (x1)), .bad, (.raw undef), (.raw undef), (.raw undef), .bad, (.raw undef), .bad, .bad, .bad, .bad, .bad, .bad, .bad, .bad, .bad, .bad, .bad, .bad, .bad, .bad, .bad, .bad, (.raw undef), (.raw undef), (.raw undef), (.raw undef), (.raw undef), (.raw undef), (.raw undef), (.raw undef), (.raw undef), (.raw undef), (.raw undef), (.raw undef), (.raw undef), (.raw undef), (.raw undef), (.raw undef), (.raw undef), (.raw undef), (.raw undef), (.raw undef), (.raw undef), (.raw undef), (.raw undef), (.raw undef), (.raw undef), (.raw undef), (.raw undef), (.raw undef), (.raw undef), (.raw undef), (.raw undef), (.raw undef), (.raw undef), (.raw undef), (.raw undef), (.raw undef), (.raw undef), (.raw undef), (.raw undef), (.raw undef), (.raw undef), (.raw undef), (.raw undef), (.raw undef), (.raw undef), (.raw undef), (.raw undef), (.raw undef), (.raw undef), (.raw undef), (.raw undef), (.raw undef), (.raw undef), (.raw undef), (.raw undef), (.raw undef)], bx := [none], live := 1, g := [] }
def s3_2x3 (a0 : Int) (a1 : Int) (x0 : (List En)) : St := { t := [.bad, (.v (.int .u8) (a1)), .bad, .bad, (.v .bool (false)), (.v (.int .i64) (IntKind.i64.wrap ((1 : Int) + (IntKind.i64.wrap a0).tmod (100 : Int)))), (.own 0 26 EntryT (x0)), .bad, .bad, (.raw undef), (.raw undef), (.raw undef), .bad, (.raw undef), .bad, .bad, .bad, .bad, .bad, .bad, .bad, .bad, .bad, .bad, .bad, .bad, .bad, .bad, .bad, .bad, (.raw undef), (.raw undef), (.raw undef), (.raw undef), (.raw undef), (.raw undef), (.raw undef), (.raw undef), (.raw undef), (.raw undef), (.raw undef), (.raw undef), (.raw undef), (.raw undef), (.raw undef), (.raw undef), (.raw undef), (.raw undef), (.raw undef), (.raw undef), (.raw undef), (.raw undef), (.raw undef), (.raw undef), (.raw undef), (.raw undef), (.raw undef), (.raw undef), (.raw undef), (.raw undef), (.raw undef), (.raw undef), (.raw undef), (.raw undef), (.raw undef), (.raw undef), (.raw undef), (.raw undef), (.raw undef), (.raw undef), (.raw undef), (.raw undef), (.raw undef), (.raw undef), (.raw undef), (.raw undef), (.raw undef), (.raw undef), (.raw undef), (.raw undef), (.raw undef), (.raw undef), (.raw undef), (.raw undef), (.raw undef), (.raw undef)], bx := [none, none, none, none], live := 1, g := [] }
theorem s3_2_l {R : Type} (K : AEx → St → Option R) (a0 : Int) (a1 : Int) (x0 : (List En)) (x1 : Int) : LP B call inl 3 (m + 1) [1, 1, 1, 0, 1] (s3_2 a0 a1 x0 x1) K = (bif decide (x1 < IntKind.i64.wrap ((1 : Int) + (IntKind.i64.wrap a0).tmod (100 : Int))) then (if (x0.length + [(((ByteArray.mk #[(117 : UInt8)]), IntKind.i64.wrap ((200 : Int) - x1), (1 : Int), ()), (ByteArray.mk #[]), ())].length) * (48 : Nat) ≤ 140737488355328 then (LP B call inl 3 m [1, 1, 1, 0, 1] (s3_2 a0 a1 (x0 ++ [(((ByteArray.mk #[(117 : UInt8)]), IntKind.i64.wrap ((200 : Int) - x1), (1 : Int), ()), (ByteArray.mk #[]), ())]) (IntKind.i64.wrap (x1 + (1 : Int)))) K) else (none)) else (K (.exit 0) (s3_2x3 a0 a1 x0))) := by kernel_rfl
theorem s3_2x3_k (a0 : Int) (a1 : Int) (x0 : (List En)) : (KA B call inl 3 m [1, 1, 1, 0, 1] (FI B call inl 3)) (.exit 0) (s3_2x3 a0 a1 x0) = ((call 17 [(.v (.sl EntryT) (x0))]).bind fun (v4 : ((List Int) × Int × Unit)) => (call 18 [(.v (.int .i64) (v4.snd.fst))]).bind fun (v5 : Int) => bif (!(v5 == (0 : Int)) == decide (IntKind.i64.wrap ((1 : Int) + (IntKind.i64.wrap a0).tmod (100 : Int)) ≤ (64 : Int))) == false then (bif decide (IntKind.i64.wrap ((1 : Int) + (IntKind.i64.wrap a0).tmod (100 : Int)) > (64 : Int)) == true then ((call 18 [(.v (.int .i64) (v4.snd.fst))]).bind fun (v6 : Int) => bif v6 != (4 : Int) then (some (false)) else (bif decide (IntKind.i64.wrap ((1 : Int) + (IntKind.i64.wrap a0).tmod (100 : Int)) < (2 : Int)) then ((call 19 []).bind fun (v7 : Bool) => some (v7)) else (if IntKind.i64.wrap (IntKind.i64.wrap ((1 : Int) + (IntKind.i64.wrap a0).tmod (100 : Int)) - (1 : Int)) = (0 : Int) then (none) else (if (0 : Int) ≤ (IntKind.i64.wrap a1).tmod (IntKind.i64.wrap (IntKind.i64.wrap ((1 : Int) + (IntKind.i64.wrap a0).tmod (100 : Int)) - (1 : Int))) ∧ (IntKind.i64.wrap a1).tmod (IntKind.i64.wrap (IntKind.i64.wrap ((1 : Int) + (IntKind.i64.wrap a0).tmod (100 : Int)) - (1 : Int))) < (↑x0.length : Int) then (if (0 : Int) ≤ IntKind.i64.wrap ((IntKind.i64.wrap a1).tmod (IntKind.i64.wrap (IntKind.i64.wrap ((1 : Int) + (IntKind.i64.wrap a0).tmod (100 : Int)) - (1 : Int))) + (1 : Int)) ∧ IntKind.i64.wrap ((IntKind.i64.wrap a1).tmod (IntKind.i64.wrap (IntKind.i64.wrap ((1 : Int) + (IntKind.i64.wrap a0).tmod (100 : Int)) - (1 : Int))) + (1 : Int)) < (↑x0.length : Int) then (if (0 : Int) ≤ (IntKind.i64.wrap a1).tmod (IntKind.i64.wrap (IntKind.i64.wrap ((1 : Int) + (IntKind.i64.wrap a0).tmod (100 : Int)) - (1 : Int))) ∧ (IntKind.i64.wrap a1).tmod (IntKind.i64.wrap (IntKind.i64.wrap ((1 : Int) + (IntKind.i64.wrap a0).tmod (100 : Int)) - (1 : Int))) < (↑x0.length : Int) then (if (0 : Int) ≤ IntKind.i64.wrap ((IntKind.i64.wrap a1).tmod (IntKind.i64.wrap (IntKind.i64.wrap ((1 : Int) + (IntKind.i64.wrap a0).tmod (100 : Int)) - (1 : Int))) + (1 : Int)) ∧ IntKind.i64.wrap ((IntKind.i64.wrap a1).tmod (IntKind.i64.wrap (IntKind.i64.wrap ((1 : Int) + (IntKind.i64.wrap a0).tmod (100 : Int)) - (1 : Int))) + (1 : Int)) < (↑(x0.set ((IntKind.i64.wrap a1).tmod (IntKind.i64.wrap (IntKind.i64.wrap ((1 : Int) + (IntKind.i64.wrap a0).tmod (100 : Int)) - (1 : Int)))).toNat (((x0.getD (IntKind.i64.wrap ((IntKind.i64.wrap a1).tmod (IntKind.i64.wrap (IntKind.i64.wrap ((1 : Int) + (IntKind.i64.wrap a0).tmod (100 : Int)) - (1 : Int))) + (1 : Int))).toNat (((ByteArray.mk #[]), (0 : Int), (0 : Int), ()), (ByteArray.mk #[]), ())).fst.fst, (x0.getD (IntKind.i64.wrap ((IntKind.i64.wrap a1).tmod (IntKind.i64.wrap (IntKind.i64.wrap ((1 : Int) + (IntKind.i64.wrap a0).tmod (100 : Int)) - (1 : Int))) + (1 : Int))).toNat (((ByteArray.mk #[]), (0 : Int), (0 : Int), ()), (ByteArray.mk #[]), ())).fst.snd.fst, (x0.getD (IntKind.i64.wrap ((IntKind.i64.wrap a1).tmod (IntKind.i64.wrap (IntKind.i64.wrap ((1 : Int) + (IntKind.i64.wrap a0).tmod (100 : Int)) - (1 : Int))) + (1 : Int))).toNat (((ByteArray.mk #[]), (0 : Int), (0 : Int), ()), (ByteArray.mk #[]), ())).fst.snd.snd.fst, ()), (x0.getD (IntKind.i64.wrap ((IntKind.i64.wrap a1).tmod (IntKind.i64.wrap (IntKind.i64.wrap ((1 : Int) + (IntKind.i64.wrap a0).tmod (100 : Int)) - (1 : Int))) + (1 : Int))).toNat (((ByteArray.mk #[]), (0 : Int), (0 : Int), ()), (ByteArray.mk #[]), ())).snd.fst, ())).length : Int) then ((call 17 [(.v (.sl EntryT) ((x0.set ((IntKind.i64.wrap a1).tmod (IntKind.i64.wrap (IntKind.i64.wrap ((1 : Int) + (IntKind.i64.wrap a0).tmod (100 : Int)) - (1 : Int)))).toNat (((x0.getD (IntKind.i64.wrap ((IntKind.i64.wrap a1).tmod (IntKind.i64.wrap (IntKind.i64.wrap ((1 : Int) + (IntKind.i64.wrap a0).tmod (100 : Int)) - (1 : Int))) + (1 : Int))).toNat (((ByteArray.mk #[]), (0 : Int), (0 : Int), ()), (ByteArray.mk #[]), ())).fst.fst, (x0.getD (IntKind.i64.wrap ((IntKind.i64.wrap a1).tmod (IntKind.i64.wrap (IntKind.i64.wrap ((1 : Int) + (IntKind.i64.wrap a0).tmod (100 : Int)) - (1 : Int))) + (1 : Int))).toNat (((ByteArray.mk #[]), (0 : Int), (0 : Int), ()), (ByteArray.mk #[]), ())).fst.snd.fst, (x0.getD (IntKind.i64.wrap ((IntKind.i64.wrap a1).tmod (IntKind.i64.wrap (IntKind.i64.wrap ((1 : Int) + (IntKind.i64.wrap a0).tmod (100 : Int)) - (1 : Int))) + (1 : Int))).toNat (((ByteArray.mk #[]), (0 : Int), (0 : Int), ()), (ByteArray.mk #[]), ())).fst.snd.snd.fst, ()), (x0.getD (IntKind.i64.wrap ((IntKind.i64.wrap a1).tmod (IntKind.i64.wrap (IntKind.i64.wrap ((1 : Int) + (IntKind.i64.wrap a0).tmod (100 : Int)) - (1 : Int))) + (1 : Int))).toNat (((ByteArray.mk #[]), (0 : Int), (0 : Int), ()), (ByteArray.mk #[]), ())).snd.fst, ())).set (IntKind.i64.wrap ((IntKind.i64.wrap a1).tmod (IntKind.i64.wrap (IntKind.i64.wrap ((1 : Int) + (IntKind.i64.wrap a0).tmod (100 : Int)) - (1 : Int))) + (1 : Int))).toNat (((x0.getD ((IntKind.i64.wrap a1).tmod (IntKind.i64.wrap (IntKind.i64.wrap ((1 : Int) + (IntKind.i64.wrap a0).tmod (100 : Int)) - (1 : Int)))).toNat (((ByteArray.mk #[]), (0 : Int), (0 : Int), ()), (ByteArray.mk #[]), ())).fst.fst, (x0.getD ((IntKind.i64.wrap a1).tmod (IntKind.i64.wrap (IntKind.i64.wrap ((1 : Int) + (IntKind.i64.wrap a0).tmod (100 : Int)) - (1 : Int)))).toNat (((ByteArray.mk #[]), (0 : Int), (0 : Int), ()), (ByteArray.mk #[]), ())).fst.snd.fst, (x0.getD ((IntKind.i64.wrap a1).tmod (IntKind.i64.wrap (IntKind.i64.wrap ((1 : Int) + (IntKind.i64.wrap a0).tmod (100 : Int)) - (1 : Int)))).toNat (((ByteArray.mk #[]), (0 : Int), (0 : Int), ()), (ByteArray.mk #[]), ())).fst.snd.snd.fst, ()), (x0.getD ((IntKind.i64.wrap a1).tmod (IntKind.i64.wrap (IntKind.i64.wrap ((1 : Int) + (IntKind.i64.wrap a0).tmod (100 : Int)) - (1 : Int)))).toNat (((ByteArray.mk #[]), (0 : Int), (0 : Int), ()), (ByteArray.mk #[]), ())).snd.fst, ())))]).bind fun (v8 : ((List Int) × Int × Unit)) => (call 18 [(.v (.int .i64) (v8.snd.fst))]).bind fun (v9 : Int) => bif (v9 == (1 : Int)) == true then ((call 19 []).bind fun (v10 : Bool) => some (v10)) else (some (false))) else (none)) else (none)) else (none)) else (none))))) else (bif decide (IntKind.i64.wrap ((1 : Int) + (IntKind.i64.wrap a0).tmod (100 : Int)) < (2 : Int)) then ((call 19 []).bind fun (v11 : Bool) => some (v11)) else (if IntKind.i64.wrap (IntKind.i64.wrap ((1 : Int) + (IntKind.i64.wrap a0).tmod (100 : Int)) - (1 : Int)) = (0 : Int) then (none) else (if (0 : Int) ≤ (IntKind.i64.wrap a1).tmod (IntKind.i64.wrap (IntKind.i64.wrap ((1 : Int) + (IntKind.i64.wrap a0).tmod (100 : Int)) - (1 : Int))) ∧ (IntKind.i64.wrap a1).tmod (IntKind.i64.wrap (IntKind.i64.wrap ((1 : Int) + (IntKind.i64.wrap a0).tmod (100 : Int)) - (1 : Int))) < (↑x0.length : Int) then (if (0 : Int) ≤ IntKind.i64.wrap ((IntKind.i64.wrap a1).tmod (IntKind.i64.wrap (IntKind.i64.wrap ((1 : Int) + (IntKind.i64.wrap a0).tmod (100 : Int)) - (1 : Int))) + (1 : Int)) ∧ IntKind.i64.wrap ((IntKind.i64.wrap a1).tmod (IntKind.i64.wrap (IntKind.i64.wrap ((1 : Int) + (IntKind.i64.wrap a0).tmod (100 : Int)) - (1 : Int))) + (1 : Int)) < (↑x0.length : Int) then (if (0 : Int) ≤ (IntKind.i64.wrap a1).tmod (IntKind.i64.wrap (IntKind.i64.wrap ((1 : Int) + (IntKind.i64.wrap a0).tmod (100 : Int)) - (1 : Int))) ∧ (IntKind.i64.wrap a1).tmod (IntKind.i64.wrap (IntKind.i64.wrap ((1 : Int) + (IntKind.i64.wrap a0).tmod (100 : Int)) - (1 : Int))) < (↑x0.length : Int) then (if (0 : Int) ≤ IntKind.i64.wrap ((IntKind.i64.wrap a1).tmod (IntKind.i64.wrap (IntKind.i64.wrap ((1 : Int) + (IntKind.i64.wrap a0).tmod (100 : Int)) - (1 : Int))) + (1 : Int)) ∧ IntKind.i64.wrap ((IntKind.i64.wrap a1).tmod (IntKind.i64.wrap (IntKind.i64.wrap ((1 : Int) + (IntKind.i64.wrap a0).tmod (100 : Int)) - (1 : Int))) + (1 : Int)) < (↑(x0.set ((IntKind.i64.wrap a1).tmod (IntKind.i64.wrap (IntKind.i64.wrap ((1 : Int) + (IntKind.i64.wrap a0).tmod (100 : Int)) - (1 : Int)))).toNat (((x0.getD (IntKind.i64.wrap ((IntKind.i64.wrap a1).tmod (IntKind.i64.wrap (IntKind.i64.wrap ((1 : Int) + (IntKind.i64.wrap a0).tmod (100 : Int)) - (1 : Int))) + (1 : Int))).toNat (((ByteArray.mk #[]), (0 : Int), (0 : Int), ()), (ByteArray.mk #[]), ())).fst.fst, (x0.getD (IntKind.i64.wrap ((IntKind.i64.wrap a1).tmod (IntKind.i64.wrap (IntKind.i64.wrap ((1 : Int) + (IntKind.i64.wrap a0).tmod (100 : Int)) - (1 : Int))) + (1 : Int))).toNat (((ByteArray.mk #[]), (0 : Int), (0 : Int), ()), (ByteArray.mk #[]), ())).fst.snd.fst, (x0.getD (IntKind.i64.wrap ((IntKind.i64.wrap a1).tmod (IntKind.i64.wrap (IntKind.i64.wrap ((1 : Int) + (IntKind.i64.wrap a0).tmod (100 : Int)) - (1 : Int))) + (1 : Int))).toNat (((ByteArray.mk #[]), (0 : Int), (0 : Int), ()), (ByteArray.mk #[]), ())).fst.snd.snd.fst, ()), (x0.getD (IntKind.i64.wrap ((IntKind.i64.wrap a1).tmod (IntKind.i64.wrap (IntKind.i64.wrap ((1 : Int) + (IntKind.i64.wrap a0).tmod (100 : Int)) - (1 : Int))) + (1 : Int))).toNat (((ByteArray.mk #[]), (0 : Int), (0 : Int), ()), (ByteArray.mk #[]), ())).snd.fst, ())).length : Int) then ((call 17 [(.v (.sl EntryT) ((x0.set ((IntKind.i64.wrap a1).tmod (IntKind.i64.wrap (IntKind.i64.wrap ((1 : Int) + (IntKind.i64.wrap a0).tmod (100 : Int)) - (1 : Int)))).toNat (((x0.getD (IntKind.i64.wrap ((IntKind.i64.wrap a1).tmod (IntKind.i64.wrap (IntKind.i64.wrap ((1 : Int) + (IntKind.i64.wrap a0).tmod (100 : Int)) - (1 : Int))) + (1 : Int))).toNat (((ByteArray.mk #[]), (0 : Int), (0 : Int), ()), (ByteArray.mk #[]), ())).fst.fst, (x0.getD (IntKind.i64.wrap ((IntKind.i64.wrap a1).tmod (IntKind.i64.wrap (IntKind.i64.wrap ((1 : Int) + (IntKind.i64.wrap a0).tmod (100 : Int)) - (1 : Int))) + (1 : Int))).toNat (((ByteArray.mk #[]), (0 : Int), (0 : Int), ()), (ByteArray.mk #[]), ())).fst.snd.fst, (x0.getD (IntKind.i64.wrap ((IntKind.i64.wrap a1).tmod (IntKind.i64.wrap (IntKind.i64.wrap ((1 : Int) + (IntKind.i64.wrap a0).tmod (100 : Int)) - (1 : Int))) + (1 : Int))).toNat (((ByteArray.mk #[]), (0 : Int), (0 : Int), ()), (ByteArray.mk #[]), ())).fst.snd.snd.fst, ()), (x0.getD (IntKind.i64.wrap ((IntKind.i64.wrap a1).tmod (IntKind.i64.wrap (IntKind.i64.wrap ((1 : Int) + (IntKind.i64.wrap a0).tmod (100 : Int)) - (1 : Int))) + (1 : Int))).toNat (((ByteArray.mk #[]), (0 : Int), (0 : Int), ()), (ByteArray.mk #[]), ())).snd.fst, ())).set (IntKind.i64.wrap ((IntKind.i64.wrap a1).tmod (IntKind.i64.wrap (IntKind.i64.wrap ((1 : Int) + (IntKind.i64.wrap a0).tmod (100 : Int)) - (1 : Int))) + (1 : Int))).toNat (((x0.getD ((IntKind.i64.wrap a1).tmod (IntKind.i64.wrap (IntKind.i64.wrap ((1 : Int) + (IntKind.i64.wrap a0).tmod (100 : Int)) - (1 : Int)))).toNat (((ByteArray.mk #[]), (0 : Int), (0 : Int), ()), (ByteArray.mk #[]), ())).fst.fst, (x0.getD ((IntKind.i64.wrap a1).tmod (IntKind.i64.wrap (IntKind.i64.wrap ((1 : Int) + (IntKind.i64.wrap a0).tmod (100 : Int)) - (1 : Int)))).toNat (((ByteArray.mk #[]), (0 : Int), (0 : Int), ()), (ByteArray.mk #[]), ())).fst.snd.fst, (x0.getD ((IntKind.i64.wrap a1).tmod (IntKind.i64.wrap (IntKind.i64.wrap ((1 : Int) + (IntKind.i64.wrap a0).tmod (100 : Int)) - (1 : Int)))).toNat (((ByteArray.mk #[]), (0 : Int), (0 : Int), ()), (ByteArray.mk #[]), ())).fst.snd.snd.fst, ()), (x0.getD ((IntKind.i64.wrap a1).tmod (IntKind.i64.wrap (IntKind.i64.wrap ((1 : Int) + (IntKind.i64.wrap a0).tmod (100 : Int)) - (1 : Int)))).toNat (((ByteArray.mk #[]), (0 : Int), (0 : Int), ()), (ByteArray.mk #[]), ())).snd.fst, ())))]).bind fun (v12 : ((List Int) × Int × Unit)) => (call 18 [(.v (.int .i64) (v12.snd.fst))]).bind fun (v13 : Int) => bif (v13 == (1 : Int)) == true then ((call 19 []).bind fun (v14 : Bool) => some (v14)) else (some (false))) else (none)) else (none)) else (none)) else (none))))) else (some (false))) := by kernel_rfl
theorem t3 (a0 : Int) (a1 : Int) : stepN B call inl m 3 [argAV (.int .u8) a0, argAV (.int .u8) a1] = (LP B call inl 3 m [1, 1, 1, 0, 1] (s3_2 a0 a1 ([]) ((0 : Int))) (KA B call inl 3 m [1, 1, 1, 0, 1] (FI B call inl 3)) : Option Bool) := by kernel_rfl
/-! function 8 -/
theorem t8 (a0 : (List Int)) (a1 : Int) (a2 : (List Int)) (a3 : (List Int)) : stepN B call inl m 8 [argAV (.sl (.int .u8)) a0, argAV (.int .u16) a1, argAV (.sl (.int .u8)) a2, argAV (.sl (.int .u8)) a3] = (bif ((↑(List.length a0) : Int) == (0 : Int)) == false then (bif decide ((↑(List.length a0) : Int) > (64 : Int)) == false then (bif ((↑(List.length a2) : Int) == (0 : Int)) == false then (bif decide ((↑(List.length a2) : Int) > (50 : Int)) == false then (bif decide ((↑(List.length a3) : Int) > (2000 : Int)) then ((call 19 []).bind fun (v0 : Bool) => some (v0)) else ((call 33 [(.v (.sl (.int .u8)) (a0)), (.v (.int .u8) ((5 : Int)))]).bind fun (v1 : (List En)) => (call 17 [(.v (.sl EntryT) (v1))]).bind fun (v2 : ((List Int) × Int × Unit)) => bif (↑(List.length v2.fst) : Int) == (0 : Int) then (some (false)) else (if (↑(List.length v2.fst) : Int) = (0 : Int) then (none) else (if (0 : Int) ≤ (IntKind.i64.wrap a1).tmod (↑(List.length v2.fst) : Int) ∧ (IntKind.i64.wrap a1).tmod (↑(List.length v2.fst) : Int) ≤ (↑(List.length v2.fst) : Int) then ((call 34 [(.v (.sl (.int .u8)) (List.drop (0 : Nat) (List.take ((IntKind.i64.wrap a1).tmod (↑(List.length v2.fst) : Int)).toNat v2.fst)))]).bind fun (v3 : ((List En) × Bool × Unit)) => bif v3.snd.fst then (if (↑(List.length v2.fst) : Int) = (0 : Int) then (none) else (if (0 : Int) ≤ (IntKind.i64.wrap a1).tmod (↑(List.length v2.fst) : Int) ∧ (IntKind.i64.wrap a1).tmod (↑(List.length v2.fst) : Int) ≤ (↑(List.length v2.fst) : Int) then ((call 35 [(.v (.sl (.int .u8)) (List.drop (0 : Nat) (List.take ((IntKind.i64.wrap a1).tmod (↑(List.length v2.fst) : Int)).toNat v2.fst)))]).bind fun (v4 : (List En)) => (call 17 [(.v (.sl EntryT) (v4))]).bind fun (v5 : ((List Int) × Int × Unit)) => (call 18 [(.v (.int .i64) (v5.snd.fst))]).bind fun (v6 : Int) => bif (v6 != (0 : Int)) == false then (if (↑(List.length v2.fst) : Int) = (0 : Int) then (none) else (if (0 : Int) ≤ (IntKind.i64.wrap a1).tmod (↑(List.length v2.fst) : Int) ∧ (IntKind.i64.wrap a1).tmod (↑(List.length v2.fst) : Int) ≤ (↑(List.length v2.fst) : Int) then (bif !(strOf v5.fst).toList == (strOf (List.drop (0 : Nat) (List.take ((IntKind.i64.wrap a1).tmod (↑(List.length v2.fst) : Int)).toNat v2.fst))).toList then (some (false)) else ((call 34 [(.v (.sl (.int .u8)) (a3))]).bind fun (v7 : ((List En) × Bool × Unit)) => (call 17 [(.v (.sl EntryT) (v7.fst))]).bind fun (v8 : ((List Int) × Int × Unit)) => bif (!v7.snd.fst) == false then (bif ((strOf v8.fst).toList == (strOf a3).toList) == true then (bif v7.snd.fst == false then (bif ((↑(List.length v7.fst) : Int) == (0 : Int)) == true then ((call 19 []).bind fun (v9 : Bool) => some (v9)) else (some (false))) else ((call 19 []).bind fun (v10 : Bool) => some (v10))) else (some (false))) else (bif v7.snd.fst == false then (bif ((↑(List.length v7.fst) : Int) == (0 : Int)) == true then ((call 19 []).bind fun (v11 : Bool) => some (v11)) else (some (false))) else ((call 19 []).bind fun (v12 : Bool) => some (v12))))) else (none))) else (some (false))) else (none))) else ((call 34 [(.v (.sl (.int .u8)) (a3))]).bind fun (v13 : ((List En) × Bool × Unit)) => (call 17 [(.v (.sl EntryT) (v13.fst))]).bind fun (v14 : ((List Int) × Int × Unit)) => bif (!v13.snd.fst) == false then (bif ((strOf v14.fst).toList == (strOf a3).toList) == true then (bif v13.snd.fst == false then (bif ((↑(List.length v13.fst) : Int) == (0 : Int)) == true then ((call 19 []).bind fun (v15 : Bool) => some (v15)) else (some (false))) else ((call 19 []).bind fun (v16 : Bool) => some (v16))) else (some (false))) else (bif v13.snd.fst == false then (bif ((↑(List.length v13.fst) : Int) == (0 : Int)) == true then ((call 19 []).bind fun (v17 : Bool) => some (v17)) else (some (false))) else ((call 19 []).bind fun (v18 : Bool) => some (v18))))) else (none))))) else ((call 19 []).bind fun (v19 : Bool) => some (v19))) else ((call 19 []).bind fun (v20 : Bool) => some (v20))) else ((call 19 []).bind fun (v21 : Bool) => some (v21))) else ((call 19 []).bind fun (v22 : Bool) => some (v22)) : Option Bool) := by kernel_rfl
end
end Go.Eng.Bk
/- What the machine answers at some functions of the program: printed by the generator, each checked by the kernel. -/
namespace Go.Eng.Bk
open Go Go.Proofs Go.Eng
set_option linter.unusedVariables false
set_option maxRecDepth 100000
section
variable (call : CallT B) (inl : InlT) (m : Nat)
/-! function 37 -/
def s37_33 (a0 : (List En)) (x19 : (List Int)) (x20 : (List Int)) (x21 : Int) (x22 : Int) : St := { t := [(.v (.sl EntryT) (a0)), .bad, .nilS, (.v (.int .i64) ((0 : Int))), (.own 0 5 (.int .u8) (x19)), (.own 1 5 (.int .u8) (x20)), (.v (.int .i64) (x21)), (.v (.int .i64) (x22)), .bad, .bad, .bad, .bad, .bad, .bad, .bad, .bad, .bad, .bad, .bad, .bad, .bad, .bad, .bad, .bad, .bad, .bad, .bad, .bad, .bad, .bad, .bad, .bad, .bad, .bad, .bad, .bad, .bad, .bad, .bad, .bad, .bad, .bad, .bad, .bad, .bad, .bad, .bad, .bad, .bad, .bad, .bad, .bad, .bad, .bad, .bad, .bad, .bad, .bad, .bad, .bad, .bad, .bad, .bad, .bad, .bad, .bad, .bad, .bad, .bad, .bad, .bad, .bad, .bad, .bad, .bad, .bad, .bad, .bad, .bad, .bad, .bad, .bad, .bad, (.raw undef), (.raw undef), (.raw undef), (.raw undef), (.raw undef), (.raw undef), (.raw undef)], bx := [none, none], live := 3, g := [] }
def s37_33x44 (x19 : (List Int)) (x20 : (List Int)) (x21 : Int) : St := { t := [.bad, .bad, .nilS, (.v (.int .i64) ((0 : Int))), (.own 0 5 (.int .u8) (x19)), (.own 1 5 (.int .u8) (x20)), (.v (.int .i64) (x21)), .bad, .bad, .bad, .bad, .bad, .bad, .bad, .bad, .bad, .bad, .bad, .bad, .bad, .bad, .bad, .bad, .bad, .bad, .bad, .bad, .bad, .bad, .bad, .bad, .bad, .bad, .bad, .bad, .bad, .bad, .bad, .bad, .bad, .bad, .bad, .bad, .bad, .bad, .bad, .bad, .bad, .bad, .bad, .bad, .bad, .bad, .bad, .bad, .bad, .bad, .bad, .bad, .bad, .bad, .bad, .bad, .bad, .bad, .bad, .bad, .bad, .bad, .bad, .bad, .bad, .bad, .bad, .bad, .bad, .bad, .bad, .bad, .bad, .bad, .bad, .bad, (.raw undef), (.raw undef), (.raw undef), (.raw undef), (.raw undef), (.raw undef), (.raw undef)], bx := [none, none, none, none, none, none], live := 3, g := [] }
theorem s37_33_l {R : Type} (K : AEx → St → Option R) (a0 : (List En)) (x19 : (List Int)) (x20 : (List Int)) (x21 : Int) (x22 : Int) : LP B call inl 37 (m + 1) [1, 1, 1, 1, 0, 1] (s37_33 a0 x19 x20 x21 x22) K = (bif decide (x22 < (↑(List.length a0) : Int)) then (if (0 : Int) ≤ x22 ∧ x22 < (↑(List.length a0) : Int) then (bif x22.tmod (4 : Int) == (0 : Int) then ((call 71 [(.v (.int .i64) ((↑x19.length : Int))), (.v (.int .i64) ((4 : Int)))]).bind fun (v34 : (List Int)) => if (x20.length + List.length v34) * (1 : Nat) ≤ 140737488355328 then ((call 73 [(.v (.int .i64) ((0 : Int)))]).bind fun (v35 : (List Int)) => if (x19.length + List.length v35) * (1 : Nat) ≤ 140737488355328 then ((call 74 [(.v .str (ByteArray.extract (List.getD a0 x22.toNat (((ByteArray.mk #[]), (0 : Int), (0 : Int), ()), (ByteArray.mk #[]), ())).fst.fst (Int.toNat (0 : Int)) (ByteArray.size (List.getD a0 x22.toNat (((ByteArray.mk #[]), (0 : Int), (0 : Int), ()), (ByteArray.mk #[]), ())).fst.fst)))]).bind fun (v36 : (List Int)) => if ((x19 ++ v35).length + List.length v36) * (1 : Nat) ≤ 140737488355328 then ((call 73 [(.v (.int .i64) (IntKind.i64.wrap (IntKind.i64.wrap (IntKind.i64.wrap ((2 : Int) * (List.getD a0 x22.toNat (((ByteArray.mk #[]), (0 : Int), (0 : Int), ()), (ByteArray.mk #[]), ())).fst.snd.fst) + (List.getD a0 x22.toNat (((ByteArray.mk #[]), (0 : Int), (0 : Int), ()), (ByteArray.mk #[]), ())).fst.snd.snd.fst) - (1 : Int))))]).bind fun (v37 : (List Int)) => if ((x19 ++ v35 ++ v36).length + List.length v37) * (1 : Nat) ≤ 140737488355328 then (if (0 : Int) ≤ x22 ∧ x22 < (↑(List.length a0) : Int) then ((call 74 [(.v .str ((List.getD a0 x22.toNat (((ByteArray.mk #[]), (0 : Int), (0 : Int), ()), (ByteArray.mk #[]), ())).snd.fst))]).bind fun (v38 : (List Int)) => if ((x19 ++ v35 ++ v36 ++ v37).length + List.length v38) * (1 : Nat) ≤ 140737488355328 then (LP B call inl 37 m [1, 1, 1, 1, 0, 1] (s37_33 a0 (x19 ++ v35 ++ v36 ++ v37 ++ v38) (x20 ++ v34) (IntKind.i64.wrap (x21 + (1 : Int))) (IntKind.i64.wrap (x22 + (1 : Int)))) K) else (none)) else (none)) else (none)) else (none)) else (none)) else (none)) else (if (0 : Int) ≤ IntKind.i64.wrap (x22 - (1 : Int)) ∧ IntKind.i64.wrap (x22 - (1 : Int)) < (↑(List.length a0) : Int) then ((call 72 [(.v .str ((List.getD a0 x22.toNat (((ByteArray.mk #[]), (0 : Int), (0 : Int), ()), (ByteArray.mk #[]), ())).fst.fst)), (.v .str ((List.getD a0 (IntKind.i64.wrap (x22 - (1 : Int))).toNat (((ByteArray.mk #[]), (0 : Int), (0 : Int), ()), (ByteArray.mk #[]), ())).fst.fst))]).bind fun (v39 : Int) => (call 73 [(.v (.int .i64) (v39))]).bind fun (v40 : (List Int)) => if (x19.length + List.length v40) * (1 : Nat) ≤ 140737488355328 then (if (0 : Int) ≤ v39 ∧ v39 ≤ (↑(ByteArray.size (List.getD a0 x22.toNat (((ByteArray.mk #[]), (0 : Int), (0 : Int), ()), (ByteArray.mk #[]), ())).fst.fst) : Int) then ((call 74 [(.v .str (ByteArray.extract (List.getD a0 x22.toNat (((ByteArray.mk #[]), (0 : Int), (0 : Int), ()), (ByteArray.mk #[]), ())).fst.fst (Int.toNat v39) (ByteArray.size (List.getD a0 x22.toNat (((ByteArray.mk #[]), (0 : Int), (0 : Int), ()), (ByteArray.mk #[]), ())).fst.fst)))]).bind fun (v41 : (List Int)) => if ((x19 ++ v40).length + List.length v41) * (1 : Nat) ≤ 140737488355328 then ((call 73 [(.v (.int .i64) (IntKind.i64.wrap (IntKind.i64.wrap (IntKind.i64.wrap ((2 : Int) * (List.getD a0 x22.toNat (((ByteArray.mk #[]), (0 : Int), (0 : Int), ()), (ByteArray.mk #[]), ())).fst.snd.fst) + (List.getD a0 x22.toNat (((ByteArray.mk #[]), (0 : Int), (0 : Int), ()), (ByteArray.mk #[]), ())).fst.snd.snd.fst) - (1 : Int))))]).bind fun (v42 : (List Int)) => if ((x19 ++ v40 ++ v41).length + List.length v42) * (1 : Nat) ≤ 140737488355328 then (if (0 : Int) ≤ x22 ∧ x22 < (↑(List.length a0) : Int) then ((call 74 [(.v .str ((List.getD a0 x22.toNat (((ByteArray.mk #[]), (0 : Int), (0 : Int), ()), (ByteArray.mk #[]), ())).snd.fst))]).bind fun (v43 : (List Int)) => if ((x19 ++ v40 ++ v41 ++ v42).length + List.length v43) * (1 : Nat) ≤ 140737488355328 then (LP B call inl 37 m [1, 1, 1, 1, 0, 1] (s37_33 a0 (x19 ++ v40 ++ v41 ++ v42 ++ v43) (x20) (x21) (IntKind.i64.wrap (x22 + (1 : Int)))) K) else (none)) else (none)) else (none)) else (none)) else (none)) else (none)) else (none))) else (none)) else (K (.exit 1) (s37_33x44 x19 x20 x21))) := by kernel_rfl
theorem s37_33x44_k (x19 : (List Int)) (x20 : (List Int)) (x21 : Int) : (KA B call inl 37 m [1, 1, 1, 1, 0, 1] (FI B call inl 37)) (.exit 1) (s37_33x44 x19 x20 x21) = (if (x19.length + x20.length) * (1 : Nat) ≤ 140737488355328 then ((call 71 [(.v (.int .i64) (x21)), (.v (.int .i64) ((2 : Int)))]).bind fun (v55 : (List Int)) => if ((x19 ++ x20).length + List.length v55) * (1 : Nat) ≤ 140737488355328 then (some ((x19 ++ x20 ++ v55, (0 : Int), ()))) else (none)) else (none)) := by kernel_rfl
theorem t37 (a0 : (List En)) : stepN B call inl m 37 [argAV (.sl EntryT) a0] = ((call 70 [(.v (.sl EntryT) (a0))]).bind fun (v0 : Bool) => bif (!v0) == false then (bif (↑(List.length a0) : Int) == (0 : Int) then (some (([], (1 : Int), ()))) else (bif decide ((↑(List.length a0) : Int) > (64 : Int)) then (some (([], (4 : Int), ()))) else (LP B call inl 37 m [1, 1, 1, 1, 0, 1] (s37_33 a0 ([]) ([]) ((0 : Int)) ((0 : Int))) (KA B call inl 37 m [1, 1, 1, 1, 0, 1] (FI B call inl 37))))) else (some (([], (1 : Int), ()))) : Option ((List Int) × Int × Unit)) := by kernel_rfl
/-! function 38 -/
def s38_12 (a0 : (List Int)) (v0 : (Int × Bool × Unit)) (x5 : (List En)) (x6 : Int) (x7 : ByteArray) : St := { t := [(.v (.sl (.int .u8)) (a0)), .bad, .bad, .bad, .bad, .bad, (.v (.int .i64) (IntKind.i64.wrap (IntKind.i64.wrap ((↑(List.length a0) : Int) - (2 : Int)) - IntKind.i64.wrap ((4 : Int) * v0.fst)))), (.own 0 26 EntryT (x5)), (.v (.int .i64) (x6)), (.v .str (x7)), .bad, .bad, .bad, .bad, .bad, .bad, .bad, .bad, .bad, .bad, .bad, .bad, (.raw undef), (.raw undef), .bad, .bad, .bad, .bad, .bad, .bad, .bad, .bad, .bad, .bad, .bad, .bad, .bad, .bad, .bad, .bad, .bad, .bad, .bad, .bad, .bad, .bad, .bad, .bad, .bad, .bad, .bad, .bad, .bad, .bad, .bad, .bad, .bad, .bad, .bad, .bad, .bad, .bad, .bad, .bad, .bad, .bad, .bad, .bad, .bad, .bad, .bad, .bad, .bad, .bad, .bad, .bad, .bad, .bad, .bad, .bad, .bad, .bad, .bad, .bad, .bad, .bad, .bad, .bad, .bad, .bad, .bad, .bad, .bad, .bad, .bad, .bad, .bad, .bad, .bad, .bad, .bad, .bad, .bad, .bad, .bad, .bad, .bad, .bad, .bad, .bad, .bad, .bad, .bad, .bad, .bad, .bad, .bad, .bad, .bad, .bad, .bad, .bad, .bad, .bad, .bad, .bad, .bad, .bad, .bad, .bad, .bad, .bad, .bad, .bad, .bad, .bad, .bad, .bad, .bad, .bad, (.raw undef), (.raw undef), (.raw undef), (.raw undef), (.raw undef), (.raw undef), (.raw undef), (.raw undef), (.raw undef), (.raw undef), (.raw undef), (.raw undef), (.raw undef), (.raw undef), (.raw undef)], bx := [none], live := 1, g := [] }
def s38_12x17 (a0 : (List Int)) (x5 : (List En)) : St := { t := [(.v (.sl (.int .u8)) (a0)), .bad, .nilS, (.v .bool (false)), .bad, .bad, .bad, (.own 0 26 EntryT (x5)), .bad, .bad, .bad, .bad, .bad, .bad, .bad, .bad, .bad, .bad, .bad, .bad, .bad, .bad, (.raw undef), (.raw undef), .bad, .bad, .bad, .bad, .bad, .bad, .bad, .bad, .bad, .bad, .bad, .bad, .bad, .bad, .bad, .bad, .bad, .bad, .bad, .bad, .bad, .bad, .bad, .bad, .bad, .bad, .bad, .bad, .bad, .bad, .bad, .bad, .bad, .bad, .bad, .bad, .bad, .bad, .bad, .bad, .bad, .bad, .bad, .bad, .bad, .bad, .bad, .bad, .bad, .bad, .bad, .bad, .bad, .bad, .bad, .bad, .bad, .bad, .bad, .bad, .bad, .bad, .bad, .bad, .bad, .bad, .bad, .bad, .bad, .bad, .bad, .bad, .bad, .bad, .bad, .bad, .bad, .bad, .bad, .bad, .bad, .bad, .bad, .bad, .bad, .bad, .bad, .bad, .bad, .bad, .bad, .bad, .bad, .bad, .bad, .bad, .bad, .bad, .bad, .bad, .bad, .bad, .bad, .bad, .bad, .bad, .bad, .bad, .bad, .bad, .bad, .bad, .bad, .bad, .bad, .bad, (.raw undef), (.raw undef), (.raw undef), (.raw undef), (.raw undef), (.raw undef), (.raw undef), (.raw undef), (.raw undef), (.raw undef), (.raw undef), (.raw undef), (.raw undef), (.raw undef), (.raw undef)], bx := [none, none, none, none, none, none, none, none, none, none, none, none, none, none, none, none, none, none, none, none, none, none, none, none, none, none, none, none, none, none, none, none, none, none, none, none, none, none, none, none, none, none, none, none, none, none, none, none, none, none, none, none, none, none, none, none, none, none, none, none, none, none, none, none, none, none, none, none, none, none, none, none, none, none, none, none, none, none, none], live := 1, g := [] }
def s38_12x18 (a0 : (List Int)) (x5 : (List En)) : St := { t := [(.v (.sl (.int .u8)) (a0)), .bad, .bad, .bad, .bad, .bad, .bad, (.own 0 26 EntryT (x5)), .bad, .bad, .bad, .bad, .bad, .bad, .bad, .bad, .bad, .bad, .bad, .bad, .bad, .bad, (.raw undef), (.raw undef), .bad, .bad, .bad, .bad, .bad, .bad, .bad, .bad, .bad, .bad, .bad, .bad, .bad, .bad, .bad, .bad, .bad, .bad, .bad, .bad, .bad, .bad, .bad, .bad, .bad, .bad, .bad, .bad, .bad, .bad, .bad, .bad, .bad, .bad, .bad, .bad, .bad, .bad, .bad, .bad, .bad, .bad, .bad, .bad, .bad, .bad, .bad, .bad, .bad, .bad, .bad, .bad, .bad, .bad, .bad, .bad, .bad, .bad, .bad, .bad, .bad, .bad, .bad, .bad, .bad, .bad, .bad, .bad, .bad, .bad, .bad, .bad, .bad, .bad, .bad, .bad, .bad, .bad, .bad, .bad, .bad, .bad, .bad, .bad, .bad, .bad, .bad, .bad, .bad, .bad, .bad, .bad, .bad, .bad, .bad, .bad, .bad, .bad, .bad, .bad, .bad, .bad, .bad, .bad, .bad, .bad, .bad, .bad, .bad, .bad, .bad, .bad, .bad, .bad, .bad, .bad, (.raw undef), (.raw undef), (.raw undef), (.raw undef), (.raw undef), (.raw undef), (.raw undef), (.raw undef), (.raw undef), (.raw undef), (.raw undef), (.raw undef), (.raw undef), (.raw undef), (.raw undef)], bx := [none, none, none, none, none, none, none, none, none], live := 1, g := [] }
theorem s38_12_l {R : Type} (K : AEx → St → Option R) (a0 : (List Int)) (v0 : (Int × Bool × Unit)) (x5 : (List En)) (x6 : Int) (x7 : ByteArray) : LP B call inl 38 (m + 1) [1, 1, 1, 1, 1, 1, 1, 0] (s38_12 a0 v0 x5 x6 x7) K = (bif decide (x6 < IntKind.i64.wrap (IntKind.i64.wrap ((↑(List.length a0) : Int) - (2 : Int)) - IntKind.i64.wrap ((4 : Int) * v0.fst))) == true then (bif decide ((↑x5.length : Int) ≤ (64 : Int)) then (if (0 : Int) ≤ IntKind.i64.wrap (IntKind.i64.wrap ((↑(List.length a0) : Int) - (2 : Int)) - IntKind.i64.wrap ((4 : Int) * v0.fst)) ∧ IntKind.i64.wrap (IntKind.i64.wrap ((↑(List.length a0) : Int) - (2 : Int)) - IntKind.i64.wrap ((4 : Int) * v0.fst)) ≤ (↑(List.length a0) : Int) then ((call 76 [(.v (.sl (.int .u8)) (List.drop (0 : Nat) (List.take (IntKind.i64.wrap (IntKind.i64.wrap ((↑(List.length a0) : Int) - (2 : Int)) - IntKind.i64.wrap ((4 : Int) * v0.fst))).toNat a0))), (.v (.int .i64) (x6))]).bind fun (v13 : (Int × Int × Bool × Unit)) => if (0 : Int) ≤ IntKind.i64.wrap (IntKind.i64.wrap ((↑(List.length a0) : Int) - (2 : Int)) - IntKind.i64.wrap ((4 : Int) * v0.fst)) ∧ IntKind.i64.wrap (IntKind.i64.wrap ((↑(List.length a0) : Int) - (2 : Int)) - IntKind.i64.wrap ((4 : Int) * v0.fst)) ≤ (↑(List.length a0) : Int) then ((call 77 [(.v (.sl (.int .u8)) (List.drop (0 : Nat) (List.take (IntKind.i64.wrap (IntKind.i64.wrap ((↑(List.length a0) : Int) - (2 : Int)) - IntKind.i64.wrap ((4 : Int) * v0.fst))).toNat a0))), (.v (.int .i64) (v13.snd.fst))]).bind fun (v14 : (ByteArray × Int × Bool × Unit)) => if (0 : Int) ≤ IntKind.i64.wrap (IntKind.i64.wrap ((↑(List.length a0) : Int) - (2 : Int)) - IntKind.i64.wrap ((4 : Int) * v0.fst)) ∧ IntKind.i64.wrap (IntKind.i64.wrap ((↑(List.length a0) : Int) - (2 : Int)) - IntKind.i64.wrap ((4 : Int) * v0.fst)) ≤ (↑(List.length a0) : Int) then ((call 76 [(.v (.sl (.int .u8)) (List.drop (0 : Nat) (List.take (IntKind.i64.wrap (IntKind.i64.wrap ((↑(List.length a0) : Int) - (2 : Int)) - IntKind.i64.wrap ((4 : Int) * v0.fst))).toNat a0))), (.v (.int .i64) (v14.snd.fst))]).bind fun (v15 : (Int × Int × Bool × Unit)) => if (0 : Int) ≤ IntKind.i64.wrap (IntKind.i64.wrap ((↑(List.length a0) : Int) - (2 : Int)) - IntKind.i64.wrap ((4 : Int) * v0.fst)) ∧ IntKind.i64.wrap (IntKind.i64.wrap ((↑(List.length a0) : Int) - (2 : Int)) - IntKind.i64.wrap ((4 : Int) * v0.fst)) ≤ (↑(List.length a0) : Int) then ((call 77 [(.v (.sl (.int .u8)) (List.drop (0 : Nat) (List.take (IntKind.i64.wrap (IntKind.i64.wrap ((↑(List.length a0) : Int) - (2 : Int)) - IntKind.i64.wrap ((4 : Int) * v0.fst))).toNat a0))), (.v (.int .i64) (v15.snd.fst))]).bind fun (v16 : (ByteArray × Int × Bool × Unit)) => bif (!v13.snd.snd.fst) == false then (bif (!v14.snd.snd.fst) == false then (bif (!v15.snd.snd.fst) == false then (bif (!v16.snd.snd.fst) == false then (bif decide (v13.fst > (↑x7.size : Int)) then (K .ret (s38_12x17 a0 x5)) else (if (0 : Int) ≤ v13.fst ∧ v13.fst ≤ (↑x7.size : Int) then (if (↑((x7.extract (0 : Nat) (Int.toNat v13.fst)).size + ByteArray.size v14.fst) : Int) > IntKind.i64.max then (none) else (if (x5.length + [((x7.extract (0 : Nat) (Int.toNat v13.fst) ++ v14.fst, IntKind.i64.wrap (Int.tdiv v15.fst (2 : Int)), IntKind.i64.wrap ((1 : Int) + Int.tmod v15.fst (2 : Int)), ()), v16.fst, ())].length) * (48 : Nat) ≤ 140737488355328 then (LP B call inl 38 m [1, 1, 1, 1, 1, 1, 1, 0] (s38_12 a0 v0 (x5 ++ [((x7.extract (0 : Nat) (Int.toNat v13.fst) ++ v14.fst, IntKind.i64.wrap (Int.tdiv v15.fst (2 : Int)), IntKind.i64.wrap ((1 : Int) + Int.tmod v15.fst (2 : Int)), ()), v16.fst, ())]) (v16.snd.fst) (x7.extract (0 : Nat) (Int.toNat v13.fst) ++ v14.fst)) K) else (none))) else (none))) else (K .ret (s38_12x17 a0 x5))) else (K .ret (s38_12x17 a0 x5))) else (K .ret (s38_12x17 a0 x5))) else (K .ret (s38_12x17 a0 x5))) else (none)) else (none)) else (none)) else (none)) else (K (.exit 0) (s38_12x18 a0 x5))) else (K (.exit 0) (s38_12x18 a0 x5))) := by kernel_rfl
theorem s38_12x17_k (a0 : (List Int)) (x5 : (List En)) : (KA B call inl 38 m [1, 1, 1, 1, 1, 1, 1, 0] (FI B call inl 38)) .ret (s38_12x17 a0 x5) = (some (([], false, ()))) := by kernel_rfl
theorem s38_12x18_k (a0 : (List Int)) (x5 : (List En)) : (KA B call inl 38 m [1, 1, 1, 1, 1, 1, 1, 0] (FI B call inl 38)) (.exit 0) (s38_12x18 a0 x5) = ((call 37 [(.v (.sl EntryT) (x5))]).bind fun (v23 : ((List Int) × Int × Unit)) => bif (v23.snd.fst != (0 : Int)) == false then (bif !(strOf v23.fst).toList == (strOf a0).toList then (some (([], false, ()))) else (some ((x5, true, ())))) else (some (([], false, ())))) := by kernel_rfl
theorem t38 (a0 : (List Int)) : stepN B call inl m 38 [argAV (.sl (.int .u8)) a0] = ((call 75 [(.v (.sl (.int .u8)) (a0)), (.v (.int .i64) (IntKind.i64.wrap ((↑(List.length a0) : Int) - (2 : Int)))), (.v (.int .i64) ((2 : Int)))]).bind fun (v0 : (Int × Bool × Unit)) => bif (!v0.snd.fst) == false then (bif decide (v0.fst < (1 : Int)) == false then (bif decide (v0.fst > (↑(List.length a0) : Int)) == false then (bif decide (IntKind.i64.wrap (IntKind.i64.wrap ((4 : Int) * v0.fst) + (2 : Int)) > (↑(List.length a0) : Int)) then (some (([], false, ()))) else (LP B call inl 38 m [1, 1, 1, 1, 1, 1, 1, 0] (s38_12 a0 v0 ([]) ((0 : Int)) ((ByteArray.mk #[]))) (KA B call inl 38 m [1, 1, 1, 1, 1, 1, 1, 0] (FI B call inl 38)))) else (some (([], false, ())))) else (some (([], false, ())))) else (some (([], false, ()))) : Option ((List En) × Bool × Unit)) := by kernel_rfl
/-! function 9 -/
theorem t9 (a0 : (List En)) (a1 : (List Int)) (a2 : Ke) : stepN B call inl m 9 [argAV (.sl EntryT) a0, argAV (.sl (.int .u8)) a1, argAV KeyT a2] = ((call 36 [(.v (.sl EntryT) (a0))]).bind fun (v0 : Bool) => bif v0 == false then (bif decide ((↑(List.length a0) : Int) > (80 : Int)) == false then (bif decide ((↑(List.length a1) : Int) > (3000 : Int)) == false then (bif decide ((↑(ByteArray.size a2.fst) : Int) > (300 : Int)) then ((call 19 []).bind fun (v1 : Bool) => some (v1)) else ((call 17 [(.v (.sl EntryT) (a0))]).bind fun (v2 : ((List Int) × Int × Unit)) => (call 37 [(.v (.sl EntryT) (a0))]).bind fun (v3 : ((List Int) × Int × Unit)) => (call 34 [(.v (.sl (.int .u8)) (a1))]).bind fun (v4 : ((List En) × Bool × Unit)) => (call 38 [(.v (.sl (.int .u8)) (a1))]).bind fun (v5 : ((List En) × Bool × Unit)) => (call 39 [(.v (.sl (.int .u8)) (a1)), (.agg [(.v .str (a2.fst)), (.v (.int .i64) (a2.snd.fst)), (.v (.int .i64) (a2.snd.snd.fst))])]).bind fun (v6 : (En × Bool × Unit)) => (call 40 [(.v (.sl EntryT) (v5.fst)), (.agg [(.v .str (a2.fst)), (.v (.int .i64) (a2.snd.fst)), (.v (.int .i64) (a2.snd.snd.fst))])]).bind fun (v7 : (En × Bool × Unit)) => bif ((strOf v2.fst).toList == (strOf v3.fst).toList) == true then ((call 18 [(.v (.int .i64) (v2.snd.fst))]).bind fun (v8 : Int) => bif (v8 == v3.snd.fst) == true then ((call 41 [(.v (.sl EntryT) (v4.fst)), (.v (.sl EntryT) (v5.fst))]).bind fun (v9 : Bool) => bif v9 == true then (bif (v4.snd.fst == v5.snd.fst) == true then (bif (ByteArray.toList v6.fst.fst.fst == ByteArray.toList v7.fst.fst.fst && (v6.fst.fst.snd.fst == v7.fst.fst.snd.fst && (v6.fst.fst.snd.snd.fst == v7.fst.fst.snd.snd.fst && ByteArray.toList v6.fst.snd.fst == ByteArray.toList v7.fst.snd.fst))) == true then (bif (v6.snd.fst == v7.snd.fst) == true then ((call 19 []).bind fun (v10 : Bool) => some (v10)) else (some (false))) else (some (false))) else (some (false))) else (some (false))) else (some (false))) else (some (false)))) else ((call 19 []).bind fun (v11 : Bool) => some (v11))) else ((call 19 []).bind fun (v12 : Bool) => some (v12))) else ((call 19 []).bind fun (v13 : Bool) => some (v13)) : Option Bool) := by kernel_rfl
/-! function 10 -/
theorem t10 (a0 : (List Int)) (a1 : Int) (a2 : Int) (a3 : Int) (a4 : Int) : stepN B call inl m 10 [argAV (.sl (.int .u8)) a0, argAV (.int .u8) a1, argAV (.int .u8) a2, argAV (.int .u8) a3, argAV (.int .u8) a4] = (bif ((↑(List.length a0) : Int) == (0 : Int)) == false then (bif decide ((↑(List.length a0) : Int) > (64 : Int)) then ((call 19 []).bind fun (v0 : Bool) => some (v0)) else ((call 33 [(.v (.sl (.int .u8)) (a0)), (.v (.int .u8) (a1))]).bind fun (v1 : (List En)) => (call 17 [(.v (.sl EntryT) (v1))]).bind fun (v2 : ((List Int) × Int × Unit)) => (call 34 [(.v (.sl (.int .u8)) (v2.fst))]).bind fun (v3 : ((List En) × Bool × Unit)) => (call 18 [(.v (.int .i64) (v2.snd.fst))]).bind fun (v4 : Int) => bif (v4 != (0 : Int)) == false then (bif (!v3.snd.fst) == false then ((call 41 [(.v (.sl EntryT) (v3.fst)), (.v (.sl EntryT) (v1))]).bind fun (v5 : Bool) => bif !v5 then (some (false)) else (if (↑(List.length v1) : Int) = (0 : Int) then (none) else (if (0 : Int) ≤ (IntKind.i64.wrap a2).tmod (↑(List.length v1) : Int) ∧ (IntKind.i64.wrap a2).tmod (↑(List.length v1) : Int) < (↑(List.length v1) : Int) then ((call 39 [(.v (.sl (.int .u8)) (v2.fst)), (.agg [(.v .str ((List.getD v1 ((IntKind.i64.wrap a2).tmod (↑(List.length v1) : Int)).toNat (((ByteArray.mk #[]), (0 : Int), (0 : Int), ()), (ByteArray.mk #[]), ())).fst.fst)), (.v (.int .i64) ((List.getD v1 ((IntKind.i64.wrap a2).tmod (↑(List.length v1) : Int)).toNat (((ByteArray.mk #[]), (0 : Int), (0 : Int), ()), (ByteArray.mk #[]), ())).fst.snd.fst)), (.v (.int .i64) ((List.getD v1 ((IntKind.i64.wrap a2).tmod (↑(List.length v1) : Int)).toNat (((ByteArray.mk #[]), (0 : Int), (0 : Int), ()), (ByteArray.mk #[]), ())).fst.snd.snd.fst))])]).bind fun (v6 : (En × Bool × Unit)) => (call 42 [(.v (.int .i64) ((IntKind.i64.wrap a3).tmod (50 : Int)))]).bind fun (v7 : ByteArray) => if (↑((ByteArray.mk #[(107 : UInt8), (101 : UInt8), (121 : UInt8)]).size + ByteArray.size v7) : Int) > IntKind.i64.max then (none) else ((call 39 [(.v (.sl (.int .u8)) (v2.fst)), (.agg [(.v .str ((ByteArray.mk #[(107 : UInt8), (101 : UInt8), (121 : UInt8)]) ++ v7)), (.v (.int .i64) (IntKind.i64.wrap a4)), (.v (.int .i64) ((1 : Int)))])]).bind fun (v8 : (En × Bool × Unit)) => (call 40 [(.v (.sl EntryT) (v1)), (.agg [(.v .str ((ByteArray.mk #[(107 : UInt8), (101 : UInt8), (121 : UInt8)]) ++ v7)), (.v (.int .i64) (IntKind.i64.wrap a4)), (.v (.int .i64) ((1 : Int)))])]).bind fun (v9 : (En × Bool × Unit)) => bif v6.snd.fst == true then (bif (ByteArray.toList v6.fst.fst.fst == ByteArray.toList (List.getD v1 ((IntKind.i64.wrap a2).tmod (↑(List.length v1) : Int)).toNat (((ByteArray.mk #[]), (0 : Int), (0 : Int), ()), (ByteArray.mk #[]), ())).fst.fst && (v6.fst.fst.snd.fst == (List.getD v1 ((IntKind.i64.wrap a2).tmod (↑(List.length v1) : Int)).toNat (((ByteArray.mk #[]), (0 : Int), (0 : Int), ()), (ByteArray.mk #[]), ())).fst.snd.fst && (v6.fst.fst.snd.snd.fst == (List.getD v1 ((IntKind.i64.wrap a2).tmod (↑(List.length v1) : Int)).toNat (((ByteArray.mk #[]), (0 : Int), (0 : Int), ()), (ByteArray.mk #[]), ())).fst.snd.snd.fst && ByteArray.toList v6.fst.snd.fst == ByteArray.toList (List.getD v1 ((IntKind.i64.wrap a2).tmod (↑(List.length v1) : Int)).toNat (((ByteArray.mk #[]), (0 : Int), (0 : Int), ()), (ByteArray.mk #[]), ())).snd.fst))) == true then (bif (ByteArray.toList v8.fst.fst.fst == ByteArray.toList v9.fst.fst.fst && (v8.fst.fst.snd.fst == v9.fst.fst.snd.fst && (v8.fst.fst.snd.snd.fst == v9.fst.fst.snd.snd.fst && ByteArray.toList v8.fst.snd.fst == ByteArray.toList v9.fst.snd.fst))) == true then (bif (v8.snd.fst == v9.snd.fst) == true then ((call 19 []).bind fun (v10 : Bool) => some (v10)) else (some (false))) else (some (false))) else (some (false))) else (some (false)))) else (none)))) else (some (false))) else (some (false)))) else ((call 19 []).bind fun (v11 : Bool) => some (v11)) : Option Bool) := by kernel_rfl
/-! function 39 -/
def c39_78_1 (a0 : (List Int)) (a1 : Ke) (v0 : ((List En) × Bool × Unit)) : St := { t := [(.v (.sl (.int .u8)) (a0)), (.agg [(.v .str (a1.fst)), (.v (.int .i64) (a1.snd.fst)), (.v (.int .i64) (a1.snd.snd.fst))]), (.raw undef), (.ptr 0 0), (.ptr 1 0), (.v .bool (false)), (.ptr 8 0), (.v .bool (v0.snd.fst)), (.v (.int .i64) (IntKind.i64.wrap ((IntKind.i64.wrap (IntKind.i64.wrap ((↑(List.length v0.fst) : Int) + (4 : Int)) - (1 : Int))).tdiv (4 : Int)))), (.raw undef), (.raw undef), (.raw undef), (.tup [(.own 32 26 EntryT (v0.fst)), (.v .bool (v0.snd.fst))]), (.v (.sl (.int .u8)) (a0)), (.tup [(.own 32 26 EntryT (v0.fst)), (.v .bool (v0.snd.fst))]), (.own 32 26 EntryT (v0.fst)), (.v .bool (v0.snd.fst)), (.v .bool (v0.snd.fst)), (.v .bool (!v0.snd.fst)), (.raw undef), (.own 32 26 EntryT (v0.fst)), (.v (.int .i64) ((↑(List.length v0.fst) : Int))), (.v (.int .i64) (IntKind.i64.wrap ((↑(List.length v0.fst) : Int) + (4 : Int)))), (.v (.int .i64) (IntKind.i64.wrap (IntKind.i64.wrap ((↑(List.length v0.fst) : Int) + (4 : Int)) - (1 : Int)))), (.v (.int .i64) (IntKind.i64.wrap ((IntKind.i64.wrap (IntKind.i64.wrap ((↑(List.length v0.fst) : Int) + (4 : Int)) - (1 : Int))).tdiv (4 : Int)))), (.v (.int .i64) (IntKind.i64.wrap ((IntKind.i64.wrap (IntKind.i64.wrap ((↑(List.length v0.fst) : Int) + (4 : Int)) - (1 : Int))).tdiv (4 : Int)))), (.fn 79 [(.ptr 8 0), (.ptr 0 0)]), (.raw undef), (.raw undef), (.raw undef), (.raw undef), (.raw undef), (.raw undef), (.raw undef), (.raw undef), (.raw undef), (.raw undef), (.raw undef), (.raw undef), (.raw undef), (.raw undef), (.raw undef), (.raw undef), (.raw undef), (.raw undef), (.raw undef), (.raw undef)], bx := [(some (24, [(.v .str (a1.fst)), (.v (.int .i64) (a1.snd.fst)), (.v (.int .i64) (a1.snd.snd.fst))])), (some (26, [(.v .str ((ByteArray.mk #[]))), (.v (.int .i64) ((0 : Int))), (.v (.int .i64) ((0 : Int))), (.v .str ((ByteArray.mk #[])))])), none, none, none, none, none, none, (some (22, [(.own 32 26 EntryT (v0.fst))])), none, none, none, none, none, none, none, none, none, none, none, none, none, none, none, none, none], live := 4294967296, g := [] }
def s78_6 (a0 : (List Int)) (a1 : Ke) (v0 : ((List En) × Bool × Unit)) (x3 : Int) (x4 : Int) : St := { t := [.bad, (.fn 79 [(.ptr 0 0), (.ptr 1 0)]), .bad, .bad, (.v (.int .i64) ((0 : Int))), (.v (.int .i64) (x3)), (.v (.int .i64) (x4)), .bad, .bad, .bad, .bad, .bad, .bad, .bad, .bad, .bad, .bad, .bad, .bad, .bad, .bad, .bad, .bad, .bad, .bad, (.raw undef)], bx := [(some (22, [(.own 0 26 EntryT (v0.fst))])), (some (24, [(.v .str (a1.fst)), (.v (.int .i64) (a1.snd.fst)), (.v (.int .i64) (a1.snd.snd.fst))])), (some (26, [(.v .str ((ByteArray.mk #[]))), (.v (.int .i64) ((0 : Int))), (.v (.int .i64) ((0 : Int))), (.v .str ((ByteArray.mk #[])))])), none], live := 1, g := [(.v (.sl (.int .u8)) (a0)), (.agg [(.v .str (a1.fst)), (.v (.int .i64) (a1.snd.fst)), (.v (.int .i64) (a1.snd.snd.fst))]), (.raw undef), (.ptr 1 0), (.ptr 2 0), (.v .bool (false)), (.ptr 0 0), (.v .bool (v0.snd.fst)), (.v (.int .i64) (IntKind.i64.wrap ((IntKind.i64.wrap (IntKind.i64.wrap ((↑(List.length v0.fst) : Int) + (4 : Int)) - (1 : Int))).tdiv (4 : Int)))), (.raw undef), (.raw undef), (.raw undef), .bad, (.v (.sl (.int .u8)) (a0)), .bad, (.own 0 26 EntryT (v0.fst)), (.v .bool (v0.snd.fst)), (.v .bool (v0.snd.fst)), (.v .bool (!v0.snd.fst)), (.raw undef), (.own 0 26 EntryT (v0.fst)), (.v (.int .i64) ((↑(List.length v0.fst) : Int))), (.v (.int .i64) (IntKind.i64.wrap ((↑(List.length v0.fst) : Int) + (4 : Int)))), (.v (.int .i64) (IntKind.i64.wrap (IntKind.i64.wrap ((↑(List.length v0.fst) : Int) + (4 : Int)) - (1 : Int)))), (.v (.int .i64) (IntKind.i64.wrap ((IntKind.i64.wrap (IntKind.i64.wrap ((↑(List.length v0.fst) : Int) + (4 : Int)) - (1 : Int))).tdiv (4 : Int)))), (.v (.int .i64) (IntKind.i64.wrap ((IntKind.i64.wrap (IntKind.i64.wrap ((↑(List.length v0.fst) : Int) + (4 : Int)) - (1 : Int))).tdiv (4 : Int)))), (.fn 79 [(.ptr 0 0), (.ptr 1 0)]), (.raw undef), (.raw undef), (.raw undef), (.raw undef), (.raw undef), (.raw undef), (.raw undef), (.raw undef), (.raw undef), (.raw undef), (.raw undef), (.raw undef), (.raw undef), (.raw undef), (.raw undef), (.raw undef), (.raw undef), (.raw undef), (.raw undef), (.raw undef)] }
def c78_79_7 (a0 : (List Int)) (a1 : Ke) (v0 : ((List En) × Bool × Unit)) (x3 : Int) (x4 : Int) : St := { t := [.bad, (.fn 79 [(.ptr 0 0), (.ptr 1 0)]), .bad, .bad, (.v (.int .i64) ((0 : Int))), (.v (.int .i64) (x3)), (.v (.int .i64) (x4)), (.v (.int .i64) (IntKind.i64.wrap ((IntKind.u64.wrap (IntKind.i64.wrap (x3 + x4))).fdiv ((2 : Int) ^ Min.min (Int.toNat (1 : Int)) IntKind.u64.bits)))), .bad, (.v (.int .i64) (x3)), (.v (.int .i64) (x4)), (.v .bool (decide (x3 < x4))), (.v (.int .i64) (x3)), (.v (.int .i64) (x4)), (.v (.int .i64) (IntKind.i64.wrap (x3 + x4))), (.v (.int .u64) (IntKind.u64.wrap (IntKind.i64.wrap (x3 + x4)))), (.v (.int .u64) ((IntKind.u64.wrap (IntKind.i64.wrap (x3 + x4))).fdiv ((2 : Int) ^ Min.min (Int.toNat (1 : Int)) IntKind.u64.bits))), (.v (.int .i64) (IntKind.i64.wrap ((IntKind.u64.wrap (IntKind.i64.wrap (x3 + x4))).fdiv ((2 : Int) ^ Min.min (Int.toNat (1 : Int)) IntKind.u64.bits)))), (.fn 79 [(.ptr 0 0), (.ptr 1 0)]), (.v (.int .i64) (IntKind.i64.wrap ((IntKind.u64.wrap (IntKind.i64.wrap (x3 + x4))).fdiv ((2 : Int) ^ Min.min (Int.toNat (1 : Int)) IntKind.u64.bits)))), .bad, .bad, .bad, .bad, .bad, (.raw undef)], bx := [(some (22, [(.own 0 26 EntryT (v0.fst))])), (some (24, [(.v .str (a1.fst)), (.v (.int .i64) (a1.snd.fst)), (.v (.int .i64) (a1.snd.snd.fst))])), (some (26, [(.v .str ((ByteArray.mk #[]))), (.v (.int .i64) ((0 : Int))), (.v (.int .i64) ((0 : Int))), (.v .str ((ByteArray.mk #[])))])), none, none, none, none, none, none, none, none, none, none, none, none, none, none, none], live := 1, g := [(.v (.sl (.int .u8)) (a0)), (.agg [(.v .str (a1.fst)), (.v (.int .i64) (a1.snd.fst)), (.v (.int .i64) (a1.snd.snd.fst))]), (.raw undef), (.ptr 1 0), (.ptr 2 0), (.v .bool (false)), (.ptr 0 0), (.v .bool (v0.snd.fst)), (.v (.int .i64) (IntKind.i64.wrap ((IntKind.i64.wrap (IntKind.i64.wrap ((↑(List.length v0.fst) : Int) + (4 : Int)) - (1 : Int))).tdiv (4 : Int)))), (.raw undef), (.raw undef), (.raw undef), .bad, (.v (.sl (.int .u8)) (a0)), .bad, (.own 0 26 EntryT (v0.fst)), (.v .bool (v0.snd.fst)), (.v .bool (v0.snd.fst)), (.v .bool (!v0.snd.fst)), (.raw undef), (.own 0 26 EntryT (v0.fst)), (.v (.int .i64) ((↑(List.length v0.fst) : Int))), (.v (.int .i64) (IntKind.i64.wrap ((↑(List.length v0.fst) : Int) + (4 : Int)))), (.v (.int .i64) (IntKind.i64.wrap (IntKind.i64.wrap ((↑(List.length v0.fst) : Int) + (4 : Int)) - (1 : Int)))), (.v (.int .i64) (IntKind.i64.wrap ((IntKind.i64.wrap (IntKind.i64.wrap ((↑(List.length v0.fst) : Int) + (4 : Int)) - (1 : Int))).tdiv (4 : Int)))), (.v (.int .i64) (IntKind.i64.wrap ((IntKind.i64.wrap (IntKind.i64.wrap ((↑(List.length v0.fst) : Int) + (4 : Int)) - (1 : Int))).tdiv (4 : Int)))), (.fn 79 [(.ptr 0 0), (.ptr 1 0)]), (.raw undef), (.raw undef), (.raw undef), (.raw undef), (.raw undef), (.raw undef), (.raw undef), (.raw undef), (.raw undef), (.raw undef), (.raw undef), (.raw undef), (.raw undef), (.raw undef), (.raw undef), (.raw undef), (.raw undef), (.raw undef), (.raw undef), (.raw undef)] }
def c78_79_7r9 (a0 : (List Int)) (a1 : Ke) (v0 : ((List En) × Bool × Unit)) (x3 : Int) (x4 : Int) : St := { t := [.bad, (.fn 79 [(.ptr 0 0), (.ptr 1 0)]), .bad, .bad, (.v (.int .i64) ((0 : Int))), (.v (.int .i64) (x3)), (.v (.int .i64) (x4)), (.v (.int .i64) (IntKind.i64.wrap ((IntKind.u64.wrap (IntKind.i64.wrap (x3 + x4))).fdiv ((2 : Int) ^ Min.min (Int.toNat (1 : Int)) IntKind.u64.bits)))), .bad, (.v (.int .i64) (x3)), (.v (.int .i64) (x4)), (.v .bool (decide (x3 < x4))), (.v (.int .i64) (x3)), (.v (.int .i64) (x4)), (.v (.int .i64) (IntKind.i64.wrap (x3 + x4))), (.v (.int .u64) (IntKind.u64.wrap (IntKind.i64.wrap (x3 + x4)))), (.v (.int .u64) ((IntKind.u64.wrap (IntKind.i64.wrap (x3 + x4))).fdiv ((2 : Int) ^ Min.min (Int.toNat (1 : Int)) IntKind.u64.bits))), (.v (.int .i64) (IntKind.i64.wrap ((IntKind.u64.wrap (IntKind.i64.wrap (x3 + x4))).fdiv ((2 : Int) ^ Min.min (Int.toNat (1 : Int)) IntKind.u64.bits)))), (.fn 79 [(.ptr 0 0), (.ptr 1 0)]), (.v (.int .i64) (IntKind.i64.wrap ((IntKind.u64.wrap (IntKind.i64.wrap (x3 + x4))).fdiv ((2 : Int) ^ Min.min (Int.toNat (1 : Int)) IntKind.u64.bits)))), .bad, .bad, .bad, .bad, .bad, (.raw undef)], bx := [(some (22, [(.own 0 26 EntryT (v0.fst))])), (some (24, [(.v .str (a1.fst)), (.v (.int .i64) (a1.snd.fst)), (.v (.int .i64) (a1.snd.snd.fst))])), (some (26, [(.v .str ((ByteArray.mk #[]))), (.v (.int .i64) ((0 : Int))), (.v (.int .i64) ((0 : Int))), (.v .str ((ByteArray.mk #[])))])), none, none, none, none, none, none, none, none, none, none, none, none, none, none, none, none, none, none, none, none, none, none, none, none, none, none], live := 1, g := [(.v (.sl (.int .u8)) (a0)), (.agg [(.v .str (a1.fst)), (.v (.int .i64) (a1.snd.fst)), (.v (.int .i64) (a1.snd.snd.fst))]), (.raw undef), (.ptr 1 0), (.ptr 2 0), (.v .bool (false)), (.ptr 0 0), (.v .bool (v0.snd.fst)), (.v (.int .i64) (IntKind.i64.wrap ((IntKind.i64.wrap (IntKind.i64.wrap ((↑(List.length v0.fst) : Int) + (4 : Int)) - (1 : Int))).tdiv (4 : Int)))), (.raw undef), (.raw undef), (.raw undef), .bad, (.v (.sl (.int .u8)) (a0)), .bad, (.own 0 26 EntryT (v0.fst)), (.v .bool (v0.snd.fst)), (.v .bool (v0.snd.fst)), (.v .bool (!v0.snd.fst)), (.raw undef), (.own 0 26 EntryT (v0.fst)), (.v (.int .i64) ((↑(List.length v0.fst) : Int))), (.v (.int .i64) (IntKind.i64.wrap ((↑(List.length v0.fst) : Int) + (4 : Int)))), (.v (.int .i64) (IntKind.i64.wrap (IntKind.i64.wrap ((↑(List.length v0.fst) : Int) + (4 : Int)) - (1 : Int)))), (.v (.int .i64) (IntKind.i64.wrap ((IntKind.i64.wrap (IntKind.i64.wrap ((↑(List.length v0.fst) : Int) + (4 : Int)) - (1 : Int))).tdiv (4 : Int)))), (.v (.int .i64) (IntKind.i64.wrap ((IntKind.i64.wrap (IntKind.i64.wrap ((↑(List.length v0.fst) : Int) + (4 : Int)) - (1 : Int))).tdiv (4 : Int)))), (.fn 79 [(.ptr 0 0), (.ptr 1 0)]), (.raw undef), (.raw undef), (.raw undef), (.raw undef), (.raw undef), (.raw undef), (.raw undef), (.raw undef), (.raw undef), (.raw undef), (.raw undef), (.raw undef), (.raw undef), (.raw undef), (.raw undef), (.raw undef), (.raw undef), (.raw undef), (.raw undef), (.raw undef)] }
theorem c78_79_7_i {R : Type} (K : AV → St → Option R) (a0 : (List Int)) (a1 : Ke) (v0 : ((List En) × Bool × Unit)) (x3 : Int) (x4 : Int) : inlN B call inl m R 79 [(.v (.int .i64) (IntKind.i64.wrap ((IntKind.u64.wrap (IntKind.i64.wrap (x3 + x4))).fdiv ((2 : Int) ^ Min.min (Int.toNat (1 : Int)) IntKind.u64.bits)))), (.ptr 0 0), (.ptr 1 0)] (c78_79_7 a0 a1 v0 x3 x4) K = (if (0 : Int) ≤ IntKind.i64.wrap (IntKind.i64.wrap ((IntKind.u64.wrap (IntKind.i64.wrap (x3 + x4))).fdiv ((2 : Int) ^ Min.min (Int.toNat (1 : Int)) IntKind.u64.bits)) * (4 : Int)) ∧ IntKind.i64.wrap (IntKind.i64.wrap ((IntKind.u64.wrap (IntKind.i64.wrap (x3 + x4))).fdiv ((2 : Int) ^ Min.min (Int.toNat (1 : Int)) IntKind.u64.bits)) * (4 : Int)) < (↑(List.length v0.fst) : Int) then ((call 80 [(.agg [(.v .str ((List.getD v0.fst (IntKind.i64.wrap (IntKind.i64.wrap ((IntKind.u64.wrap (IntKind.i64.wrap (x3 + x4))).fdiv ((2 : Int) ^ Min.min (Int.toNat (1 : Int)) IntKind.u64.bits)) * (4 : Int))).toNat (((ByteArray.mk #[]), (0 : Int), (0 : Int), ()), (ByteArray.mk #[]), ())).fst.fst)), (.v (.int .i64) ((List.getD v0.fst (IntKind.i64.wrap (IntKind.i64.wrap ((IntKind.u64.wrap (IntKind.i64.wrap (x3 + x4))).fdiv ((2 : Int) ^ Min.min (Int.toNat (1 : Int)) IntKind.u64.bits)) * (4 : Int))).toNat (((ByteArray.mk #[]), (0 : Int), (0 : Int), ()), (ByteArray.mk #[]), ())).fst.snd.fst)), (.v (.int .i64) ((List.getD v0.fst (IntKind.i64.wrap (IntKind.i64.wrap ((IntKind.u64.wrap (IntKind.i64.wrap (x3 + x4))).fdiv ((2 : Int) ^ Min.min (Int.toNat (1 : Int)) IntKind.u64.bits)) * (4 : Int))).toNat (((ByteArray.mk #[]), (0 : Int), (0 : Int), ()), (ByteArray.mk #[]), ())).fst.snd.snd.fst))]), (.agg [(.v .str (a1.fst)), (.v (.int .i64) (a1.snd.fst)), (.v (.int .i64) (a1.snd.snd.fst))])]).bind fun (v8 : Int) => K (.v .bool (decide (v8 ≥ (0 : Int)))) (c78_79_7r9 a0 a1 v0 x3 x4)) else (none)) := by kernel_rfl
theorem c78_79_7r9_k11 {R : Type} (K : AEx → St → Option R) (a0 : (List Int)) (a1 : Ke) (v0 : ((List En) × Bool × Unit)) (x3 : Int) (x4 : Int) (v10 : Int) : (IN B call inl 78 m [1, 1, 0] [1, 1, 0, 2] K) (.v .bool (decide (v10 ≥ (0 : Int)))) (c78_79_7r9 a0 a1 v0 x3 x4) = (bif !decide (v10 ≥ (0 : Int)) then (LP B call inl 78 m [1, 1, 0] (s78_6 a0 a1 v0 (IntKind.i64.wrap (IntKind.i64.wrap ((IntKind.u64.wrap (IntKind.i64.wrap (x3 + x4))).fdiv ((2 : Int) ^ Min.min (Int.toNat (1 : Int)) IntKind.u64.bits)) + (1 : Int))) (x4)) K) else (LP B call inl 78 m [1, 1, 0] (s78_6 a0 a1 v0 (x3) (IntKind.i64.wrap ((IntKind.u64.wrap (IntKind.i64.wrap (x3 + x4))).fdiv ((2 : Int) ^ Min.min (Int.toNat (1 : Int)) IntKind.u64.bits)))) K)) := by kernel_rfl
def s78_6x12 (a0 : (List Int)) (a1 : Ke) (v0 : ((List En) × Bool × Unit)) (x3 : Int) : St := { t := [.bad, .bad, .bad, .bad, (.v (.int .i64) ((0 : Int))), (.v (.int .i64) (x3)), .bad, .bad, .bad, .bad, .bad, .bad, .bad, .bad, .bad, .bad, .bad, .bad, .bad, .bad, .bad, .bad, .bad, .bad, .bad, (.raw undef)], bx := [(some (22, [(.own 0 26 EntryT (v0.fst))])), (some (24, [(.v .str (a1.fst)), (.v (.int .i64) (a1.snd.fst)), (.v (.int .i64) (a1.snd.snd.fst))])), (some (26, [(.v .str ((ByteArray.mk #[]))), (.v (.int .i64) ((0 : Int))), (.v (.int .i64) ((0 : Int))), (.v .str ((ByteArray.mk #[])))])), none, none, none, none], live := 1, g := [(.v (.sl (.int .u8)) (a0)), (.agg [(.v .str (a1.fst)), (.v (.int .i64) (a1.snd.fst)), (.v (.int .i64) (a1.snd.snd.fst))]), (.raw undef), (.ptr 1 0), (.ptr 2 0), (.v .bool (false)), (.ptr 0 0), (.v .bool (v0.snd.fst)), (.v (.int .i64) (IntKind.i64.wrap ((IntKind.i64.wrap (IntKind.i64.wrap ((↑(List.length v0.fst) : Int) + (4 : Int)) - (1 : Int))).tdiv (4 : Int)))), (.raw undef), (.raw undef), (.raw undef), .bad, (.v (.sl (.int .u8)) (a0)), .bad, (.own 0 26 EntryT (v0.fst)), (.v .bool (v0.snd.fst)), (.v .bool (v0.snd.fst)), (.v .bool (!v0.snd.fst)), (.raw undef), (.own 0 26 EntryT (v0.fst)), (.v (.int .i64) ((↑(List.length v0.fst) : Int))), (.v (.int .i64) (IntKind.i64.wrap ((↑(List.length v0.fst) : Int) + (4 : Int)))), (.v (.int .i64) (IntKind.i64.wrap (IntKind.i64.wrap ((↑(List.length v0.fst) : Int) + (4 : Int)) - (1 : Int)))), (.v (.int .i64) (IntKind.i64.wrap ((IntKind.i64.wrap (IntKind.i64.wrap ((↑(List.length v0.fst) : Int) + (4 : Int)) - (1 : Int))).tdiv (4 : Int)))), (.v (.int .i64) (IntKind.i64.wrap ((IntKind.i64.wrap (IntKind.i64.wrap ((↑(List.length v0.fst) : Int) + (4 : Int)) - (1 : Int))).tdiv (4 : Int)))), (.fn 79 [(.ptr 0 0), (.ptr 1 0)]), (.raw undef), (.raw undef), (.raw undef), (.raw undef), (.raw undef), (.raw undef), (.raw undef), (.raw undef), (.raw undef), (.raw undef), (.raw undef), (.raw undef), (.raw undef), (.raw undef), (.raw undef), (.raw undef), (.raw undef), (.raw undef), (.raw undef), (.raw undef)] }
theorem s78_6_l {R : Type} (K : AEx → St → Option R) (a0 : (List Int)) (a1 : Ke) (v0 : ((List En) × Bool × Unit)) (x3 : Int) (x4 : Int) : LP B call inl 78 (m + 1) [1, 1, 0] (s78_6 a0 a1 v0 x3 x4) K = (bif decide (x3 < x4) then (inl _ 79 [(.v (.int .i64) (IntKind.i64.wrap ((IntKind.u64.wrap (IntKind.i64.wrap (x3 + x4))).fdiv ((2 : Int) ^ Min.min (Int.toNat (1 : Int)) IntKind.u64.bits)))), (.ptr 0 0), (.ptr 1 0)] (c78_79_7 a0 a1 v0 x3 x4) (IN B call inl 78 m [1, 1, 0] [1, 1, 0, 2] K)) else (K (.exit 0) (s78_6x12 a0 a1 v0 x3))) := by kernel_rfl
def c39_78_1r14 (a0 : (List Int)) (a1 : Ke) (v0 : ((List En) × Bool × Unit)) : St := { t := [(.v (.sl (.int .u8)) (a0)), (.agg [(.v .str (a1.fst)), (.v (.int .i64) (a1.snd.fst)), (.v (.int .i64) (a1.snd.snd.fst))]), (.raw undef), (.ptr 1 0), (.ptr 2 0), (.v .bool (false)), (.ptr 0 0), (.v .bool (v0.snd.fst)), (.v (.int .i64) (IntKind.i64.wrap ((IntKind.i64.wrap (IntKind.i64.wrap ((↑(List.length v0.fst) : Int) + (4 : Int)) - (1 : Int))).tdiv (4 : Int)))), (.raw undef), (.raw undef), (.raw undef), .bad, (.v (.sl (.int .u8)) (a0)), .bad, (.own 0 26 EntryT (v0.fst)), (.v .bool (v0.snd.fst)), (.v .bool (v0.snd.fst)), (.v .bool (!v0.snd.fst)), (.raw undef), (.own 0 26 EntryT (v0.fst)), (.v (.int .i64) ((↑(List.length v0.fst) : Int))), (.v (.int .i64) (IntKind.i64.wrap ((↑(List.length v0.fst) : Int) + (4 : Int)))), (.v (.int .i64) (IntKind.i64.wrap (IntKind.i64.wrap ((↑(List.length v0.fst) : Int) + (4 : Int)) - (1 : Int)))), (.v (.int .i64) (IntKind.i64.wrap ((IntKind.i64.wrap (IntKind.i64.wrap ((↑(List.length v0.fst) : Int) + (4 : Int)) - (1 : Int))).tdiv (4 : Int)))), (.v (.int .i64) (IntKind.i64.wrap ((IntKind.i64.wrap (IntKind.i64.wrap ((↑(List.length v0.fst) : Int) + (4 : Int)) - (1 : Int))).tdiv (4 : Int)))), (.fn 79 [(.ptr 0 0), (.ptr 1 0)]), (.raw undef), (.raw undef), (.raw undef), (.raw undef), (.raw undef), (.raw undef), (.raw undef), (.raw undef), (.raw undef), (.raw undef), (.raw undef), (.raw undef), (.raw undef), (.raw undef), (.raw undef), (.raw undef), (.raw undef), (.raw undef), (.raw undef), (.raw undef)], bx := [(some (22, [(.own 0 26 EntryT (v0.fst))])), (some (24, [(.v .str (a1.fst)), (.v (.int .i64) (a1.snd.fst)), (.v (.int .i64) (a1.snd.snd.fst))])), (some (26, [(.v .str ((ByteArray.mk #[]))), (.v (.int .i64) ((0 : Int))), (.v (.int .i64) ((0 : Int))), (.v .str ((ByteArray.mk #[])))])), none, none, none, none, none, none], live := 1, g := [] }
theorem s78_6x12_k {R : Type} (K : AV → St → Option R) (a0 : (List Int)) (a1 : Ke) (v0 : ((List En) × Bool × Unit)) (x3 : Int) : (KA B call inl 78 m [1, 1, 0] (FN B call inl 78 47 K)) (.exit 0) (s78_6x12 a0 a1 v0 x3) = (K (.v (.int .i64) (x3)) (c39_78_1r14 a0 a1 v0)) := by kernel_rfl
theorem c39_78_1_i {R : Type} (K : AV → St → Option R) (a0 : (List Int)) (a1 : Ke) (v0 : ((List En) × Bool × Unit)) : inlN B call inl m R 78 [(.v (.int .i64) (IntKind.i64.wrap ((IntKind.i64.wrap (IntKind.i64.wrap ((↑(List.length v0.fst) : Int) + (4 : Int)) - (1 : Int))).tdiv (4 : Int)))), (.fn 79 [(.ptr 8 0), (.ptr 0 0)])] (c39_78_1 a0 a1 v0) K = (LP B call inl 78 m [1, 1, 0] (s78_6 a0 a1 v0 ((0 : Int)) (IntKind.i64.wrap ((IntKind.i64.wrap (IntKind.i64.wrap ((↑(List.length v0.fst) : Int) + (4 : Int)) - (1 : Int))).tdiv (4 : Int)))) (KA B call inl 78 m [1, 1, 0] (FN B call inl 78 47 K))) := by kernel_rfl
def s39_23 (a1 : Ke) (v0 : ((List En) × Bool × Unit)) (x16 : Int) (x21 : Int) : St := { t := [.bad, .bad, .bad, (.ptr 0 0), (.ptr 1 0), .bad, .bad, .bad, .bad, .bad, .bad, .bad, .bad, .bad, .bad, .bad, .bad, .bad, .bad, .bad, .bad, .bad, .bad, .bad, .bad, .bad, .bad, .bad, .bad, .bad, .bad, .bad, .bad, (.al EntryT (List.drop (IntKind.i64.wrap (maxI (0 : Int) (IntKind.i64.wrap (x16 - (1 : Int))) * (4 : Int))).toNat (List.take (List.length v0.fst) v0.fst))), (.v (.int .i64) ((↑(List.drop (IntKind.i64.wrap (maxI (0 : Int) (IntKind.i64.wrap (x16 - (1 : Int))) * (4 : Int))).toNat (List.take (List.length v0.fst) v0.fst)).length : Int))), (.v (.int .i64) (x21)), .bad, .bad, .bad, .bad, .bad, .bad, .bad, .bad, .bad, .bad, (.raw undef)], bx := [(some (24, [(.v .str (a1.fst)), (.v (.int .i64) (a1.snd.fst)), (.v (.int .i64) (a1.snd.snd.fst))])), (some (26, [(.v .str ((ByteArray.mk #[]))), (.v (.int .i64) ((0 : Int))), (.v (.int .i64) ((0 : Int))), (.v .str ((ByteArray.mk #[])))]))], live := 0, g := [] }
def s39_23x25 (a1 : Ke) (v0 : ((List En) × Bool × Unit)) (x16 : Int) (x21 : Int) : St := { t := [.bad, .bad, .bad, .bad, (.ptr 1 0), (.v .bool (true)), .bad, .bad, .bad, .bad, .bad, .bad, .bad, .bad, .bad, .bad, .bad, .bad, .bad, .bad, .bad, .bad, .bad, .bad, .bad, .bad, .bad, .bad, .bad, .bad, .bad, .bad, .bad, .bad, .bad, .bad, .bad, .bad, .bad, .bad, .bad, .bad, .bad, .bad, .bad, .bad, (.raw undef)], bx := [(some (24, [(.v .str (a1.fst)), (.v (.int .i64) (a1.snd.fst)), (.v (.int .i64) (a1.snd.snd.fst))])), (some (26, [(.v .str (((List.drop (IntKind.i64.wrap (maxI (0 : Int) (IntKind.i64.wrap (x16 - (1 : Int))) * (4 : Int))).toNat (List.take (List.length v0.fst) v0.fst)).getD x21.toNat (((ByteArray.mk #[]), (0 : Int), (0 : Int), ()), (ByteArray.mk #[]), ())).fst.fst)), (.v (.int .i64) (((List.drop (IntKind.i64.wrap (maxI (0 : Int) (IntKind.i64.wrap (x16 - (1 : Int))) * (4 : Int))).toNat (List.take (List.length v0.fst) v0.fst)).getD x21.toNat (((ByteArray.mk #[]), (0 : Int), (0 : Int), ()), (ByteArray.mk #[]), ())).fst.snd.fst)), (.v (.int .i64) (((List.drop (IntKind.i64.wrap (maxI (0 : Int) (IntKind.i64.wrap (x16 - (1 : Int))) * (4 : Int))).toNat (List.take (List.length v0.fst) v0.fst)).getD x21.toNat (((ByteArray.mk #[]), (0 : Int), (0 : Int), ()), (ByteArray.mk #[]), ())).fst.snd.snd.fst)), (.v .str (((List.drop (IntKind.i64.wrap (maxI (0 : Int) (IntKind.i64.wrap (x16 - (1 : Int))) * (4 : Int))).toNat (List.take (List.length v0.fst) v0.fst)).getD x21.toNat (((ByteArray.mk #[]), (0 : Int), (0 : Int), ()), (ByteArray.mk #[]), ())).snd.fst))])), none, none, none, (some (26, [(.v .str (((List.drop (IntKind.i64.wrap (maxI (0 : Int) (IntKind.i64.wrap (x16 - (1 : Int))) * (4 : Int))).toNat (List.take (List.length v0.fst) v0.fst)).getD x21.toNat (((ByteArray.mk #[]), (0 : Int), (0 : Int), ()), (ByteArray.mk #[]), ())).fst.fst)), (.v (.int .i64) (((List.drop (IntKind.i64.wrap (maxI (0 : Int) (IntKind.i64.wrap (x16 - (1 : Int))) * (4 : Int))).toNat (List.take (List.length v0.fst) v0.fst)).getD x21.toNat (((ByteArray.mk #[]), (0 : Int), (0 : Int), ()), (ByteArray.mk #[]), ())).fst.snd.fst)), (.v (.int .i64) (((List.drop (IntKind.i64.wrap (maxI (0 : Int) (IntKind.i64.wrap (x16 - (1 : Int))) * (4 : Int))).toNat (List.take (List.length v0.fst) v0.fst)).getD x21.toNat (((ByteArray.mk #[]), (0 : Int), (0 : Int), ()), (ByteArray.mk #[]), ())).fst.snd.snd.fst)), (.v .str (((List.drop (IntKind.i64.wrap (maxI (0 : Int) (IntKind.i64.wrap (x16 - (1 : Int))) * (4 : Int))).toNat (List.take (List.length v0.fst) v0.fst)).getD x21.toNat (((ByteArray.mk #[]), (0 : Int), (0 : Int), ()), (ByteArray.mk #[]), ())).snd.fst))])), none, none, none, none, none, none, none, none, none], live := 0, g := [] }
def s39_23x26 (a1 : Ke) : St := { t := [.bad, .bad, .bad, .bad, (.ptr 1 0), .bad, .bad, .bad, .bad, .bad, .bad, .bad, .bad, .bad, .bad, .bad, .bad, .bad, .bad, .bad, .bad, .bad, .bad, .bad, .bad, .bad, .bad, .bad, .bad, .bad, .bad, .bad, .bad, .bad, .bad, .bad, .bad, .bad, .bad, .bad, .bad, .bad, .bad, .bad, .bad, .bad, (.raw undef)], bx := [(some (24, [(.v .str (a1.fst)), (.v (.int .i64) (a1.snd.fst)), (.v (.int .i64) (a1.snd.snd.fst))])), (some (26, [(.v .str ((ByteArray.mk #[]))), (.v (.int .i64) ((0 : Int))), (.v (.int .i64) ((0 : Int))), (.v .str ((ByteArray.mk #[])))])), none], live := 0, g := [] }
theorem s39_23_l {R : Type} (K : AEx → St → Option R) (a1 : Ke) (v0 : ((List En) × Bool × Unit)) (x16 : Int) (x21 : Int) : LP B call inl 39 (m + 1) [1, 1, 1, 1, 1, 0, 1] (s39_23 a1 v0 x16 x21) K = (bif decide (x21 < (↑(List.drop (IntKind.i64.wrap (maxI (0 : Int) (IntKind.i64.wrap (x16 - (1 : Int))) * (4 : Int))).toNat (List.take (List.length v0.fst) v0.fst)).length : Int)) then (if (0 : Int) ≤ x21 ∧ x21 < (↑(List.drop (IntKind.i64.wrap (maxI (0 : Int) (IntKind.i64.wrap (x16 - (1 : Int))) * (4 : Int))).toNat (List.take (List.length v0.fst) v0.fst)).length : Int) then ((call 80 [(.agg [(.v .str (((List.drop (IntKind.i64.wrap (maxI (0 : Int) (IntKind.i64.wrap (x16 - (1 : Int))) * (4 : Int))).toNat (List.take (List.length v0.fst) v0.fst)).getD x21.toNat (((ByteArray.mk #[]), (0 : Int), (0 : Int), ()), (ByteArray.mk #[]), ())).fst.fst)), (.v (.int .i64) (((List.drop (IntKind.i64.wrap (maxI (0 : Int) (IntKind.i64.wrap (x16 - (1 : Int))) * (4 : Int))).toNat (List.take (List.length v0.fst) v0.fst)).getD x21.toNat (((ByteArray.mk #[]), (0 : Int), (0 : Int), ()), (ByteArray.mk #[]), ())).fst.snd.fst)), (.v (.int .i64) (((List.drop (IntKind.i64.wrap (maxI (0 : Int) (IntKind.i64.wrap (x16 - (1 : Int))) * (4 : Int))).toNat (List.take (List.length v0.fst) v0.fst)).getD x21.toNat (((ByteArray.mk #[]), (0 : Int), (0 : Int), ()), (ByteArray.mk #[]), ())).fst.snd.snd.fst))]), (.agg [(.v .str (a1.fst)), (.v (.int .i64) (a1.snd.fst)), (.v (.int .i64) (a1.snd.snd.fst))])]).bind fun (v24 : Int) => bif decide (v24 ≥ (0 : Int)) then (K .ret (s39_23x25 a1 v0 x16 x21)) else (LP B call inl 39 m [1, 1, 1, 1, 1, 0, 1] (s39_23 a1 v0 x16 (IntKind.i64.wrap (x21 + (1 : Int)))) K)) else (none)) else (K (.exit 0) (s39_23x26 a1))) := by kernel_rfl
theorem s39_23x25_k (a1 : Ke) (v0 : ((List En) × Bool × Unit)) (x16 : Int) (x21 : Int) : (KA B call inl 39 m [1, 1, 1, 1, 1, 0, 1] (FI B call inl 39)) .ret (s39_23x25 a1 v0 x16 x21) = (some ((((((List.drop (IntKind.i64.wrap (maxI (0 : Int) (IntKind.i64.wrap (x16 - (1 : Int))) * (4 : Int))).toNat (List.take (List.length v0.fst) v0.fst)).getD x21.toNat (((ByteArray.mk #[]), (0 : Int), (0 : Int), ()), (ByteArray.mk #[]), ())).fst.fst, ((List.drop (IntKind.i64.wrap (maxI (0 : Int) (IntKind.i64.wrap (x16 - (1 : Int))) * (4 : Int))).toNat (List.take (List.length v0.fst) v0.fst)).getD x21.toNat (((ByteArray.mk #[]), (0 : Int), (0 : Int), ()), (ByteArray.mk #[]), ())).fst.snd.fst, ((List.drop (IntKind.i64.wrap (maxI (0 : Int) (IntKind.i64.wrap (x16 - (1 : Int))) * (4 : Int))).toNat (List.take (List.length v0.fst) v0.fst)).getD x21.toNat (((ByteArray.mk #[]), (0 : Int), (0 : Int), ()), (ByteArray.mk #[]), ())).fst.snd.snd.fst, ()), ((List.drop (IntKind.i64.wrap (maxI (0 : Int) (IntKind.i64.wrap (x16 - (1 : Int))) * (4 : Int))).toNat (List.take (List.length v0.fst) v0.fst)).getD x21.toNat (((ByteArray.mk #[]), (0 : Int), (0 : Int), ()), (ByteArray.mk #[]), ())).snd.fst, ()), true, ()))) := by kernel_rfl
theorem s39_23x26_k (a1 : Ke) : (KA B call inl 39 m [1, 1, 1, 1, 1, 0, 1] (FI B call inl 39)) (.exit 0) (s39_23x26 a1) = (some (((((ByteArray.mk #[]), (0 : Int), (0 : Int), ()), (ByteArray.mk #[]), ()), false, ()))) := by kernel_rfl
theorem c39_78_1r14_k28 (a0 : (List Int)) (a1 : Ke) (v0 : ((List En) × Bool × Unit)) (x16 : Int) : (IA B call inl 39 m [1, 1, 1, 1, 0, 2] (FI B call inl 39)) (.v (.int .i64) (x16)) (c39_78_1r14 a0 a1 v0) = (if (0 : Int) ≤ IntKind.i64.wrap (maxI (0 : Int) (IntKind.i64.wrap (x16 - (1 : Int))) * (4 : Int)) ∧ IntKind.i64.wrap (maxI (0 : Int) (IntKind.i64.wrap (x16 - (1 : Int))) * (4 : Int)) ≤ (↑(List.length v0.fst) : Int) then (LP B call inl 39 m [1, 1, 1, 1, 1, 0, 1] (s39_23 a1 v0 x16 ((0 : Int))) (KA B call inl 39 m [1, 1, 1, 1, 1, 0, 1] (FI B call inl 39))) else (none)) := by kernel_rfl
theorem t39 (a0 : (List Int)) (a1 : Ke) : stepN B call inl m 39 [argAV (.sl (.int .u8)) a0, argAV KeyT a1] = ((call 34 [(.v (.sl (.int .u8)) (a0))]).bind fun (v0 : ((List En) × Bool × Unit)) => bif !v0.snd.fst then (some (((((ByteArray.mk #[]), (0 : Int), (0 : Int), ()), (ByteArray.mk #[]), ()), false, ()))) else (inl _ 78 [(.v (.int .i64) (IntKind.i64.wrap ((IntKind.i64.wrap (IntKind.i64.wrap ((↑(List.length v0.fst) : Int) + (4 : Int)) - (1 : Int))).tdiv (4 : Int)))), (.fn 79 [(.ptr 8 0), (.ptr 0 0)])] (c39_78_1 a0 a1 v0) (IA B call inl 39 m [1, 1, 1, 1, 0, 2] (FI B call inl 39))) : Option (En × Bool × Unit)) := by kernel_rfl
end
end Go.Eng.Bk
/- What putting a block answers, the program's and the document's. -/
namespace Go.Eng.Bk
open Go Go.Proofs Go.Eng
set_option linter.unusedVariables false
set_option linter.unusedSimpArgs false
def tailN (a : Ke) : Nat := (2 * a.2.1 + a.2.2.1 - 1).toNat
theorem s57 {k : Nat} (h : 1 ≤ k) (a : Ke) (ha : mayK a = true) : callN B k 57 [argAV KeyT a] = (some ((tailN a : Nat) : Int) : Option Int) := by
  obtain ⟨k, rfl⟩ := Nat.exists_eq_add_of_le' h
  refine (callS k 57 _).trans ((t57 (callN B k) (lvl B k).2 k a).trans (congrArg some ?_))
  obtain ⟨_, h2, h3, h4⟩ := mayB_true ha
  unfold tailN
  rw [w64 (x := 2 * a.2.1) (by omega) (by omega), w64 (x := 2 * a.2.1 + a.2.2.1) (by omega) (by omega), w64 (by omega) (by omega)]
  omega
theorem tail_bound {a : Ke} (ha : mayK a = true) : tailN a < 9223372036854775808 ∧ ((tailN a : Nat) : Int) = 2 * a.2.1 + a.2.2.1 - 1 := by
  obtain ⟨_, h2, h3, h4⟩ := mayB_true ha
  unfold tailN
  omega
theorem mayE_true {e : En} (h : mayE e = true) : mayK e.1 = true ∧ e.1.1.size ≤ 64 ∧ e.2.1.size ≤ 512 := by
  unfold mayE at h
  simp only [Bool.and_eq_true, decide_eq_true_eq] at h
  obtain ⟨h1, _⟩ := mayB_true h.1.1
  exact ⟨h.1.1, by omega, by omega⟩
/-- A text's rest. -/
abbrev rest (s : ByteArray) (n : Nat) : ByteArray := s.extract n s.size
theorem rest_size (s : ByteArray) (n : Nat) : (rest s n).size = s.size - n := by
  rw [ByteArray.size_extract]; omega
/-- How much of a text is not said again. -/
def shAt (l : List En) (i : Nat) : Nat := if i % 4 = 0 then 0 else shr (bytesOf (l.getD (i - 1) d0).1.1) (bytesOf (l.getD i d0).1.1)
def encE (n : Nat) (e : En) : List Int := enc n ++ (enc (rest e.1.1 n).size ++ bytesOf (rest e.1.1 n)) ++ enc (tailN e.1) ++ (enc e.2.1.size ++ bytesOf e.2.1)
theorem encE_length {n : Nat} {e : En} (hn : n ≤ 64) (he : mayE e = true) : (encE n e).length ≤ 612 := by
  obtain ⟨h1, h2, h3⟩ := mayE_true he
  have e1 := enc_length9 (n := n) (by omega)
  have hrs := rest_size e.1.1 n
  have e2 := enc_length9 (n := (rest e.1.1 n).size) (by omega)
  have e3 := enc_length9 (tail_bound h1).1
  have e4 := enc_length9 (n := e.2.1.size) (by omega)
  unfold encE
  simp only [List.length_append, bytesOf_length]
  omega
def putB (l : List En) : Nat → Nat → List Int → List Int → List Int × List Int
  | 0, _, out, pl => (out, pl)
  | d + 1, i, out, pl => putB l d (i + 1) (out ++ encE (shAt l i) (l.getD i d0)) (if i % 4 = 0 then pl ++ fx out.length 4 else pl)
def finB (x : List Int × List Int) : List Int × Int × Unit := (x.1 ++ x.2 ++ fx (x.2.length / 4) 2, 0, ())
theorem shAt_le {l : List En} {i : Nat} (he : mayE (l.getD i d0) = true) : shAt l i ≤ (l.getD i d0).1.1.size ∧ shAt l i ≤ 64 := by
  obtain ⟨h1, h2, h3⟩ := mayE_true he
  have := (shr_le (bytesOf (l.getD (i - 1) d0).1.1) (bytesOf (l.getD i d0).1.1)).2
  rw [bytesOf_length] at this
  unfold shAt
  split <;> omega
theorem extract0 (s : ByteArray) : s.extract 0 s.size = rest s 0 := rfl
theorem l17 {q : Nat} (hq : 70 ≤ q) {inl : InlT} (m0 : Nat) {l : List En} (hlen : l.length ≤ 64) (hmay : ∀ i, i < l.length → mayE (l.getD i d0) = true) (d : Nat) : ∀ (i m : Nat) (out pl : List Int), i + d = l.length → d < m → out.length ≤ i * 612 → pl.length ≤ i * 4 →
    LP B (callN B q) inl 17 m [1, 1, 1, 0, 1] (s17_22 l out pl (i : Int)) (KA B (callN B q) inl 17 m0 [1, 1, 1, 0, 1] (FI B (callN B q) inl 17)) = (some (finB (putB l d i out pl)) : Option (List Int × Int × Unit)) := by
  induction d with
  | zero =>
    intro i m out pl hd hm ho hp
    obtain ⟨m, rfl⟩ : ∃ k, m = k + 1 := ⟨m - 1, by omega⟩
    rw [s17_22_l, bF (by omega), s17_22x35_k, if_pos (by omega)]
    have e1 : IntKind.i64.wrap ((pl.length : Int).tdiv 4) = ((pl.length / 4 : Nat) : Int) := w64 (x := ((pl.length / 4 : Nat) : Int)) (by omega) (by omega)
    rw [e1]
    refine bnd (s53 (by omega) (pl.length / 4) 2 (by omega) (by omega)) ?_
    rw [if_pos (by simp only [List.length_append, fx_length]; omega)]
    rfl
  | succ d ih =>
    intro i m out pl hd hm ho hp
    obtain ⟨m, rfl⟩ : ∃ k, m = k + 1 := ⟨m - 1, by omega⟩
    have hme := hmay i (by omega)
    obtain ⟨hk, hu, hv⟩ := mayE_true hme
    obtain ⟨ht1, ht2⟩ := tail_bound hk
    have e3 := enc_length9 ht1
    have e4 := enc_length9 (n := (l.getD i d0).2.1.size) (by omega)
    have hnext : ∀ (o p : List Int), o = out ++ encE (shAt l i) (l.getD i d0) → p = (if i % 4 = 0 then pl ++ fx out.length 4 else pl) → LP B (callN B q) inl 17 m [1, 1, 1, 0, 1] (s17_22 l o p (IntKind.i64.wrap ((i : Int) + 1))) (KA B (callN B q) inl 17 m0 [1, 1, 1, 0, 1] (FI B (callN B q) inl 17)) = (some (finB (putB l (d + 1) i out pl)) : Option (List Int × Int × Unit)) := by
      intro o p ho' hp'
      subst ho' hp'
      have hel := encE_length (shAt_le hme).2 hme
      have e1 : IntKind.i64.wrap ((i : Int) + 1) = ((i + 1 : Nat) : Int) := w64 (by omega) (by omega)
      rw [e1]
      refine ih (i + 1) m _ _ (by omega) (by omega) (by rw [List.length_append]; omega) ?_
      split
      · rw [List.length_append, fx_length]; omega
      · omega
    rw [s17_22_l, bT (by omega), if_pos (by omega), Int.toNat_natCast]
    have htm : (i : Int).tmod 4 = ((i % 4 : Nat) : Int) := rfl
    rw [htm]
    by_cases h4 : i % 4 = 0
    · have hb : (((i % 4 : Nat) : Int) == (0 : Int)) = true := by rw [h4]; rfl
      have hsh : shAt l i = 0 := by unfold shAt; rw [if_pos h4]
      have hrs := rest_size (l.getD i d0).1.1 0
      have e2 := enc_length9 (n := (rest (l.getD i d0).1.1 0).size) (by omega)
      have hbl := bytesOf_length (rest (l.getD i d0).1.1 0)
      have hbv := bytesOf_length (l.getD i d0).2.1
      have e0 : (enc 0).length = 1 := by rw [enc_lt (by omega)]; rfl
      rw [hb, cond_true]
      refine bnd (s53 (by omega) out.length 4 (by omega) (by omega)) ?_
      rw [if_pos (by rw [fx_length]; omega)]
      refine bnd (s55 (n := 0) (by omega) (by omega)) ?_
      rw [if_pos (by omega)]
      refine bnd (s56 (s := rest (l.getD i d0).1.1 0) (by omega) (by omega)) ?_
      rw [if_pos (by simp only [List.length_append]; omega)]
      refine bnd (s57 (by omega) (l.getD i d0).1 hk) ?_
      refine bnd (s55 (by omega) ht1) ?_
      rw [if_pos (by simp only [List.length_append]; omega)]
      refine bnd (s56 (s := (l.getD i d0).2.1) (by omega) (by omega)) ?_
      rw [if_pos (by simp only [List.length_append]; omega)]
      refine hnext _ _ ?_ (by rw [if_pos h4])
      rw [hsh]
      unfold encE
      simp only [List.append_assoc]
    · have hb : (((i % 4 : Nat) : Int) == (0 : Int)) = false := beq_eq_false_iff_ne.2 (by omega)
      have hsh : shAt l i = shr (bytesOf (l.getD (i - 1) d0).1.1) (bytesOf (l.getD i d0).1.1) := by unfold shAt; rw [if_neg h4]
      have hmp := hmay (i - 1) (by omega)
      obtain ⟨hkp, hup, _⟩ := mayE_true hmp
      have hsl := shAt_le hme
      have e0 := enc_length9 (n := shAt l i) (by omega)
      have hrs := rest_size (l.getD i d0).1.1 (shAt l i)
      have e2 := enc_length9 (n := (rest (l.getD i d0).1.1 (shAt l i)).size) (by omega)
      have hbl := bytesOf_length (rest (l.getD i d0).1.1 (shAt l i))
      have hbv := bytesOf_length (l.getD i d0).2.1
      have hw1 : IntKind.i64.wrap ((i : Int) - 1) = ((i - 1 : Nat) : Int) := by rw [w64 (by omega) (by omega)]; omega
      rw [hb, cond_false, hw1, if_pos (by omega), Int.toNat_natCast]
      refine bnd (s54 (l.getD (i - 1) d0).1.1 (l.getD i d0).1.1 (by omega) (by omega)) ?_
      rw [← hsh]
      refine bnd (s55 (n := shAt l i) (by omega) (by omega)) ?_
      rw [if_pos (by omega), if_pos ⟨Int.natCast_nonneg _, Int.ofNat_le.2 hsl.1⟩, Int.toNat_natCast]
      refine bnd (s56 (s := rest (l.getD i d0).1.1 (shAt l i)) (by omega) (by omega)) ?_
      rw [if_pos (by simp only [List.length_append]; omega)]
      refine bnd (s57 (by omega) (l.getD i d0).1 hk) ?_
      refine bnd (s55 (by omega) ht1) ?_
      rw [if_pos (by simp only [List.length_append]; omega)]
      refine bnd (s56 (s := (l.getD i d0).2.1) (by omega) (by omega)) ?_
      rw [if_pos (by simp only [List.length_append]; omega)]
      refine hnext _ _ ?_ (by rw [if_neg h4])
      unfold encE
      simp only [List.append_assoc]
/-- A block's bytes, or why there are none. -/
def putBlock (l : List En) : List Int × Int × Unit := if l.length = 0 ∨ rising l = false then ([], 1, ()) else if l.length > 64 then ([], 4, ()) else finB (putB l l.length 0 [] [])
theorem risA_may {l : List En} : ∀ (d i : Nat), risA l d i = true → ∀ j, i ≤ j → j < i + d → mayE (l.getD j d0) = true
  | 0, i, _, j, h1, h2 => by omega
  | d + 1, i, h, j, h1, h2 => by
    simp only [risA, Bool.and_eq_true] at h
    by_cases hj : j = i
    · subst hj; exact h.1.1
    · exact risA_may d (i + 1) h.2 j (by omega) (by omega)
theorem rising_may {l : List En} (h : rising l = true) : ∀ j, j < l.length → mayE (l.getD j d0) = true := fun j hj => risA_may l.length 0 h j (by omega) (by omega)
theorem s17 {k : Nat} {l : List En} (hlen : l.length ≤ 140737488351232) (hk : l.length + 80 ≤ k) : callN B k 17 [argAV (.sl EntryT) l] = (some (putBlock l) : Option (List Int × Int × Unit)) := by
  obtain ⟨k, rfl⟩ := Nat.exists_eq_add_of_le' (show 1 ≤ k by omega)
  refine (callS k 17 _).trans ((t17 (callN B k) (lvl B k).2 k l).trans ?_)
  unfold putBlock
  by_cases h0 : l.length = 0
  · have : ((l.length : Int) == (0 : Int)) = true := by rw [h0]; rfl
    rw [this]
    exact congrArg some (by rw [if_pos (.inl h0)])
  · have : ((l.length : Int) == (0 : Int)) = false := beq_eq_false_iff_ne.2 (by omega)
    rw [this, beq_self_eq_true, cond_true]
    refine bnd (s52 hlen (by omega)) ?_
    cases hr : rising l with
    | false => exact congrArg some (by rw [if_pos (.inr rfl)])
    | true =>
      rw [Bool.not_true, cond_false]
      by_cases h64 : l.length > 64
      · rw [bT (by omega)]
        exact congrArg some (by rw [if_neg (by simp [h0]), if_pos h64])
      · rw [bF (by omega)]
        refine (l17 (by omega) k (by omega) (rising_may hr) l.length 0 k [] [] (by omega) (by omega) (by simp) (by simp)).trans ?_
        exact congrArg some (by rw [if_neg (by simp [h0]), if_neg h64])
theorem l37 {q : Nat} (hq : 70 ≤ q) {inl : InlT} (m0 : Nat) {l : List En} (hlen : l.length ≤ 64) (hmay : ∀ i, i < l.length → mayE (l.getD i d0) = true) (d : Nat) : ∀ (i m c : Nat) (out pl : List Int), i + d = l.length → d < m → out.length ≤ i * 612 → pl.length = c * 4 → c ≤ i →
    LP B (callN B q) inl 37 m [1, 1, 1, 1, 0, 1] (s37_33 l out pl (c : Int) (i : Int)) (KA B (callN B q) inl 37 m0 [1, 1, 1, 1, 0, 1] (FI B (callN B q) inl 37)) = (some (finB (putB l d i out pl)) : Option (List Int × Int × Unit)) := by
  induction d with
  | zero =>
    intro i m c out pl hd hm ho hp hc
    obtain ⟨m, rfl⟩ : ∃ k, m = k + 1 := ⟨m - 1, by omega⟩
    rw [s37_33_l, bF (by omega), s37_33x44_k, if_pos (by omega)]
    refine bnd (s71 (by omega) c 2 (by omega) (by omega) (by omega)) ?_
    rw [if_pos (by simp only [List.length_append, fx_length]; omega)]
    have : c = pl.length / 4 := by omega
    rw [this]
    rfl
  | succ d ih =>
    intro i m c out pl hd hm ho hp hc
    obtain ⟨m, rfl⟩ : ∃ k, m = k + 1 := ⟨m - 1, by omega⟩
    have hme := hmay i (by omega)
    obtain ⟨hk, hu, hv⟩ := mayE_true hme
    obtain ⟨ht1, ht2⟩ := tail_bound hk
    obtain ⟨_, hb2, hb3, hb4⟩ := mayB_true hk
    have e3 := enc_length9 ht1
    have e4 := enc_length9 (n := (l.getD i d0).2.1.size) (by omega)
    have ht : IntKind.i64.wrap (IntKind.i64.wrap (IntKind.i64.wrap ((2 : Int) * (l.getD i d0).1.2.1) + (l.getD i d0).1.2.2.1) - (1 : Int)) = ((tailN (l.getD i d0).1 : Nat) : Int) := by
      rw [w64 (x := 2 * (l.getD i d0).1.2.1) (by omega) (by omega), w64 (x := 2 * (l.getD i d0).1.2.1 + (l.getD i d0).1.2.2.1) (by omega) (by omega), w64 (by omega) (by omega), ht2]
    have hnext : ∀ (c' : Nat) (o p : List Int), o = out ++ encE (shAt l i) (l.getD i d0) → p = (if i % 4 = 0 then pl ++ fx out.length 4 else pl) → c' = (if i % 4 = 0 then c + 1 else c) → LP B (callN B q) inl 37 m [1, 1, 1, 1, 0, 1] (s37_33 l o p (c' : Int) (IntKind.i64.wrap ((i : Int) + 1))) (KA B (callN B q) inl 37 m0 [1, 1, 1, 1, 0, 1] (FI B (callN B q) inl 37)) = (some (finB (putB l (d + 1) i out pl)) : Option (List Int × Int × Unit)) := by
      intro c' o p ho' hp' hc'
      subst ho' hp' hc'
      have hel := encE_length (shAt_le hme).2 hme
      have e1 : IntKind.i64.wrap ((i : Int) + 1) = ((i + 1 : Nat) : Int) := w64 (by omega) (by omega)
      rw [e1]
      refine ih (i + 1) m _ _ _ (by omega) (by omega) (by rw [List.length_append]; omega) ?_ ?_
      · split
        · rw [List.length_append, fx_length]; omega
        · omega
      · split <;> omega
    rw [s37_33_l, bT (by omega), if_pos (by omega), Int.toNat_natCast]
    have htm : (i : Int).tmod 4 = ((i % 4 : Nat) : Int) := rfl
    rw [htm]
    by_cases h4 : i % 4 = 0
    · have hb : (((i % 4 : Nat) : Int) == (0 : Int)) = true := by rw [h4]; rfl
      have hsh : shAt l i = 0 := by unfold shAt; rw [if_pos h4]
      have hrs := rest_size (l.getD i d0).1.1 0
      have e2 := enc_length9 (n := (rest (l.getD i d0).1.1 0).size) (by omega)
      have hbl := bytesOf_length (rest (l.getD i d0).1.1 0)
      have hbv := bytesOf_length (l.getD i d0).2.1
      have e0 : (enc 0).length = 1 := by rw [enc_lt (by omega)]; rfl
      rw [hb, cond_true]
      refine bnd (s71 (by omega) out.length 4 (by omega) (by omega) (by omega)) ?_
      rw [if_pos (by rw [fx_length]; omega)]
      refine bnd (s73 (n := 0) (by omega) (by omega)) ?_
      rw [if_pos (by omega)]
      refine bnd (s74 (s := rest (l.getD i d0).1.1 0) (by omega) (by omega)) ?_
      rw [if_pos (by simp only [List.length_append]; omega), ht]
      refine bnd (s73 (by omega) ht1) ?_
      rw [if_pos (by simp only [List.length_append]; omega), if_pos (by omega)]
      refine bnd (s74 (s := (l.getD i d0).2.1) (by omega) (by omega)) ?_
      rw [if_pos (by simp only [List.length_append]; omega)]
      have hc1 : IntKind.i64.wrap ((c : Int) + 1) = ((c + 1 : Nat) : Int) := w64 (by omega) (by omega)
      rw [hc1]
      refine hnext (c + 1) _ _ ?_ (by rw [if_pos h4]) (by rw [if_pos h4])
      rw [hsh]
      unfold encE
      simp only [List.append_assoc]
    · have hb : (((i % 4 : Nat) : Int) == (0 : Int)) = false := beq_eq_false_iff_ne.2 (by omega)
      have hsh : shAt l i = shr (bytesOf (l.getD (i - 1) d0).1.1) (bytesOf (l.getD i d0).1.1) := by unfold shAt; rw [if_neg h4]
      have hmp := hmay (i - 1) (by omega)
      obtain ⟨hkp, hup, _⟩ := mayE_true hmp
      have hsl := shAt_le hme
      have e0 := enc_length9 (n := shAt l i) (by omega)
      have hrs := rest_size (l.getD i d0).1.1 (shAt l i)
      have e2 := enc_length9 (n := (rest (l.getD i d0).1.1 (shAt l i)).size) (by omega)
      have hbl := bytesOf_length (rest (l.getD i d0).1.1 (shAt l i))
      have hbv := bytesOf_length (l.getD i d0).2.1
      have hw1 : IntKind.i64.wrap ((i : Int) - 1) = ((i - 1 : Nat) : Int) := by rw [w64 (by omega) (by omega)]; omega
      rw [hb, cond_false, hw1, if_pos (by omega), Int.toNat_natCast]
      refine bnd (s72 (l.getD i d0).1.1 (l.getD (i - 1) d0).1.1 (by omega) (by omega)) ?_
      rw [shr_comm, ← hsh]
      refine bnd (s73 (n := shAt l i) (by omega) (by omega)) ?_
      rw [if_pos (by omega), if_pos ⟨Int.natCast_nonneg _, Int.ofNat_le.2 hsl.1⟩, Int.toNat_natCast]
      refine bnd (s74 (s := rest (l.getD i d0).1.1 (shAt l i)) (by omega) (by omega)) ?_
      rw [if_pos (by simp only [List.length_append]; omega), ht]
      refine bnd (s73 (by omega) ht1) ?_
      rw [if_pos (by simp only [List.length_append]; omega), if_pos (by omega)]
      refine bnd (s74 (s := (l.getD i d0).2.1) (by omega) (by omega)) ?_
      rw [if_pos (by simp only [List.length_append]; omega)]
      refine hnext c _ _ ?_ (by rw [if_neg h4]) (by rw [if_neg h4])
      unfold encE
      simp only [List.append_assoc]
theorem s37 {k : Nat} {l : List En} (hlen : l.length ≤ 140737488351232) (hk : l.length + 80 ≤ k) : callN B k 37 [argAV (.sl EntryT) l] = (some (putBlock l) : Option (List Int × Int × Unit)) := by
  obtain ⟨k, rfl⟩ := Nat.exists_eq_add_of_le' (show 1 ≤ k by omega)
  refine (callS k 37 _).trans ((t37 (callN B k) (lvl B k).2 k l).trans ?_)
  unfold putBlock
  refine bnd (s70 hlen (by omega)) ?_
  cases hr : rising l with
  | false => exact congrArg some (by rw [if_pos (.inr rfl)])
  | true =>
    rw [Bool.not_true, beq_self_eq_true, cond_true]
    by_cases h0 : l.length = 0
    · have : ((l.length : Int) == (0 : Int)) = true := by rw [h0]; rfl
      rw [this]
      exact congrArg some (by rw [if_pos (.inl h0)])
    · have : ((l.length : Int) == (0 : Int)) = false := beq_eq_false_iff_ne.2 (by omega)
      rw [this, cond_false]
      by_cases h64 : l.length > 64
      · rw [bT (by omega)]
        exact congrArg some (by rw [if_neg (by simp [h0]), if_pos h64])
      · rw [bF (by omega)]
        refine (l37 (by omega) k (by omega) (rising_may hr) l.length 0 k 0 [] [] (by omega) (by omega) (by simp) (by simp) (by omega)).trans ?_
        exact congrArg some (by rw [if_neg (by simp [h0]), if_neg h64])
end Go.Eng.Bk
/- The sum of bytes, the program's and the document's: the same. -/
namespace Go.Eng.Bk
open Go Go.Proofs Go.Eng
set_option linter.unusedVariables false
set_option linter.unusedSimpArgs false
/-- One turn. -/
def crcS (x : Int) : Int := if IntKind.u32.wrap (↑(BitVec.ofInt IntKind.u32.bits x &&& BitVec.ofInt IntKind.u32.bits (1 : Int)).toNat : Int) > (0 : Int) then IntKind.u32.wrap (↑(BitVec.ofInt IntKind.u32.bits (x.fdiv ((2 : Int) ^ Min.min (Int.toNat (1 : Int)) IntKind.u32.bits)) ^^^ BitVec.ofInt IntKind.u32.bits (2197175160 : Int)).toNat : Int) else x.fdiv ((2 : Int) ^ Min.min (Int.toNat (1 : Int)) IntKind.u32.bits)
def crcR : Nat → Int → Int
  | 0, x => x
  | d + 1, x => crcR d (crcS x)
def crcL : List Int → Int → Int
  | [], x => x
  | c :: t, x => crcL t (crcR 8 (IntKind.u32.wrap (↑(BitVec.ofInt IntKind.u32.bits x ^^^ BitVec.ofInt IntKind.u32.bits (IntKind.u32.wrap c)).toNat : Int)))
def crcI (l : List Int) : Int := IntKind.i64.wrap (IntKind.u32.wrap (↑(BitVec.ofInt IntKind.u32.bits (if IntKind.u32.signed = true then (-1 : Int) else IntKind.u32.max) ^^^ BitVec.ofInt IntKind.u32.bits (crcL l 4294967295)).toNat : Int))
theorem u32w (x : Int) : 0 ≤ IntKind.u32.wrap x ∧ IntKind.u32.wrap x < 4294967296 := by
  have hb : IntKind.u32.bits = 32 := rfl
  have hs : IntKind.u32.signed = false := rfl
  unfold IntKind.wrap
  rw [hb, hs]
  simp
  omega
/-- The sum. -/
def crc (l : List Int) : Nat := (crcI l).toNat
theorem crc_eq (l : List Int) : crcI l = (crc l : Int) := by
  have h := u32w (↑(BitVec.ofInt IntKind.u32.bits (if IntKind.u32.signed = true then (-1 : Int) else IntKind.u32.max) ^^^ BitVec.ofInt IntKind.u32.bits (crcL l 4294967295)).toNat : Int)
  unfold crc crcI
  rw [w64 (by omega) (by omega)]
  omega
theorem crc_lt (l : List Int) : crc l < 4294967296 := by
  have h := u32w (↑(BitVec.ofInt IntKind.u32.bits (if IntKind.u32.signed = true then (-1 : Int) else IntKind.u32.max) ^^^ BitVec.ofInt IntKind.u32.bits (crcL l 4294967295)).toNat : Int)
  unfold crc crcI
  rw [w64 (by omega) (by omega)]
  omega
theorem l118i {call : CallT B} {inl : InlT} {R : Type} (K : AEx → St → Option R) (l : List Int) (x2 x3 : Int) (d : Nat) : ∀ (i m : Nat) (x7 : Int), i + d = 8 → d < m →
    LP B call inl 118 m [1, 1, 0, 1, 0, 1, 1, 0, 1, 1, 1, 1] (s118_9 l x2 x3 x7 (i : Int)) K = K (.exit 2) (s118_9x10 l x2 x3 (crcR d x7) (8 : Int)) := by
  induction d with
  | zero =>
    intro i m x7 hi hm
    obtain ⟨m, rfl⟩ : ∃ k, m = k + 1 := ⟨m - 1, by omega⟩
    obtain rfl : i = 8 := by omega
    rw [s118_9_l, bF (by omega)]
    rfl
  | succ d ih =>
    intro i m x7 hi hm
    obtain ⟨m, rfl⟩ : ∃ k, m = k + 1 := ⟨m - 1, by omega⟩
    rw [s118_9_l, bT (by omega), w64 (x := (i : Int) + 1) (by omega) (by omega)]
    have h0 := (u32w (↑(BitVec.ofInt IntKind.u32.bits x7 &&& BitVec.ofInt IntKind.u32.bits (1 : Int)).toNat : Int)).1
    by_cases h : IntKind.u32.wrap (↑(BitVec.ofInt IntKind.u32.bits x7 &&& BitVec.ofInt IntKind.u32.bits (1 : Int)).toNat : Int) > (0 : Int)
    · rw [show (IntKind.u32.wrap (↑(BitVec.ofInt IntKind.u32.bits x7 &&& BitVec.ofInt IntKind.u32.bits (1 : Int)).toNat : Int) == (0 : Int)) = false from beq_eq_false_iff_ne.2 (by omega), cond_false]
      refine (ih (i + 1) m _ (by omega) (by omega)).trans ?_
      show _ = K (.exit 2) (s118_9x10 l x2 x3 (crcR d (crcS x7)) 8)
      unfold crcS
      rw [if_pos h]
    · rw [show (IntKind.u32.wrap (↑(BitVec.ofInt IntKind.u32.bits x7 &&& BitVec.ofInt IntKind.u32.bits (1 : Int)).toNat : Int) == (0 : Int)) = true from beq_iff_eq.2 (by omega), cond_true]
      refine (ih (i + 1) m _ (by omega) (by omega)).trans ?_
      show _ = K (.exit 2) (s118_9x10 l x2 x3 (crcR d (crcS x7)) 8)
      unfold crcS
      rw [if_neg h]
theorem l111i {call : CallT B} {inl : InlT} {R : Type} (K : AEx → St → Option R) (l : List Int) (x2 x3 : Int) (d : Nat) : ∀ (i m : Nat) (x7 : Int), i + d = 8 → d < m →
    LP B call inl 111 m [1, 1, 0, 1, 0, 1, 0, 1, 1] (s111_9 l x2 x3 x7 (i : Int)) K = K (.exit 2) (s111_9x10 l x2 x3 (crcR d x7) (8 : Int)) := by
  induction d with
  | zero =>
    intro i m x7 hi hm
    obtain ⟨m, rfl⟩ : ∃ k, m = k + 1 := ⟨m - 1, by omega⟩
    obtain rfl : i = 8 := by omega
    rw [s111_9_l, bF (by omega)]
    rfl
  | succ d ih =>
    intro i m x7 hi hm
    obtain ⟨m, rfl⟩ : ∃ k, m = k + 1 := ⟨m - 1, by omega⟩
    rw [s111_9_l, bT (by omega), w64 (x := (i : Int) + 1) (by omega) (by omega)]
    by_cases h : IntKind.u32.wrap (↑(BitVec.ofInt IntKind.u32.bits x7 &&& BitVec.ofInt IntKind.u32.bits (1 : Int)).toNat : Int) > (0 : Int)
    · rw [bT h]
      refine (ih (i + 1) m _ (by omega) (by omega)).trans ?_
      show _ = K (.exit 2) (s111_9x10 l x2 x3 (crcR d (crcS x7)) 8)
      unfold crcS
      rw [if_pos h]
    · rw [bF h]
      refine (ih (i + 1) m _ (by omega) (by omega)).trans ?_
      show _ = K (.exit 2) (s111_9x10 l x2 x3 (crcR d (crcS x7)) 8)
      unfold crcS
      rw [if_neg h]
theorem l118 {call : CallT B} {inl : InlT} (m0 : Nat) {l : List Int} (hl : l.length ≤ 140737488351232) (d : Nat) : ∀ (i m : Nat) (x2 : Int), i + d = l.length → d + 9 < m →
    LP B call inl 118 m [1, 1, 0, 1] (s118_6 l x2 (i : Int)) (KA B call inl 118 m0 [1, 1, 0, 1] (FI B call inl 118)) = (some (IntKind.i64.wrap (IntKind.u32.wrap (↑(BitVec.ofInt IntKind.u32.bits (if IntKind.u32.signed = true then (-1 : Int) else IntKind.u32.max) ^^^ BitVec.ofInt IntKind.u32.bits (crcL (l.drop i) x2)).toNat : Int))) : Option Int) := by
  induction d with
  | zero =>
    intro i m x2 hi hm
    obtain ⟨m, rfl⟩ : ∃ k, m = k + 1 := ⟨m - 1, by omega⟩
    rw [s118_6_l, bF (by omega), s118_6x11_k, List.drop_of_length_le (by omega)]
    rfl
  | succ d ih =>
    intro i m x2 hi hm
    obtain ⟨m, rfl⟩ : ∃ k, m = k + 1 := ⟨m - 1, by omega⟩
    obtain ⟨c, t, hct, hc⟩ := drop_cons (l := l) (i := i) (by omega)
    rw [s118_6_l, bT (by omega), if_pos (by omega), Int.toNat_natCast, dgetD hct]
    refine (l118i _ l x2 (i : Int) 8 0 m _ (by omega) (by omega)).trans ?_
    rw [s118_9x10_k, w64 (x := (i : Int) + 1) (by omega) (by omega)]
    refine (ih (i + 1) m _ (by omega) (by omega)).trans ?_
    rw [dsucc hct, hct]
    rfl
theorem l111 {call : CallT B} {inl : InlT} (m0 : Nat) {l : List Int} (hl : l.length ≤ 140737488351232) (d : Nat) : ∀ (i m : Nat) (x2 : Int), i + d = l.length → d + 9 < m →
    LP B call inl 111 m [1, 1, 0, 1] (s111_6 l x2 (i : Int)) (KA B call inl 111 m0 [1, 1, 0, 1] (FI B call inl 111)) = (some (IntKind.i64.wrap (IntKind.u32.wrap (↑(BitVec.ofInt IntKind.u32.bits (if IntKind.u32.signed = true then (-1 : Int) else IntKind.u32.max) ^^^ BitVec.ofInt IntKind.u32.bits (crcL (l.drop i) x2)).toNat : Int))) : Option Int) := by
  induction d with
  | zero =>
    intro i m x2 hi hm
    obtain ⟨m, rfl⟩ : ∃ k, m = k + 1 := ⟨m - 1, by omega⟩
    rw [s111_6_l, bF (by omega), s111_6x11_k, List.drop_of_length_le (by omega)]
    rfl
  | succ d ih =>
    intro i m x2 hi hm
    obtain ⟨m, rfl⟩ : ∃ k, m = k + 1 := ⟨m - 1, by omega⟩
    obtain ⟨c, t, hct, hc⟩ := drop_cons (l := l) (i := i) (by omega)
    rw [s111_6_l, bT (by omega), if_pos (by omega), Int.toNat_natCast, dgetD hct]
    refine (l111i _ l x2 (i : Int) 8 0 m _ (by omega) (by omega)).trans ?_
    rw [s111_9x10_k, w64 (x := (i : Int) + 1) (by omega) (by omega)]
    refine (ih (i + 1) m _ (by omega) (by omega)).trans ?_
    rw [dsucc hct, hct]
    rfl
theorem s118 {k : Nat} {l : List Int} (hl : l.length ≤ 140737488351232) (hk : l.length + 20 ≤ k) : callN B k 118 [.v (.sl u8) l] = (some (crc l : Int) : Option Int) := by
  obtain ⟨k, rfl⟩ := Nat.exists_eq_add_of_le' (show 1 ≤ k by omega)
  refine (callS k 118 _).trans ((t118 (callN B k) (lvl B k).2 k l).trans ?_)
  refine (l118 k hl l.length 0 k _ (by omega) (by omega)).trans ?_
  rw [List.drop_zero]
  exact congrArg some (crc_eq l)
theorem s111 {k : Nat} {l : List Int} (hl : l.length ≤ 140737488351232) (hk : l.length + 20 ≤ k) : callN B k 111 [.v (.sl u8) l] = (some (crc l : Int) : Option Int) := by
  obtain ⟨k, rfl⟩ := Nat.exists_eq_add_of_le' (show 1 ≤ k by omega)
  refine (callS k 111 _).trans ((t111 (callN B k) (lvl B k).2 k l).trans ?_)
  refine (l111 k hl l.length 0 k _ (by omega) (by omega)).trans ?_
  rw [List.drop_zero]
  exact congrArg some (crc_eq l)
end Go.Eng.Bk
/- Plain laws: entries in order. -/
namespace Go.Eng.Bk
open Go Go.Proofs Go.Eng
set_option linter.unusedVariables false
set_option linter.unusedSimpArgs false
/-- ahead, in the keys' order -/
def LtKe (a b : Ke) : Prop := LtK a.1 a.2.1 a.2.2.1 b.1 b.2.1 b.2.2.1
theorem LtKe.irr {a : Ke} : ¬ LtKe a a := LtK.irr
theorem LtKe.trans {a b c : Ke} (h1 : LtKe a b) (h2 : LtKe b c) : LtKe a c := LtK.trans h1 h2
theorem cmpKe_lt {a b : Ke} : cmpKe a b < 0 ↔ LtKe a b := by
  unfold cmpKe LtKe
  rcases cmpK_iff a.1 a.2.1 a.2.2.1 b.1 b.2.1 b.2.2.1 with ⟨h, h1⟩ | ⟨h, h1, h2, h3⟩ | ⟨h, h1⟩
  · rw [h]; exact ⟨fun _ => h1, fun _ => by decide⟩
  · rw [h]; exact ⟨fun h => absurd h (by decide), fun h' => by rw [h1, h2, h3] at h'; exact (LtK.irr h').elim⟩
  · rw [h]; exact ⟨fun h => absurd h (by decide), fun h' => (LtK.irr (h'.trans h1)).elim⟩
theorem cmpKe_cases (a b : Ke) : LtKe a b ∨ (a.1 = b.1 ∧ a.2.1 = b.2.1 ∧ a.2.2.1 = b.2.2.1) ∨ LtKe b a := by
  rcases cmpK_iff a.1 a.2.1 a.2.2.1 b.1 b.2.1 b.2.2.1 with ⟨_, h1⟩ | ⟨_, h1, h2, h3⟩ | ⟨_, h1⟩
  · exact .inl h1
  · exact .inr (.inl ⟨h1, h2, h3⟩)
  · exact .inr (.inr h1)
abbrev LtE (a b : En) : Prop := LtKe a.1 b.1
theorem risA_iff {l : List En} : ∀ (d i : Nat), i + d = l.length → (risA l d i = true ↔ (∀ j, i ≤ j → j < l.length → mayE (l.getD j d0) = true) ∧ ∀ j, i ≤ j → j < l.length → 0 < j → LtE (l.getD (j - 1) d0) (l.getD j d0))
  | 0, i, h => ⟨fun _ => ⟨fun j h1 h2 => by omega, fun j h1 h2 => by omega⟩, fun _ => rfl⟩
  | d + 1, i, h => by
    have ih := risA_iff (l := l) d (i + 1) (by omega)
    simp only [risA, Bool.and_eq_true, ih, Bool.or_eq_true, beq_iff_eq, decide_eq_true_eq, cmpKe_lt]
    constructor
    · rintro ⟨⟨h1, h2⟩, h3, h4⟩
      refine ⟨fun j h5 h6 => ?_, fun j h5 h6 h7 => ?_⟩
      · by_cases hj : j = i
        · subst hj; exact h1
        · exact h3 j (by omega) h6
      · by_cases hj : j = i
        · subst hj; exact h2.resolve_left (by omega)
        · exact h4 j (by omega) h6 h7
    · rintro ⟨h1, h2⟩
      refine ⟨⟨h1 i (Nat.le_refl _) (by omega), ?_⟩, fun j h5 h6 => h1 j (by omega) h6, fun j h5 h6 h7 => h2 j (by omega) h6 h7⟩
      by_cases hi : i = 0
      · exact .inl hi
      · exact .inr (h2 i (Nat.le_refl _) (by omega) (by omega))
theorem rising_of {l : List En} (h1 : ∀ e ∈ l, mayE e = true) (h2 : l.Pairwise LtE) : rising l = true := by
  refine (risA_iff l.length 0 (by omega)).2 ⟨fun j _ hj => h1 _ (getD_mem hj d0), fun j _ hj h0 => ?_⟩
  rw [getD_lt' hj, getD_lt' (show j - 1 < l.length by omega)]
  exact List.pairwise_iff_getElem.1 h2 (j - 1) j (by omega) hj (by omega)
theorem rising_mem {l : List En} (h : rising l = true) : ∀ e ∈ l, mayE e = true := by
  intro e he
  obtain ⟨i, hi, rfl⟩ := List.getElem_of_mem he
  have := ((risA_iff l.length 0 (by omega)).1 h).1 i (by omega) hi
  rwa [getD_lt' hi] at this
theorem rising_pair {l : List En} (h : rising l = true) : l.Pairwise LtE := by
  have h2 := ((risA_iff l.length 0 (by omega)).1 h).2
  refine List.pairwise_iff_getElem.2 (fun i j hi hj hij => ?_)
  have key : ∀ n, i + 1 + n < l.length → LtE (l.getD i d0) (l.getD (i + 1 + n) d0) := by
    intro n
    induction n with
    | zero => intro hn; exact h2 (i + 1) (by omega) hn (by omega)
    | succ n ih => intro hn; exact (ih (by omega)).trans (h2 (i + 1 + (n + 1)) (by omega) hn (by omega))
  have := key (j - (i + 1)) (by omega)
  rw [show i + 1 + (j - (i + 1)) = j by omega, getD_lt' hi, getD_lt' hj] at this
  exact this
/-! ### an entry put in its place -/
def before (e x : En) : Bool := decide (cmpKe x.1 e.1 < 0)
def ins (l : List En) (e : En) : List En := l.takeWhile (before e) ++ e :: l.dropWhile (before e)
theorem ins_length (l : List En) (e : En) : (ins l e).length = l.length + 1 := by
  unfold ins
  have := congrArg List.length (List.takeWhile_append_dropWhile (p := before e) (l := l))
  rw [List.length_append] at this
  rw [List.length_append, List.length_cons]
  omega
theorem ins_mem {l : List En} {e x : En} : x ∈ ins l e ↔ x = e ∨ x ∈ l := by
  unfold ins
  have := congrArg (x ∈ ·) (List.takeWhile_append_dropWhile (p := before e) (l := l))
  simp only [List.mem_append, eq_iff_iff] at this
  rw [List.mem_append, List.mem_cons, ← this]
  constructor
  · rintro (h | h | h)
    · exact .inr (.inl h)
    · exact .inl h
    · exact .inr (.inr h)
  · rintro (h | h | h)
    · exact .inr (.inl h)
    · exact .inl h
    · exact .inr (.inr h)
theorem takeWhile_all {α : Type} {p : α → Bool} : ∀ {l : List α} {x : α}, x ∈ l.takeWhile p → p x = true
  | [], _, h => by cases h
  | y :: l, x, h => by
    rw [List.takeWhile_cons] at h
    split at h
    · rename_i hy
      rcases List.mem_cons.1 h with rfl | h
      · exact hy
      · exact takeWhile_all h
    · cases h
theorem dropWhile_head {α : Type} {p : α → Bool} : ∀ {l : List α} {y : α} {t : List α}, l.dropWhile p = y :: t → p y = false
  | [], _, _, h => by cases h
  | z :: l, y, t, h => by
    rw [List.dropWhile_cons] at h
    split at h
    · exact dropWhile_head h
    · rename_i hz
      cases h
      simpa using hz
theorem ins_pair {l : List En} {e : En} (h : l.Pairwise LtE) (hne : ∀ x ∈ l, x.1.2.1 ≠ e.1.2.1) : (ins l e).Pairwise LtE := by
  unfold ins
  have hl := List.takeWhile_append_dropWhile (p := before e) (l := l)
  have hp : (l.takeWhile (before e) ++ l.dropWhile (before e)).Pairwise LtE := by rw [hl]; exact h
  obtain ⟨h1, h2, h3⟩ := List.pairwise_append.1 hp
  have ha : ∀ a ∈ l.takeWhile (before e), LtE a e := fun a ha => by
    have h4 : before e a = true := takeWhile_all ha
    exact cmpKe_lt.1 (of_decide_eq_true h4)
  have hc : ∀ c ∈ l.dropWhile (before e), LtE e c := by
    cases hd : l.dropWhile (before e) with
    | nil => intro c hc; cases hc
    | cons y t =>
      have hy := dropWhile_head hd
      have hyl : y ∈ l := by rw [← hl, hd]; simp
      have hye : LtE e y := by
        rcases cmpKe_cases y.1 e.1 with h4 | ⟨_, h4, _⟩ | h4
        · have : before e y = true := decide_eq_true (cmpKe_lt.2 h4)
          rw [this] at hy; cases hy
        · exact absurd h4 (hne y hyl)
        · exact h4
      intro c hc
      rcases List.mem_cons.1 hc with rfl | hc
      · exact hye
      · rw [hd] at h2
        exact hye.trans ((List.pairwise_cons.1 h2).1 c hc)
  refine List.pairwise_append.2 ⟨h1, List.pairwise_cons.2 ⟨hc, h2⟩, fun a ha' b hb => ?_⟩
  rcases List.mem_cons.1 hb with rfl | hb
  · exact ha a ha'
  · exact h3 a ha' b hb
/-! ### digits -/
def dgA : Nat → Nat → ByteArray → ByteArray
  | 0, _, acc => acc
  | d + 1, n, acc => if n ≥ 10 then dgA d (n / 10) (strOf [((48 + n % 10 : Nat) : Int)] ++ acc) else strOf [((48 + n : Nat) : Int)] ++ acc
def dg (n : Nat) : ByteArray := dgA 20 n ⟨#[]⟩
theorem dgA_size : ∀ (d n : Nat) (acc : ByteArray) (k : Nat), n < 10 ^ k → (dgA d n acc).size ≤ acc.size + max k 1
  | 0, n, acc, k, _ => by simp only [dgA]; omega
  | d + 1, n, acc, k, h => by
    simp only [dgA]
    have h1 : ∀ x : Int, (strOf [x] ++ acc).size = acc.size + 1 := fun x => by rw [ByteArray.size_append, strOf_len]; simp; omega
    split
    · rename_i hn
      cases k with
      | zero => simp at h; omega
      | succ k =>
        have := dgA_size d (n / 10) (strOf [((48 + n % 10 : Nat) : Int)] ++ acc) k (by rw [Nat.pow_succ] at h; omega)
        rw [h1] at this
        cases k with
        | zero => simp at h; omega
        | succ k => omega
    · rw [h1]; omega
theorem dg_size {n : Nat} (h : n < 1000) : (dg n).size ≤ 3 := by
  have := dgA_size 20 n ⟨#[]⟩ 3 (by omega)
  have e : (ByteArray.mk #[]).size = 0 := rfl
  unfold dg
  omega
theorem l42 {call : CallT B} {inl : InlT} (m0 : Nat) (d : Nat) : ∀ (n m : Nat) (acc : ByteArray), n < 10 ^ (d + 1) → n < 9223372036854775808 → acc.size + d < 1000 → d < m → d < 20 →
    LP B call inl 42 m [1, 1, 0] (s42_2 (n : Int) acc) (KA B call inl 42 m0 [1, 1, 0] (FI B call inl 42)) = (some (dgA (d + 1) n acc) : Option ByteArray) := by
  have hmax : IntKind.i64.max = 9223372036854775807 := by decide
  have last : ∀ (d n m : Nat) (acc : ByteArray), n < 10 → acc.size < 1000 → LP B call inl 42 (m + 1) [1, 1, 0] (s42_2 (n : Int) acc) (KA B call inl 42 m0 [1, 1, 0] (FI B call inl 42)) = (some (dgA (d + 1) n acc) : Option ByteArray) := by
    intro d n m acc h ho
    have e1 : IntKind.u8.wrap (IntKind.i64.wrap ((48 : Int) + (n : Int))) = ((48 + n : Nat) : Int) := by rw [w64 (by omega) (by omega), wu8]; omega
    have e2 : (strOf [((48 + n : Nat) : Int)]).size = 1 := by rw [strOf_len]; rfl
    rw [s42_2_l, bF (by omega), s42_2x3_k, e1, if_neg (by rw [hmax, e2]; omega)]
    simp only [dgA]
    rw [if_neg (by omega)]
  induction d with
  | zero => 
    intro n m acc h hn ho hm hd
    obtain ⟨m, rfl⟩ : ∃ k, m = k + 1 := ⟨m - 1, by omega⟩
    exact last 0 n m acc (by simpa using h) (by omega)
  | succ d ih =>
    intro n m acc h hn ho hm hd
    obtain ⟨m, rfl⟩ : ∃ k, m = k + 1 := ⟨m - 1, by omega⟩
    by_cases h1 : n < 10
    · exact last (d + 1) n m acc h1 (by omega)
    · have e0 : Int.tmod (n : Int) (10 : Int) = ((n % 10 : Nat) : Int) := rfl
      have e3 : Int.tdiv (n : Int) (10 : Int) = ((n / 10 : Nat) : Int) := rfl
      have e1 : IntKind.u8.wrap (IntKind.i64.wrap ((48 : Int) + ((n % 10 : Nat) : Int))) = ((48 + n % 10 : Nat) : Int) := by rw [w64 (by omega) (by omega), wu8]; omega
      have e2 : (strOf [((48 + n % 10 : Nat) : Int)]).size = 1 := by rw [strOf_len]; rfl
      rw [s42_2_l, bT (by omega), e0, e3, e1, if_neg (by rw [hmax, e2]; omega), w64 (x := ((n / 10 : Nat) : Int)) (by omega) (by omega)]
      refine (ih (n / 10) m _ (by rw [Nat.pow_succ] at h; omega) (by omega) (by rw [ByteArray.size_append, e2]; omega) (by omega) (by omega)).trans ?_
      have : dgA (d + 1 + 1) n acc = dgA (d + 1) (n / 10) (strOf [((48 + n % 10 : Nat) : Int)] ++ acc) := by
        conv => lhs; unfold dgA
        rw [if_pos (by omega)]
      rw [this]
theorem s42 {k : Nat} (hk : 24 ≤ k) (n : Nat) (hn : n < 9223372036854775808) : callN B k 42 [.v i64 (n : Int)] = (some (dg n) : Option ByteArray) := by
  obtain ⟨k, rfl⟩ := Nat.exists_eq_add_of_le' (show 1 ≤ k by omega)
  refine (callS k 42 _).trans ((t42 (callN B k) (lvl B k).2 k (n : Int)).trans ?_)
  exact l42 k 19 n k ⟨#[]⟩ (by rw [show (10 : Nat) ^ (19 + 1) = 100000000000000000000 from by decide]; omega) hn (by decide) (by omega) (by omega)
end Go.Eng.Bk
/- What reading a block answers, the program's and the document's. -/
namespace Go.Eng.Bk
open Go Go.Proofs Go.Eng
set_option linter.unusedVariables false
set_option linter.unusedSimpArgs false
theorem s99 {k : Nat} (h : 1 ≤ k) {n : Nat} (hn : n < 9223372036854775808) : callN B k 99 [.v i64 (n : Int)] = (some (((n / 2 : Nat) : Int), ((n % 2 + 1 : Nat) : Int), ()) : Option (Int × Int × Unit)) := by
  obtain ⟨k, rfl⟩ := Nat.exists_eq_add_of_le' h
  refine (callS k 99 _).trans ((t99 (callN B k) (lvl B k).2 k (n : Int)).trans (congrArg some ?_))
  have e1 : Int.tdiv (n : Int) 2 = ((n / 2 : Nat) : Int) := rfl
  have e2 : Int.tmod (n : Int) 2 = ((n % 2 : Nat) : Int) := rfl
  rw [e1, e2, w64 (x := ((n / 2 : Nat) : Int)) (by omega) (by omega), w64 (x := ((n % 2 : Nat) : Int) + 1) (by omega) (by omega)]
  rfl
/-- The entry that stands at a place, behind one of a user. -/
def entryM (l : List Int) (at_ : Int) (ahead : ByteArray) : En × Int × Bool × Unit :=
  if (getN l at_).2.2 = true ∧ (getN l at_).1 ≤ (ahead.size : Int) ∧ (getT l (getN l at_).2.1).2.2 = true ∧ (getN l (getT l (getN l at_).2.1).2.1).2.2 = true then
    (((ahead.extract 0 (getN l at_).1.toNat ++ (getT l (getN l at_).2.1).1, (((getN l (getT l (getN l at_).2.1).2.1).1.toNat / 2 : Nat) : Int), (((getN l (getT l (getN l at_).2.1).2.1).1.toNat % 2 + 1 : Nat) : Int), ()), (getT l (getN l (getT l (getN l at_).2.1).2.1).2.1).1, ()),
      (getT l (getN l (getT l (getN l at_).2.1).2.1).2.1).2.1, (getT l (getN l (getT l (getN l at_).2.1).2.1).2.1).2.2, ())
  else (d0, 0, false, ())
theorem getT_size {l : List Int} (hl : Bytes l) (at_ : Int) : (getT l at_).1.size ≤ l.length := by
  rcases getT_cases hl at_ with h | ⟨p, n, j, _, _, h, _, _, hle⟩
  · rw [h]; exact Nat.zero_le _
  · rw [h]; rw [strOf_len, List.length_drop, List.length_take]; omega
theorem i64max : IntKind.i64.max = 9223372036854775807 := by decide
theorem s68 {k : Nat} (hk : 15 ≤ k) {l : List Int} (hl : Bytes l) (hlen : l.length ≤ 140737488351232) (at_ : Int) {ahead : ByteArray} (ha : ahead.size ≤ 140737488351232) :
    callN B k 68 [.v (.sl u8) l, .v i64 at_, .v .str ahead] = (some (entryM l at_ ahead) : Option (En × Int × Bool × Unit)) := by
  obtain ⟨k, rfl⟩ := Nat.exists_eq_add_of_le' (show 1 ≤ k by omega)
  refine (callS k 68 _).trans ((t68 (callN B k) (lvl B k).2 k l at_ ahead).trans ?_)
  refine bnd (s97 (by omega) hl hlen at_) ?_
  have no : ∀ {c : Prop}, ¬ ((getN l at_).2.2 = true ∧ (getN l at_).1 ≤ (ahead.size : Int) ∧ (getT l (getN l at_).2.1).2.2 = true ∧ (getN l (getT l (getN l at_).2.1).2.1).2.2 = true) → (some (d0, (0 : Int), false, ()) : Option (En × Int × Bool × Unit)) = some (entryM l at_ ahead) := by
    intro _ h; unfold entryM; rw [if_neg h]
  change (bif (!(getN l at_).2.2) == false then (bif decide ((getN l at_).1 > (ahead.size : Int)) then _ else _) else _) = _
  cases h1 : (getN l at_).2.2 with
  | false => exact no (c := True) (fun h => by rw [h1] at h; cases h.1)
  | true =>
  rw [Bool.not_true, beq_self_eq_true, cond_true]
  by_cases h2 : (getN l at_).1 > (ahead.size : Int)
  · rw [bT h2]
    exact no (c := True) (fun h => by have := h.2.1; omega)
  rw [bF h2]
  refine bnd (s98 (by omega) hl hlen (getN l at_).2.1) ?_
  change (bif !(getT l (getN l at_).2.1).2.2 then _ else _) = _
  cases h3 : (getT l (getN l at_).2.1).2.2 with
  | false => exact no (c := True) (fun h => by rw [h3] at h; cases h.2.2.1)
  | true =>
  rw [Bool.not_true, cond_false]
  refine bnd (s97 (by omega) hl hlen (getT l (getN l at_).2.1).2.1) ?_
  change (bif !(getN l (getT l (getN l at_).2.1).2.1).2.2 then _ else _) = _
  cases h4 : (getN l (getT l (getN l at_).2.1).2.1).2.2 with
  | false => exact no (c := True) (fun h => by rw [h4] at h; cases h.2.2.2)
  | true =>
  rw [Bool.not_true, cond_false]
  refine bnd (s98 (by omega) hl hlen (getN l (getT l (getN l at_).2.1).2.1).2.1) ?_
  obtain ⟨n, hn, hn2⟩ := getN_num hl at_
  obtain ⟨t, ht, ht2⟩ := getN_num hl (getT l (getN l at_).2.1).2.1
  have hsz := getT_size hl (getN l at_).2.1
  change (if (0 : Int) ≤ (getN l at_).1 ∧ (getN l at_).1 ≤ (ahead.size : Int) then (if (((ahead.extract 0 (Int.toNat (getN l at_).1)).size + (getT l (getN l at_).2.1).1.size : Nat) : Int) > IntKind.i64.max then none else ((callN B k 99 [(.v i64 (getN l (getT l (getN l at_).2.1).2.1).1)]).bind _)) else none) = _
  rw [if_pos (by omega), if_neg (by rw [i64max, ByteArray.size_extract]; omega), ht]
  refine bnd (s99 (by omega) ht2) ?_
  unfold entryM
  rw [if_pos ⟨h1, by omega, h3, h4⟩, ht, Int.toNat_natCast]
theorem entry_cases {l : List Int} (hl : Bytes l) (p : Nat) (ahead : ByteArray) : (entryM l (p : Int) ahead).2.2.1 = false ∨ ∃ (e : En) (q : Nat), entryM l (p : Int) ahead = (e, (q : Int), true, ()) ∧ p + 4 ≤ q ∧ q ≤ l.length ∧ e.1.1.size ≤ ahead.size + (q - p) := by
  unfold entryM
  split
  · rename_i h
    obtain ⟨h1, h2, h3, h4⟩ := h
    rcases getN_cases hl (p : Int) with h5 | ⟨p', n, j, hp, _, h5, hn, hj, _, hle⟩
    · rw [h5] at h1; cases h1
    · have hpp : p' = p := by omega
      subst hpp
      rw [h5] at h2 h3 h4 ⊢
      simp only at h2 h3 h4 ⊢
      rcases getT_cases hl ((p' + j : Nat) : Int) with h6 | ⟨p2, n2, j2, hp2, _, h6, hj2, _, hle2⟩
      · rw [h6] at h3; cases h3
      · have hpp : p2 = p' + j := by omega
        subst hpp
        rw [h6] at h4 ⊢
        simp only at h4 ⊢
        rcases getN_cases hl ((p' + j + j2 + n2 : Nat) : Int) with h7 | ⟨p3, n3, j3, hp3, _, h7, _, hj3, _, hle3⟩
        · rw [h7] at h4; cases h4
        · have hpp : p3 = p' + j + j2 + n2 := by omega
          subst hpp
          rw [h7]
          simp only
          rcases getT_cases hl ((p' + j + j2 + n2 + j3 : Nat) : Int) with h8 | ⟨p4, n4, j4, hp4, _, h8, hj4, _, hle4⟩
          · left; rw [h8]
          · right
            have hpp : p4 = p' + j + j2 + n2 + j3 := by omega
            subst hpp
            rw [h8]
            refine ⟨_, p' + j + j2 + n2 + j3 + j4 + n4, rfl, by omega, by omega, ?_⟩
            show (ByteArray.extract ahead 0 _ ++ strOf _).size ≤ _
            rw [ByteArray.size_append, ByteArray.size_extract, strOf_len, List.length_drop, List.length_take]
            omega
  · exact .inl rfl
/-- Entry by entry; the bytes of the entries are l. -/
def getLoop (l : List Int) : Nat → Nat → ByteArray → List En → Option (List En)
  | 0, _, _, _ => none
  | d + 1, p, ahead, out => if p < l.length then (if (entryM l (p : Int) ahead).2.2.1 = true ∧ out.length ≤ 64 then getLoop l d (entryM l (p : Int) ahead).2.1.toNat (entryM l (p : Int) ahead).1.1.1 (out ++ [(entryM l (p : Int) ahead).1]) else none) else some out
def getRes (b : List Int) (o : Option (List En)) : List En × Bool × Unit := match o with
  | none => ([], false, ())
  | some out => if (putBlock out).2.1 = 0 ∧ (putBlock out).1 = b then (out, true, ()) else ([], false, ())
/-- The entries that bytes are a block of. -/
def getBlock (b : List Int) : List En × Bool × Unit :=
  if (gfx b ((b.length : Int) - 2) 2).2.1 = true ∧ 4 * (gfx b ((b.length : Int) - 2) 2).1 ≤ (b.length : Int) - 2 then
    getRes b (getLoop (b.take ((b.length : Int) - 2 - 4 * (gfx b ((b.length : Int) - 2) 2).1).toNat) (b.length + 1) 0 ⟨#[]⟩ [])
  else ([], false, ())
theorem finB_len (o p : List Int) : (finB (o, p)).1.length = o.length + p.length + 2 := by
  have : (finB (o, p)).1 = o ++ p ++ fx (p.length / 4) 2 := rfl
  rw [this, List.length_append, List.length_append, fx_length]
theorem finB_length (l : List En) (hm : ∀ j, j < l.length → mayE (l.getD j d0) = true) (d : Nat) : ∀ (i : Nat) (out pl : List Int), i + d = l.length → out.length ≤ i * 612 → pl.length ≤ i * 4 → (finB (putB l d i out pl)).1.length ≤ (i + d) * 616 + 2 := by
  induction d with
  | zero =>
    intro i out pl _ h1 h2
    have : putB l 0 i out pl = (out, pl) := rfl
    rw [this, finB_len]; omega
  | succ d ih =>
    intro i out pl hd h1 h2
    have hme := hm i (by omega)
    have hel := encE_length (shAt_le hme).2 hme
    have := ih (i + 1) (out ++ encE (shAt l i) (l.getD i d0)) (if i % 4 = 0 then pl ++ fx out.length 4 else pl) (by omega) (by rw [List.length_append]; omega) (by
      split
      · rw [List.length_append, fx_length]; omega
      · omega)
    have e : putB l (d + 1) i out pl = putB l d (i + 1) (out ++ encE (shAt l i) (l.getD i d0)) (if i % 4 = 0 then pl ++ fx out.length 4 else pl) := rfl
    rw [← e] at this
    refine Nat.le_trans this ?_
    rw [show i + 1 + d = i + (d + 1) from by omega]
    exact Nat.le_refl _
theorem putBlock_length (l : List En) : (putBlock l).1.length ≤ 40000 := by
  unfold putBlock
  split
  · simp
  · rename_i h
    have hr : rising l = true := by cases hr : rising l with
      | true => rfl
      | false => exact absurd (.inr hr) h
    split
    · simp
    · have := finB_length l (rising_may hr) l.length 0 [] [] (by omega) (by simp) (by simp)
      omega
theorem l34 {q : Nat} (hq : 50000 ≤ q) {inl : InlT} (m0 : Nat) {b : List Int} (hb : Bytes b) (hlen : b.length ≤ 1000000000) {v0 : Int × Bool × Unit} (c : Nat) (hv : v0.1 = (c : Int)) (hc : 4 * c + 2 ≤ b.length) (d : Nat) : ∀ (p m : Nat) (out : List En) (ahead : ByteArray),
    b.length + 1 ≤ d + p + (2 + 4 * c) → p + 2 + 4 * c ≤ b.length → d ≤ m → out.length ≤ 65 → ahead.size ≤ p →
    LP B (callN B q) inl 34 m [1, 1, 1, 1, 1, 1, 1, 0, 1] (s34_6 b v0 out ahead (p : Int)) (KA B (callN B q) inl 34 m0 [1, 1, 1, 1, 1, 1, 1, 0, 1] (FI B (callN B q) inl 34)) = (some (getRes b (getLoop (b.take (b.length - 2 - 4 * c)) d p ahead out)) : Option (List En × Bool × Unit)) := by
  have hw1 : IntKind.i64.wrap ((b.length : Int) - 2) = (b.length : Int) - 2 := w64 (by omega) (by omega)
  have hw2 : IntKind.i64.wrap ((4 : Int) * v0.1) = ((4 * c : Nat) : Int) := by rw [hv, w64 (by omega) (by omega)]; omega
  have hend : IntKind.i64.wrap (IntKind.i64.wrap ((b.length : Int) - 2) - IntKind.i64.wrap ((4 : Int) * v0.1)) = ((b.length - 2 - 4 * c : Nat) : Int) := by
    rw [hw1, hw2, w64 (by omega) (by omega)]; omega
  have hsub : List.drop 0 (List.take (IntKind.i64.wrap (IntKind.i64.wrap ((b.length : Int) - 2) - IntKind.i64.wrap ((4 : Int) * v0.1))).toNat b) = b.take (b.length - 2 - 4 * c) := by
    rw [hend, Int.toNat_natCast, List.drop_zero]
  have hsl : (b.take (b.length - 2 - 4 * c)).length = b.length - 2 - 4 * c := by rw [List.length_take]; omega
  induction d with
  | zero => intro p m out ahead h1 h2; omega
  | succ d ih =>
    intro p m out ahead h1 h2 hm ho ha
    obtain ⟨m, rfl⟩ : ∃ k, m = k + 1 := ⟨m - 1, by omega⟩
    rw [s34_6_l]
    simp only [getLoop]
    rw [hsl]
    by_cases hp : p < b.length - 2 - 4 * c
    · rw [bT (by rw [hend]; omega), if_pos (by rw [hend]; omega), hsub, if_pos hp]
      refine bnd (s68 (by omega) (hb.take _) (by omega) (p : Int) (by omega)) ?_
      rcases entry_cases (hb.take (b.length - 2 - 4 * c)) p ahead with h | ⟨e, q', h, hq1, hq2, hsz⟩
      · rw [h, show ((!false) == false) = false from rfl, cond_false, s34_6x8_k, if_neg (fun h => by cases h.1)]
        rfl
      · rw [h]
        rw [show ((!(e, (q' : Int), true, ()).snd.snd.fst) == false) = true from rfl, cond_true]
        by_cases h64 : out.length > 64
        · rw [bT (by omega), s34_6x8_k, if_neg (fun h => by have := h.2; omega)]
          rfl
        · rw [bF (by omega), if_pos (by simp only [List.length_cons, List.length_nil]; omega), if_pos ⟨rfl, by omega⟩]
          rw [hsl] at hq2
          have := ih q' m (out ++ [e]) e.1.1 (by omega) (by omega) (by omega) (by simp; omega) (by omega)
          simp only [Int.toNat_natCast]
          exact this
    · rw [bF (by rw [hend]; omega), s34_6x9_k, if_neg hp]
      refine bnd (s17 (by omega) (by omega)) ?_
      have hpl := putBlock_length out
      unfold getRes
      simp only
      by_cases he : (putBlock out).2.1 = 0
      · have : ((putBlock out).2.1 != (0 : Int)) = false := by simp [he]
        rw [this, beq_self_eq_true, cond_true]
        refine bnd (s69 (putBlock out).1 b (by omega) (by omega)) ?_
        by_cases hbb : (putBlock out).1 = b
        · rw [decide_eq_true hbb, if_pos ⟨he, hbb⟩]
          rfl
        · rw [decide_eq_false hbb, if_neg (fun h => hbb h.2)]
          rfl
      · have : ((putBlock out).2.1 != (0 : Int)) = true := by simpa using he
        rw [this, if_neg (fun h => he h.1)]
        rfl
theorem gfx_nat {l : List Int} (hl : Bytes l) (at_ : Int) (z : Nat) : ∃ c : Nat, (gfx l at_ z).1 = c := by
  unfold gfx
  split
  · exact ⟨0, rfl⟩
  · exact ⟨_, rfl⟩
theorem s34 {k : Nat} {b : List Int} (hb : Bytes b) (hlen : b.length ≤ 1000000000) (hk : b.length + 50010 ≤ k) : callN B k 34 [argAV (.sl u8) b] = (some (getBlock b) : Option (List En × Bool × Unit)) := by
  obtain ⟨k, rfl⟩ := Nat.exists_eq_add_of_le' (show 1 ≤ k by omega)
  refine (callS k 34 _).trans ((t34 (callN B k) (lvl B k).2 k b).trans ?_)
  have hw1 : IntKind.i64.wrap ((b.length : Int) - 2) = (b.length : Int) - 2 := w64 (by omega) (by omega)
  rw [hw1]
  refine bnd (s67 (by omega) hb (by omega) ((b.length : Int) - 2) (by omega) 2 (by omega) (by omega)) ?_
  obtain ⟨c, hc⟩ := gfx_nat hb ((b.length : Int) - 2) 2
  unfold getBlock
  generalize hr : gfx b ((b.length : Int) - 2) 2 = r at hc ⊢
  cases ho : r.2.1 with
  | false =>
    rw [if_neg (fun h => by cases h.1)]
    rfl
  | true =>
    rw [Bool.not_true, beq_self_eq_true, cond_true]
    have hcb : c < 65536 := by
      unfold gfx at hr
      split at hr
      · rw [← hr] at ho; cases ho
      · have := bval_lt ((b.drop ((b.length : Int) - 2).toNat).take 2) 0 0 ((hb.drop _).take 2) (by simp)
        have hll : ((b.drop ((b.length : Int) - 2).toNat).take 2).length ≤ 2 := by rw [List.length_take]; omega
        have hpw : 256 ^ (0 + ((b.drop ((b.length : Int) - 2).toNat).take 2).length) ≤ 256 ^ 2 := Nat.pow_le_pow_right (by omega) (by omega)
        have : (256 : Nat) ^ 2 = 65536 := by decide
        rw [← hr] at hc
        simp only at hc
        omega
    have hw2 : IntKind.i64.wrap ((4 : Int) * r.1) = 4 * (c : Int) := by rw [hc, w64 (by omega) (by omega)]
    by_cases h4 : 4 * r.1 > (b.length : Int) - 2
    · rw [bT (by rw [hw2, ← hc]; exact h4), if_neg (fun h => by have := h.2; omega)]
    · rw [bF (by rw [hw2, ← hc]; exact h4), if_pos ⟨rfl, by omega⟩]
      have hl := l34 (q := k) (by omega) (inl := (lvl B k).2) k hb hlen (v0 := r) c hc (by omega) (b.length + 1) 0 k [] ⟨#[]⟩ (by omega) (by omega) (by omega) (by simp) (Nat.zero_le _)
      have e : ((b.length : Int) - 2 - 4 * r.1).toNat = b.length - 2 - 4 * c := by rw [hc]; omega
      rw [e]
      exact hl
theorem s35 {k : Nat} {b : List Int} (hb : Bytes b) (hlen : b.length ≤ 1000000000) (hk : b.length + 50011 ≤ k) : callN B k 35 [argAV (.sl u8) b] = (some (getBlock b).1 : Option (List En)) := by
  obtain ⟨k, rfl⟩ := Nat.exists_eq_add_of_le' (show 1 ≤ k by omega)
  refine (callS k 35 _).trans ((t35 (callN B k) (lvl B k).2 k b).trans ?_)
  exact bnd (s34 hb hlen (by omega)) rfl
end Go.Eng.Bk
/- Bytes joined, frames, keys' bytes: what the program's and the document's functions answer. -/
namespace Go.Eng.Bk
open Go Go.Proofs Go.Eng
set_option linter.unusedVariables false
set_option linter.unusedSimpArgs false
theorem s119 {k : Nat} (h : 1 ≤ k) (n : Nat) (hn : n < 140737488355328) : callN B k 119 [.nilS, .v i64 (n : Int)] = (some [] : Option (List Int)) := by
  obtain ⟨k, rfl⟩ := Nat.exists_eq_add_of_le' h
  have e : callN B (k + 1) 119 [.nilS, .v i64 (n : Int)] = (if (0 : Int) ≤ (n : Int) ∧ (n : Int) < 140737488355328 then some [] else none : Option (List Int)) := by kernel_rfl
  exact e.trans (if_pos (by omega))
theorem s120 {k : Nat} (h : 1 ≤ k) (l : List Int) (hl : l.length ≤ 140737488355328) : callN B k 120 [.v (.sl u8) l] = (some l : Option (List Int)) := by
  obtain ⟨k, rfl⟩ := Nat.exists_eq_add_of_le' h
  have e : callN B (k + 1) 120 [.v (.sl u8) l] = (if List.length l ≤ 140737488355328 then some l else none : Option (List Int)) := by kernel_rfl
  exact e.trans (if_pos hl)
theorem l106a {call : CallT B} {inl : InlT} {R : Type} (K : AEx → St → Option R) {ls : List (List Int)} (hl : ls.length ≤ 1000000) (d : Nat) : ∀ (i m x : Nat), i + d = ls.length → d < m → x + (ls.drop i).flatten.length ≤ 1000000000000 →
    LP B call inl 106 m [1, 1, 0, 1] (s106_2 ls (x : Int) (i : Int)) K = K (.exit 0) (s106_2x3 ls ((x + (ls.drop i).flatten.length : Nat) : Int)) := by
  induction d with
  | zero =>
    intro i m x hi hm hx
    obtain ⟨m, rfl⟩ : ∃ k, m = k + 1 := ⟨m - 1, by omega⟩
    rw [s106_2_l, bF (by omega), List.drop_of_length_le (by omega)]
    rfl
  | succ d ih =>
    intro i m x hi hm hx
    obtain ⟨m, rfl⟩ : ∃ k, m = k + 1 := ⟨m - 1, by omega⟩
    obtain ⟨c, t, hct, hc⟩ := drop_cons (l := ls) (i := i) (by omega)
    have hds := dsucc hct
    rw [hct, List.flatten_cons, List.length_append] at hx
    rw [s106_2_l, bT (by omega), if_pos (by omega), Int.toNat_natCast, dgetD hct, w64 (x := (x : Int) + (c.length : Int)) (by omega) (by omega), bF (by omega), w64 (x := (i : Int) + 1) (by omega) (by omega)]
    refine (ih (i + 1) m (x + c.length) (by omega) (by omega) (by rw [hds]; omega)).trans ?_
    rw [hds, hct, List.flatten_cons, List.length_append, Nat.add_assoc]
theorem l106b {call : CallT B} {inl : InlT} (m0 : Nat) {ls : List (List Int)} (hl : ls.length ≤ 1000000) (d : Nat) : ∀ (i m : Nat) (acc : List Int), i + d = ls.length → d < m → acc.length + (ls.drop i).flatten.length ≤ 1000000000000 →
    LP B call inl 106 m [1, 1, 1, 1, 0, 1] (s106_7 ls acc (i : Int)) (KA B call inl 106 m0 [1, 1, 1, 1, 0, 1] (FI B call inl 106)) = (some (acc ++ (ls.drop i).flatten) : Option (List Int)) := by
  induction d with
  | zero =>
    intro i m acc hi hm hx
    obtain ⟨m, rfl⟩ : ∃ k, m = k + 1 := ⟨m - 1, by omega⟩
    rw [s106_7_l, bF (by omega), s106_7x8_k, List.drop_of_length_le (by omega)]
    exact congrArg some (by simp)
  | succ d ih =>
    intro i m acc hi hm hx
    obtain ⟨m, rfl⟩ : ∃ k, m = k + 1 := ⟨m - 1, by omega⟩
    obtain ⟨c, t, hct, hc⟩ := drop_cons (l := ls) (i := i) (by omega)
    have hds := dsucc hct
    rw [hct, List.flatten_cons, List.length_append] at hx
    rw [s106_7_l, bT (by omega), if_pos (by omega), Int.toNat_natCast, dgetD hct, if_pos (by omega), w64 (x := (i : Int) + 1) (by omega) (by omega)]
    refine (ih (i + 1) m (acc ++ c) (by omega) (by omega) (by rw [hds, List.length_append]; omega)).trans ?_
    rw [hds, hct, List.flatten_cons, List.append_assoc]
theorem s106 {k : Nat} {ls : List (List Int)} (hl : ls.length ≤ 1000000) (hs : ls.flatten.length ≤ 1000000000000) (hk : ls.length + 10 ≤ k) : callN B k 106 [.v (.sl (.sl u8)) ls] = (some ls.flatten : Option (List Int)) := by
  obtain ⟨k, rfl⟩ := Nat.exists_eq_add_of_le' (show 1 ≤ k by omega)
  refine (callS k 106 _).trans ((t106 (callN B k) (lvl B k).2 k ls).trans ?_)
  refine (l106a _ hl ls.length 0 k 0 (by omega) (by omega) (by rw [List.drop_zero]; omega)).trans ?_
  refine (s106_2x3_k (callN B k) (lvl B k).2 k ls _).trans ?_
  refine bnd (s119 (by omega) _ (by rw [List.drop_zero]; omega)) ?_
  refine (l106b k hl ls.length 0 k [] (by omega) (by omega) (by rw [List.drop_zero, List.length_nil]; omega)).trans ?_
  rw [List.drop_zero]
  rfl
/-- A frame. -/
def frm (l : List Int) : List Int := if l.length > 1048576 then [] else fx l.length 4 ++ fx (crc l) 4 ++ l
theorem frm_bytes {l : List Int} (h : Bytes l) : Bytes (frm l) := by
  unfold frm
  split
  · exact Bytes.nil
  · exact ((fx_bytes _ 4).append (fx_bytes _ 4)).append h
theorem frm_length {l : List Int} (h : l.length ≤ 1048576) : (frm l).length = l.length + 8 := by
  unfold frm
  rw [if_neg (by omega), List.length_append, List.length_append, fx_length, fx_length]
  omega
theorem frm_le (l : List Int) : (frm l).length ≤ l.length + 8 := by
  by_cases h : l.length ≤ 1048576
  · exact Nat.le_of_eq (frm_length h)
  · unfold frm
    rw [if_pos (by omega)]
    exact Nat.zero_le _
theorem s104 {k : Nat} {l : List Int} (hl : l.length ≤ 1000000000) (hk : l.length + 40 ≤ k) : callN B k 104 [.v (.sl u8) l] = (some (frm l) : Option (List Int)) := by
  obtain ⟨k, rfl⟩ := Nat.exists_eq_add_of_le' (show 1 ≤ k by omega)
  refine (callS k 104 _).trans ((t104 (callN B k) (lvl B k).2 k l).trans ?_)
  unfold frm
  by_cases h : l.length > 1048576
  · rw [bT (by omega), if_pos h]
  · rw [bF (by omega), if_neg h]
    refine bnd (s53 (by omega) l.length 4 (by omega) (by omega)) ?_
    refine bnd (s118 (by omega) (by omega)) ?_
    refine bnd (s53 (by omega) (crc l) 4 (by omega) (by omega)) ?_
    refine bnd (s106 (ls := [fx l.length 4, fx (crc l) 4, l]) (by simp) (by simp only [List.flatten_cons, List.flatten_nil, List.length_append, fx_length, List.length_nil]; omega) (by simp only [List.length_cons, List.length_nil]; omega)) ?_
    exact congrArg some (by simp [List.append_assoc])
theorem s109 {k : Nat} {l : List Int} (hl : l.length ≤ 1000000000) (hk : l.length + 40 ≤ k) : callN B k 109 [.v (.sl u8) l] = (some (frm l) : Option (List Int)) := by
  obtain ⟨k, rfl⟩ := Nat.exists_eq_add_of_le' (show 1 ≤ k by omega)
  refine (callS k 109 _).trans ((t109 (callN B k) (lvl B k).2 k l).trans ?_)
  unfold frm
  by_cases h : l.length > 1048576
  · rw [bT (by omega), if_pos h]
  · rw [bF (by omega), if_neg h]
    have := crc_lt l
    refine bnd (s71 (by omega) l.length 4 (by omega) (by omega) (by omega)) ?_
    refine bnd (s111 (by omega) (by omega)) ?_
    refine bnd (s71 (by omega) (crc l) 4 (by omega) (by omega) (by omega)) ?_
    rw [if_pos (by rw [fx_length, fx_length]; omega), if_pos (by rw [List.length_append, fx_length, fx_length]; omega)]
/-- A key's bytes. -/
def putK (a : Ke) : List Int := if mayK a = true then (enc a.1.size ++ bytesOf a.1) ++ enc (tailN a) else []
theorem putK_length (a : Ke) : (putK a).length ≤ 82 := by
  unfold putK
  split
  · rename_i h
    have h0 := (mayB_true h).1
    have h1 := enc_length9 (n := a.1.size) (by omega)
    have h2 := enc_length9 (n := tailN a) (tail_bound h).1
    simp only [List.length_append, bytesOf_length]
    omega
  · exact Nat.zero_le _
theorem s105 {k : Nat} (hk : 40 ≤ k) (a : Ke) : callN B k 105 [argAV KeyT a] = (some (putK a) : Option (List Int)) := by
  obtain ⟨k, rfl⟩ := Nat.exists_eq_add_of_le' (show 1 ≤ k by omega)
  refine (callS k 105 _).trans ((t105 (callN B k) (lvl B k).2 k a).trans ?_)
  refine bnd (s112 (by omega) a) ?_
  unfold putK
  cases h : mayK a with
  | false => rfl
  | true =>
    have ha := (mayB_true h).1
    have h1 := enc_length9 (n := a.1.size) (by omega)
    have h2 := enc_length9 (n := tailN a) (tail_bound h).1
    show (_ : Option (List Int)) = some (if true = true then _ else _)
    rw [if_pos rfl]
    refine bnd (s56 (by omega) (by omega)) ?_
    refine bnd (s57 (by omega) a h) ?_
    refine bnd (s55 (by omega) (tail_bound h).1) ?_
    rw [if_pos (by simp only [List.length_append, bytesOf_length]; omega)]
theorem s110 {k : Nat} (hk : 40 ≤ k) (a : Ke) : callN B k 110 [argAV KeyT a] = (some (putK a) : Option (List Int)) := by
  obtain ⟨k, rfl⟩ := Nat.exists_eq_add_of_le' (show 1 ≤ k by omega)
  refine (callS k 110 _).trans ((t110 (callN B k) (lvl B k).2 k a).trans ?_)
  refine bnd (s114 (by omega) a) ?_
  unfold putK
  cases h : mayK a with
  | false => rfl
  | true =>
    have ha := (mayB_true h).1
    have h1 := enc_length9 (n := a.1.size) (by omega)
    have h2 := enc_length9 (n := tailN a) (tail_bound h).1
    obtain ⟨_, b2, b3, b4⟩ := mayB_true h
    have ht : IntKind.i64.wrap (IntKind.i64.wrap (IntKind.i64.wrap ((2 : Int) * a.2.1) + a.2.2.1) - (1 : Int)) = ((tailN a : Nat) : Int) := by
      unfold tailN
      rw [w64 (x := 2 * a.2.1) (by omega) (by omega), w64 (x := 2 * a.2.1 + a.2.2.1) (by omega) (by omega), w64 (by omega) (by omega)]
      omega
    show (_ : Option (List Int)) = some (if true = true then _ else _)
    rw [if_pos rfl]
    refine bnd (s74 (by omega) (by omega)) ?_
    rw [ht]
    refine bnd (s73 (by omega) (tail_bound h).1) ?_
    rw [if_pos (by simp only [List.length_append, bytesOf_length]; omega)]
/-- What stands framed at a place. -/
def unf (l : List Int) (p : Nat) : List Int × Int × Bool × Unit :=
  if p + 8 ≤ l.length ∧ bval 0 ((l.drop p).take 4) ≤ 1048576 ∧ p + 8 + bval 0 ((l.drop p).take 4) ≤ l.length ∧ bval 0 ((l.drop (p + 4)).take 4) = crc ((l.drop (p + 8)).take (bval 0 ((l.drop p).take 4))) then
    ((l.drop (p + 8)).take (bval 0 ((l.drop p).take 4)), ((p + 8 + bval 0 ((l.drop p).take 4) : Nat) : Int), true, ()) else ([], 0, false, ())
theorem cut_sub {l : List Int} {p n : Nat} : List.drop p (List.take (p + n) l) = (l.drop p).take n := by
  rw [List.drop_take]; congr 1; omega
end Go.Eng.Bk
