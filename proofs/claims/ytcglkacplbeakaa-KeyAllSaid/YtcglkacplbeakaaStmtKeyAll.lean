-- written by a program of this seat (wip/pr/row.py) out of the translation; Lean checks it
import Derived.Test.YtcglkacplbeakaaPAx31
namespace Go.Proofs.Ytcglkacplbeakaa.PA
open Go.RowKit Go.Proofs.YtcglkacplbeakaaW.PrintWords
/-- The pure statement of KeyAll. -/
def iceboxlaw2_KeyAll.PureX : Prop := ∀ (a0_0 : ByteArray) (a0_1 : Int) (a0_2 : Int) (a1_0 : ByteArray) (a1_1 : Int) (a1_2 : Int) (l2 : List S48) (l3 : List Int) (a4 : Int), a0_0.size ≤ maxLen → (Lit.int .i64 a0_1).wf = true → (Lit.int .i64 a0_2).wf = true → a1_0.size ≤ maxLen → (Lit.int .i64 a1_1).wf = true → (Lit.int .i64 a1_2).wf = true → (∀ x_ ∈ l2, ((x_.f0.f0.size ≤ maxLen) ∧ ((Lit.int .i64 x_.f0.f1).wf = true) ∧ ((Lit.int .i64 x_.f0.f2).wf = true)) ∧ (x_.f1.size ≤ maxLen)) → (∀ x_ ∈ l3, (Lit.int .u8 x_).wf = true) → l3.length * 1 ≤ 140737488351232 → (Lit.int .i64 a4).wf = true → ∃ k, iceboxlaw2_KeyAll.f k a0_0 a0_1 a0_2 a1_0 a1_1 a1_2 l2 l3 a4 = some true
end Go.Proofs.Ytcglkacplbeakaa.PA
