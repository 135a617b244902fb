-- written by a program of this seat (wip/pr/row.py) out of the translation; Lean checks it
import Derived.Test.YtcglkacplbeakaaPAx19
namespace Go.Proofs.Ytcglkacplbeakaa.PA
open Go.RowKit Go.Proofs.YtcglkacplbeakaaW.PrintWords
/-- The pure statement of FrameBack. -/
def iceboxlaw7_FrameBack.PureX : Prop := ∀ (l0 : List (List Int)) (a1 : Int), (∀ x_ ∈ l0, ∀ xx_ ∈ x_, (Lit.int .u8 xx_).wf = true) → (Lit.int .u16 a1).wf = true → ∃ k, iceboxlaw7_FrameBack.f k l0 a1 = some true
end Go.Proofs.Ytcglkacplbeakaa.PA
