/-
  No cell of these rows narrows 'for every input' (looked for: loops, veiled, ifaces, maps, wideKeys, modest, calm, conditions, laid).
  DERIVED. THE GIVEN ROWS OF THIS SEAT. 12 by the template 'for every input the law returns true; each argument reads behind the call as it read before'; 0 by the template 'total and deterministic' (their statements: YtcglkacplbeakaaTotals.lean).
  GIVEN WITH THE SEED: the statements are not yours to turn. If you find one false, say at which input.
  Laid BY PROGRAM, IN A SANDBOX (cutbox-rows.mjs): the forced cells as the released guide's own fill.sh prints them over the translation 144051056ecd6903… (all of the seat's roots in one cut). By AI agents, Wed Nov 11 2026. No macro, syntax, notation, axiom, sorry.
-/
import Derived.Test.YtcglkacplbeakaaChecked
import GoSem.Claim
import GoSem.ClaimJoined
import GoSem.ClaimMapViews
import Derived.JoinedTies
import Derived.KernelRfl
namespace Go.Proofs.Ytcglkacplbeakaa
/- THE CELL 'sum', in the pinned program and in every row, IS THE sha256 OF THE DUMP (.gsa) THAT YtcglkacplbeakaaProg.lean LOADS. Nothing in Lean hashes anything: it is a label: what it is worth is what the hold of that sum in a sandbox is worth. -/
noncomputable def Try.pinned : Pinned := { name := "ytcglkacplbeakaa", sum := "144051056ecd6903bff24951c897c0e500177b84caf0f60fe0b8a2ca13c84683", checked := Try.checked }
namespace Rows
def none {H : Type} : Left H := { results := [], args := [] }

/-- 'iceboxlaw2.KeyOrder': WHATEVER THE INPUT: true; the input reads as it did. -/
def keyOrderSpec : ChangeSpec := { name := "keyOrder", fn := fun _ => fun
  | [d1, d2, d3] => { results := [.lit (.bool true)], args := [d1, d2, d3] }
  | _ => none }
def keyOrderRow : OpenClaim := { program := "ytcglkacplbeakaa", sum := "144051056ecd6903bff24951c897c0e500177b84caf0f60fe0b8a2ca13c84683", func := "icebox/iceboxlaw2.KeyOrder", spec := "keyOrder", apart := false }
def KeyOrderSaid : Prop := keyOrderRow.holds Try.pinned (OpenSpec.ofChange keyOrderSpec)

/-- ITS FALSE NEIGHBOUR: 'it returns false'. Refute it at one input. -/
def keyOrderWrong : ChangeSpec := { name := "keyOrder", fn := fun _ => fun
  | [d1, d2, d3] => { results := [.lit (.bool false)], args := [d1, d2, d3] }
  | _ => none }
def KeyOrderWrongFalsely : Prop := keyOrderRow.holds Try.pinned (OpenSpec.ofChange keyOrderWrong)

/-- 'iceboxlaw2.KeyBack': WHATEVER THE INPUT: true; the input reads as it did. -/
def keyBackSpec : ChangeSpec := { name := "keyBack", fn := fun _ => fun
  | [d1, d2, d3, d4, d5] => { results := [.lit (.bool true)], args := [d1, d2, d3, d4, d5] }
  | _ => none }
def keyBackRow : OpenClaim := { program := "ytcglkacplbeakaa", sum := "144051056ecd6903bff24951c897c0e500177b84caf0f60fe0b8a2ca13c84683", func := "icebox/iceboxlaw2.KeyBack", spec := "keyBack", apart := false }
def KeyBackSaid : Prop := keyBackRow.holds Try.pinned (OpenSpec.ofChange keyBackSpec)

/-- ITS FALSE NEIGHBOUR: 'it returns false'. Refute it at one input. -/
def keyBackWrong : ChangeSpec := { name := "keyBack", fn := fun _ => fun
  | [d1, d2, d3, d4, d5] => { results := [.lit (.bool false)], args := [d1, d2, d3, d4, d5] }
  | _ => none }
def KeyBackWrongFalsely : Prop := keyBackRow.holds Try.pinned (OpenSpec.ofChange keyBackWrong)

/-- 'iceboxlaw7.FrameAll': WHATEVER THE INPUT: true; the input reads as it did. -/
def frameAllSpec : ChangeSpec := { name := "frameAll", fn := fun _ => fun
  | [d1, d2, d3] => { results := [.lit (.bool true)], args := [d1, d2, d3] }
  | _ => none }
def frameAllRow : OpenClaim := { program := "ytcglkacplbeakaa", sum := "144051056ecd6903bff24951c897c0e500177b84caf0f60fe0b8a2ca13c84683", func := "icebox/iceboxlaw7.FrameAll", spec := "frameAll", apart := false }
def FrameAllSaid : Prop := frameAllRow.holds Try.pinned (OpenSpec.ofChange frameAllSpec)

/-- ITS FALSE NEIGHBOUR: 'it returns false'. Refute it at one input. -/
def frameAllWrong : ChangeSpec := { name := "frameAll", fn := fun _ => fun
  | [d1, d2, d3] => { results := [.lit (.bool false)], args := [d1, d2, d3] }
  | _ => none }
def FrameAllWrongFalsely : Prop := frameAllRow.holds Try.pinned (OpenSpec.ofChange frameAllWrong)

/-- 'iceboxlaw7.FrameBack': WHATEVER THE INPUT: true; the input reads as it did. -/
def frameBackSpec : ChangeSpec := { name := "frameBack", fn := fun _ => fun
  | [d1, d2] => { results := [.lit (.bool true)], args := [d1, d2] }
  | _ => none }
def frameBackRow : OpenClaim := { program := "ytcglkacplbeakaa", sum := "144051056ecd6903bff24951c897c0e500177b84caf0f60fe0b8a2ca13c84683", func := "icebox/iceboxlaw7.FrameBack", spec := "frameBack", apart := false }
def FrameBackSaid : Prop := frameBackRow.holds Try.pinned (OpenSpec.ofChange frameBackSpec)

/-- ITS FALSE NEIGHBOUR: 'it returns false'. Refute it at one input. -/
def frameBackWrong : ChangeSpec := { name := "frameBack", fn := fun _ => fun
  | [d1, d2] => { results := [.lit (.bool false)], args := [d1, d2] }
  | _ => none }
def FrameBackWrongFalsely : Prop := frameBackRow.holds Try.pinned (OpenSpec.ofChange frameBackWrong)

/-- 'iceboxlaw7.FrameTurned': WHATEVER THE INPUT: true; the input reads as it did. -/
def frameTurnedSpec : ChangeSpec := { name := "frameTurned", fn := fun _ => fun
  | [d1, d2, d3] => { results := [.lit (.bool true)], args := [d1, d2, d3] }
  | _ => none }
def frameTurnedRow : OpenClaim := { program := "ytcglkacplbeakaa", sum := "144051056ecd6903bff24951c897c0e500177b84caf0f60fe0b8a2ca13c84683", func := "icebox/iceboxlaw7.FrameTurned", spec := "frameTurned", apart := false }
def FrameTurnedSaid : Prop := frameTurnedRow.holds Try.pinned (OpenSpec.ofChange frameTurnedSpec)

/-- ITS FALSE NEIGHBOUR: 'it returns false'. Refute it at one input. -/
def frameTurnedWrong : ChangeSpec := { name := "frameTurned", fn := fun _ => fun
  | [d1, d2, d3] => { results := [.lit (.bool false)], args := [d1, d2, d3] }
  | _ => none }
def FrameTurnedWrongFalsely : Prop := frameTurnedRow.holds Try.pinned (OpenSpec.ofChange frameTurnedWrong)

/-- 'iceboxlaw12.BlockLong': WHATEVER THE INPUT: true; the input reads as it did. -/
def blockLongSpec : ChangeSpec := { name := "blockLong", fn := fun _ => fun
  | [d1, d2] => { results := [.lit (.bool true)], args := [d1, d2] }
  | _ => none }
def blockLongRow : OpenClaim := { program := "ytcglkacplbeakaa", sum := "144051056ecd6903bff24951c897c0e500177b84caf0f60fe0b8a2ca13c84683", func := "icebox/iceboxlaw12.BlockLong", spec := "blockLong", apart := false }
def BlockLongSaid : Prop := blockLongRow.holds Try.pinned (OpenSpec.ofChange blockLongSpec)

/-- ITS FALSE NEIGHBOUR: 'it returns false'. Refute it at one input. -/
def blockLongWrong : ChangeSpec := { name := "blockLong", fn := fun _ => fun
  | [d1, d2] => { results := [.lit (.bool false)], args := [d1, d2] }
  | _ => none }
def BlockLongWrongFalsely : Prop := blockLongRow.holds Try.pinned (OpenSpec.ofChange blockLongWrong)

/-- 'iceboxlaw2.KeyAll': WHATEVER THE INPUT: true; the input reads as it did. -/
def keyAllSpec : ChangeSpec := { name := "keyAll", fn := fun _ => fun
  | [d1, d2, d3, d4, d5] => { results := [.lit (.bool true)], args := [d1, d2, d3, d4, d5] }
  | _ => none }
def keyAllRow : OpenClaim := { program := "ytcglkacplbeakaa", sum := "144051056ecd6903bff24951c897c0e500177b84caf0f60fe0b8a2ca13c84683", func := "icebox/iceboxlaw2.KeyAll", spec := "keyAll", apart := false }
def KeyAllSaid : Prop := keyAllRow.holds Try.pinned (OpenSpec.ofChange keyAllSpec)

/-- ITS FALSE NEIGHBOUR: 'it returns false'. Refute it at one input. -/
def keyAllWrong : ChangeSpec := { name := "keyAll", fn := fun _ => fun
  | [d1, d2, d3, d4, d5] => { results := [.lit (.bool false)], args := [d1, d2, d3, d4, d5] }
  | _ => none }
def KeyAllWrongFalsely : Prop := keyAllRow.holds Try.pinned (OpenSpec.ofChange keyAllWrong)

/-- 'iceboxlaw11.FilterAll': WHATEVER THE INPUT: true; the input reads as it did. -/
def filterAllSpec : ChangeSpec := { name := "filterAll", fn := fun _ => fun
  | [d1, d2, d3, d4] => { results := [.lit (.bool true)], args := [d1, d2, d3, d4] }
  | _ => none }
def filterAllRow : OpenClaim := { program := "ytcglkacplbeakaa", sum := "144051056ecd6903bff24951c897c0e500177b84caf0f60fe0b8a2ca13c84683", func := "icebox/iceboxlaw11.FilterAll", spec := "filterAll", inPlace := ["math.Float64bits", "math.Float64frombits", "math.archFloor", "math.archTrunc"], unfollowed := true, recurses := true, apart := false }
def FilterAllSaid : Prop := filterAllRow.holds Try.pinned (OpenSpec.ofChange filterAllSpec)

/-- ITS FALSE NEIGHBOUR: 'it returns false'. Refute it at one input. -/
def filterAllWrong : ChangeSpec := { name := "filterAll", fn := fun _ => fun
  | [d1, d2, d3, d4] => { results := [.lit (.bool false)], args := [d1, d2, d3, d4] }
  | _ => none }
def FilterAllWrongFalsely : Prop := filterAllRow.holds Try.pinned (OpenSpec.ofChange filterAllWrong)

/-- 'iceboxlaw11.FilterGrows': WHATEVER THE INPUT: true; the input reads as it did. -/
def filterGrowsSpec : ChangeSpec := { name := "filterGrows", fn := fun _ => fun
  | [d1, d2, d3] => { results := [.lit (.bool true)], args := [d1, d2, d3] }
  | _ => none }
def filterGrowsRow : OpenClaim := { program := "ytcglkacplbeakaa", sum := "144051056ecd6903bff24951c897c0e500177b84caf0f60fe0b8a2ca13c84683", func := "icebox/iceboxlaw11.FilterGrows", spec := "filterGrows", inPlace := ["math.Float64bits", "math.Float64frombits", "math.archFloor", "math.archTrunc"], unfollowed := true, recurses := true, apart := false }
def FilterGrowsSaid : Prop := filterGrowsRow.holds Try.pinned (OpenSpec.ofChange filterGrowsSpec)

/-- ITS FALSE NEIGHBOUR: 'it returns false'. Refute it at one input. -/
def filterGrowsWrong : ChangeSpec := { name := "filterGrows", fn := fun _ => fun
  | [d1, d2, d3] => { results := [.lit (.bool false)], args := [d1, d2, d3] }
  | _ => none }
def FilterGrowsWrongFalsely : Prop := filterGrowsRow.holds Try.pinned (OpenSpec.ofChange filterGrowsWrong)

/-- 'iceboxlaw11.FilterHas': WHATEVER THE INPUT: true; the input reads as it did. -/
def filterHasSpec : ChangeSpec := { name := "filterHas", fn := fun _ => fun
  | [d1, d2] => { results := [.lit (.bool true)], args := [d1, d2] }
  | _ => none }
def filterHasRow : OpenClaim := { program := "ytcglkacplbeakaa", sum := "144051056ecd6903bff24951c897c0e500177b84caf0f60fe0b8a2ca13c84683", func := "icebox/iceboxlaw11.FilterHas", spec := "filterHas", inPlace := ["math.Float64bits", "math.Float64frombits", "math.archFloor", "math.archTrunc"], unfollowed := true, recurses := true, apart := false }
def FilterHasSaid : Prop := filterHasRow.holds Try.pinned (OpenSpec.ofChange filterHasSpec)

/-- ITS FALSE NEIGHBOUR: 'it returns false'. Refute it at one input. -/
def filterHasWrong : ChangeSpec := { name := "filterHas", fn := fun _ => fun
  | [d1, d2] => { results := [.lit (.bool false)], args := [d1, d2] }
  | _ => none }
def FilterHasWrongFalsely : Prop := filterHasRow.holds Try.pinned (OpenSpec.ofChange filterHasWrong)

/-- 'iceboxlaw11.FilterEdges': WHATEVER THE INPUT: true; the input reads as it did. -/
def filterEdgesSpec : ChangeSpec := { name := "filterEdges", fn := fun _ => fun
  | [d1, d2] => { results := [.lit (.bool true)], args := [d1, d2] }
  | _ => none }
def filterEdgesRow : OpenClaim := { program := "ytcglkacplbeakaa", sum := "144051056ecd6903bff24951c897c0e500177b84caf0f60fe0b8a2ca13c84683", func := "icebox/iceboxlaw11.FilterEdges", spec := "filterEdges", inPlace := ["math.Float64bits", "math.Float64frombits", "math.archFloor", "math.archTrunc"], unfollowed := true, recurses := true, apart := false }
def FilterEdgesSaid : Prop := filterEdgesRow.holds Try.pinned (OpenSpec.ofChange filterEdgesSpec)

/-- ITS FALSE NEIGHBOUR: 'it returns false'. Refute it at one input. -/
def filterEdgesWrong : ChangeSpec := { name := "filterEdges", fn := fun _ => fun
  | [d1, d2] => { results := [.lit (.bool false)], args := [d1, d2] }
  | _ => none }
def FilterEdgesWrongFalsely : Prop := filterEdgesRow.holds Try.pinned (OpenSpec.ofChange filterEdgesWrong)

/-- 'iceboxlaw12.BlockTurned': WHATEVER THE INPUT: true; the input reads as it did. -/
def blockTurnedSpec : ChangeSpec := { name := "blockTurned", fn := fun _ => fun
  | [d1, d2, d3, d4] => { results := [.lit (.bool true)], args := [d1, d2, d3, d4] }
  | _ => none }
def blockTurnedRow : OpenClaim := { program := "ytcglkacplbeakaa", sum := "144051056ecd6903bff24951c897c0e500177b84caf0f60fe0b8a2ca13c84683", func := "icebox/iceboxlaw12.BlockTurned", spec := "blockTurned", apart := false }
def BlockTurnedSaid : Prop := blockTurnedRow.holds Try.pinned (OpenSpec.ofChange blockTurnedSpec)

/-- ITS FALSE NEIGHBOUR: 'it returns false'. Refute it at one input. -/
def blockTurnedWrong : ChangeSpec := { name := "blockTurned", fn := fun _ => fun
  | [d1, d2, d3, d4] => { results := [.lit (.bool false)], args := [d1, d2, d3, d4] }
  | _ => none }
def BlockTurnedWrongFalsely : Prop := blockTurnedRow.holds Try.pinned (OpenSpec.ofChange blockTurnedWrong)

/- THE SECOND FORM. 'bulk': how many values and letters a reading holds, each counted each time it is reached (what is shared counts as often as it is met; a slice's spare places count too). A statement '..UptoSaid' is the law's where the arguments, and the package variables that the reading takes, are together of bulk at most 1048576: NARROWER than '..Said'. Prove '..Said' where nothing that the law and all that it calls make is longer than what came in: it says more and counts as full. Else prove '..UptoSaid'. A law counts once. -/
mutual
def uptoBulk {H : Type} : DataW H → Nat
  | .lit (.string bytes) => bytes.length + 1
  | .lit _ => 1
  | .nil => 1
  | .ptr d => uptoBulk d + 1
  | .slice elems spare => uptoBulkAll elems + uptoBulkAll spare + 1
  | .agg parts => uptoBulkAll parts + 1
  | .iface _ d => uptoBulk d + 1
  | .map entries => uptoBulkEntries entries + 1
  | .held _ => 1
def uptoBulkAll {H : Type} : List (DataW H) → Nat
  | [] => 0
  | d :: r => uptoBulk d + uptoBulkAll r
def uptoBulkEntries {H : Type} : List (Lit × DataW H) → Nat
  | [] => 0
  | x :: r => uptoBulkEntry x + uptoBulkEntries r
def uptoBulkEntry {H : Type} : Lit × DataW H → Nat
  | (.string bytes, d) => bytes.length + uptoBulk d + 1
  | (_, d) => uptoBulk d + 1
 end
def uptoSmall : (H : Type) → List (DataW H) → Bool := fun _ ds => decide (uptoBulkAll ds ≤ 1048576)
def OpenSpec.upto (s : _root_.Go.ChangeSpec) : _root_.Go.OpenSpec := { _root_.Go.OpenSpec.ofChange s with cond := some uptoSmall }

/-- 'iceboxlaw2.KeyOrder', WHERE WHAT IT READS IS OF BULK AT MOST 1048576: true; the input reads as it did. -/
def keyOrderUptoRow : OpenClaim := { program := "ytcglkacplbeakaa", sum := "144051056ecd6903bff24951c897c0e500177b84caf0f60fe0b8a2ca13c84683", func := "icebox/iceboxlaw2.KeyOrder", spec := "keyOrder", apart := false, narrowed := true }
def KeyOrderUptoSaid : Prop := keyOrderUptoRow.holds Try.pinned (OpenSpec.upto keyOrderSpec)

/-- 'iceboxlaw2.KeyBack', WHERE WHAT IT READS IS OF BULK AT MOST 1048576: true; the input reads as it did. -/
def keyBackUptoRow : OpenClaim := { program := "ytcglkacplbeakaa", sum := "144051056ecd6903bff24951c897c0e500177b84caf0f60fe0b8a2ca13c84683", func := "icebox/iceboxlaw2.KeyBack", spec := "keyBack", apart := false, narrowed := true }
def KeyBackUptoSaid : Prop := keyBackUptoRow.holds Try.pinned (OpenSpec.upto keyBackSpec)

/-- 'iceboxlaw7.FrameAll', WHERE WHAT IT READS IS OF BULK AT MOST 1048576: true; the input reads as it did. -/
def frameAllUptoRow : OpenClaim := { program := "ytcglkacplbeakaa", sum := "144051056ecd6903bff24951c897c0e500177b84caf0f60fe0b8a2ca13c84683", func := "icebox/iceboxlaw7.FrameAll", spec := "frameAll", apart := false, narrowed := true }
def FrameAllUptoSaid : Prop := frameAllUptoRow.holds Try.pinned (OpenSpec.upto frameAllSpec)

/-- 'iceboxlaw7.FrameBack', WHERE WHAT IT READS IS OF BULK AT MOST 1048576: true; the input reads as it did. -/
def frameBackUptoRow : OpenClaim := { program := "ytcglkacplbeakaa", sum := "144051056ecd6903bff24951c897c0e500177b84caf0f60fe0b8a2ca13c84683", func := "icebox/iceboxlaw7.FrameBack", spec := "frameBack", apart := false, narrowed := true }
def FrameBackUptoSaid : Prop := frameBackUptoRow.holds Try.pinned (OpenSpec.upto frameBackSpec)

/-- 'iceboxlaw7.FrameTurned', WHERE WHAT IT READS IS OF BULK AT MOST 1048576: true; the input reads as it did. -/
def frameTurnedUptoRow : OpenClaim := { program := "ytcglkacplbeakaa", sum := "144051056ecd6903bff24951c897c0e500177b84caf0f60fe0b8a2ca13c84683", func := "icebox/iceboxlaw7.FrameTurned", spec := "frameTurned", apart := false, narrowed := true }
def FrameTurnedUptoSaid : Prop := frameTurnedUptoRow.holds Try.pinned (OpenSpec.upto frameTurnedSpec)

/-- 'iceboxlaw12.BlockLong', WHERE WHAT IT READS IS OF BULK AT MOST 1048576: true; the input reads as it did. -/
def blockLongUptoRow : OpenClaim := { program := "ytcglkacplbeakaa", sum := "144051056ecd6903bff24951c897c0e500177b84caf0f60fe0b8a2ca13c84683", func := "icebox/iceboxlaw12.BlockLong", spec := "blockLong", apart := false, narrowed := true }
def BlockLongUptoSaid : Prop := blockLongUptoRow.holds Try.pinned (OpenSpec.upto blockLongSpec)

/-- 'iceboxlaw2.KeyAll', WHERE WHAT IT READS IS OF BULK AT MOST 1048576: true; the input reads as it did. -/
def keyAllUptoRow : OpenClaim := { program := "ytcglkacplbeakaa", sum := "144051056ecd6903bff24951c897c0e500177b84caf0f60fe0b8a2ca13c84683", func := "icebox/iceboxlaw2.KeyAll", spec := "keyAll", apart := false, narrowed := true }
def KeyAllUptoSaid : Prop := keyAllUptoRow.holds Try.pinned (OpenSpec.upto keyAllSpec)

/-- 'iceboxlaw11.FilterAll', WHERE WHAT IT READS IS OF BULK AT MOST 1048576: true; the input reads as it did. -/
def filterAllUptoRow : OpenClaim := { program := "ytcglkacplbeakaa", sum := "144051056ecd6903bff24951c897c0e500177b84caf0f60fe0b8a2ca13c84683", func := "icebox/iceboxlaw11.FilterAll", spec := "filterAll", inPlace := ["math.Float64bits", "math.Float64frombits", "math.archFloor", "math.archTrunc"], unfollowed := true, recurses := true, apart := false, narrowed := true }
def FilterAllUptoSaid : Prop := filterAllUptoRow.holds Try.pinned (OpenSpec.upto filterAllSpec)

/-- 'iceboxlaw11.FilterGrows', WHERE WHAT IT READS IS OF BULK AT MOST 1048576: true; the input reads as it did. -/
def filterGrowsUptoRow : OpenClaim := { program := "ytcglkacplbeakaa", sum := "144051056ecd6903bff24951c897c0e500177b84caf0f60fe0b8a2ca13c84683", func := "icebox/iceboxlaw11.FilterGrows", spec := "filterGrows", inPlace := ["math.Float64bits", "math.Float64frombits", "math.archFloor", "math.archTrunc"], unfollowed := true, recurses := true, apart := false, narrowed := true }
def FilterGrowsUptoSaid : Prop := filterGrowsUptoRow.holds Try.pinned (OpenSpec.upto filterGrowsSpec)

/-- 'iceboxlaw11.FilterHas', WHERE WHAT IT READS IS OF BULK AT MOST 1048576: true; the input reads as it did. -/
def filterHasUptoRow : OpenClaim := { program := "ytcglkacplbeakaa", sum := "144051056ecd6903bff24951c897c0e500177b84caf0f60fe0b8a2ca13c84683", func := "icebox/iceboxlaw11.FilterHas", spec := "filterHas", inPlace := ["math.Float64bits", "math.Float64frombits", "math.archFloor", "math.archTrunc"], unfollowed := true, recurses := true, apart := false, narrowed := true }
def FilterHasUptoSaid : Prop := filterHasUptoRow.holds Try.pinned (OpenSpec.upto filterHasSpec)

/-- 'iceboxlaw11.FilterEdges', WHERE WHAT IT READS IS OF BULK AT MOST 1048576: true; the input reads as it did. -/
def filterEdgesUptoRow : OpenClaim := { program := "ytcglkacplbeakaa", sum := "144051056ecd6903bff24951c897c0e500177b84caf0f60fe0b8a2ca13c84683", func := "icebox/iceboxlaw11.FilterEdges", spec := "filterEdges", inPlace := ["math.Float64bits", "math.Float64frombits", "math.archFloor", "math.archTrunc"], unfollowed := true, recurses := true, apart := false, narrowed := true }
def FilterEdgesUptoSaid : Prop := filterEdgesUptoRow.holds Try.pinned (OpenSpec.upto filterEdgesSpec)

/-- 'iceboxlaw12.BlockTurned', WHERE WHAT IT READS IS OF BULK AT MOST 1048576: true; the input reads as it did. -/
def blockTurnedUptoRow : OpenClaim := { program := "ytcglkacplbeakaa", sum := "144051056ecd6903bff24951c897c0e500177b84caf0f60fe0b8a2ca13c84683", func := "icebox/iceboxlaw12.BlockTurned", spec := "blockTurned", apart := false, narrowed := true }
def BlockTurnedUptoSaid : Prop := blockTurnedUptoRow.holds Try.pinned (OpenSpec.upto blockTurnedSpec)

end Rows
end Go.Proofs.Ytcglkacplbeakaa
