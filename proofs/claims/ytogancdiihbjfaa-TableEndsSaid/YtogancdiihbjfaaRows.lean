/-
  No cell of these rows narrows 'for every input' (looked for: loops, veiled, ifaces, maps, wideKeys, modest, calm, conditions, laid).
  DERIVED. THE GIVEN ROWS OF THIS SEAT. 14 by the template 'for every input the law returns true; each argument reads behind the call as it read before'; 0 by the template 'total and deterministic' (their statements: YtogancdiihbjfaaTotals.lean).
  GIVEN WITH THE SEED: the statements are not yours to turn. If you find one false, say at which input.
  Laid BY PROGRAM, IN A SANDBOX (cutbox-rows.mjs): the forced cells as the released guide's own fill.sh prints them over the translation 89c7278756dbc588… (all of the seat's roots in one cut). By AI agents, Wed Nov 11 2026. No macro, syntax, notation, axiom, sorry.
-/
import Derived.Test.YtogancdiihbjfaaChecked
import GoSem.Claim
import GoSem.ClaimJoined
import GoSem.ClaimMapViews
import Derived.JoinedTies
import Derived.KernelRfl
namespace Go.Proofs.Ytogancdiihbjfaa
/- THE CELL 'sum', in the pinned program and in every row, IS THE sha256 OF THE DUMP (.gsa) THAT YtogancdiihbjfaaProg.lean LOADS. Nothing in Lean hashes anything: it is a label: what it is worth is what the hold of that sum in a sandbox is worth. -/
noncomputable def Try.pinned : Pinned := { name := "ytogancdiihbjfaa", sum := "89c7278756dbc588c0ace51de596f79a6903146ca7d1b2185aa0186d47f4cefd", checked := Try.checked }
namespace Rows
def none {H : Type} : Left H := { results := [], args := [] }

/-- 'iceboxlaw12.BlockLong': WHATEVER THE INPUT: true; the input reads as it did. -/
def blockLongSpec : ChangeSpec := { name := "blockLong", fn := fun _ => fun
  | [d1, d2] => { results := [.lit (.bool true)], args := [d1, d2] }
  | _ => none }
def blockLongRow : OpenClaim := { program := "ytogancdiihbjfaa", sum := "89c7278756dbc588c0ace51de596f79a6903146ca7d1b2185aa0186d47f4cefd", func := "icebox/iceboxlaw12.BlockLong", spec := "blockLong", apart := false }
def BlockLongSaid : Prop := blockLongRow.holds Try.pinned (OpenSpec.ofChange blockLongSpec)

/-- ITS FALSE NEIGHBOUR: 'it returns false'. Refute it at one input. -/
def blockLongWrong : ChangeSpec := { name := "blockLong", fn := fun _ => fun
  | [d1, d2] => { results := [.lit (.bool false)], args := [d1, d2] }
  | _ => none }
def BlockLongWrongFalsely : Prop := blockLongRow.holds Try.pinned (OpenSpec.ofChange blockLongWrong)

/-- 'iceboxlaw11.FilterAll': WHATEVER THE INPUT: true; the input reads as it did. -/
def filterAllSpec : ChangeSpec := { name := "filterAll", fn := fun _ => fun
  | [d1, d2, d3, d4] => { results := [.lit (.bool true)], args := [d1, d2, d3, d4] }
  | _ => none }
def filterAllRow : OpenClaim := { program := "ytogancdiihbjfaa", sum := "89c7278756dbc588c0ace51de596f79a6903146ca7d1b2185aa0186d47f4cefd", func := "icebox/iceboxlaw11.FilterAll", spec := "filterAll", inPlace := ["math.Float64bits", "math.Float64frombits", "math.archFloor", "math.archTrunc"], unfollowed := true, recurses := true, apart := false }
def FilterAllSaid : Prop := filterAllRow.holds Try.pinned (OpenSpec.ofChange filterAllSpec)

/-- ITS FALSE NEIGHBOUR: 'it returns false'. Refute it at one input. -/
def filterAllWrong : ChangeSpec := { name := "filterAll", fn := fun _ => fun
  | [d1, d2, d3, d4] => { results := [.lit (.bool false)], args := [d1, d2, d3, d4] }
  | _ => none }
def FilterAllWrongFalsely : Prop := filterAllRow.holds Try.pinned (OpenSpec.ofChange filterAllWrong)

/-- 'iceboxlaw11.FilterGrows': WHATEVER THE INPUT: true; the input reads as it did. -/
def filterGrowsSpec : ChangeSpec := { name := "filterGrows", fn := fun _ => fun
  | [d1, d2, d3] => { results := [.lit (.bool true)], args := [d1, d2, d3] }
  | _ => none }
def filterGrowsRow : OpenClaim := { program := "ytogancdiihbjfaa", sum := "89c7278756dbc588c0ace51de596f79a6903146ca7d1b2185aa0186d47f4cefd", func := "icebox/iceboxlaw11.FilterGrows", spec := "filterGrows", inPlace := ["math.Float64bits", "math.Float64frombits", "math.archFloor", "math.archTrunc"], unfollowed := true, recurses := true, apart := false }
def FilterGrowsSaid : Prop := filterGrowsRow.holds Try.pinned (OpenSpec.ofChange filterGrowsSpec)

/-- ITS FALSE NEIGHBOUR: 'it returns false'. Refute it at one input. -/
def filterGrowsWrong : ChangeSpec := { name := "filterGrows", fn := fun _ => fun
  | [d1, d2, d3] => { results := [.lit (.bool false)], args := [d1, d2, d3] }
  | _ => none }
def FilterGrowsWrongFalsely : Prop := filterGrowsRow.holds Try.pinned (OpenSpec.ofChange filterGrowsWrong)

/-- 'iceboxlaw11.FilterHas': WHATEVER THE INPUT: true; the input reads as it did. -/
def filterHasSpec : ChangeSpec := { name := "filterHas", fn := fun _ => fun
  | [d1, d2] => { results := [.lit (.bool true)], args := [d1, d2] }
  | _ => none }
def filterHasRow : OpenClaim := { program := "ytogancdiihbjfaa", sum := "89c7278756dbc588c0ace51de596f79a6903146ca7d1b2185aa0186d47f4cefd", func := "icebox/iceboxlaw11.FilterHas", spec := "filterHas", inPlace := ["math.Float64bits", "math.Float64frombits", "math.archFloor", "math.archTrunc"], unfollowed := true, recurses := true, apart := false }
def FilterHasSaid : Prop := filterHasRow.holds Try.pinned (OpenSpec.ofChange filterHasSpec)

/-- ITS FALSE NEIGHBOUR: 'it returns false'. Refute it at one input. -/
def filterHasWrong : ChangeSpec := { name := "filterHas", fn := fun _ => fun
  | [d1, d2] => { results := [.lit (.bool false)], args := [d1, d2] }
  | _ => none }
def FilterHasWrongFalsely : Prop := filterHasRow.holds Try.pinned (OpenSpec.ofChange filterHasWrong)

/-- 'iceboxlaw11.FilterEdges': WHATEVER THE INPUT: true; the input reads as it did. -/
def filterEdgesSpec : ChangeSpec := { name := "filterEdges", fn := fun _ => fun
  | [d1, d2] => { results := [.lit (.bool true)], args := [d1, d2] }
  | _ => none }
def filterEdgesRow : OpenClaim := { program := "ytogancdiihbjfaa", sum := "89c7278756dbc588c0ace51de596f79a6903146ca7d1b2185aa0186d47f4cefd", func := "icebox/iceboxlaw11.FilterEdges", spec := "filterEdges", inPlace := ["math.Float64bits", "math.Float64frombits", "math.archFloor", "math.archTrunc"], unfollowed := true, recurses := true, apart := false }
def FilterEdgesSaid : Prop := filterEdgesRow.holds Try.pinned (OpenSpec.ofChange filterEdgesSpec)

/-- ITS FALSE NEIGHBOUR: 'it returns false'. Refute it at one input. -/
def filterEdgesWrong : ChangeSpec := { name := "filterEdges", fn := fun _ => fun
  | [d1, d2] => { results := [.lit (.bool false)], args := [d1, d2] }
  | _ => none }
def FilterEdgesWrongFalsely : Prop := filterEdgesRow.holds Try.pinned (OpenSpec.ofChange filterEdgesWrong)

/-- 'iceboxlaw12.BlockTurned': WHATEVER THE INPUT: true; the input reads as it did. -/
def blockTurnedSpec : ChangeSpec := { name := "blockTurned", fn := fun _ => fun
  | [d1, d2, d3, d4] => { results := [.lit (.bool true)], args := [d1, d2, d3, d4] }
  | _ => none }
def blockTurnedRow : OpenClaim := { program := "ytogancdiihbjfaa", sum := "89c7278756dbc588c0ace51de596f79a6903146ca7d1b2185aa0186d47f4cefd", func := "icebox/iceboxlaw12.BlockTurned", spec := "blockTurned", apart := false }
def BlockTurnedSaid : Prop := blockTurnedRow.holds Try.pinned (OpenSpec.ofChange blockTurnedSpec)

/-- ITS FALSE NEIGHBOUR: 'it returns false'. Refute it at one input. -/
def blockTurnedWrong : ChangeSpec := { name := "blockTurned", fn := fun _ => fun
  | [d1, d2, d3, d4] => { results := [.lit (.bool false)], args := [d1, d2, d3, d4] }
  | _ => none }
def BlockTurnedWrongFalsely : Prop := blockTurnedRow.holds Try.pinned (OpenSpec.ofChange blockTurnedWrong)

/-- 'iceboxlaw12.BlockAll': WHATEVER THE INPUT: true; the input reads as it did. -/
def blockAllSpec : ChangeSpec := { name := "blockAll", fn := fun _ => fun
  | [d1, d2, d3] => { results := [.lit (.bool true)], args := [d1, d2, d3] }
  | _ => none }
def blockAllRow : OpenClaim := { program := "ytogancdiihbjfaa", sum := "89c7278756dbc588c0ace51de596f79a6903146ca7d1b2185aa0186d47f4cefd", func := "icebox/iceboxlaw12.BlockAll", spec := "blockAll", unfollowed := true, recurses := true, apart := false }
def BlockAllSaid : Prop := blockAllRow.holds Try.pinned (OpenSpec.ofChange blockAllSpec)

/-- ITS FALSE NEIGHBOUR: 'it returns false'. Refute it at one input. -/
def blockAllWrong : ChangeSpec := { name := "blockAll", fn := fun _ => fun
  | [d1, d2, d3] => { results := [.lit (.bool false)], args := [d1, d2, d3] }
  | _ => none }
def BlockAllWrongFalsely : Prop := blockAllRow.holds Try.pinned (OpenSpec.ofChange blockAllWrong)

/-- 'iceboxlaw12.BlockBack': WHATEVER THE INPUT: true; the input reads as it did. -/
def blockBackSpec : ChangeSpec := { name := "blockBack", fn := fun _ => fun
  | [d1, d2, d3, d4, d5] => { results := [.lit (.bool true)], args := [d1, d2, d3, d4, d5] }
  | _ => none }
def blockBackRow : OpenClaim := { program := "ytogancdiihbjfaa", sum := "89c7278756dbc588c0ace51de596f79a6903146ca7d1b2185aa0186d47f4cefd", func := "icebox/iceboxlaw12.BlockBack", spec := "blockBack", unfollowed := true, recurses := true, apart := false }
def BlockBackSaid : Prop := blockBackRow.holds Try.pinned (OpenSpec.ofChange blockBackSpec)

/-- ITS FALSE NEIGHBOUR: 'it returns false'. Refute it at one input. -/
def blockBackWrong : ChangeSpec := { name := "blockBack", fn := fun _ => fun
  | [d1, d2, d3, d4, d5] => { results := [.lit (.bool false)], args := [d1, d2, d3, d4, d5] }
  | _ => none }
def BlockBackWrongFalsely : Prop := blockBackRow.holds Try.pinned (OpenSpec.ofChange blockBackWrong)

/-- 'iceboxlaw13.TableGreat': WHATEVER THE INPUT: true; the input reads as it did. -/
def tableGreatSpec : ChangeSpec := { name := "tableGreat", fn := fun _ => fun
  | [d1, d2] => { results := [.lit (.bool true)], args := [d1, d2] }
  | _ => none }
def tableGreatRow : OpenClaim := { program := "ytogancdiihbjfaa", sum := "89c7278756dbc588c0ace51de596f79a6903146ca7d1b2185aa0186d47f4cefd", func := "icebox/iceboxlaw13.TableGreat", spec := "tableGreat", inPlace := ["math.Float64bits", "math.Float64frombits", "math.archFloor", "math.archTrunc"], unfollowed := true, recurses := true, apart := false }
def TableGreatSaid : Prop := tableGreatRow.holds Try.pinned (OpenSpec.ofChange tableGreatSpec)

/-- ITS FALSE NEIGHBOUR: 'it returns false'. Refute it at one input. -/
def tableGreatWrong : ChangeSpec := { name := "tableGreat", fn := fun _ => fun
  | [d1, d2] => { results := [.lit (.bool false)], args := [d1, d2] }
  | _ => none }
def TableGreatWrongFalsely : Prop := tableGreatRow.holds Try.pinned (OpenSpec.ofChange tableGreatWrong)

/-- 'iceboxlaw13.TableMade': WHATEVER THE INPUT: true; the input reads as it did. -/
def tableMadeSpec : ChangeSpec := { name := "tableMade", fn := fun _ => fun
  | [d1, d2, d3, d4, d5, d6, d7, d8] => { results := [.lit (.bool true)], args := [d1, d2, d3, d4, d5, d6, d7, d8] }
  | _ => none }
def tableMadeRow : OpenClaim := { program := "ytogancdiihbjfaa", sum := "89c7278756dbc588c0ace51de596f79a6903146ca7d1b2185aa0186d47f4cefd", func := "icebox/iceboxlaw13.TableMade", spec := "tableMade", inPlace := ["math.Float64bits", "math.Float64frombits", "math.archFloor", "math.archTrunc"], unfollowed := true, recurses := true, apart := false }
def TableMadeSaid : Prop := tableMadeRow.holds Try.pinned (OpenSpec.ofChange tableMadeSpec)

/-- ITS FALSE NEIGHBOUR: 'it returns false'. Refute it at one input. -/
def tableMadeWrong : ChangeSpec := { name := "tableMade", fn := fun _ => fun
  | [d1, d2, d3, d4, d5, d6, d7, d8] => { results := [.lit (.bool false)], args := [d1, d2, d3, d4, d5, d6, d7, d8] }
  | _ => none }
def TableMadeWrongFalsely : Prop := tableMadeRow.holds Try.pinned (OpenSpec.ofChange tableMadeWrong)

/-- 'iceboxlaw13.TableCuts': WHATEVER THE INPUT: true; the input reads as it did. -/
def tableCutsSpec : ChangeSpec := { name := "tableCuts", fn := fun _ => fun
  | [d1, d2, d3] => { results := [.lit (.bool true)], args := [d1, d2, d3] }
  | _ => none }
def tableCutsRow : OpenClaim := { program := "ytogancdiihbjfaa", sum := "89c7278756dbc588c0ace51de596f79a6903146ca7d1b2185aa0186d47f4cefd", func := "icebox/iceboxlaw13.TableCuts", spec := "tableCuts", inPlace := ["math.Float64bits", "math.Float64frombits", "math.archFloor", "math.archTrunc"], unfollowed := true, recurses := true, apart := false }
def TableCutsSaid : Prop := tableCutsRow.holds Try.pinned (OpenSpec.ofChange tableCutsSpec)

/-- ITS FALSE NEIGHBOUR: 'it returns false'. Refute it at one input. -/
def tableCutsWrong : ChangeSpec := { name := "tableCuts", fn := fun _ => fun
  | [d1, d2, d3] => { results := [.lit (.bool false)], args := [d1, d2, d3] }
  | _ => none }
def TableCutsWrongFalsely : Prop := tableCutsRow.holds Try.pinned (OpenSpec.ofChange tableCutsWrong)

/-- 'iceboxlaw13.TableAll': WHATEVER THE INPUT: true; the input reads as it did. -/
def tableAllSpec : ChangeSpec := { name := "tableAll", fn := fun _ => fun
  | [d1, d2, d3, d4, d5, d6] => { results := [.lit (.bool true)], args := [d1, d2, d3, d4, d5, d6] }
  | _ => none }
def tableAllRow : OpenClaim := { program := "ytogancdiihbjfaa", sum := "89c7278756dbc588c0ace51de596f79a6903146ca7d1b2185aa0186d47f4cefd", func := "icebox/iceboxlaw13.TableAll", spec := "tableAll", inPlace := ["math.Float64bits", "math.Float64frombits", "math.archFloor", "math.archTrunc"], unfollowed := true, recurses := true, apart := false }
def TableAllSaid : Prop := tableAllRow.holds Try.pinned (OpenSpec.ofChange tableAllSpec)

/-- ITS FALSE NEIGHBOUR: 'it returns false'. Refute it at one input. -/
def tableAllWrong : ChangeSpec := { name := "tableAll", fn := fun _ => fun
  | [d1, d2, d3, d4, d5, d6] => { results := [.lit (.bool false)], args := [d1, d2, d3, d4, d5, d6] }
  | _ => none }
def TableAllWrongFalsely : Prop := tableAllRow.holds Try.pinned (OpenSpec.ofChange tableAllWrong)

/-- 'iceboxlaw13.TableEnds': WHATEVER THE INPUT: true; the input reads as it did. -/
def tableEndsSpec : ChangeSpec := { name := "tableEnds", fn := fun _ => fun
  | [d1, d2] => { results := [.lit (.bool true)], args := [d1, d2] }
  | _ => none }
def tableEndsRow : OpenClaim := { program := "ytogancdiihbjfaa", sum := "89c7278756dbc588c0ace51de596f79a6903146ca7d1b2185aa0186d47f4cefd", func := "icebox/iceboxlaw13.TableEnds", spec := "tableEnds", inPlace := ["math.Float64bits", "math.Float64frombits", "math.archFloor", "math.archTrunc"], unfollowed := true, recurses := true, apart := false }
def TableEndsSaid : Prop := tableEndsRow.holds Try.pinned (OpenSpec.ofChange tableEndsSpec)

/-- ITS FALSE NEIGHBOUR: 'it returns false'. Refute it at one input. -/
def tableEndsWrong : ChangeSpec := { name := "tableEnds", fn := fun _ => fun
  | [d1, d2] => { results := [.lit (.bool false)], args := [d1, d2] }
  | _ => none }
def TableEndsWrongFalsely : Prop := tableEndsRow.holds Try.pinned (OpenSpec.ofChange tableEndsWrong)

/-- 'iceboxlaw13.TableBack': WHATEVER THE INPUT: true; the input reads as it did. -/
def tableBackSpec : ChangeSpec := { name := "tableBack", fn := fun _ => fun
  | [d1, d2, d3, d4, d5, d6] => { results := [.lit (.bool true)], args := [d1, d2, d3, d4, d5, d6] }
  | _ => none }
def tableBackRow : OpenClaim := { program := "ytogancdiihbjfaa", sum := "89c7278756dbc588c0ace51de596f79a6903146ca7d1b2185aa0186d47f4cefd", func := "icebox/iceboxlaw13.TableBack", spec := "tableBack", inPlace := ["math.Float64bits", "math.Float64frombits", "math.archFloor", "math.archTrunc"], unfollowed := true, recurses := true, apart := false }
def TableBackSaid : Prop := tableBackRow.holds Try.pinned (OpenSpec.ofChange tableBackSpec)

/-- ITS FALSE NEIGHBOUR: 'it returns false'. Refute it at one input. -/
def tableBackWrong : ChangeSpec := { name := "tableBack", fn := fun _ => fun
  | [d1, d2, d3, d4, d5, d6] => { results := [.lit (.bool false)], args := [d1, d2, d3, d4, d5, d6] }
  | _ => none }
def TableBackWrongFalsely : Prop := tableBackRow.holds Try.pinned (OpenSpec.ofChange tableBackWrong)

/- THE SECOND FORM. 'bulk': how many values and letters a reading holds, each counted each time it is reached (what is shared counts as often as it is met; a slice's spare places count too). A statement '..UptoSaid' is the law's where the arguments, and the package variables that the reading takes, are together of bulk at most 1048576: NARROWER than '..Said'. Prove '..Said' where nothing that the law and all that it calls make is longer than what came in: it says more and counts as full. Else prove '..UptoSaid'. A law counts once. -/
mutual
def uptoBulk {H : Type} : DataW H → Nat
  | .lit (.string bytes) => bytes.length + 1
  | .lit _ => 1
  | .nil => 1
  | .ptr d => uptoBulk d + 1
  | .slice elems spare => uptoBulkAll elems + uptoBulkAll spare + 1
  | .agg parts => uptoBulkAll parts + 1
  | .iface _ d => uptoBulk d + 1
  | .map entries => uptoBulkEntries entries + 1
  | .held _ => 1
def uptoBulkAll {H : Type} : List (DataW H) → Nat
  | [] => 0
  | d :: r => uptoBulk d + uptoBulkAll r
def uptoBulkEntries {H : Type} : List (Lit × DataW H) → Nat
  | [] => 0
  | x :: r => uptoBulkEntry x + uptoBulkEntries r
def uptoBulkEntry {H : Type} : Lit × DataW H → Nat
  | (.string bytes, d) => bytes.length + uptoBulk d + 1
  | (_, d) => uptoBulk d + 1
 end
def uptoSmall : (H : Type) → List (DataW H) → Bool := fun _ ds => decide (uptoBulkAll ds ≤ 1048576)
def OpenSpec.upto (s : _root_.Go.ChangeSpec) : _root_.Go.OpenSpec := { _root_.Go.OpenSpec.ofChange s with cond := some uptoSmall }

/-- 'iceboxlaw12.BlockLong', WHERE WHAT IT READS IS OF BULK AT MOST 1048576: true; the input reads as it did. -/
def blockLongUptoRow : OpenClaim := { program := "ytogancdiihbjfaa", sum := "89c7278756dbc588c0ace51de596f79a6903146ca7d1b2185aa0186d47f4cefd", func := "icebox/iceboxlaw12.BlockLong", spec := "blockLong", apart := false, narrowed := true }
def BlockLongUptoSaid : Prop := blockLongUptoRow.holds Try.pinned (OpenSpec.upto blockLongSpec)

/-- 'iceboxlaw11.FilterAll', WHERE WHAT IT READS IS OF BULK AT MOST 1048576: true; the input reads as it did. -/
def filterAllUptoRow : OpenClaim := { program := "ytogancdiihbjfaa", sum := "89c7278756dbc588c0ace51de596f79a6903146ca7d1b2185aa0186d47f4cefd", func := "icebox/iceboxlaw11.FilterAll", spec := "filterAll", inPlace := ["math.Float64bits", "math.Float64frombits", "math.archFloor", "math.archTrunc"], unfollowed := true, recurses := true, apart := false, narrowed := true }
def FilterAllUptoSaid : Prop := filterAllUptoRow.holds Try.pinned (OpenSpec.upto filterAllSpec)

/-- 'iceboxlaw11.FilterGrows', WHERE WHAT IT READS IS OF BULK AT MOST 1048576: true; the input reads as it did. -/
def filterGrowsUptoRow : OpenClaim := { program := "ytogancdiihbjfaa", sum := "89c7278756dbc588c0ace51de596f79a6903146ca7d1b2185aa0186d47f4cefd", func := "icebox/iceboxlaw11.FilterGrows", spec := "filterGrows", inPlace := ["math.Float64bits", "math.Float64frombits", "math.archFloor", "math.archTrunc"], unfollowed := true, recurses := true, apart := false, narrowed := true }
def FilterGrowsUptoSaid : Prop := filterGrowsUptoRow.holds Try.pinned (OpenSpec.upto filterGrowsSpec)

/-- 'iceboxlaw11.FilterHas', WHERE WHAT IT READS IS OF BULK AT MOST 1048576: true; the input reads as it did. -/
def filterHasUptoRow : OpenClaim := { program := "ytogancdiihbjfaa", sum := "89c7278756dbc588c0ace51de596f79a6903146ca7d1b2185aa0186d47f4cefd", func := "icebox/iceboxlaw11.FilterHas", spec := "filterHas", inPlace := ["math.Float64bits", "math.Float64frombits", "math.archFloor", "math.archTrunc"], unfollowed := true, recurses := true, apart := false, narrowed := true }
def FilterHasUptoSaid : Prop := filterHasUptoRow.holds Try.pinned (OpenSpec.upto filterHasSpec)

/-- 'iceboxlaw11.FilterEdges', WHERE WHAT IT READS IS OF BULK AT MOST 1048576: true; the input reads as it did. -/
def filterEdgesUptoRow : OpenClaim := { program := "ytogancdiihbjfaa", sum := "89c7278756dbc588c0ace51de596f79a6903146ca7d1b2185aa0186d47f4cefd", func := "icebox/iceboxlaw11.FilterEdges", spec := "filterEdges", inPlace := ["math.Float64bits", "math.Float64frombits", "math.archFloor", "math.archTrunc"], unfollowed := true, recurses := true, apart := false, narrowed := true }
def FilterEdgesUptoSaid : Prop := filterEdgesUptoRow.holds Try.pinned (OpenSpec.upto filterEdgesSpec)

/-- 'iceboxlaw12.BlockTurned', WHERE WHAT IT READS IS OF BULK AT MOST 1048576: true; the input reads as it did. -/
def blockTurnedUptoRow : OpenClaim := { program := "ytogancdiihbjfaa", sum := "89c7278756dbc588c0ace51de596f79a6903146ca7d1b2185aa0186d47f4cefd", func := "icebox/iceboxlaw12.BlockTurned", spec := "blockTurned", apart := false, narrowed := true }
def BlockTurnedUptoSaid : Prop := blockTurnedUptoRow.holds Try.pinned (OpenSpec.upto blockTurnedSpec)

/-- 'iceboxlaw12.BlockAll', WHERE WHAT IT READS IS OF BULK AT MOST 1048576: true; the input reads as it did. -/
def blockAllUptoRow : OpenClaim := { program := "ytogancdiihbjfaa", sum := "89c7278756dbc588c0ace51de596f79a6903146ca7d1b2185aa0186d47f4cefd", func := "icebox/iceboxlaw12.BlockAll", spec := "blockAll", unfollowed := true, recurses := true, apart := false, narrowed := true }
def BlockAllUptoSaid : Prop := blockAllUptoRow.holds Try.pinned (OpenSpec.upto blockAllSpec)

/-- 'iceboxlaw12.BlockBack', WHERE WHAT IT READS IS OF BULK AT MOST 1048576: true; the input reads as it did. -/
def blockBackUptoRow : OpenClaim := { program := "ytogancdiihbjfaa", sum := "89c7278756dbc588c0ace51de596f79a6903146ca7d1b2185aa0186d47f4cefd", func := "icebox/iceboxlaw12.BlockBack", spec := "blockBack", unfollowed := true, recurses := true, apart := false, narrowed := true }
def BlockBackUptoSaid : Prop := blockBackUptoRow.holds Try.pinned (OpenSpec.upto blockBackSpec)

/-- 'iceboxlaw13.TableGreat', WHERE WHAT IT READS IS OF BULK AT MOST 1048576: true; the input reads as it did. -/
def tableGreatUptoRow : OpenClaim := { program := "ytogancdiihbjfaa", sum := "89c7278756dbc588c0ace51de596f79a6903146ca7d1b2185aa0186d47f4cefd", func := "icebox/iceboxlaw13.TableGreat", spec := "tableGreat", inPlace := ["math.Float64bits", "math.Float64frombits", "math.archFloor", "math.archTrunc"], unfollowed := true, recurses := true, apart := false, narrowed := true }
def TableGreatUptoSaid : Prop := tableGreatUptoRow.holds Try.pinned (OpenSpec.upto tableGreatSpec)

/-- 'iceboxlaw13.TableMade', WHERE WHAT IT READS IS OF BULK AT MOST 1048576: true; the input reads as it did. -/
def tableMadeUptoRow : OpenClaim := { program := "ytogancdiihbjfaa", sum := "89c7278756dbc588c0ace51de596f79a6903146ca7d1b2185aa0186d47f4cefd", func := "icebox/iceboxlaw13.TableMade", spec := "tableMade", inPlace := ["math.Float64bits", "math.Float64frombits", "math.archFloor", "math.archTrunc"], unfollowed := true, recurses := true, apart := false, narrowed := true }
def TableMadeUptoSaid : Prop := tableMadeUptoRow.holds Try.pinned (OpenSpec.upto tableMadeSpec)

/-- 'iceboxlaw13.TableCuts', WHERE WHAT IT READS IS OF BULK AT MOST 1048576: true; the input reads as it did. -/
def tableCutsUptoRow : OpenClaim := { program := "ytogancdiihbjfaa", sum := "89c7278756dbc588c0ace51de596f79a6903146ca7d1b2185aa0186d47f4cefd", func := "icebox/iceboxlaw13.TableCuts", spec := "tableCuts", inPlace := ["math.Float64bits", "math.Float64frombits", "math.archFloor", "math.archTrunc"], unfollowed := true, recurses := true, apart := false, narrowed := true }
def TableCutsUptoSaid : Prop := tableCutsUptoRow.holds Try.pinned (OpenSpec.upto tableCutsSpec)

/-- 'iceboxlaw13.TableAll', WHERE WHAT IT READS IS OF BULK AT MOST 1048576: true; the input reads as it did. -/
def tableAllUptoRow : OpenClaim := { program := "ytogancdiihbjfaa", sum := "89c7278756dbc588c0ace51de596f79a6903146ca7d1b2185aa0186d47f4cefd", func := "icebox/iceboxlaw13.TableAll", spec := "tableAll", inPlace := ["math.Float64bits", "math.Float64frombits", "math.archFloor", "math.archTrunc"], unfollowed := true, recurses := true, apart := false, narrowed := true }
def TableAllUptoSaid : Prop := tableAllUptoRow.holds Try.pinned (OpenSpec.upto tableAllSpec)

/-- 'iceboxlaw13.TableEnds', WHERE WHAT IT READS IS OF BULK AT MOST 1048576: true; the input reads as it did. -/
def tableEndsUptoRow : OpenClaim := { program := "ytogancdiihbjfaa", sum := "89c7278756dbc588c0ace51de596f79a6903146ca7d1b2185aa0186d47f4cefd", func := "icebox/iceboxlaw13.TableEnds", spec := "tableEnds", inPlace := ["math.Float64bits", "math.Float64frombits", "math.archFloor", "math.archTrunc"], unfollowed := true, recurses := true, apart := false, narrowed := true }
def TableEndsUptoSaid : Prop := tableEndsUptoRow.holds Try.pinned (OpenSpec.upto tableEndsSpec)

/-- 'iceboxlaw13.TableBack', WHERE WHAT IT READS IS OF BULK AT MOST 1048576: true; the input reads as it did. -/
def tableBackUptoRow : OpenClaim := { program := "ytogancdiihbjfaa", sum := "89c7278756dbc588c0ace51de596f79a6903146ca7d1b2185aa0186d47f4cefd", func := "icebox/iceboxlaw13.TableBack", spec := "tableBack", inPlace := ["math.Float64bits", "math.Float64frombits", "math.archFloor", "math.archTrunc"], unfollowed := true, recurses := true, apart := false, narrowed := true }
def TableBackUptoSaid : Prop := tableBackUptoRow.holds Try.pinned (OpenSpec.upto tableBackSpec)

end Rows
end Go.Proofs.Ytogancdiihbjfaa
