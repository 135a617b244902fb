/-
  DERIVED. GIVEN WITH THE SEED: THE CARDS: each row of YtbnkagiikibjpaaDoorRows.lean that lists a variable, with what it lists TIED to the program's text (the seventh form; the later family's looks); each row that meets fmt, with fmt's text TOLD by the authors' own Lean function (tested against real Go, not proved from fmt's source: count such statements apart). THE CARD IS WHAT COUNTS. Prove the row's statement (the work); the ties are given (YtbnkagiikibjpaaDoorTie.lean); close each card by the builder's one call (the guide's Derived/Test/ToyasCard.lean, 'card_holds'). Laid BY PROGRAM, IN A SANDBOX (cutbox-door.mjs). By AI agents, Wed Nov 11 2026. No macro, syntax, notation, axiom, sorry.
-/
import Derived.Test.YtbnkagiikibjpaaDoorRows
import GoSem.ClaimSeven
namespace Go.Proofs.YtbnkagiikibjpaaDoor
namespace Rows

/-- THE TIED CARD OF 'iceboxlaw19.NameAll'. -/
def nameAllCard : Claim7 := { stood := { row := nameAllRow, standIns := [], harness := (true, "62384ba9768d6471df2c7eb2f5409a637b3bafaaded26c5fd3ba34d4fe9a5d9a"), looks := true }, kinds := [], alts := [], laidByText := true, laidKinds := [.data, .data, .data, .sentinel, .sentinel], laidTests := true, laidLooks := .later }
def NameAllCardSaid : Prop := Claim7.holds Tryd.pinned (.plain (OpenSpec.ofChange nameAllSpec)) nameAllCard

/-- THE TIED CARD OF 'iceboxlaw19.NameBack'. -/
def nameBackCard : Claim7 := { stood := { row := nameBackRow, standIns := [], harness := (true, "62384ba9768d6471df2c7eb2f5409a637b3bafaaded26c5fd3ba34d4fe9a5d9a"), looks := true }, kinds := [], alts := [], laidByText := true, laidKinds := [.data, .data, .data, .sentinel, .sentinel], laidTests := true, laidLooks := .later }
def NameBackCardSaid : Prop := Claim7.holds Tryd.pinned (.plain (OpenSpec.ofChange nameBackSpec)) nameBackCard

/-- THE TIED CARD OF 'iceboxlaw19.NameNone'. -/
def nameNoneCard : Claim7 := { stood := { row := nameNoneRow, standIns := [], harness := (true, "62384ba9768d6471df2c7eb2f5409a637b3bafaaded26c5fd3ba34d4fe9a5d9a"), looks := true }, kinds := [], alts := [], laidByText := true, laidKinds := [.data, .data, .data, .sentinel, .sentinel], laidTests := true, laidLooks := .later }
def NameNoneCardSaid : Prop := Claim7.holds Tryd.pinned (.plain (OpenSpec.ofChange nameNoneSpec)) nameNoneCard

/-- THE TIED CARD OF 'iceboxlaw25.RefsAll'. -/
def refsAllCard : Claim7 := { stood := { row := refsAllRow, standIns := [], harness := (true, "62384ba9768d6471df2c7eb2f5409a637b3bafaaded26c5fd3ba34d4fe9a5d9a"), looks := true }, kinds := [], alts := [], laidByText := true, laidKinds := [.data, .data, .data, .sentinel, .sentinel], laidTests := true, laidLooks := .later }
def RefsAllCardSaid : Prop := Claim7.holds Tryd.pinned (.plain (OpenSpec.ofChange refsAllSpec)) refsAllCard

/-- THE TIED CARD OF 'iceboxlaw25.RefsMore'. -/
def refsMoreCard : Claim7 := { stood := { row := refsMoreRow, standIns := [], harness := (true, "62384ba9768d6471df2c7eb2f5409a637b3bafaaded26c5fd3ba34d4fe9a5d9a"), looks := true }, kinds := [], alts := [], laidByText := true, laidKinds := [.data, .data, .data, .sentinel, .sentinel], laidTests := true, laidLooks := .later }
def RefsMoreCardSaid : Prop := Claim7.holds Tryd.pinned (.plain (OpenSpec.ofChange refsMoreSpec)) refsMoreCard

/-- THE SECOND FORM's CARD OF 'iceboxlaw19.NameAll'. -/
def nameAllUptoCard : Claim7 := { stood := { row := nameAllUptoRow, standIns := [], harness := (true, "62384ba9768d6471df2c7eb2f5409a637b3bafaaded26c5fd3ba34d4fe9a5d9a"), looks := true }, kinds := [], alts := [], laidByText := true, laidKinds := [.data, .data, .data, .sentinel, .sentinel], laidTests := true, laidLooks := .later }
def NameAllUptoCardSaid : Prop := Claim7.holds Tryd.pinned (.plain (OpenSpec.upto nameAllSpec)) nameAllUptoCard

/-- THE SECOND FORM's CARD OF 'iceboxlaw19.NameBack'. -/
def nameBackUptoCard : Claim7 := { stood := { row := nameBackUptoRow, standIns := [], harness := (true, "62384ba9768d6471df2c7eb2f5409a637b3bafaaded26c5fd3ba34d4fe9a5d9a"), looks := true }, kinds := [], alts := [], laidByText := true, laidKinds := [.data, .data, .data, .sentinel, .sentinel], laidTests := true, laidLooks := .later }
def NameBackUptoCardSaid : Prop := Claim7.holds Tryd.pinned (.plain (OpenSpec.upto nameBackSpec)) nameBackUptoCard

/-- THE SECOND FORM's CARD OF 'iceboxlaw19.NameNone'. -/
def nameNoneUptoCard : Claim7 := { stood := { row := nameNoneUptoRow, standIns := [], harness := (true, "62384ba9768d6471df2c7eb2f5409a637b3bafaaded26c5fd3ba34d4fe9a5d9a"), looks := true }, kinds := [], alts := [], laidByText := true, laidKinds := [.data, .data, .data, .sentinel, .sentinel], laidTests := true, laidLooks := .later }
def NameNoneUptoCardSaid : Prop := Claim7.holds Tryd.pinned (.plain (OpenSpec.upto nameNoneSpec)) nameNoneUptoCard

/-- THE SECOND FORM's CARD OF 'iceboxlaw25.RefsAll'. -/
def refsAllUptoCard : Claim7 := { stood := { row := refsAllUptoRow, standIns := [], harness := (true, "62384ba9768d6471df2c7eb2f5409a637b3bafaaded26c5fd3ba34d4fe9a5d9a"), looks := true }, kinds := [], alts := [], laidByText := true, laidKinds := [.data, .data, .data, .sentinel, .sentinel], laidTests := true, laidLooks := .later }
def RefsAllUptoCardSaid : Prop := Claim7.holds Tryd.pinned (.plain (OpenSpec.upto refsAllSpec)) refsAllUptoCard

/-- THE SECOND FORM's CARD OF 'iceboxlaw25.RefsMore'. -/
def refsMoreUptoCard : Claim7 := { stood := { row := refsMoreUptoRow, standIns := [], harness := (true, "62384ba9768d6471df2c7eb2f5409a637b3bafaaded26c5fd3ba34d4fe9a5d9a"), looks := true }, kinds := [], alts := [], laidByText := true, laidKinds := [.data, .data, .data, .sentinel, .sentinel], laidTests := true, laidLooks := .later }
def RefsMoreUptoCardSaid : Prop := Claim7.holds Tryd.pinned (.plain (OpenSpec.upto refsMoreSpec)) refsMoreUptoCard
end Rows
end Go.Proofs.YtbnkagiikibjpaaDoor
