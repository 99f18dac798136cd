/-
  DERIVED. GIVEN WITH THE SEED: THE CARDS: each row of YtgmfbapkfjemnaaGreatDoorRows.lean that lists a variable, with what it lists TIED to the program's text (the seventh form; the later family's looks); each row that meets fmt, with fmt's text TOLD by the authors' own Lean function (tested against real Go, not proved from fmt's source: count such statements apart). THE CARD IS WHAT COUNTS. Prove the row's statement (the work); the ties are given (YtgmfbapkfjemnaaGreatDoorTie.lean); close each card by the builder's one call (the guide's Derived/Test/ToyasCard.lean, 'card_holds'). Laid BY PROGRAM, IN A SANDBOX (cutbox-door.mjs). By AI agents, Wed Nov 11 2026. No macro, syntax, notation, axiom, sorry.
-/
import Derived.Test.YtgmfbapkfjemnaaGreatDoorRows
import GoSem.ClaimSeven
namespace Go.Proofs.YtgmfbapkfjemnaaGreatDoor
namespace Rows

/-- THE TIED CARD OF 'firebreaklaw05.FltPrints'. -/
def fltPrintsCard : Claim7 := { stood := { row := fltPrintsRow, standIns := [], harness := (true, "65ed4ed6b1b2ab8d68b4b43b2b85317b2972c7233f21e81cb891b8eb361002bf"), looks := true }, kinds := [], alts := [], laidByText := true, laidKinds := [.data, .data, .widerDeep, .widerDeep, .data, .data, .data, .data, .data, .sentinel, .sentinel, .pinned, .pinned], laidTests := true, laidLooks := .later }
def FltPrintsCardSaid : Prop := Claim7.holds Tryz.pinned (.plain (OpenSpec.ofChange fltPrintsSpec)) fltPrintsCard

/-- THE TIED CARD OF 'firebreaklaw05.FltReturns'. -/
def fltReturnsCard : Claim7 := { stood := { row := fltReturnsRow, standIns := [], harness := (true, "65ed4ed6b1b2ab8d68b4b43b2b85317b2972c7233f21e81cb891b8eb361002bf"), looks := true }, kinds := [], alts := [], laidByText := true, laidKinds := [.data, .data, .widerDeep, .widerDeep, .data, .data, .data, .data, .data, .sentinel, .sentinel, .pinned, .pinned], laidTests := true, laidLooks := .later }
def FltReturnsCardSaid : Prop := Claim7.holds Tryz.pinned (.plain (OpenSpec.ofChange fltReturnsSpec)) fltReturnsCard

/-- THE TIED CARD OF 'firebreaklaw07.AsmNames'. -/
def asmNamesCard : Claim7 := { stood := { row := asmNamesRow, standIns := [], harness := (true, "65ed4ed6b1b2ab8d68b4b43b2b85317b2972c7233f21e81cb891b8eb361002bf"), looks := true }, kinds := [], alts := [], laidByText := true, laidKinds := [.data, .data, .widerDeep, .widerDeep, .data, .data, .data, .data, .data, .sentinel, .sentinel, .pinned, .pinned], laidTests := true, laidLooks := .later }
def AsmNamesCardSaid : Prop := Claim7.holds Tryz.pinned (.plain (OpenSpec.ofChange asmNamesSpec)) asmNamesCard

/-- THE TIED CARD OF 'firebreaklaw07.AsmPrints'. -/
def asmPrintsCard : Claim7 := { stood := { row := asmPrintsRow, standIns := [], harness := (true, "65ed4ed6b1b2ab8d68b4b43b2b85317b2972c7233f21e81cb891b8eb361002bf"), looks := true }, kinds := [], alts := [], laidByText := true, laidKinds := [.data, .data, .widerDeep, .widerDeep, .data, .data, .data, .data, .data, .sentinel, .sentinel, .pinned, .pinned], laidTests := true, laidLooks := .later }
def AsmPrintsCardSaid : Prop := Claim7.holds Tryz.pinned (.plain (OpenSpec.ofChange asmPrintsSpec)) asmPrintsCard

/-- THE TIED CARD OF 'firebreaklaw07.AsmReads'. -/
def asmReadsCard : Claim7 := { stood := { row := asmReadsRow, standIns := [], harness := (true, "65ed4ed6b1b2ab8d68b4b43b2b85317b2972c7233f21e81cb891b8eb361002bf"), looks := true }, kinds := [], alts := [], laidByText := true, laidKinds := [.data, .data, .widerDeep, .widerDeep, .data, .data, .data, .data, .data, .sentinel, .sentinel, .pinned, .pinned], laidTests := true, laidLooks := .later }
def AsmReadsCardSaid : Prop := Claim7.holds Tryz.pinned (.plain (OpenSpec.ofChange asmReadsSpec)) asmReadsCard

/-- THE TIED CARD OF 'firebreaklaw07.AsmReturns'. -/
def asmReturnsCard : Claim7 := { stood := { row := asmReturnsRow, standIns := [], harness := (true, "65ed4ed6b1b2ab8d68b4b43b2b85317b2972c7233f21e81cb891b8eb361002bf"), looks := true }, kinds := [], alts := [], laidByText := true, laidKinds := [.data, .data, .widerDeep, .widerDeep, .data, .data, .data, .data, .data, .sentinel, .sentinel, .pinned, .pinned], laidTests := true, laidLooks := .later }
def AsmReturnsCardSaid : Prop := Claim7.holds Tryz.pinned (.plain (OpenSpec.ofChange asmReturnsSpec)) asmReturnsCard

/-- THE TIED CARD OF 'firebreaklaw07.AsmLines'. -/
def asmLinesCard : Claim7 := { stood := { row := asmLinesRow, standIns := [], harness := (true, "65ed4ed6b1b2ab8d68b4b43b2b85317b2972c7233f21e81cb891b8eb361002bf"), looks := true }, kinds := [], alts := [], laidByText := true, laidKinds := [.data, .data, .widerDeep, .widerDeep, .data, .data, .data, .data, .data, .sentinel, .sentinel, .pinned, .pinned], laidTests := true, laidLooks := .later }
def AsmLinesCardSaid : Prop := Claim7.holds Tryz.pinned (.plain (OpenSpec.ofChange asmLinesSpec)) asmLinesCard

/-- THE TIED CARD OF 'firebreaklaw07.AsmKeeps'. -/
def asmKeepsCard : Claim7 := { stood := { row := asmKeepsRow, standIns := [], harness := (true, "65ed4ed6b1b2ab8d68b4b43b2b85317b2972c7233f21e81cb891b8eb361002bf"), looks := true }, kinds := [], alts := [], laidByText := true, laidKinds := [.data, .data, .widerDeep, .widerDeep, .data, .data, .data, .data, .data, .sentinel, .sentinel, .pinned, .pinned], laidTests := true, laidLooks := .later }
def AsmKeepsCardSaid : Prop := Claim7.holds Tryz.pinned (.plain (OpenSpec.ofChange asmKeepsSpec)) asmKeepsCard

/-- THE SECOND FORM's CARD OF 'firebreaklaw05.FltPrints'. -/
def fltPrintsUptoCard : Claim7 := { stood := { row := fltPrintsUptoRow, standIns := [], harness := (true, "65ed4ed6b1b2ab8d68b4b43b2b85317b2972c7233f21e81cb891b8eb361002bf"), looks := true }, kinds := [], alts := [], laidByText := true, laidKinds := [.data, .data, .widerDeep, .widerDeep, .data, .data, .data, .data, .data, .sentinel, .sentinel, .pinned, .pinned], laidTests := true, laidLooks := .later }
def FltPrintsUptoCardSaid : Prop := Claim7.holds Tryz.pinned (.plain (OpenSpec.upto fltPrintsSpec)) fltPrintsUptoCard

/-- THE SECOND FORM's CARD OF 'firebreaklaw05.FltReturns'. -/
def fltReturnsUptoCard : Claim7 := { stood := { row := fltReturnsUptoRow, standIns := [], harness := (true, "65ed4ed6b1b2ab8d68b4b43b2b85317b2972c7233f21e81cb891b8eb361002bf"), looks := true }, kinds := [], alts := [], laidByText := true, laidKinds := [.data, .data, .widerDeep, .widerDeep, .data, .data, .data, .data, .data, .sentinel, .sentinel, .pinned, .pinned], laidTests := true, laidLooks := .later }
def FltReturnsUptoCardSaid : Prop := Claim7.holds Tryz.pinned (.plain (OpenSpec.upto fltReturnsSpec)) fltReturnsUptoCard

/-- THE SECOND FORM's CARD OF 'firebreaklaw07.AsmNames'. -/
def asmNamesUptoCard : Claim7 := { stood := { row := asmNamesUptoRow, standIns := [], harness := (true, "65ed4ed6b1b2ab8d68b4b43b2b85317b2972c7233f21e81cb891b8eb361002bf"), looks := true }, kinds := [], alts := [], laidByText := true, laidKinds := [.data, .data, .widerDeep, .widerDeep, .data, .data, .data, .data, .data, .sentinel, .sentinel, .pinned, .pinned], laidTests := true, laidLooks := .later }
def AsmNamesUptoCardSaid : Prop := Claim7.holds Tryz.pinned (.plain (OpenSpec.upto asmNamesSpec)) asmNamesUptoCard

/-- THE SECOND FORM's CARD OF 'firebreaklaw07.AsmPrints'. -/
def asmPrintsUptoCard : Claim7 := { stood := { row := asmPrintsUptoRow, standIns := [], harness := (true, "65ed4ed6b1b2ab8d68b4b43b2b85317b2972c7233f21e81cb891b8eb361002bf"), looks := true }, kinds := [], alts := [], laidByText := true, laidKinds := [.data, .data, .widerDeep, .widerDeep, .data, .data, .data, .data, .data, .sentinel, .sentinel, .pinned, .pinned], laidTests := true, laidLooks := .later }
def AsmPrintsUptoCardSaid : Prop := Claim7.holds Tryz.pinned (.plain (OpenSpec.upto asmPrintsSpec)) asmPrintsUptoCard

/-- THE SECOND FORM's CARD OF 'firebreaklaw07.AsmReads'. -/
def asmReadsUptoCard : Claim7 := { stood := { row := asmReadsUptoRow, standIns := [], harness := (true, "65ed4ed6b1b2ab8d68b4b43b2b85317b2972c7233f21e81cb891b8eb361002bf"), looks := true }, kinds := [], alts := [], laidByText := true, laidKinds := [.data, .data, .widerDeep, .widerDeep, .data, .data, .data, .data, .data, .sentinel, .sentinel, .pinned, .pinned], laidTests := true, laidLooks := .later }
def AsmReadsUptoCardSaid : Prop := Claim7.holds Tryz.pinned (.plain (OpenSpec.upto asmReadsSpec)) asmReadsUptoCard

/-- THE SECOND FORM's CARD OF 'firebreaklaw07.AsmReturns'. -/
def asmReturnsUptoCard : Claim7 := { stood := { row := asmReturnsUptoRow, standIns := [], harness := (true, "65ed4ed6b1b2ab8d68b4b43b2b85317b2972c7233f21e81cb891b8eb361002bf"), looks := true }, kinds := [], alts := [], laidByText := true, laidKinds := [.data, .data, .widerDeep, .widerDeep, .data, .data, .data, .data, .data, .sentinel, .sentinel, .pinned, .pinned], laidTests := true, laidLooks := .later }
def AsmReturnsUptoCardSaid : Prop := Claim7.holds Tryz.pinned (.plain (OpenSpec.upto asmReturnsSpec)) asmReturnsUptoCard

/-- THE SECOND FORM's CARD OF 'firebreaklaw07.AsmLines'. -/
def asmLinesUptoCard : Claim7 := { stood := { row := asmLinesUptoRow, standIns := [], harness := (true, "65ed4ed6b1b2ab8d68b4b43b2b85317b2972c7233f21e81cb891b8eb361002bf"), looks := true }, kinds := [], alts := [], laidByText := true, laidKinds := [.data, .data, .widerDeep, .widerDeep, .data, .data, .data, .data, .data, .sentinel, .sentinel, .pinned, .pinned], laidTests := true, laidLooks := .later }
def AsmLinesUptoCardSaid : Prop := Claim7.holds Tryz.pinned (.plain (OpenSpec.upto asmLinesSpec)) asmLinesUptoCard

/-- THE SECOND FORM's CARD OF 'firebreaklaw07.AsmKeeps'. -/
def asmKeepsUptoCard : Claim7 := { stood := { row := asmKeepsUptoRow, standIns := [], harness := (true, "65ed4ed6b1b2ab8d68b4b43b2b85317b2972c7233f21e81cb891b8eb361002bf"), looks := true }, kinds := [], alts := [], laidByText := true, laidKinds := [.data, .data, .widerDeep, .widerDeep, .data, .data, .data, .data, .data, .sentinel, .sentinel, .pinned, .pinned], laidTests := true, laidLooks := .later }
def AsmKeepsUptoCardSaid : Prop := Claim7.holds Tryz.pinned (.plain (OpenSpec.upto asmKeepsSpec)) asmKeepsUptoCard
end Rows
end Go.Proofs.YtgmfbapkfjemnaaGreatDoor
