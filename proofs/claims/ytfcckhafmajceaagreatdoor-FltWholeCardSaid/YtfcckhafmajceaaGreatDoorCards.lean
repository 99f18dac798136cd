/-
  DERIVED. GIVEN WITH THE SEED: THE CARDS: each row of YtfcckhafmajceaaGreatDoorRows.lean that lists a variable, with what it lists TIED to the program's text (the seventh form; the later family's looks); each row that meets fmt, with fmt's text TOLD by the authors' own Lean function (tested against real Go, not proved from fmt's source: count such statements apart). THE CARD IS WHAT COUNTS. Prove the row's statement (the work); the ties are given (YtfcckhafmajceaaGreatDoorTie.lean); close each card by the builder's one call (the guide's Derived/Test/ToyasCard.lean, 'card_holds'). Laid BY PROGRAM, IN A SANDBOX (cutbox-door.mjs). By AI agents, Wed Nov 11 2026. No macro, syntax, notation, axiom, sorry.
-/
import Derived.Test.YtfcckhafmajceaaGreatDoorRows
import GoSem.ClaimSeven
namespace Go.Proofs.YtfcckhafmajceaaGreatDoor
namespace Rows

/-- THE TIED CARD OF 'firebreaklaw05.FltNames'. -/
def fltNamesCard : Claim7 := { stood := { row := fltNamesRow, standIns := [], harness := (true, "f8416b01e6688e471ada55fe6ace2e8590bae5886967ec2855bc5cd503241a32"), looks := true }, kinds := [], alts := [], laidByText := true, laidKinds := [.data, .data, .widerDeep, .widerDeep, .data, .data, .data, .data, .data, .sentinel, .sentinel, .pinned, .pinned], laidTests := true, laidLooks := .later }
def FltNamesCardSaid : Prop := Claim7.holds Tryz.pinned (.plain (OpenSpec.ofChange fltNamesSpec)) fltNamesCard

/-- THE TIED CARD OF 'firebreaklaw05.FltDoes'. -/
def fltDoesCard : Claim7 := { stood := { row := fltDoesRow, standIns := [], harness := (true, "f8416b01e6688e471ada55fe6ace2e8590bae5886967ec2855bc5cd503241a32"), looks := true }, kinds := [], alts := [], laidByText := true, laidKinds := [.data, .data, .widerDeep, .widerDeep, .data, .data, .data, .data, .data, .sentinel, .sentinel, .pinned, .pinned], laidTests := true, laidLooks := .later }
def FltDoesCardSaid : Prop := Claim7.holds Tryz.pinned (.plain (OpenSpec.ofChange fltDoesSpec)) fltDoesCard

/-- THE TIED CARD OF 'firebreaklaw05.FltFollows'. -/
def fltFollowsCard : Claim7 := { stood := { row := fltFollowsRow, standIns := [], harness := (true, "f8416b01e6688e471ada55fe6ace2e8590bae5886967ec2855bc5cd503241a32"), looks := true }, kinds := [], alts := [], laidByText := true, laidKinds := [.data, .data, .widerDeep, .widerDeep, .data, .data, .data, .data, .data, .sentinel, .sentinel, .pinned, .pinned], laidTests := true, laidLooks := .later }
def FltFollowsCardSaid : Prop := Claim7.holds Tryz.pinned (.plain (OpenSpec.ofChange fltFollowsSpec)) fltFollowsCard

/-- THE TIED CARD OF 'firebreaklaw05.FltWhole'. -/
def fltWholeCard : Claim7 := { stood := { row := fltWholeRow, standIns := [], harness := (true, "f8416b01e6688e471ada55fe6ace2e8590bae5886967ec2855bc5cd503241a32"), looks := true }, kinds := [], alts := [], laidByText := true, laidKinds := [.data, .data, .widerDeep, .widerDeep, .data, .data, .data, .data, .data, .sentinel, .sentinel, .pinned, .pinned], laidTests := true, laidLooks := .later }
def FltWholeCardSaid : Prop := Claim7.holds Tryz.pinned (.plain (OpenSpec.ofChange fltWholeSpec)) fltWholeCard

/-- THE SECOND FORM's CARD OF 'firebreaklaw05.FltNames'. -/
def fltNamesUptoCard : Claim7 := { stood := { row := fltNamesUptoRow, standIns := [], harness := (true, "f8416b01e6688e471ada55fe6ace2e8590bae5886967ec2855bc5cd503241a32"), looks := true }, kinds := [], alts := [], laidByText := true, laidKinds := [.data, .data, .widerDeep, .widerDeep, .data, .data, .data, .data, .data, .sentinel, .sentinel, .pinned, .pinned], laidTests := true, laidLooks := .later }
def FltNamesUptoCardSaid : Prop := Claim7.holds Tryz.pinned (.plain (OpenSpec.upto fltNamesSpec)) fltNamesUptoCard

/-- THE SECOND FORM's CARD OF 'firebreaklaw05.FltDoes'. -/
def fltDoesUptoCard : Claim7 := { stood := { row := fltDoesUptoRow, standIns := [], harness := (true, "f8416b01e6688e471ada55fe6ace2e8590bae5886967ec2855bc5cd503241a32"), looks := true }, kinds := [], alts := [], laidByText := true, laidKinds := [.data, .data, .widerDeep, .widerDeep, .data, .data, .data, .data, .data, .sentinel, .sentinel, .pinned, .pinned], laidTests := true, laidLooks := .later }
def FltDoesUptoCardSaid : Prop := Claim7.holds Tryz.pinned (.plain (OpenSpec.upto fltDoesSpec)) fltDoesUptoCard

/-- THE SECOND FORM's CARD OF 'firebreaklaw05.FltFollows'. -/
def fltFollowsUptoCard : Claim7 := { stood := { row := fltFollowsUptoRow, standIns := [], harness := (true, "f8416b01e6688e471ada55fe6ace2e8590bae5886967ec2855bc5cd503241a32"), looks := true }, kinds := [], alts := [], laidByText := true, laidKinds := [.data, .data, .widerDeep, .widerDeep, .data, .data, .data, .data, .data, .sentinel, .sentinel, .pinned, .pinned], laidTests := true, laidLooks := .later }
def FltFollowsUptoCardSaid : Prop := Claim7.holds Tryz.pinned (.plain (OpenSpec.upto fltFollowsSpec)) fltFollowsUptoCard

/-- THE SECOND FORM's CARD OF 'firebreaklaw05.FltWhole'. -/
def fltWholeUptoCard : Claim7 := { stood := { row := fltWholeUptoRow, standIns := [], harness := (true, "f8416b01e6688e471ada55fe6ace2e8590bae5886967ec2855bc5cd503241a32"), looks := true }, kinds := [], alts := [], laidByText := true, laidKinds := [.data, .data, .widerDeep, .widerDeep, .data, .data, .data, .data, .data, .sentinel, .sentinel, .pinned, .pinned], laidTests := true, laidLooks := .later }
def FltWholeUptoCardSaid : Prop := Claim7.holds Tryz.pinned (.plain (OpenSpec.upto fltWholeSpec)) fltWholeUptoCard
end Rows
end Go.Proofs.YtfcckhafmajceaaGreatDoor
