/-
  DERIVED. GIVEN WITH THE SEED: THE CARDS: each row of YtompbjaipbbbhaaDoorRows.lean that lists a variable, with what it lists TIED to the program's text (the seventh form; the later family's looks); each row that meets fmt, with fmt's text TOLD by the authors' own Lean function (tested against real Go, not proved from fmt's source: count such statements apart). THE CARD IS WHAT COUNTS. Prove the row's statement (the work); the ties are given (YtompbjaipbbbhaaDoorTie.lean); close each card by the builder's one call (the guide's Derived/Test/ToyasCard.lean, 'card_holds'). Laid BY PROGRAM, IN A SANDBOX (cutbox-door.mjs). By AI agents, Wed Nov 11 2026. No macro, syntax, notation, axiom, sorry.
-/
import Derived.Test.YtompbjaipbbbhaaDoorRows
import GoSem.ClaimSeven
namespace Go.Proofs.YtompbjaipbbbhaaDoor
namespace Rows

/-- THE TIED CARD OF 'firebreaklaw01.LabelNames'. -/
def labelNamesCard : Claim7 := { stood := { row := labelNamesRow, standIns := [], harness := (true, "0bfc49ceeae526281d287b8b275b87807d9766a3dd4a6a03cc65ba7c9263a9b4"), looks := true }, kinds := [], alts := [], laidByText := true, laidKinds := [.data, .data, .data, .sentinel, .sentinel], laidTests := true, laidLooks := .later }
def LabelNamesCardSaid : Prop := Claim7.holds Tryd.pinned (.plain (OpenSpec.ofChange labelNamesSpec)) labelNamesCard

/-- THE TIED CARD OF 'firebreaklaw01.LabelDoes'. -/
def labelDoesCard : Claim7 := { stood := { row := labelDoesRow, standIns := [], harness := (true, "0bfc49ceeae526281d287b8b275b87807d9766a3dd4a6a03cc65ba7c9263a9b4"), looks := true }, kinds := [], alts := [], laidByText := true, laidKinds := [.data, .data, .data, .sentinel, .sentinel], laidTests := true, laidLooks := .later }
def LabelDoesCardSaid : Prop := Claim7.holds Tryd.pinned (.plain (OpenSpec.ofChange labelDoesSpec)) labelDoesCard

/-- THE TIED CARD OF 'firebreaklaw01.LabelOrder'. -/
def labelOrderCard : Claim7 := { stood := { row := labelOrderRow, standIns := [], harness := (true, "0bfc49ceeae526281d287b8b275b87807d9766a3dd4a6a03cc65ba7c9263a9b4"), looks := true }, kinds := [], alts := [], laidByText := true, laidKinds := [.data, .data, .data, .sentinel, .sentinel], laidTests := true, laidLooks := .later }
def LabelOrderCardSaid : Prop := Claim7.holds Tryd.pinned (.plain (OpenSpec.ofChange labelOrderSpec)) labelOrderCard

/-- THE TIED CARD OF 'firebreaklaw01.LabelReads'. -/
def labelReadsCard : Claim7 := { stood := { row := labelReadsRow, standIns := [], harness := (true, "0bfc49ceeae526281d287b8b275b87807d9766a3dd4a6a03cc65ba7c9263a9b4"), looks := true }, kinds := [], alts := [], laidByText := true, laidKinds := [.data, .data, .data, .sentinel, .sentinel], laidTests := true, laidLooks := .later }
def LabelReadsCardSaid : Prop := Claim7.holds Tryd.pinned (.plain (OpenSpec.ofChange labelReadsSpec)) labelReadsCard

/-- THE TIED CARD OF 'firebreaklaw01.LabelReturns'. -/
def labelReturnsCard : Claim7 := { stood := { row := labelReturnsRow, standIns := [], harness := (true, "0bfc49ceeae526281d287b8b275b87807d9766a3dd4a6a03cc65ba7c9263a9b4"), looks := true }, kinds := [], alts := [], laidByText := true, laidKinds := [.data, .data, .data, .sentinel, .sentinel], laidTests := true, laidLooks := .later }
def LabelReturnsCardSaid : Prop := Claim7.holds Tryd.pinned (.plain (OpenSpec.ofChange labelReturnsSpec)) labelReturnsCard

/-- THE SECOND FORM's CARD OF 'firebreaklaw01.LabelNames'. -/
def labelNamesUptoCard : Claim7 := { stood := { row := labelNamesUptoRow, standIns := [], harness := (true, "0bfc49ceeae526281d287b8b275b87807d9766a3dd4a6a03cc65ba7c9263a9b4"), looks := true }, kinds := [], alts := [], laidByText := true, laidKinds := [.data, .data, .data, .sentinel, .sentinel], laidTests := true, laidLooks := .later }
def LabelNamesUptoCardSaid : Prop := Claim7.holds Tryd.pinned (.plain (OpenSpec.upto labelNamesSpec)) labelNamesUptoCard

/-- THE SECOND FORM's CARD OF 'firebreaklaw01.LabelDoes'. -/
def labelDoesUptoCard : Claim7 := { stood := { row := labelDoesUptoRow, standIns := [], harness := (true, "0bfc49ceeae526281d287b8b275b87807d9766a3dd4a6a03cc65ba7c9263a9b4"), looks := true }, kinds := [], alts := [], laidByText := true, laidKinds := [.data, .data, .data, .sentinel, .sentinel], laidTests := true, laidLooks := .later }
def LabelDoesUptoCardSaid : Prop := Claim7.holds Tryd.pinned (.plain (OpenSpec.upto labelDoesSpec)) labelDoesUptoCard

/-- THE SECOND FORM's CARD OF 'firebreaklaw01.LabelOrder'. -/
def labelOrderUptoCard : Claim7 := { stood := { row := labelOrderUptoRow, standIns := [], harness := (true, "0bfc49ceeae526281d287b8b275b87807d9766a3dd4a6a03cc65ba7c9263a9b4"), looks := true }, kinds := [], alts := [], laidByText := true, laidKinds := [.data, .data, .data, .sentinel, .sentinel], laidTests := true, laidLooks := .later }
def LabelOrderUptoCardSaid : Prop := Claim7.holds Tryd.pinned (.plain (OpenSpec.upto labelOrderSpec)) labelOrderUptoCard

/-- THE SECOND FORM's CARD OF 'firebreaklaw01.LabelReads'. -/
def labelReadsUptoCard : Claim7 := { stood := { row := labelReadsUptoRow, standIns := [], harness := (true, "0bfc49ceeae526281d287b8b275b87807d9766a3dd4a6a03cc65ba7c9263a9b4"), looks := true }, kinds := [], alts := [], laidByText := true, laidKinds := [.data, .data, .data, .sentinel, .sentinel], laidTests := true, laidLooks := .later }
def LabelReadsUptoCardSaid : Prop := Claim7.holds Tryd.pinned (.plain (OpenSpec.upto labelReadsSpec)) labelReadsUptoCard

/-- THE SECOND FORM's CARD OF 'firebreaklaw01.LabelReturns'. -/
def labelReturnsUptoCard : Claim7 := { stood := { row := labelReturnsUptoRow, standIns := [], harness := (true, "0bfc49ceeae526281d287b8b275b87807d9766a3dd4a6a03cc65ba7c9263a9b4"), looks := true }, kinds := [], alts := [], laidByText := true, laidKinds := [.data, .data, .data, .sentinel, .sentinel], laidTests := true, laidLooks := .later }
def LabelReturnsUptoCardSaid : Prop := Claim7.holds Tryd.pinned (.plain (OpenSpec.upto labelReturnsSpec)) labelReturnsUptoCard
end Rows
end Go.Proofs.YtompbjaipbbbhaaDoor
