/-
  DERIVED. GIVEN WITH THE SEED: THE CARDS: each row of YthhcpocgfmlbeaaDoorRows.lean that lists a variable, with what it lists TIED to the program's text (the seventh form; the later family's looks); each row that meets fmt, with fmt's text TOLD by the authors' own Lean function (tested against real Go, not proved from fmt's source: count such statements apart). THE CARD IS WHAT COUNTS. Prove the row's statement (the work); the ties are given (YthhcpocgfmlbeaaDoorTie.lean); close each card by the builder's one call (the guide's Derived/Test/ToyasCard.lean, 'card_holds'). Laid BY PROGRAM, IN A SANDBOX (cutbox-door.mjs). By AI agents, Wed Nov 11 2026. No macro, syntax, notation, axiom, sorry.
-/
import Derived.Test.YthhcpocgfmlbeaaDoorRows
import GoSem.ClaimSeven
namespace Go.Proofs.YthhcpocgfmlbeaaDoor
namespace Rows

/-- THE TIED CARD OF 'scanfaillaw2.NumbersDivide'. -/
def numbersDivideCard : Claim7 := { stood := { row := numbersDivideRow, standIns := [], harness := (true, "dba048fc0c688e1d0b03f459cdaa734c9ddd2476928a5ae647dededc21b0de9f"), looks := true }, kinds := [], alts := [], laidByText := true, laidKinds := [.data, .data, .data], laidTests := true, laidLooks := .later }
def NumbersDivideCardSaid : Prop := Claim7.holds Tryd.pinned (.plain (OpenSpec.ofChange numbersDivideSpec)) numbersDivideCard

/-- THE TIED CARD OF 'scanfaillaw2.NumbersRing'. -/
def numbersRingCard : Claim7 := { stood := { row := numbersRingRow, standIns := [], harness := (true, "dba048fc0c688e1d0b03f459cdaa734c9ddd2476928a5ae647dededc21b0de9f"), looks := true }, kinds := [], alts := [], laidByText := true, laidKinds := [.data, .data, .data], laidTests := true, laidLooks := .later }
def NumbersRingCardSaid : Prop := Claim7.holds Tryd.pinned (.plain (OpenSpec.ofChange numbersRingSpec)) numbersRingCard

/-- THE TIED CARD OF 'scanfaillaw2.NumbersParts'. -/
def numbersPartsCard : Claim7 := { stood := { row := numbersPartsRow, standIns := [], harness := (true, "dba048fc0c688e1d0b03f459cdaa734c9ddd2476928a5ae647dededc21b0de9f"), looks := true }, kinds := [], alts := [], laidByText := true, laidKinds := [.data, .data, .data], laidTests := true, laidLooks := .later }
def NumbersPartsCardSaid : Prop := Claim7.holds Tryd.pinned (.plain (OpenSpec.ofChange numbersPartsSpec)) numbersPartsCard

/-- THE TIED CARD OF 'scanfaillaw2.NumbersExponents'. -/
def numbersExponentsCard : Claim7 := { stood := { row := numbersExponentsRow, standIns := [], harness := (true, "dba048fc0c688e1d0b03f459cdaa734c9ddd2476928a5ae647dededc21b0de9f"), looks := true }, kinds := [], alts := [], laidByText := true, laidKinds := [.data, .data, .data], laidTests := true, laidLooks := .later }
def NumbersExponentsCardSaid : Prop := Claim7.holds Tryd.pinned (.plain (OpenSpec.ofChange numbersExponentsSpec)) numbersExponentsCard

/-- THE TIED CARD OF 'scanfaillaw2.NumbersRead'. -/
def numbersReadCard : Claim7 := { stood := { row := numbersReadRow, standIns := [], harness := (true, "dba048fc0c688e1d0b03f459cdaa734c9ddd2476928a5ae647dededc21b0de9f"), looks := true }, kinds := [], alts := [], laidByText := true, laidKinds := [.data, .data, .data, .data, .sentinel, .sentinel, .pinned], laidTests := true, laidLooks := .later }
def NumbersReadCardSaid : Prop := Claim7.holds Tryd.pinned (.plain (OpenSpec.ofChange numbersReadSpec)) numbersReadCard

/-- THE TIED CARD OF 'scanfaillaw2.NumbersTurn'. -/
def numbersTurnCard : Claim7 := { stood := { row := numbersTurnRow, standIns := [], harness := (true, "dba048fc0c688e1d0b03f459cdaa734c9ddd2476928a5ae647dededc21b0de9f"), looks := true }, kinds := [], alts := [], laidByText := true, laidKinds := [.data, .data, .data, .data, .sentinel, .sentinel, .pinned], laidTests := true, laidLooks := .later }
def NumbersTurnCardSaid : Prop := Claim7.holds Tryd.pinned (.plain (OpenSpec.ofChange numbersTurnSpec)) numbersTurnCard

/-- THE SECOND FORM's CARD OF 'scanfaillaw2.NumbersDivide'. -/
def numbersDivideUptoCard : Claim7 := { stood := { row := numbersDivideUptoRow, standIns := [], harness := (true, "dba048fc0c688e1d0b03f459cdaa734c9ddd2476928a5ae647dededc21b0de9f"), looks := true }, kinds := [], alts := [], laidByText := true, laidKinds := [.data, .data, .data], laidTests := true, laidLooks := .later }
def NumbersDivideUptoCardSaid : Prop := Claim7.holds Tryd.pinned (.plain (OpenSpec.upto numbersDivideSpec)) numbersDivideUptoCard

/-- THE SECOND FORM's CARD OF 'scanfaillaw2.NumbersRing'. -/
def numbersRingUptoCard : Claim7 := { stood := { row := numbersRingUptoRow, standIns := [], harness := (true, "dba048fc0c688e1d0b03f459cdaa734c9ddd2476928a5ae647dededc21b0de9f"), looks := true }, kinds := [], alts := [], laidByText := true, laidKinds := [.data, .data, .data], laidTests := true, laidLooks := .later }
def NumbersRingUptoCardSaid : Prop := Claim7.holds Tryd.pinned (.plain (OpenSpec.upto numbersRingSpec)) numbersRingUptoCard

/-- THE SECOND FORM's CARD OF 'scanfaillaw2.NumbersParts'. -/
def numbersPartsUptoCard : Claim7 := { stood := { row := numbersPartsUptoRow, standIns := [], harness := (true, "dba048fc0c688e1d0b03f459cdaa734c9ddd2476928a5ae647dededc21b0de9f"), looks := true }, kinds := [], alts := [], laidByText := true, laidKinds := [.data, .data, .data], laidTests := true, laidLooks := .later }
def NumbersPartsUptoCardSaid : Prop := Claim7.holds Tryd.pinned (.plain (OpenSpec.upto numbersPartsSpec)) numbersPartsUptoCard

/-- THE SECOND FORM's CARD OF 'scanfaillaw2.NumbersExponents'. -/
def numbersExponentsUptoCard : Claim7 := { stood := { row := numbersExponentsUptoRow, standIns := [], harness := (true, "dba048fc0c688e1d0b03f459cdaa734c9ddd2476928a5ae647dededc21b0de9f"), looks := true }, kinds := [], alts := [], laidByText := true, laidKinds := [.data, .data, .data], laidTests := true, laidLooks := .later }
def NumbersExponentsUptoCardSaid : Prop := Claim7.holds Tryd.pinned (.plain (OpenSpec.upto numbersExponentsSpec)) numbersExponentsUptoCard

/-- THE SECOND FORM's CARD OF 'scanfaillaw2.NumbersRead'. -/
def numbersReadUptoCard : Claim7 := { stood := { row := numbersReadUptoRow, standIns := [], harness := (true, "dba048fc0c688e1d0b03f459cdaa734c9ddd2476928a5ae647dededc21b0de9f"), looks := true }, kinds := [], alts := [], laidByText := true, laidKinds := [.data, .data, .data, .data, .sentinel, .sentinel, .pinned], laidTests := true, laidLooks := .later }
def NumbersReadUptoCardSaid : Prop := Claim7.holds Tryd.pinned (.plain (OpenSpec.upto numbersReadSpec)) numbersReadUptoCard

/-- THE SECOND FORM's CARD OF 'scanfaillaw2.NumbersTurn'. -/
def numbersTurnUptoCard : Claim7 := { stood := { row := numbersTurnUptoRow, standIns := [], harness := (true, "dba048fc0c688e1d0b03f459cdaa734c9ddd2476928a5ae647dededc21b0de9f"), looks := true }, kinds := [], alts := [], laidByText := true, laidKinds := [.data, .data, .data, .data, .sentinel, .sentinel, .pinned], laidTests := true, laidLooks := .later }
def NumbersTurnUptoCardSaid : Prop := Claim7.holds Tryd.pinned (.plain (OpenSpec.upto numbersTurnSpec)) numbersTurnUptoCard
end Rows
end Go.Proofs.YthhcpocgfmlbeaaDoor
