/-
  DERIVED. GIVEN WITH THE SEED: THE CARDS: each row of YtlpjoakdhblbaaaDoorRows.lean that lists a variable, with what it lists TIED to the program's text (the seventh form; the later family's looks); each row that meets fmt, with fmt's text TOLD by the authors' own Lean function (tested against real Go, not proved from fmt's source: count such statements apart). THE CARD IS WHAT COUNTS. Prove the row's statement (the work); the ties are given (YtlpjoakdhblbaaaDoorTie.lean); close each card by the builder's one call (the guide's Derived/Test/ToyasCard.lean, 'card_holds'). Laid BY PROGRAM, IN A SANDBOX (cutbox-door.mjs). By AI agents, Wed Nov 11 2026. No macro, syntax, notation, axiom, sorry.
-/
import Derived.Test.YtlpjoakdhblbaaaDoorRows
import GoSem.ClaimSeven
namespace Go.Proofs.YtlpjoakdhblbaaaDoor
namespace Rows

/-- THE TIED CARD OF 'scanfaillaw9.LexLine'. -/
def lexLineCard : Claim7 := { stood := { row := lexLineRow, standIns := [], harness := (true, "c4fbcb3a6bc3a9259c96bb6706443504ade95f826c59525d89c535b15e3edc31"), looks := false }, kinds := [], alts := [], laidByText := true, laidKinds := [.data, .pinned], laidTests := true, laidLooks := .later }
def LexLineCardSaid : Prop := Claim7.holds Tryd.pinned (.plain (OpenSpec.ofChange lexLineSpec)) lexLineCard

/-- THE TIED CARD OF 'scanfaillaw9.LexJoined'. -/
def lexJoinedCard : Claim7 := { stood := { row := lexJoinedRow, standIns := [], harness := (true, "c4fbcb3a6bc3a9259c96bb6706443504ade95f826c59525d89c535b15e3edc31"), looks := false }, kinds := [], alts := [], laidByText := true, laidKinds := [.data, .pinned], laidTests := true, laidLooks := .later }
def LexJoinedCardSaid : Prop := Claim7.holds Tryd.pinned (.plain (OpenSpec.ofChange lexJoinedSpec)) lexJoinedCard

/-- THE TIED CARD OF 'scanfaillaw9.LexCovers'. -/
def lexCoversCard : Claim7 := { stood := { row := lexCoversRow, standIns := [], harness := (true, "c4fbcb3a6bc3a9259c96bb6706443504ade95f826c59525d89c535b15e3edc31"), looks := false }, kinds := [], alts := [], laidByText := true, laidKinds := [.data, .pinned], laidTests := true, laidLooks := .later }
def LexCoversCardSaid : Prop := Claim7.holds Tryd.pinned (.plain (OpenSpec.ofChange lexCoversSpec)) lexCoversCard

/-- THE SECOND FORM's CARD OF 'scanfaillaw9.LexLine'. -/
def lexLineUptoCard : Claim7 := { stood := { row := lexLineUptoRow, standIns := [], harness := (true, "c4fbcb3a6bc3a9259c96bb6706443504ade95f826c59525d89c535b15e3edc31"), looks := false }, kinds := [], alts := [], laidByText := true, laidKinds := [.data, .pinned], laidTests := true, laidLooks := .later }
def LexLineUptoCardSaid : Prop := Claim7.holds Tryd.pinned (.plain (OpenSpec.upto lexLineSpec)) lexLineUptoCard

/-- THE SECOND FORM's CARD OF 'scanfaillaw9.LexJoined'. -/
def lexJoinedUptoCard : Claim7 := { stood := { row := lexJoinedUptoRow, standIns := [], harness := (true, "c4fbcb3a6bc3a9259c96bb6706443504ade95f826c59525d89c535b15e3edc31"), looks := false }, kinds := [], alts := [], laidByText := true, laidKinds := [.data, .pinned], laidTests := true, laidLooks := .later }
def LexJoinedUptoCardSaid : Prop := Claim7.holds Tryd.pinned (.plain (OpenSpec.upto lexJoinedSpec)) lexJoinedUptoCard

/-- THE SECOND FORM's CARD OF 'scanfaillaw9.LexCovers'. -/
def lexCoversUptoCard : Claim7 := { stood := { row := lexCoversUptoRow, standIns := [], harness := (true, "c4fbcb3a6bc3a9259c96bb6706443504ade95f826c59525d89c535b15e3edc31"), looks := false }, kinds := [], alts := [], laidByText := true, laidKinds := [.data, .pinned], laidTests := true, laidLooks := .later }
def LexCoversUptoCardSaid : Prop := Claim7.holds Tryd.pinned (.plain (OpenSpec.upto lexCoversSpec)) lexCoversUptoCard
end Rows
end Go.Proofs.YtlpjoakdhblbaaaDoor
