/-
  DERIVED. GIVEN WITH THE SEED: THE CARDS: each row of YtgkchdjogfdjaaaDoorRows.lean that lists a variable, with what it lists TIED to the program's text (the seventh form; the later family's looks); each row that meets fmt, with fmt's text TOLD by the authors' own Lean function (tested against real Go, not proved from fmt's source: count such statements apart). THE CARD IS WHAT COUNTS. Prove the row's statement (the work); the ties are given (YtgkchdjogfdjaaaDoorTie.lean); close each card by the builder's one call (the guide's Derived/Test/ToyasCard.lean, 'card_holds'). Laid BY PROGRAM, IN A SANDBOX (cutbox-door.mjs). By AI agents, Wed Nov 11 2026. No macro, syntax, notation, axiom, sorry.
-/
import Derived.Test.YtgkchdjogfdjaaaDoorRows
import GoSem.ClaimSeven
namespace Go.Proofs.YtgkchdjogfdjaaaDoor
namespace Rows

/-- THE TIED CARD OF 'scanfaillaw1.TextsLists'. -/
def textsListsCard : Claim7 := { stood := { row := textsListsRow, standIns := [], harness := (true, "c23f1545c46525a855ed60a425b888d41f191d04f8dd66b2fd9bde145e546380"), looks := false }, kinds := [], alts := [], laidByText := true, laidKinds := [.data, .pinned], laidTests := true, laidLooks := .later }
def TextsListsCardSaid : Prop := Claim7.holds Tryd.pinned (.plain (OpenSpec.ofChange textsListsSpec)) textsListsCard

/-- THE TIED CARD OF 'scanfaillaw1.TextsTell'. -/
def textsTellCard : Claim7 := { stood := { row := textsTellRow, standIns := [], harness := (true, "c23f1545c46525a855ed60a425b888d41f191d04f8dd66b2fd9bde145e546380"), looks := false }, kinds := [], alts := [], laidByText := true, laidKinds := [.data, .pinned], laidTests := true, laidLooks := .later }
def TextsTellCardSaid : Prop := Claim7.holds Tryd.pinned (.plain (OpenSpec.ofChange textsTellSpec)) textsTellCard

/-- THE TIED CARD OF 'scanfaillaw1.TextsJoined'. -/
def textsJoinedCard : Claim7 := { stood := { row := textsJoinedRow, standIns := [], harness := (true, "c23f1545c46525a855ed60a425b888d41f191d04f8dd66b2fd9bde145e546380"), looks := false }, kinds := [], alts := [], laidByText := true, laidKinds := [.data, .pinned], laidTests := true, laidLooks := .later }
def TextsJoinedCardSaid : Prop := Claim7.holds Tryd.pinned (.plain (OpenSpec.ofChange textsJoinedSpec)) textsJoinedCard

/-- THE SECOND FORM's CARD OF 'scanfaillaw1.TextsLists'. -/
def textsListsUptoCard : Claim7 := { stood := { row := textsListsUptoRow, standIns := [], harness := (true, "c23f1545c46525a855ed60a425b888d41f191d04f8dd66b2fd9bde145e546380"), looks := false }, kinds := [], alts := [], laidByText := true, laidKinds := [.data, .pinned], laidTests := true, laidLooks := .later }
def TextsListsUptoCardSaid : Prop := Claim7.holds Tryd.pinned (.plain (OpenSpec.upto textsListsSpec)) textsListsUptoCard

/-- THE SECOND FORM's CARD OF 'scanfaillaw1.TextsTell'. -/
def textsTellUptoCard : Claim7 := { stood := { row := textsTellUptoRow, standIns := [], harness := (true, "c23f1545c46525a855ed60a425b888d41f191d04f8dd66b2fd9bde145e546380"), looks := false }, kinds := [], alts := [], laidByText := true, laidKinds := [.data, .pinned], laidTests := true, laidLooks := .later }
def TextsTellUptoCardSaid : Prop := Claim7.holds Tryd.pinned (.plain (OpenSpec.upto textsTellSpec)) textsTellUptoCard

/-- THE SECOND FORM's CARD OF 'scanfaillaw1.TextsJoined'. -/
def textsJoinedUptoCard : Claim7 := { stood := { row := textsJoinedUptoRow, standIns := [], harness := (true, "c23f1545c46525a855ed60a425b888d41f191d04f8dd66b2fd9bde145e546380"), looks := false }, kinds := [], alts := [], laidByText := true, laidKinds := [.data, .pinned], laidTests := true, laidLooks := .later }
def TextsJoinedUptoCardSaid : Prop := Claim7.holds Tryd.pinned (.plain (OpenSpec.upto textsJoinedSpec)) textsJoinedUptoCard
end Rows
end Go.Proofs.YtgkchdjogfdjaaaDoor
