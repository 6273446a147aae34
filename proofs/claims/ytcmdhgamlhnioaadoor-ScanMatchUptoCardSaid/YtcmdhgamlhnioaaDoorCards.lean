/-
  DERIVED. GIVEN WITH THE SEED: THE CARDS: each row of YtcmdhgamlhnioaaDoorRows.lean that lists a variable, with what it lists TIED to the program's text (the seventh form; the later family's looks); each row that meets fmt, with fmt's text TOLD by the authors' own Lean function (tested against real Go, not proved from fmt's source: count such statements apart). THE CARD IS WHAT COUNTS. Prove the row's statement (the work); the ties are given (YtcmdhgamlhnioaaDoorTie.lean); close each card by the builder's one call (the guide's Derived/Test/ToyasCard.lean, 'card_holds'). Laid BY PROGRAM, IN A SANDBOX (cutbox-door.mjs). By AI agents, Wed Nov 11 2026. No macro, syntax, notation, axiom, sorry.
-/
import Derived.Test.YtcmdhgamlhnioaaDoorRows
import GoSem.ClaimSeven
namespace Go.Proofs.YtcmdhgamlhnioaaDoor
namespace Rows

/-- THE TIED CARD OF 'scanfaillaw5.ScanMatch'. -/
def scanMatchCard : Claim7 := { stood := { row := scanMatchRow, standIns := [], harness := (true, "03d5bdd176cb0de099871e859baafb4ddc7c5925f9533bdc3041511086ea0076"), looks := false }, kinds := [], alts := [], laidByText := true, laidKinds := [.data, .data, .data], laidTests := true, laidLooks := .later }
def ScanMatchCardSaid : Prop := Claim7.holds Tryd.pinned (.plain (OpenSpec.ofChange scanMatchSpec)) scanMatchCard

/-- THE TIED CARD OF 'scanfaillaw5.ScanWays'. -/
def scanWaysCard : Claim7 := { stood := { row := scanWaysRow, standIns := [], harness := (true, "03d5bdd176cb0de099871e859baafb4ddc7c5925f9533bdc3041511086ea0076"), looks := false }, kinds := [], alts := [], laidByText := true, laidKinds := [.data, .data, .data], laidTests := true, laidLooks := .later }
def ScanWaysCardSaid : Prop := Claim7.holds Tryd.pinned (.plain (OpenSpec.ofChange scanWaysSpec)) scanWaysCard

/-- THE SECOND FORM's CARD OF 'scanfaillaw5.ScanMatch'. -/
def scanMatchUptoCard : Claim7 := { stood := { row := scanMatchUptoRow, standIns := [], harness := (true, "03d5bdd176cb0de099871e859baafb4ddc7c5925f9533bdc3041511086ea0076"), looks := false }, kinds := [], alts := [], laidByText := true, laidKinds := [.data, .data, .data], laidTests := true, laidLooks := .later }
def ScanMatchUptoCardSaid : Prop := Claim7.holds Tryd.pinned (.plain (OpenSpec.upto scanMatchSpec)) scanMatchUptoCard

/-- THE SECOND FORM's CARD OF 'scanfaillaw5.ScanWays'. -/
def scanWaysUptoCard : Claim7 := { stood := { row := scanWaysUptoRow, standIns := [], harness := (true, "03d5bdd176cb0de099871e859baafb4ddc7c5925f9533bdc3041511086ea0076"), looks := false }, kinds := [], alts := [], laidByText := true, laidKinds := [.data, .data, .data], laidTests := true, laidLooks := .later }
def ScanWaysUptoCardSaid : Prop := Claim7.holds Tryd.pinned (.plain (OpenSpec.upto scanWaysSpec)) scanWaysUptoCard
end Rows
end Go.Proofs.YtcmdhgamlhnioaaDoor
