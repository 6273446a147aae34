/-
  DERIVED. GIVEN WITH THE SEED: THE CARDS: each row of YtglfdfeideeeaaaDoorRows.lean that lists a variable, with what it lists TIED to the program's text (the seventh form; the later family's looks); each row that meets fmt, with fmt's text TOLD by the authors' own Lean function (tested against real Go, not proved from fmt's source: count such statements apart). THE CARD IS WHAT COUNTS. Prove the row's statement (the work); the ties are given (YtglfdfeideeeaaaDoorTie.lean); close each card by the builder's one call (the guide's Derived/Test/ToyasCard.lean, 'card_holds'). Laid BY PROGRAM, IN A SANDBOX (cutbox-door.mjs). By AI agents, Wed Nov 11 2026. No macro, syntax, notation, axiom, sorry.
-/
import Derived.Test.YtglfdfeideeeaaaDoorRows
import GoSem.ClaimSeven
namespace Go.Proofs.YtglfdfeideeeaaaDoor
namespace Rows

/-- THE TIED CARD OF 'scanfaillaw6.TuneTells'. -/
def tuneTellsCard : Claim7 := { stood := { row := tuneTellsRow, standIns := [], harness := (true, "fa00284bea09a7c79510440f7ff8981a42536dc57576f67817e6fd101da251e6"), looks := false }, kinds := [], alts := [], laidByText := true, laidKinds := [.data], laidTests := true, laidLooks := .later }
def TuneTellsCardSaid : Prop := Claim7.holds Tryd.pinned (.plain (OpenSpec.ofChange tuneTellsSpec)) tuneTellsCard

/-- THE SECOND FORM's CARD OF 'scanfaillaw6.TuneTells'. -/
def tuneTellsUptoCard : Claim7 := { stood := { row := tuneTellsUptoRow, standIns := [], harness := (true, "fa00284bea09a7c79510440f7ff8981a42536dc57576f67817e6fd101da251e6"), looks := false }, kinds := [], alts := [], laidByText := true, laidKinds := [.data], laidTests := true, laidLooks := .later }
def TuneTellsUptoCardSaid : Prop := Claim7.holds Tryd.pinned (.plain (OpenSpec.upto tuneTellsSpec)) tuneTellsUptoCard
end Rows
end Go.Proofs.YtglfdfeideeeaaaDoor
