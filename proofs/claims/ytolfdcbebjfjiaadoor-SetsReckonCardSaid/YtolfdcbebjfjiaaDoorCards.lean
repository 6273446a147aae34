/-
  DERIVED. GIVEN WITH THE SEED: THE CARDS: each row of YtolfdcbebjfjiaaDoorRows.lean that lists a variable, with what it lists TIED to the program's text (the seventh form; the later family's looks); each row that meets fmt, with fmt's text TOLD by the authors' own Lean function (tested against real Go, not proved from fmt's source: count such statements apart). THE CARD IS WHAT COUNTS. Prove the row's statement (the work); the ties are given (YtolfdcbebjfjiaaDoorTie.lean); close each card by the builder's one call (the guide's Derived/Test/ToyasCard.lean, 'card_holds'). Laid BY PROGRAM, IN A SANDBOX (cutbox-door.mjs). By AI agents, Wed Nov 11 2026. No macro, syntax, notation, axiom, sorry.
-/
import Derived.Test.YtolfdcbebjfjiaaDoorRows
import GoSem.ClaimSeven
namespace Go.Proofs.YtolfdcbebjfjiaaDoor
namespace Rows

/-- THE TIED CARD OF 'scanfaillaw3.SetsReckon'. -/
def setsReckonCard : Claim7 := { stood := { row := setsReckonRow, standIns := [], harness := (true, "6c303f34876fa0f470a73e39b6ebdf71ba9990df8647ea4bf2834bd47463e851"), looks := false }, kinds := [], alts := [], laidByText := true, laidKinds := [.data], laidTests := true, laidLooks := .later }
def SetsReckonCardSaid : Prop := Claim7.holds Tryd.pinned (.plain (OpenSpec.ofChange setsReckonSpec)) setsReckonCard

/-- THE TIED CARD OF 'scanfaillaw3.SetsAlgebra'. -/
def setsAlgebraCard : Claim7 := { stood := { row := setsAlgebraRow, standIns := [], harness := (true, "6c303f34876fa0f470a73e39b6ebdf71ba9990df8647ea4bf2834bd47463e851"), looks := false }, kinds := [], alts := [], laidByText := true, laidKinds := [.data], laidTests := true, laidLooks := .later }
def SetsAlgebraCardSaid : Prop := Claim7.holds Tryd.pinned (.plain (OpenSpec.ofChange setsAlgebraSpec)) setsAlgebraCard

/-- THE TIED CARD OF 'scanfaillaw3.SetsTurn'. -/
def setsTurnCard : Claim7 := { stood := { row := setsTurnRow, standIns := [], harness := (true, "6c303f34876fa0f470a73e39b6ebdf71ba9990df8647ea4bf2834bd47463e851"), looks := false }, kinds := [], alts := [], laidByText := true, laidKinds := [.data], laidTests := true, laidLooks := .later }
def SetsTurnCardSaid : Prop := Claim7.holds Tryd.pinned (.plain (OpenSpec.ofChange setsTurnSpec)) setsTurnCard

/-- THE SECOND FORM's CARD OF 'scanfaillaw3.SetsReckon'. -/
def setsReckonUptoCard : Claim7 := { stood := { row := setsReckonUptoRow, standIns := [], harness := (true, "6c303f34876fa0f470a73e39b6ebdf71ba9990df8647ea4bf2834bd47463e851"), looks := false }, kinds := [], alts := [], laidByText := true, laidKinds := [.data], laidTests := true, laidLooks := .later }
def SetsReckonUptoCardSaid : Prop := Claim7.holds Tryd.pinned (.plain (OpenSpec.upto setsReckonSpec)) setsReckonUptoCard

/-- THE SECOND FORM's CARD OF 'scanfaillaw3.SetsAlgebra'. -/
def setsAlgebraUptoCard : Claim7 := { stood := { row := setsAlgebraUptoRow, standIns := [], harness := (true, "6c303f34876fa0f470a73e39b6ebdf71ba9990df8647ea4bf2834bd47463e851"), looks := false }, kinds := [], alts := [], laidByText := true, laidKinds := [.data], laidTests := true, laidLooks := .later }
def SetsAlgebraUptoCardSaid : Prop := Claim7.holds Tryd.pinned (.plain (OpenSpec.upto setsAlgebraSpec)) setsAlgebraUptoCard

/-- THE SECOND FORM's CARD OF 'scanfaillaw3.SetsTurn'. -/
def setsTurnUptoCard : Claim7 := { stood := { row := setsTurnUptoRow, standIns := [], harness := (true, "6c303f34876fa0f470a73e39b6ebdf71ba9990df8647ea4bf2834bd47463e851"), looks := false }, kinds := [], alts := [], laidByText := true, laidKinds := [.data], laidTests := true, laidLooks := .later }
def SetsTurnUptoCardSaid : Prop := Claim7.holds Tryd.pinned (.plain (OpenSpec.upto setsTurnSpec)) setsTurnUptoCard
end Rows
end Go.Proofs.YtolfdcbebjfjiaaDoor
