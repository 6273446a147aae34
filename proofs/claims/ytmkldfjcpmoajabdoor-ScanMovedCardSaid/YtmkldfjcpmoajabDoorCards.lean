/-
  DERIVED. GIVEN WITH THE SEED: THE CARDS: each row of YtmkldfjcpmoajabDoorRows.lean that lists a variable, with what it lists TIED to the program's text (the seventh form; the later family's looks); each row that meets fmt, with fmt's text TOLD by the authors' own Lean function (tested against real Go, not proved from fmt's source: count such statements apart). THE CARD IS WHAT COUNTS. Prove the row's statement (the work); the ties are given (YtmkldfjcpmoajabDoorTie.lean); close each card by the builder's one call (the guide's Derived/Test/ToyasCard.lean, 'card_holds'). Laid BY PROGRAM, IN A SANDBOX (cutbox-door.mjs). By AI agents, Wed Nov 11 2026. No macro, syntax, notation, axiom, sorry.
-/
import Derived.Test.YtmkldfjcpmoajabDoorRows
import GoSem.ClaimSeven
namespace Go.Proofs.YtmkldfjcpmoajabDoor
namespace Rows

/-- THE TIED CARD OF 'scanfaillaw5.ScanBal'. -/
def scanBalCard : Claim7 := { stood := { row := scanBalRow, standIns := [], harness := (true, "abbced4a27457054859566145ab1bf808ff20cb2c79fe1425c610203857a6f80"), looks := false }, kinds := [], alts := [], laidByText := true, laidKinds := [.data, .data, .data], laidTests := true, laidLooks := .later }
def ScanBalCardSaid : Prop := Claim7.holds Tryd.pinned (.plain (OpenSpec.ofChange scanBalSpec)) scanBalCard

/-- THE TIED CARD OF 'scanfaillaw5.ScanFence'. -/
def scanFenceCard : Claim7 := { stood := { row := scanFenceRow, standIns := [], harness := (true, "abbced4a27457054859566145ab1bf808ff20cb2c79fe1425c610203857a6f80"), looks := false }, kinds := [], alts := [], laidByText := true, laidKinds := [.data, .data, .data], laidTests := true, laidLooks := .later }
def ScanFenceCardSaid : Prop := Claim7.holds Tryd.pinned (.plain (OpenSpec.ofChange scanFenceSpec)) scanFenceCard

/-- THE TIED CARD OF 'scanfaillaw5.ScanGifts'. -/
def scanGiftsCard : Claim7 := { stood := { row := scanGiftsRow, standIns := [], harness := (true, "abbced4a27457054859566145ab1bf808ff20cb2c79fe1425c610203857a6f80"), looks := false }, kinds := [], alts := [], laidByText := true, laidKinds := [.data, .data, .data], laidTests := true, laidLooks := .later }
def ScanGiftsCardSaid : Prop := Claim7.holds Tryd.pinned (.plain (OpenSpec.ofChange scanGiftsSpec)) scanGiftsCard

/-- THE TIED CARD OF 'scanfaillaw5.ScanCalls'. -/
def scanCallsCard : Claim7 := { stood := { row := scanCallsRow, standIns := [], harness := (true, "abbced4a27457054859566145ab1bf808ff20cb2c79fe1425c610203857a6f80"), looks := false }, kinds := [], alts := [], laidByText := true, laidKinds := [.data, .data, .data], laidTests := true, laidLooks := .later }
def ScanCallsCardSaid : Prop := Claim7.holds Tryd.pinned (.plain (OpenSpec.ofChange scanCallsSpec)) scanCallsCard

/-- THE TIED CARD OF 'scanfaillaw5.ScanMoved'. -/
def scanMovedCard : Claim7 := { stood := { row := scanMovedRow, standIns := [], harness := (true, "abbced4a27457054859566145ab1bf808ff20cb2c79fe1425c610203857a6f80"), looks := false }, kinds := [], alts := [], laidByText := true, laidKinds := [.data, .data, .data], laidTests := true, laidLooks := .later }
def ScanMovedCardSaid : Prop := Claim7.holds Tryd.pinned (.plain (OpenSpec.ofChange scanMovedSpec)) scanMovedCard

/-- THE TIED CARD OF 'scanfaillaw5.ScanLonger'. -/
def scanLongerCard : Claim7 := { stood := { row := scanLongerRow, standIns := [], harness := (true, "abbced4a27457054859566145ab1bf808ff20cb2c79fe1425c610203857a6f80"), looks := false }, kinds := [], alts := [], laidByText := true, laidKinds := [.data, .data, .data], laidTests := true, laidLooks := .later }
def ScanLongerCardSaid : Prop := Claim7.holds Tryd.pinned (.plain (OpenSpec.ofChange scanLongerSpec)) scanLongerCard

/-- THE SECOND FORM's CARD OF 'scanfaillaw5.ScanBal'. -/
def scanBalUptoCard : Claim7 := { stood := { row := scanBalUptoRow, standIns := [], harness := (true, "abbced4a27457054859566145ab1bf808ff20cb2c79fe1425c610203857a6f80"), looks := false }, kinds := [], alts := [], laidByText := true, laidKinds := [.data, .data, .data], laidTests := true, laidLooks := .later }
def ScanBalUptoCardSaid : Prop := Claim7.holds Tryd.pinned (.plain (OpenSpec.upto scanBalSpec)) scanBalUptoCard

/-- THE SECOND FORM's CARD OF 'scanfaillaw5.ScanFence'. -/
def scanFenceUptoCard : Claim7 := { stood := { row := scanFenceUptoRow, standIns := [], harness := (true, "abbced4a27457054859566145ab1bf808ff20cb2c79fe1425c610203857a6f80"), looks := false }, kinds := [], alts := [], laidByText := true, laidKinds := [.data, .data, .data], laidTests := true, laidLooks := .later }
def ScanFenceUptoCardSaid : Prop := Claim7.holds Tryd.pinned (.plain (OpenSpec.upto scanFenceSpec)) scanFenceUptoCard

/-- THE SECOND FORM's CARD OF 'scanfaillaw5.ScanGifts'. -/
def scanGiftsUptoCard : Claim7 := { stood := { row := scanGiftsUptoRow, standIns := [], harness := (true, "abbced4a27457054859566145ab1bf808ff20cb2c79fe1425c610203857a6f80"), looks := false }, kinds := [], alts := [], laidByText := true, laidKinds := [.data, .data, .data], laidTests := true, laidLooks := .later }
def ScanGiftsUptoCardSaid : Prop := Claim7.holds Tryd.pinned (.plain (OpenSpec.upto scanGiftsSpec)) scanGiftsUptoCard

/-- THE SECOND FORM's CARD OF 'scanfaillaw5.ScanCalls'. -/
def scanCallsUptoCard : Claim7 := { stood := { row := scanCallsUptoRow, standIns := [], harness := (true, "abbced4a27457054859566145ab1bf808ff20cb2c79fe1425c610203857a6f80"), looks := false }, kinds := [], alts := [], laidByText := true, laidKinds := [.data, .data, .data], laidTests := true, laidLooks := .later }
def ScanCallsUptoCardSaid : Prop := Claim7.holds Tryd.pinned (.plain (OpenSpec.upto scanCallsSpec)) scanCallsUptoCard

/-- THE SECOND FORM's CARD OF 'scanfaillaw5.ScanMoved'. -/
def scanMovedUptoCard : Claim7 := { stood := { row := scanMovedUptoRow, standIns := [], harness := (true, "abbced4a27457054859566145ab1bf808ff20cb2c79fe1425c610203857a6f80"), looks := false }, kinds := [], alts := [], laidByText := true, laidKinds := [.data, .data, .data], laidTests := true, laidLooks := .later }
def ScanMovedUptoCardSaid : Prop := Claim7.holds Tryd.pinned (.plain (OpenSpec.upto scanMovedSpec)) scanMovedUptoCard

/-- THE SECOND FORM's CARD OF 'scanfaillaw5.ScanLonger'. -/
def scanLongerUptoCard : Claim7 := { stood := { row := scanLongerUptoRow, standIns := [], harness := (true, "abbced4a27457054859566145ab1bf808ff20cb2c79fe1425c610203857a6f80"), looks := false }, kinds := [], alts := [], laidByText := true, laidKinds := [.data, .data, .data], laidTests := true, laidLooks := .later }
def ScanLongerUptoCardSaid : Prop := Claim7.holds Tryd.pinned (.plain (OpenSpec.upto scanLongerSpec)) scanLongerUptoCard
end Rows
end Go.Proofs.YtmkldfjcpmoajabDoor
