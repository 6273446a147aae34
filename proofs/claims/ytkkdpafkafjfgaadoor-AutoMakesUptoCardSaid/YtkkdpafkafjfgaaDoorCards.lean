/-
  DERIVED. GIVEN WITH THE SEED: THE CARDS: each row of YtkkdpafkafjfgaaDoorRows.lean that lists a variable, with what it lists TIED to the program's text (the seventh form; the later family's looks); each row that meets fmt, with fmt's text TOLD by the authors' own Lean function (tested against real Go, not proved from fmt's source: count such statements apart). THE CARD IS WHAT COUNTS. Prove the row's statement (the work); the ties are given (YtkkdpafkafjfgaaDoorTie.lean); close each card by the builder's one call (the guide's Derived/Test/ToyasCard.lean, 'card_holds'). Laid BY PROGRAM, IN A SANDBOX (cutbox-door.mjs). By AI agents, Wed Nov 11 2026. No macro, syntax, notation, axiom, sorry.
-/
import Derived.Test.YtkkdpafkafjfgaaDoorRows
import GoSem.ClaimSeven
namespace Go.Proofs.YtkkdpafkafjfgaaDoor
namespace Rows

/-- THE TIED CARD OF 'scanfaillaw7.AutoMakes'. -/
def autoMakesCard : Claim7 := { stood := { row := autoMakesRow, standIns := [], harness := (true, "da0915ceb45b19aebdee11af01d9c008b862308ffb531787f4732efdf041909a"), looks := false }, kinds := [], alts := [], laidByText := true, laidKinds := [.data], laidTests := true, laidLooks := .later }
def AutoMakesCardSaid : Prop := Claim7.holds Tryd.pinned (.plain (OpenSpec.ofChange autoMakesSpec)) autoMakesCard

/-- THE TIED CARD OF 'scanfaillaw7.AutoLeast'. -/
def autoLeastCard : Claim7 := { stood := { row := autoLeastRow, standIns := [], harness := (true, "da0915ceb45b19aebdee11af01d9c008b862308ffb531787f4732efdf041909a"), looks := false }, kinds := [], alts := [], laidByText := true, laidKinds := [.data], laidTests := true, laidLooks := .later }
def AutoLeastCardSaid : Prop := Claim7.holds Tryd.pinned (.plain (OpenSpec.ofChange autoLeastSpec)) autoLeastCard

/-- THE TIED CARD OF 'scanfaillaw7.AutoAlgebra'. -/
def autoAlgebraCard : Claim7 := { stood := { row := autoAlgebraRow, standIns := [], harness := (true, "da0915ceb45b19aebdee11af01d9c008b862308ffb531787f4732efdf041909a"), looks := false }, kinds := [], alts := [], laidByText := true, laidKinds := [.data], laidTests := true, laidLooks := .later }
def AutoAlgebraCardSaid : Prop := Claim7.holds Tryd.pinned (.plain (OpenSpec.ofChange autoAlgebraSpec)) autoAlgebraCard

/-- THE TIED CARD OF 'scanfaillaw7.AutoShort'. -/
def autoShortCard : Claim7 := { stood := { row := autoShortRow, standIns := [], harness := (true, "da0915ceb45b19aebdee11af01d9c008b862308ffb531787f4732efdf041909a"), looks := false }, kinds := [], alts := [], laidByText := true, laidKinds := [.data], laidTests := true, laidLooks := .later }
def AutoShortCardSaid : Prop := Claim7.holds Tryd.pinned (.plain (OpenSpec.ofChange autoShortSpec)) autoShortCard

/-- THE TIED CARD OF 'scanfaillaw7.AutoSame'. -/
def autoSameCard : Claim7 := { stood := { row := autoSameRow, standIns := [], harness := (true, "da0915ceb45b19aebdee11af01d9c008b862308ffb531787f4732efdf041909a"), looks := false }, kinds := [], alts := [], laidByText := true, laidKinds := [.data, .data], laidTests := true, laidLooks := .later }
def AutoSameCardSaid : Prop := Claim7.holds Tryd.pinned (.plain (OpenSpec.ofChange autoSameSpec)) autoSameCard

/-- THE TIED CARD OF 'scanfaillaw7.AutoWays'. -/
def autoWaysCard : Claim7 := { stood := { row := autoWaysRow, standIns := [], harness := (true, "da0915ceb45b19aebdee11af01d9c008b862308ffb531787f4732efdf041909a"), looks := false }, kinds := [], alts := [], laidByText := true, laidKinds := [.data, .data, .data], laidTests := true, laidLooks := .later }
def AutoWaysCardSaid : Prop := Claim7.holds Tryd.pinned (.plain (OpenSpec.ofChange autoWaysSpec)) autoWaysCard

/-- THE SECOND FORM's CARD OF 'scanfaillaw7.AutoMakes'. -/
def autoMakesUptoCard : Claim7 := { stood := { row := autoMakesUptoRow, standIns := [], harness := (true, "da0915ceb45b19aebdee11af01d9c008b862308ffb531787f4732efdf041909a"), looks := false }, kinds := [], alts := [], laidByText := true, laidKinds := [.data], laidTests := true, laidLooks := .later }
def AutoMakesUptoCardSaid : Prop := Claim7.holds Tryd.pinned (.plain (OpenSpec.upto autoMakesSpec)) autoMakesUptoCard

/-- THE SECOND FORM's CARD OF 'scanfaillaw7.AutoLeast'. -/
def autoLeastUptoCard : Claim7 := { stood := { row := autoLeastUptoRow, standIns := [], harness := (true, "da0915ceb45b19aebdee11af01d9c008b862308ffb531787f4732efdf041909a"), looks := false }, kinds := [], alts := [], laidByText := true, laidKinds := [.data], laidTests := true, laidLooks := .later }
def AutoLeastUptoCardSaid : Prop := Claim7.holds Tryd.pinned (.plain (OpenSpec.upto autoLeastSpec)) autoLeastUptoCard

/-- THE SECOND FORM's CARD OF 'scanfaillaw7.AutoAlgebra'. -/
def autoAlgebraUptoCard : Claim7 := { stood := { row := autoAlgebraUptoRow, standIns := [], harness := (true, "da0915ceb45b19aebdee11af01d9c008b862308ffb531787f4732efdf041909a"), looks := false }, kinds := [], alts := [], laidByText := true, laidKinds := [.data], laidTests := true, laidLooks := .later }
def AutoAlgebraUptoCardSaid : Prop := Claim7.holds Tryd.pinned (.plain (OpenSpec.upto autoAlgebraSpec)) autoAlgebraUptoCard

/-- THE SECOND FORM's CARD OF 'scanfaillaw7.AutoShort'. -/
def autoShortUptoCard : Claim7 := { stood := { row := autoShortUptoRow, standIns := [], harness := (true, "da0915ceb45b19aebdee11af01d9c008b862308ffb531787f4732efdf041909a"), looks := false }, kinds := [], alts := [], laidByText := true, laidKinds := [.data], laidTests := true, laidLooks := .later }
def AutoShortUptoCardSaid : Prop := Claim7.holds Tryd.pinned (.plain (OpenSpec.upto autoShortSpec)) autoShortUptoCard

/-- THE SECOND FORM's CARD OF 'scanfaillaw7.AutoSame'. -/
def autoSameUptoCard : Claim7 := { stood := { row := autoSameUptoRow, standIns := [], harness := (true, "da0915ceb45b19aebdee11af01d9c008b862308ffb531787f4732efdf041909a"), looks := false }, kinds := [], alts := [], laidByText := true, laidKinds := [.data, .data], laidTests := true, laidLooks := .later }
def AutoSameUptoCardSaid : Prop := Claim7.holds Tryd.pinned (.plain (OpenSpec.upto autoSameSpec)) autoSameUptoCard

/-- THE SECOND FORM's CARD OF 'scanfaillaw7.AutoWays'. -/
def autoWaysUptoCard : Claim7 := { stood := { row := autoWaysUptoRow, standIns := [], harness := (true, "da0915ceb45b19aebdee11af01d9c008b862308ffb531787f4732efdf041909a"), looks := false }, kinds := [], alts := [], laidByText := true, laidKinds := [.data, .data, .data], laidTests := true, laidLooks := .later }
def AutoWaysUptoCardSaid : Prop := Claim7.holds Tryd.pinned (.plain (OpenSpec.upto autoWaysSpec)) autoWaysUptoCard
end Rows
end Go.Proofs.YtkkdpafkafjfgaaDoor
