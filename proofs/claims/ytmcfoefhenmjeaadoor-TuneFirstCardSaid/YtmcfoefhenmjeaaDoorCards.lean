/-
  DERIVED. GIVEN WITH THE SEED: THE CARDS: each row of YtmcfoefhenmjeaaDoorRows.lean that lists a variable, with what it lists TIED to the program's text (the seventh form; the later family's looks); each row that meets fmt, with fmt's text TOLD by the authors' own Lean function (tested against real Go, not proved from fmt's source: count such statements apart). THE CARD IS WHAT COUNTS. Prove the row's statement (the work); the ties are given (YtmcfoefhenmjeaaDoorTie.lean); close each card by the builder's one call (the guide's Derived/Test/ToyasCard.lean, 'card_holds'). Laid BY PROGRAM, IN A SANDBOX (cutbox-door.mjs). By AI agents, Wed Nov 11 2026. No macro, syntax, notation, axiom, sorry.
-/
import Derived.Test.YtmcfoefhenmjeaaDoorRows
import GoSem.ClaimSeven
namespace Go.Proofs.YtmcfoefhenmjeaaDoor
namespace Rows

/-- THE TIED CARD OF 'scanfaillaw6.TuneTwice'. -/
def tuneTwiceCard : Claim7 := { stood := { row := tuneTwiceRow, standIns := [], harness := (true, "32141e20ba32c18aa37732a0f16baac736c51c740e30e97f1da9d9d544c92f34"), looks := false }, kinds := [], alts := [], laidByText := true, laidKinds := [.data], laidTests := true, laidLooks := .later }
def TuneTwiceCardSaid : Prop := Claim7.holds Tryd.pinned (.plain (OpenSpec.ofChange tuneTwiceSpec)) tuneTwiceCard

/-- THE TIED CARD OF 'scanfaillaw6.TuneTells'. -/
def tuneTellsCard : Claim7 := { stood := { row := tuneTellsRow, standIns := [], harness := (true, "32141e20ba32c18aa37732a0f16baac736c51c740e30e97f1da9d9d544c92f34"), looks := false }, kinds := [], alts := [], laidByText := true, laidKinds := [.data], laidTests := true, laidLooks := .later }
def TuneTellsCardSaid : Prop := Claim7.holds Tryd.pinned (.plain (OpenSpec.ofChange tuneTellsSpec)) tuneTellsCard

/-- THE TIED CARD OF 'scanfaillaw6.TuneFaster'. -/
def tuneFasterCard : Claim7 := { stood := { row := tuneFasterRow, standIns := [], harness := (true, "32141e20ba32c18aa37732a0f16baac736c51c740e30e97f1da9d9d544c92f34"), looks := false }, kinds := [], alts := [], laidByText := true, laidKinds := [.data, .data, .data], laidTests := true, laidLooks := .later }
def TuneFasterCardSaid : Prop := Claim7.holds Tryd.pinned (.plain (OpenSpec.ofChange tuneFasterSpec)) tuneFasterCard

/-- THE TIED CARD OF 'scanfaillaw6.TuneSame'. -/
def tuneSameCard : Claim7 := { stood := { row := tuneSameRow, standIns := [], harness := (true, "32141e20ba32c18aa37732a0f16baac736c51c740e30e97f1da9d9d544c92f34"), looks := false }, kinds := [], alts := [], laidByText := true, laidKinds := [.data, .data, .data], laidTests := true, laidLooks := .later }
def TuneSameCardSaid : Prop := Claim7.holds Tryd.pinned (.plain (OpenSpec.ofChange tuneSameSpec)) tuneSameCard

/-- THE TIED CARD OF 'scanfaillaw6.TuneLength'. -/
def tuneLengthCard : Claim7 := { stood := { row := tuneLengthRow, standIns := [], harness := (true, "32141e20ba32c18aa37732a0f16baac736c51c740e30e97f1da9d9d544c92f34"), looks := false }, kinds := [], alts := [], laidByText := true, laidKinds := [.data, .data, .data], laidTests := true, laidLooks := .later }
def TuneLengthCardSaid : Prop := Claim7.holds Tryd.pinned (.plain (OpenSpec.ofChange tuneLengthSpec)) tuneLengthCard

/-- THE TIED CARD OF 'scanfaillaw6.TuneFirst'. -/
def tuneFirstCard : Claim7 := { stood := { row := tuneFirstRow, standIns := [], harness := (true, "32141e20ba32c18aa37732a0f16baac736c51c740e30e97f1da9d9d544c92f34"), looks := false }, kinds := [], alts := [], laidByText := true, laidKinds := [.data, .data, .data], laidTests := true, laidLooks := .later }
def TuneFirstCardSaid : Prop := Claim7.holds Tryd.pinned (.plain (OpenSpec.ofChange tuneFirstSpec)) tuneFirstCard

/-- THE SECOND FORM's CARD OF 'scanfaillaw6.TuneTwice'. -/
def tuneTwiceUptoCard : Claim7 := { stood := { row := tuneTwiceUptoRow, standIns := [], harness := (true, "32141e20ba32c18aa37732a0f16baac736c51c740e30e97f1da9d9d544c92f34"), looks := false }, kinds := [], alts := [], laidByText := true, laidKinds := [.data], laidTests := true, laidLooks := .later }
def TuneTwiceUptoCardSaid : Prop := Claim7.holds Tryd.pinned (.plain (OpenSpec.upto tuneTwiceSpec)) tuneTwiceUptoCard

/-- THE SECOND FORM's CARD OF 'scanfaillaw6.TuneTells'. -/
def tuneTellsUptoCard : Claim7 := { stood := { row := tuneTellsUptoRow, standIns := [], harness := (true, "32141e20ba32c18aa37732a0f16baac736c51c740e30e97f1da9d9d544c92f34"), looks := false }, kinds := [], alts := [], laidByText := true, laidKinds := [.data], laidTests := true, laidLooks := .later }
def TuneTellsUptoCardSaid : Prop := Claim7.holds Tryd.pinned (.plain (OpenSpec.upto tuneTellsSpec)) tuneTellsUptoCard

/-- THE SECOND FORM's CARD OF 'scanfaillaw6.TuneFaster'. -/
def tuneFasterUptoCard : Claim7 := { stood := { row := tuneFasterUptoRow, standIns := [], harness := (true, "32141e20ba32c18aa37732a0f16baac736c51c740e30e97f1da9d9d544c92f34"), looks := false }, kinds := [], alts := [], laidByText := true, laidKinds := [.data, .data, .data], laidTests := true, laidLooks := .later }
def TuneFasterUptoCardSaid : Prop := Claim7.holds Tryd.pinned (.plain (OpenSpec.upto tuneFasterSpec)) tuneFasterUptoCard

/-- THE SECOND FORM's CARD OF 'scanfaillaw6.TuneSame'. -/
def tuneSameUptoCard : Claim7 := { stood := { row := tuneSameUptoRow, standIns := [], harness := (true, "32141e20ba32c18aa37732a0f16baac736c51c740e30e97f1da9d9d544c92f34"), looks := false }, kinds := [], alts := [], laidByText := true, laidKinds := [.data, .data, .data], laidTests := true, laidLooks := .later }
def TuneSameUptoCardSaid : Prop := Claim7.holds Tryd.pinned (.plain (OpenSpec.upto tuneSameSpec)) tuneSameUptoCard

/-- THE SECOND FORM's CARD OF 'scanfaillaw6.TuneLength'. -/
def tuneLengthUptoCard : Claim7 := { stood := { row := tuneLengthUptoRow, standIns := [], harness := (true, "32141e20ba32c18aa37732a0f16baac736c51c740e30e97f1da9d9d544c92f34"), looks := false }, kinds := [], alts := [], laidByText := true, laidKinds := [.data, .data, .data], laidTests := true, laidLooks := .later }
def TuneLengthUptoCardSaid : Prop := Claim7.holds Tryd.pinned (.plain (OpenSpec.upto tuneLengthSpec)) tuneLengthUptoCard

/-- THE SECOND FORM's CARD OF 'scanfaillaw6.TuneFirst'. -/
def tuneFirstUptoCard : Claim7 := { stood := { row := tuneFirstUptoRow, standIns := [], harness := (true, "32141e20ba32c18aa37732a0f16baac736c51c740e30e97f1da9d9d544c92f34"), looks := false }, kinds := [], alts := [], laidByText := true, laidKinds := [.data, .data, .data], laidTests := true, laidLooks := .later }
def TuneFirstUptoCardSaid : Prop := Claim7.holds Tryd.pinned (.plain (OpenSpec.upto tuneFirstSpec)) tuneFirstUptoCard
end Rows
end Go.Proofs.YtmcfoefhenmjeaaDoor
