/-
  DERIVED. GIVEN WITH THE SEED: THE CARDS: each row of YtmkldfjcpmoajaaDoorRows.lean that lists a variable, with what it lists TIED to the program's text (the seventh form; the later family's looks); each row that meets fmt, with fmt's text TOLD by the authors' own Lean function (tested against real Go, not proved from fmt's source: count such statements apart). THE CARD IS WHAT COUNTS. Prove the row's statement (the work); the ties are given (YtmkldfjcpmoajaaDoorTie.lean); close each card by the builder's one call (the guide's Derived/Test/ToyasCard.lean, 'card_holds'). Laid BY PROGRAM, IN A SANDBOX (cutbox-door.mjs). By AI agents, Wed Nov 11 2026. No macro, syntax, notation, axiom, sorry.
-/
import Derived.Test.YtmkldfjcpmoajaaDoorRows
import GoSem.ClaimSeven
namespace Go.Proofs.YtmkldfjcpmoajaaDoor
namespace Rows

/-- THE TIED CARD OF 'scanfaillaw5.ScanMatch'. -/
def scanMatchCard : Claim7 := { stood := { row := scanMatchRow, standIns := [], harness := (true, "481d6d3d1a5d3caa7f7a445a49c5b29a35eeaf76ad52b82e1444374572c1fabb"), looks := false }, kinds := [], alts := [], laidByText := true, laidKinds := [.data, .data, .data], laidTests := true, laidLooks := .later }
def ScanMatchCardSaid : Prop := Claim7.holds Tryd.pinned (.plain (OpenSpec.ofChange scanMatchSpec)) scanMatchCard

/-- THE TIED CARD OF 'scanfaillaw5.ScanWays'. -/
def scanWaysCard : Claim7 := { stood := { row := scanWaysRow, standIns := [], harness := (true, "481d6d3d1a5d3caa7f7a445a49c5b29a35eeaf76ad52b82e1444374572c1fabb"), looks := false }, kinds := [], alts := [], laidByText := true, laidKinds := [.data, .data, .data], laidTests := true, laidLooks := .later }
def ScanWaysCardSaid : Prop := Claim7.holds Tryd.pinned (.plain (OpenSpec.ofChange scanWaysSpec)) scanWaysCard

/-- THE TIED CARD OF 'scanfaillaw5.ScanFirst'. -/
def scanFirstCard : Claim7 := { stood := { row := scanFirstRow, standIns := [], harness := (true, "481d6d3d1a5d3caa7f7a445a49c5b29a35eeaf76ad52b82e1444374572c1fabb"), looks := false }, kinds := [], alts := [], laidByText := true, laidKinds := [.data, .data, .data], laidTests := true, laidLooks := .later }
def ScanFirstCardSaid : Prop := Claim7.holds Tryd.pinned (.plain (OpenSpec.ofChange scanFirstSpec)) scanFirstCard

/-- THE TIED CARD OF 'scanfaillaw5.ScanCat'. -/
def scanCatCard : Claim7 := { stood := { row := scanCatRow, standIns := [], harness := (true, "481d6d3d1a5d3caa7f7a445a49c5b29a35eeaf76ad52b82e1444374572c1fabb"), looks := false }, kinds := [], alts := [], laidByText := true, laidKinds := [.data, .data, .data], laidTests := true, laidLooks := .later }
def ScanCatCardSaid : Prop := Claim7.holds Tryd.pinned (.plain (OpenSpec.ofChange scanCatSpec)) scanCatCard

/-- THE TIED CARD OF 'scanfaillaw5.ScanAlt'. -/
def scanAltCard : Claim7 := { stood := { row := scanAltRow, standIns := [], harness := (true, "481d6d3d1a5d3caa7f7a445a49c5b29a35eeaf76ad52b82e1444374572c1fabb"), looks := false }, kinds := [], alts := [], laidByText := true, laidKinds := [.data, .data, .data], laidTests := true, laidLooks := .later }
def ScanAltCardSaid : Prop := Claim7.holds Tryd.pinned (.plain (OpenSpec.ofChange scanAltSpec)) scanAltCard

/-- THE TIED CARD OF 'scanfaillaw5.ScanNothing'. -/
def scanNothingCard : Claim7 := { stood := { row := scanNothingRow, standIns := [], harness := (true, "481d6d3d1a5d3caa7f7a445a49c5b29a35eeaf76ad52b82e1444374572c1fabb"), looks := false }, kinds := [], alts := [], laidByText := true, laidKinds := [.data, .data, .data], laidTests := true, laidLooks := .later }
def ScanNothingCardSaid : Prop := Claim7.holds Tryd.pinned (.plain (OpenSpec.ofChange scanNothingSpec)) scanNothingCard

/-- THE TIED CARD OF 'scanfaillaw5.ScanOver'. -/
def scanOverCard : Claim7 := { stood := { row := scanOverRow, standIns := [], harness := (true, "481d6d3d1a5d3caa7f7a445a49c5b29a35eeaf76ad52b82e1444374572c1fabb"), looks := false }, kinds := [], alts := [], laidByText := true, laidKinds := [.data, .data, .data], laidTests := true, laidLooks := .later }
def ScanOverCardSaid : Prop := Claim7.holds Tryd.pinned (.plain (OpenSpec.ofChange scanOverSpec)) scanOverCard

/-- THE TIED CARD OF 'scanfaillaw5.ScanArbno'. -/
def scanArbnoCard : Claim7 := { stood := { row := scanArbnoRow, standIns := [], harness := (true, "481d6d3d1a5d3caa7f7a445a49c5b29a35eeaf76ad52b82e1444374572c1fabb"), looks := false }, kinds := [], alts := [], laidByText := true, laidKinds := [.data, .data, .data], laidTests := true, laidLooks := .later }
def ScanArbnoCardSaid : Prop := Claim7.holds Tryd.pinned (.plain (OpenSpec.ofChange scanArbnoSpec)) scanArbnoCard

/-- THE TIED CARD OF 'scanfaillaw5.ScanLens'. -/
def scanLensCard : Claim7 := { stood := { row := scanLensRow, standIns := [], harness := (true, "481d6d3d1a5d3caa7f7a445a49c5b29a35eeaf76ad52b82e1444374572c1fabb"), looks := false }, kinds := [], alts := [], laidByText := true, laidKinds := [.data, .data, .data], laidTests := true, laidLooks := .later }
def ScanLensCardSaid : Prop := Claim7.holds Tryd.pinned (.plain (OpenSpec.ofChange scanLensSpec)) scanLensCard

/-- THE TIED CARD OF 'scanfaillaw5.ScanSpans'. -/
def scanSpansCard : Claim7 := { stood := { row := scanSpansRow, standIns := [], harness := (true, "481d6d3d1a5d3caa7f7a445a49c5b29a35eeaf76ad52b82e1444374572c1fabb"), looks := false }, kinds := [], alts := [], laidByText := true, laidKinds := [.data, .data, .data], laidTests := true, laidLooks := .later }
def ScanSpansCardSaid : Prop := Claim7.holds Tryd.pinned (.plain (OpenSpec.ofChange scanSpansSpec)) scanSpansCard

/-- THE TIED CARD OF 'scanfaillaw5.ScanTabs'. -/
def scanTabsCard : Claim7 := { stood := { row := scanTabsRow, standIns := [], harness := (true, "481d6d3d1a5d3caa7f7a445a49c5b29a35eeaf76ad52b82e1444374572c1fabb"), looks := false }, kinds := [], alts := [], laidByText := true, laidKinds := [.data, .data, .data], laidTests := true, laidLooks := .later }
def ScanTabsCardSaid : Prop := Claim7.holds Tryd.pinned (.plain (OpenSpec.ofChange scanTabsSpec)) scanTabsCard

/-- THE TIED CARD OF 'scanfaillaw5.ScanArb'. -/
def scanArbCard : Claim7 := { stood := { row := scanArbRow, standIns := [], harness := (true, "481d6d3d1a5d3caa7f7a445a49c5b29a35eeaf76ad52b82e1444374572c1fabb"), looks := false }, kinds := [], alts := [], laidByText := true, laidKinds := [.data, .data, .data], laidTests := true, laidLooks := .later }
def ScanArbCardSaid : Prop := Claim7.holds Tryd.pinned (.plain (OpenSpec.ofChange scanArbSpec)) scanArbCard

/-- THE SECOND FORM's CARD OF 'scanfaillaw5.ScanMatch'. -/
def scanMatchUptoCard : Claim7 := { stood := { row := scanMatchUptoRow, standIns := [], harness := (true, "481d6d3d1a5d3caa7f7a445a49c5b29a35eeaf76ad52b82e1444374572c1fabb"), looks := false }, kinds := [], alts := [], laidByText := true, laidKinds := [.data, .data, .data], laidTests := true, laidLooks := .later }
def ScanMatchUptoCardSaid : Prop := Claim7.holds Tryd.pinned (.plain (OpenSpec.upto scanMatchSpec)) scanMatchUptoCard

/-- THE SECOND FORM's CARD OF 'scanfaillaw5.ScanWays'. -/
def scanWaysUptoCard : Claim7 := { stood := { row := scanWaysUptoRow, standIns := [], harness := (true, "481d6d3d1a5d3caa7f7a445a49c5b29a35eeaf76ad52b82e1444374572c1fabb"), looks := false }, kinds := [], alts := [], laidByText := true, laidKinds := [.data, .data, .data], laidTests := true, laidLooks := .later }
def ScanWaysUptoCardSaid : Prop := Claim7.holds Tryd.pinned (.plain (OpenSpec.upto scanWaysSpec)) scanWaysUptoCard

/-- THE SECOND FORM's CARD OF 'scanfaillaw5.ScanFirst'. -/
def scanFirstUptoCard : Claim7 := { stood := { row := scanFirstUptoRow, standIns := [], harness := (true, "481d6d3d1a5d3caa7f7a445a49c5b29a35eeaf76ad52b82e1444374572c1fabb"), looks := false }, kinds := [], alts := [], laidByText := true, laidKinds := [.data, .data, .data], laidTests := true, laidLooks := .later }
def ScanFirstUptoCardSaid : Prop := Claim7.holds Tryd.pinned (.plain (OpenSpec.upto scanFirstSpec)) scanFirstUptoCard

/-- THE SECOND FORM's CARD OF 'scanfaillaw5.ScanCat'. -/
def scanCatUptoCard : Claim7 := { stood := { row := scanCatUptoRow, standIns := [], harness := (true, "481d6d3d1a5d3caa7f7a445a49c5b29a35eeaf76ad52b82e1444374572c1fabb"), looks := false }, kinds := [], alts := [], laidByText := true, laidKinds := [.data, .data, .data], laidTests := true, laidLooks := .later }
def ScanCatUptoCardSaid : Prop := Claim7.holds Tryd.pinned (.plain (OpenSpec.upto scanCatSpec)) scanCatUptoCard

/-- THE SECOND FORM's CARD OF 'scanfaillaw5.ScanAlt'. -/
def scanAltUptoCard : Claim7 := { stood := { row := scanAltUptoRow, standIns := [], harness := (true, "481d6d3d1a5d3caa7f7a445a49c5b29a35eeaf76ad52b82e1444374572c1fabb"), looks := false }, kinds := [], alts := [], laidByText := true, laidKinds := [.data, .data, .data], laidTests := true, laidLooks := .later }
def ScanAltUptoCardSaid : Prop := Claim7.holds Tryd.pinned (.plain (OpenSpec.upto scanAltSpec)) scanAltUptoCard

/-- THE SECOND FORM's CARD OF 'scanfaillaw5.ScanNothing'. -/
def scanNothingUptoCard : Claim7 := { stood := { row := scanNothingUptoRow, standIns := [], harness := (true, "481d6d3d1a5d3caa7f7a445a49c5b29a35eeaf76ad52b82e1444374572c1fabb"), looks := false }, kinds := [], alts := [], laidByText := true, laidKinds := [.data, .data, .data], laidTests := true, laidLooks := .later }
def ScanNothingUptoCardSaid : Prop := Claim7.holds Tryd.pinned (.plain (OpenSpec.upto scanNothingSpec)) scanNothingUptoCard

/-- THE SECOND FORM's CARD OF 'scanfaillaw5.ScanOver'. -/
def scanOverUptoCard : Claim7 := { stood := { row := scanOverUptoRow, standIns := [], harness := (true, "481d6d3d1a5d3caa7f7a445a49c5b29a35eeaf76ad52b82e1444374572c1fabb"), looks := false }, kinds := [], alts := [], laidByText := true, laidKinds := [.data, .data, .data], laidTests := true, laidLooks := .later }
def ScanOverUptoCardSaid : Prop := Claim7.holds Tryd.pinned (.plain (OpenSpec.upto scanOverSpec)) scanOverUptoCard

/-- THE SECOND FORM's CARD OF 'scanfaillaw5.ScanArbno'. -/
def scanArbnoUptoCard : Claim7 := { stood := { row := scanArbnoUptoRow, standIns := [], harness := (true, "481d6d3d1a5d3caa7f7a445a49c5b29a35eeaf76ad52b82e1444374572c1fabb"), looks := false }, kinds := [], alts := [], laidByText := true, laidKinds := [.data, .data, .data], laidTests := true, laidLooks := .later }
def ScanArbnoUptoCardSaid : Prop := Claim7.holds Tryd.pinned (.plain (OpenSpec.upto scanArbnoSpec)) scanArbnoUptoCard

/-- THE SECOND FORM's CARD OF 'scanfaillaw5.ScanLens'. -/
def scanLensUptoCard : Claim7 := { stood := { row := scanLensUptoRow, standIns := [], harness := (true, "481d6d3d1a5d3caa7f7a445a49c5b29a35eeaf76ad52b82e1444374572c1fabb"), looks := false }, kinds := [], alts := [], laidByText := true, laidKinds := [.data, .data, .data], laidTests := true, laidLooks := .later }
def ScanLensUptoCardSaid : Prop := Claim7.holds Tryd.pinned (.plain (OpenSpec.upto scanLensSpec)) scanLensUptoCard

/-- THE SECOND FORM's CARD OF 'scanfaillaw5.ScanSpans'. -/
def scanSpansUptoCard : Claim7 := { stood := { row := scanSpansUptoRow, standIns := [], harness := (true, "481d6d3d1a5d3caa7f7a445a49c5b29a35eeaf76ad52b82e1444374572c1fabb"), looks := false }, kinds := [], alts := [], laidByText := true, laidKinds := [.data, .data, .data], laidTests := true, laidLooks := .later }
def ScanSpansUptoCardSaid : Prop := Claim7.holds Tryd.pinned (.plain (OpenSpec.upto scanSpansSpec)) scanSpansUptoCard

/-- THE SECOND FORM's CARD OF 'scanfaillaw5.ScanTabs'. -/
def scanTabsUptoCard : Claim7 := { stood := { row := scanTabsUptoRow, standIns := [], harness := (true, "481d6d3d1a5d3caa7f7a445a49c5b29a35eeaf76ad52b82e1444374572c1fabb"), looks := false }, kinds := [], alts := [], laidByText := true, laidKinds := [.data, .data, .data], laidTests := true, laidLooks := .later }
def ScanTabsUptoCardSaid : Prop := Claim7.holds Tryd.pinned (.plain (OpenSpec.upto scanTabsSpec)) scanTabsUptoCard

/-- THE SECOND FORM's CARD OF 'scanfaillaw5.ScanArb'. -/
def scanArbUptoCard : Claim7 := { stood := { row := scanArbUptoRow, standIns := [], harness := (true, "481d6d3d1a5d3caa7f7a445a49c5b29a35eeaf76ad52b82e1444374572c1fabb"), looks := false }, kinds := [], alts := [], laidByText := true, laidKinds := [.data, .data, .data], laidTests := true, laidLooks := .later }
def ScanArbUptoCardSaid : Prop := Claim7.holds Tryd.pinned (.plain (OpenSpec.upto scanArbSpec)) scanArbUptoCard
end Rows
end Go.Proofs.YtmkldfjcpmoajaaDoor
