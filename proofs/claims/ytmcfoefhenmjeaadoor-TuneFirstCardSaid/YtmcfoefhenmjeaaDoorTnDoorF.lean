/- What the rows' lists give where patterns are looked for (chapter 6). -/
import Derived.Test.YtmcfoefhenmjeaaDoorTnDoor
import Derived.Test.YtmcfoefhenmjeaaDoorTnToldF
namespace Go.Proofs.YtmcfoefhenmjeaaDoor
open Go.RowKit
set_option linter.unusedVariables false
theorem gPow : Tryd.prog.globalNamed "internal/strconv.uint64pow10" = some 2 := by kernel_rfl
theorem gPowT : (Tryd.prog.globals[2]?).map (·.type) = some 148 := by kernel_rfl
theorem cellsPow : Tryd.prog.cellsOf 148 = 20 := by kernel_rfl
theorem cellsU64 : Tryd.prog.cellsOf 34 = 1 := by kernel_rfl
theorem tabs_of {W : World} (h : laidMetH Tryd.prog Rows.tuneSameRow.laid W) : Tabs W := by
  refine ⟨?_, tabZ_met (laidMetH.filter (fun x => x.1 == "math/bits.deBruijn64tab") h)⟩
  have h2 := laidMetH.filter (fun x => x.1 == "internal/strconv.uint64pow10") h
  have h3 : laidMet Tryd.prog [("internal/strconv.uint64pow10", Lib.tabData .u64 Lib.pow10Tab)] W := h2
  exact Lib.tabIs_of_head (rest := []) gPow gPowT Tryd.underlying148 Tryd.underlying34 cellsU64 cellsPow h3
end Go.Proofs.YtmcfoefhenmjeaaDoor
