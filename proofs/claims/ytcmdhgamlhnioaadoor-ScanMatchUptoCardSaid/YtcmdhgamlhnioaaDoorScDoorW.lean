/- What the rows' lists give, and a world for the witness. -/
import Derived.Test.YtcmdhgamlhnioaaDoorScWays
import Derived.Test.YtcmdhgamlhnioaaDoorCards
import Derived.Test.YtcmdhgamlhnioaaDoorTie
import Derived.LaidSub
import Derived.Lib.LaidTab
import Derived.ProofKit
import Derived.OpenShut
import Derived.Deep.DeepHandedRow
namespace Go.Proofs.YtcmdhgamlhnioaaDoor
open Go.RowKit
set_option linter.unusedVariables false

theorem gPow : Tryd.prog.globalNamed "internal/strconv.uint64pow10" = some 1 := by kernel_rfl

/-- The cells of a table of numbers. -/
def cellsD : DataW Unit → Array Value
  | .agg l => (l.map fun | .lit (.int k n) => Value.int k n | _ => Value.bool false).toArray
  | _ => #[]
def layCells (d : DataW Unit) : Obj → Obj
  | .cells _ t frozen => .cells (cellsD d) t frozen
  | o => o
def layTabs (h : Array Obj) : Array Obj :=
  let h1 := h.modify 2 (layCells Rows.laid_math_bits_deBruijn32tab)
  let h2 := h1.modify 3 (layCells Rows.laid_math_bits_deBruijn64tab)
  h2.modify 1 (layCells Rows.laid_internal_strconv_uint64pow10)
noncomputable def laidW (os : Os) : World :=
  { World.holding Tryd.prog os ⟨#[], #[], []⟩ with heap := layTabs (World.holding Tryd.prog os ⟨#[], #[], []⟩).heap }
theorem gPowT : (Tryd.prog.globals[1]?).map (·.type) = some 119 := by kernel_rfl
theorem cellsPow : Tryd.prog.cellsOf 119 = 20 := by kernel_rfl
theorem cellsU64 : Tryd.prog.cellsOf 112 = 1 := by kernel_rfl
theorem tab_of {W : World} (h : laidMetH Tryd.prog Rows.scanWaysUptoRow.laid W) : TabP W := by
  have h2 := laidMetH.filter (fun x => x.1 == "internal/strconv.uint64pow10") h
  have h3 : laidMet Tryd.prog [("internal/strconv.uint64pow10", Lib.tabData .u64 Lib.pow10Tab)] W := h2
  exact Lib.tabIs_of_head (rest := []) gPow gPowT Tryd.underlying119 Tryd.underlying112 cellsU64 cellsPow h3
end Go.Proofs.YtcmdhgamlhnioaaDoor
