/- What the rows' lists give (chapter 6), and a world for the witness. -/
import Derived.Test.YtmcfoefhenmjeaaDoorStBits
import Derived.Test.YtmcfoefhenmjeaaDoorScWrong
import Derived.Test.YtmcfoefhenmjeaaDoorCards
import Derived.Test.YtmcfoefhenmjeaaDoorTie
import Derived.LaidSub
import Derived.Lib.LaidTab
import Derived.ProofKit
import Derived.OpenShut
import Derived.Deep.DeepHandedRow
namespace Go.Proofs.YtmcfoefhenmjeaaDoor
open Go.RowKit
set_option linter.unusedVariables false
/-- The cells of a table of numbers. -/
def cellsD : DataW Unit → Array Value
  | .agg l => (l.map fun | .lit (.int k n) => Value.int k n | _ => Value.bool false).toArray
  | _ => #[]
def layCells (d : DataW Unit) : Obj → Obj
  | .cells _ t frozen => .cells (cellsD d) t frozen
  | o => o
def layTabs (h : Array Obj) : Array Obj :=
  let h1 := h.modify 3 (layCells Rows.laid_math_bits_deBruijn32tab)
  let h2 := h1.modify 0 (layCells Rows.laid_math_bits_deBruijn64tab)
  h2.modify 2 (layCells Rows.laid_internal_strconv_uint64pow10)
noncomputable def laidW (os : Os) : World :=
  { World.holding Tryd.prog os ⟨#[], #[], []⟩ with heap := layTabs (World.holding Tryd.prog os ⟨#[], #[], []⟩).heap }
theorem gTab : Tryd.prog.globalNamed "math/bits.deBruijn64tab" = some 0 := by kernel_rfl
theorem gTabT : (Tryd.prog.globals[0]?).map (·.type) = some 137 := by kernel_rfl
theorem cellsTab : Tryd.prog.cellsOf 137 = 64 := by kernel_rfl
theorem cellsU8 : Tryd.prog.cellsOf 5 = 1 := by kernel_rfl
theorem tabZ_met {W : World} (h3 : laidMet Tryd.prog [("math/bits.deBruijn64tab", Lib.tabData .u8 (Lib.deBruijn64tab.map Int.ofNat))] W) : TabZ W := by
  have h4 := Lib.tabIs_of_head (rest := []) gTab gTabT Tryd.underlying137 Tryd.underlying5 cellsU8 cellsTab h3
  intro j hj
  have h5 := h4.cell gTab j (by simpa [Lib.deBruijn64tab] using hj)
  rw [h5]
  have hj2 : j < Lib.deBruijn64tab.length := hj
  simp [List.getD_eq_getElem?_getD, List.getElem?_eq_getElem hj2]
theorem tabZ_of {W : World} (h : laidMetH Tryd.prog Rows.tuneTwiceRow.laid W) : TabZ W :=
  tabZ_met (laidMetH.filter (fun x => x.1 == "math/bits.deBruijn64tab") h)
end Go.Proofs.YtmcfoefhenmjeaaDoor
