/- NumbersRead: what the row's list gives. -/
import Derived.Test.YthhcpocgfmlbeaaDoorNumRead
import Derived.Test.YthhcpocgfmlbeaaDoorCards
import Derived.Test.YthhcpocgfmlbeaaDoorTie
import Derived.LaidSub
import Derived.Lib.LaidTab
import Derived.LaidLaws
import Derived.ProofKit
import Derived.OpenShut
import Derived.Deep.DeepHandedRow
import Derived.Deep.DeepLaidRun
namespace Go.Proofs.YthhcpocgfmlbeaaDoor
open Go.RowKit
set_option linter.unusedVariables false
theorem gPow : Tryd.prog.globalNamed "internal/strconv.uint64pow10" = some 2 := by kernel_rfl
theorem gPowT : (Tryd.prog.globals[2]?).map (·.type) = some 117 := by kernel_rfl
theorem cellsPow : Tryd.prog.cellsOf 117 = 20 := by kernel_rfl
theorem cellsU64 : Tryd.prog.cellsOf 36 = 1 := by kernel_rfl
theorem gTab : Tryd.prog.globalNamed "math/bits.deBruijn64tab" = some 7 := by kernel_rfl
theorem gTabT : (Tryd.prog.globals[7]?).map (·.type) = some 133 := by kernel_rfl
theorem cellsTab : Tryd.prog.cellsOf 133 = 64 := by kernel_rfl
theorem cellsU8 : Tryd.prog.cellsOf 5 = 1 := by kernel_rfl
theorem tabZ_met {W : World} (h3 : laidMet Tryd.prog [("math/bits.deBruijn64tab", Lib.tabData .u8 (Lib.deBruijn64tab.map Int.ofNat))] W) : TabZ W := by
  have h4 := Lib.tabIs_of_head (rest := []) gTab gTabT Tryd.underlying133 Tryd.underlying5 cellsU8 cellsTab h3
  intro j hj
  have h5 := h4.cell gTab j (by simpa [Lib.deBruijn64tab] using hj)
  rw [h5]
  have hj2 : j < Lib.deBruijn64tab.length := hj
  simp [List.getD_eq_getElem?_getD, List.getElem?_eq_getElem hj2]
theorem err_met {W : World} {name nm : String} {g : Nat} {d : DataW Unit} {rest : List (String × DataW Unit)} (hg : Tryd.prog.globalNamed name = some g) (hty : (Tryd.prog.globals[g]?).map (·.type) = some 43)
    (h : laidMet Tryd.prog ((name, .iface nm d) :: rest) W) : ∃ tp p, W.var? Tryd.prog name = some #[.iface tp p] := by
  obtain ⟨ps, ⟨g', t', cs, fuel, p, q, hg', ht', hvar, hd, _, _⟩, _⟩ := h
  obtain rfl := Option.some.inj (hg.symm.trans hg')
  obtain rfl := Option.some.inj (hty.symm.trans ht')
  obtain ⟨f2, u, v, hcs, _, _⟩ := iface_of_trod Tryd.underlying43 hd
  refine ⟨u, v, ?_⟩
  rw [hvar, ← Array.toArray_toList (xs := cs), hcs]
theorem turn_of {W : World} (h : laidMetH Tryd.prog Rows.numbersReadRow.laid W) : TurnD W := by
  have h1 : laidMet Tryd.prog [("internal/strconv.uint64pow10", Lib.tabData .u64 Lib.pow10Tab)] W := laidMetH.filter (fun x => x.1 == "internal/strconv.uint64pow10") h
  have h2 : laidMet Tryd.prog [("math/bits.deBruijn64tab", Lib.tabData .u8 (Lib.deBruijn64tab.map Int.ofNat))] W := laidMetH.filter (fun x => x.1 == "math/bits.deBruijn64tab") h
  have h3 : laidMet Tryd.prog [("strconv.ErrSyntax", Rows.laid_strconv_ErrSyntax)] W := laidMetH.filter (fun x => x.1 == "strconv.ErrSyntax") h
  have h4 : laidMet Tryd.prog [("strconv.ErrRange", Rows.laid_strconv_ErrRange)] W := laidMetH.filter (fun x => x.1 == "strconv.ErrRange") h
  exact ⟨Lib.tabIs_of_head (rest := []) gPow gPowT Tryd.underlying117 Tryd.underlying36 cellsU64 cellsPow h1, tabZ_met h2, err_met (g := 0) (by kernel_rfl) (by kernel_rfl) h3, err_met (g := 1) (by kernel_rfl) (by kernel_rfl) h4⟩
/-! A world for the witness. -/
def cell1 : DataW Unit → List Value
  | .lit (.int k n) => [Value.int k n]
  | _ => []
def cells2 : DataW Unit → List Value
  | .agg l => l.flatMap cell1
  | d => cell1 d
def cells3 : DataW Unit → List Value
  | .agg l => l.flatMap cells2
  | d => cell1 d
def layCells (d : DataW Unit) : Obj → Obj
  | .cells _ t frozen => .cells (cells3 d).toArray t frozen
  | o => o
def layValue (v : Value) : Obj → Obj
  | .cells _ t frozen => .cells #[v] t frozen
  | o => o
def layTabs (h : Array Obj) : Array Obj :=
  let n := h.size
  let h1 := h.modify 5 (layCells Rows.laid_unicode_utf8_acceptRanges)
  let h2 := h1.modify 4 (layCells Rows.laid_unicode_utf8_first)
  let h3 := h2.modify 6 (layCells Rows.laid_math_bits_deBruijn32tab)
  let h4 := h3.modify 7 (layCells Rows.laid_math_bits_deBruijn64tab)
  let h5 := h4.modify 2 (layCells Rows.laid_internal_strconv_uint64pow10)
  let h6 := h5.modify 0 (layValue (.iface 128 (.pointer (some ⟨n, 0, none⟩))))
  let h7 := h6.modify 1 (layValue (.iface 128 (.pointer (some ⟨n + 1, 0, none⟩))))
  (h7.push (.cells #[.string ⟨#[105, 110, 118, 97, 108, 105, 100, 32, 115, 121, 110, 116, 97, 120]⟩] 130)).push (.cells #[.string ⟨#[118, 97, 108, 117, 101, 32, 111, 117, 116, 32, 111, 102, 32, 114, 97, 110, 103, 101]⟩] 130)
noncomputable def laidW (os : Os) : World :=
  { World.holding Tryd.prog os ⟨#[], #[], []⟩ with heap := layTabs (World.holding Tryd.prog os ⟨#[], #[], []⟩).heap }
end Go.Proofs.YthhcpocgfmlbeaaDoor
