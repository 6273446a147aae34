/- A world for the witness: the tables as the rows' lists have them. -/
import Derived.Test.YtgkchdjogfdjaaaDoorBase
import Derived.Test.YtgkchdjogfdjaaaDoorCards
import Derived.Test.YtgkchdjogfdjaaaDoorTie
import Derived.LaidSub
import Derived.ProofKit
import Derived.OpenShut
import Derived.Deep.DeepHandedRow
import Derived.Deep.DeepLaidRun
namespace Go.Proofs.YtgkchdjogfdjaaaDoor
open Go.RowKit
set_option linter.unusedVariables false

def cell1 : DataW Unit → List Value
  | .lit (.int k n) => [Value.int k n]
  | _ => []
def cells2 : DataW Unit → List Value
  | .agg l => l.flatMap cell1
  | d => cell1 d
def cells3 : DataW Unit → List Value
  | .agg l => l.flatMap cells2
  | d => cell1 d
def layCells (d : DataW Unit) : Obj → Obj
  | .cells _ t frozen => .cells (cells3 d).toArray t frozen
  | o => o
def layTabs (h : Array Obj) : Array Obj :=
  let h1 := h.modify 2 (layCells Rows.laid_unicode_utf8_acceptRanges)
  h1.modify 1 (layCells Rows.laid_unicode_utf8_first)
noncomputable def laidW (os : Os) : World :=
  { World.holding Tryd.prog os ⟨#[], #[], []⟩ with heap := layTabs (World.holding Tryd.prog os ⟨#[], #[], []⟩).heap }
end Go.Proofs.YtgkchdjogfdjaaaDoor
