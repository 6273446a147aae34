/- A text without bytes, and one with some. -/
import Derived.Test.YthhcpocgfmlbeaaDoorBase
namespace Go.Proofs.YthhcpocgfmlbeaaDoor
open Go.RowKit
set_option linter.unusedVariables false

theorem isEmpty_of_size {s : ByteArray} (h : 0 < s.size) : s.toList.isEmpty = false := by
  rw [Lib.toList_data, ← Bool.not_eq_true, List.isEmpty_iff]
  intro e; have := size_data s; rw [e, List.length_nil] at this; omega
theorem nil_of_size {s : ByteArray} (h : s.size = 0) : s.toList = [] := by
  rw [Lib.toList_data]; exact List.eq_nil_of_length_eq_zero (by rw [← size_data]; exact h)

end Go.Proofs.YthhcpocgfmlbeaaDoor
