/- math/bits.Add64 (the model's own entry). -/
import Derived.Test.YthhcpocgfmlbeaaDoorNum
import Derived.Shelf.Spec.BitsCarry
namespace Go.Proofs.YthhcpocgfmlbeaaDoor
open Go.RowKit
set_option linter.unusedVariables false
theorem add_run (x y : Nat) (w : World) :
    (callFunc 42 #[.int .u64 (x : Nat), .int .u64 (y : Nat), .int .u64 0]).run Tryd.prog w = .ok (.value (.tuple #[.int .u64 (((x + y) % 18446744073709551616 : Nat) : Int), .int .u64 (((x + y) / 18446744073709551616 : Nat) : Int)])) w := by
  rw [run_callFunc_extern Tryd.func42 (by kernel_rfl) (by kernel_rfl) (by kernel_rfl) (e := add64Entry) (by kernel_rfl), run_add64 x y 0 (by omega) (by omega) (by omega) (by omega)]
  simp only [Result.andThen]
  congr 5 <;> omega
end Go.Proofs.YthhcpocgfmlbeaaDoor
