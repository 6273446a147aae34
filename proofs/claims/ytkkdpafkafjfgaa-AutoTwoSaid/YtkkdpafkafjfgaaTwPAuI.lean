/- The shortest text: how the program remembers where it came from. -/
import Derived.Test.YtkkdpafkafjfgaaTwAuC
import Derived.Test.YtkkdpafkafjfgaaTwAuM
import Derived.Test.YtkkdpafkafjfgaaTwPAuA
import Derived.Test.YtkkdpafkafjfgaaTwShelfB
import Derived.Test.YtkkdpafkafjfgaaTwAuG
namespace Go.Proofs.Ytkkdpafkafjfgaa
open Go.RowKit
set_option linter.unusedVariables false
set_option maxRecDepth 100000
theorem run_zero {t : TypeId} {z : Value} (h : (Try.prog.info? t).map (·.zero) = some (some z)) (w : World) : (zeroValue t).run Try.prog w = .ok z w := by
  cases hq : Try.prog.info? t with
  | none => rw [hq] at h; cases h
  | some i =>
    have hs : i.zero = some z := by simpa [hq] using h
    simp [zeroValue, typeInfo, hq, hs]
def encI : Enc Try.prog 3 Nat := encNat Try.underlying3
theorem keyI : Maps.Keyed Try.prog 3 := Maps.int_keyed Try.underlying3
theorem intsI : ∃ i0, Try.prog.info? 3 = some i0 ∧ i0.zero = some (.int .i64 0) ∧ i0.size = 1 ∧ i0.bytes = 8 := info_parts (show (Try.prog.info? 3).map (fun i => (i.zero, i.size, i.bytes)) = some (some (.int .i64 0), 1, 8) by kernel_rfl)
section
variable {w wr w' : World} {A : Aut} {na : Option Addr} {nc : Nat} {ea : Option Addr} {ec mb : Nat} {L : List (Nat × List UInt8)} {i k : Nat} {qv qv' : Value}
end
end Go.Proofs.Ytkkdpafkafjfgaa

namespace Go.Proofs.Ytkkdpafkafjfgaa
open Go.RowKit
set_option linter.unusedVariables false
theorem info_i64 : (Try.prog.info? 3).map (fun i => (i.zero, i.size, i.bytes)) = some (some (.int .i64 0), 1, 8) := by kernel_rfl
theorem make_ints (n : Nat) (hn : n ≤ 8192) (w : World) : ∃ w', (Instr.makeSlice 41 (.int .i64 (n : Int)) (.int .i64 (n : Int))).run Try.prog w = .ok (.slice (some ⟨w.heap.size, 0, none⟩) n n) w' ∧ ArrAt w' w.heap.size 0 n (fun _ => .int .i64 0) ∧ Grew w w' := by
  obtain ⟨i0, hi, hz0, hz1, hz2⟩ := info_parts info_i64
  exact make_row 41 3 i0 (.int .i64 0) Try.underlying41 hi hz0 hz1 rfl n (by rw [hz2]; omega) (by unfold maxLen; omega) w
end Go.Proofs.Ytkkdpafkafjfgaa

namespace Go.Proofs.Ytkkdpafkafjfgaa
open Go.RowKit
set_option linter.unusedVariables false
theorem run_index_rowA (f : Nat → Int) {i : Nat} (hi : i < 256) (w : World) : (Instr.index 22 (.agg (rowI f)) (.int .i64 i)).run Try.prog w = .ok (.int .i64 (f i)) w :=
  run_index_arrA Try.underlying22 info_int Try.underlying3 rfl hi (rowI_get f hi) w
end Go.Proofs.Ytkkdpafkafjfgaa
