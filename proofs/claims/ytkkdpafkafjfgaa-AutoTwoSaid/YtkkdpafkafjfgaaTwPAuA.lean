/- Whether an automaton takes a text: the program's Accepts. -/
import Derived.Test.YtkkdpafkafjfgaaTwAuY
import Derived.Test.YtkkdpafkafjfgaaTwAuQ
import Derived.Deep.RegionHeld3
import Derived.Shelf.SlGeneric
import Derived.Shelf.SlicesE.Reverse
import Derived.Test.YtkkdpafkafjfgaaProg
import Derived.Test.YtkkdpafkafjfgaaTwBase
import Derived.Sort.Row
import Derived.Lib.Builder
import Derived.Lib.Strings
import Derived.Lib.Slices
import Derived.Lib.Walk
import Derived.OwnWalk
import Derived.Laws.Externs
import Derived.Test.YtkkdpafkafjfgaaTwAuS
import Derived.Test.YtkkdpafkafjfgaaTwAuN
namespace Go.Proofs.Ytkkdpafkafjfgaa
open Go.RowKit
set_option linter.unusedVariables false
theorem info_aut : (Try.prog.info? 26).map (·.size) = some 258 := by kernel_rfl
theorem wpList_load_aut {ops : Array Oper} {rest : List Oper} {o : Oper} {a : Act} {w : World} {Q : Exit → Act → World → Prop} (hgd : o.guard = none) {x : Operand} (ho : o.op = .load 26 x) {b : Nat} {av : Array Value} (hx : a.eval x = .pointer (some ⟨b, 0, none⟩)) (hA : w.heap[b]? = some (.cells av 26 (0, 0))) (hs : av.size = 258)
    (h : wpList Try.prog ops Q rest (a.put o.dst (.agg av)) w) : wpList Try.prog ops Q (o :: rest) a w := by
  refine wpList_plain hgd fun _ hK => ?_
  have hl := run_loadVar_row (P := Try.prog) w b 26 26 av (0, 0) _ hA Try.underlying26 rfl (by rw [hs]; exact info_aut)
  unfold Oper.wp execOp
  simp only [ho, hx, Instr.loadAt, Instr.sureAddr, Sem.run_bind, Sem.run_pure, Result.andThen_ok, hl]
  exact hK _ _ h
end Go.Proofs.Ytkkdpafkafjfgaa

namespace Go.Proofs
open Go.Shelf
end Go.Proofs

namespace Go.Proofs.Ytkkdpafkafjfgaa
open Go.RowKit
open Go.Sort (Holds mapBlock ahead putRow holds_putRow holds_ahead)
set_option linter.unusedVariables false
end Go.Proofs.Ytkkdpafkafjfgaa

namespace Go.Proofs.Ytkkdpafkafjfgaa
open Go.RowKit
set_option linter.unusedVariables false
theorem tabC_get (A : Aut) {s c : Nat} (hc : c < 256) : ∀ {i : Nat}, s < i → (tabC A i)[s * 256 + c]? = some (.int .i64 (stepI A s c))
  | 0, h => by omega
  | i + 1, h => by
    rw [tabC_succ]
    by_cases hs : s < i
    · rw [List.getElem?_append_left (by rw [tabC_length]; omega)]
      exact tabC_get A hc hs
    · obtain rfl : s = i := by omega
      rw [List.getElem?_append_right (by rw [tabC_length]; omega), tabC_length, Nat.add_sub_cancel_left, Array.getElem?_toList, rowI_get _ hc]
theorem stepI_nat {A : Aut} (h : RightA A) (hc : A.cls.length = 256) {s c : Nat} (hs : s < A.next.length) (hb : c < 256) : stepI A s c = (stepA A s c : Nat) ∧ stepA A s c < A.next.length := by
  have := (h.to hc hs hb).2
  unfold stepA
  unfold stepI
  omega
end Go.Proofs.Ytkkdpafkafjfgaa

namespace Go.Proofs.Ytkkdpafkafjfgaa
open Go.RowKit
set_option linter.unusedVariables false
end Go.Proofs.Ytkkdpafkafjfgaa

namespace Go.Proofs.Ytkkdpafkafjfgaa
set_option linter.unusedVariables false
end Go.Proofs.Ytkkdpafkafjfgaa

namespace Go.Proofs.Ytkkdpafkafjfgaa
set_option linter.unusedVariables false
section
variable {α : Type} [DecidableEq α]
end
def clsN (C : RA) : Nat := (fsts (colA C) 256).length
end Go.Proofs.Ytkkdpafkafjfgaa
