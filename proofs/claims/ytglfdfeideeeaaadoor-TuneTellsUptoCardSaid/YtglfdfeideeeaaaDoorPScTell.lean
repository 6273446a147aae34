/- What the machine tells from call to call. Plain. -/
import Derived.Test.YtglfdfeideeeaaaDoorPOwn
import Derived.Test.YtglfdfeideeeaaaDoorScWrong
import Derived.Test.YtglfdfeideeeaaaDoorPScInv
import Derived.Deep.RegionHeld3
import Derived.Deep.RegionLaw
import Derived.Deep.AppendLies
import Derived.StillTactics
import Derived.OwnWalk
import Derived.Deep.DeepMust
import Derived.Test.YtglfdfeideeeaaaDoorScWC
namespace Go.Proofs.YtglfdfeideeeaaaDoor
open Tr
set_option linter.unusedVariables false
section
variable {R : List Rule} {s : ByteArray} {fuel : Nat} {m : MS} {T : Tr}
end
end Go.Proofs.YtglfdfeideeeaaaDoor
namespace Go.Proofs.YtglfdfeideeeaaaDoor
open Tr
set_option linter.unusedVariables false
section
variable (R : List Rule) (s : ByteArray)
end
end Go.Proofs.YtglfdfeideeeaaaDoor
namespace Go.Proofs.YtglfdfeideeeaaaDoor
open Tr
set_option linter.unusedVariables false
section
variable {R : List Rule} {s : ByteArray}
end
end Go.Proofs.YtglfdfeideeeaaaDoor
namespace Go.Proofs.YtglfdfeideeeaaaDoor
open Tr
set_option linter.unusedVariables false
namespace Tr
end Tr
section
variable {R : List Rule} {s : ByteArray}
end
end Go.Proofs.YtglfdfeideeeaaaDoor
namespace Go.Proofs.YtglfdfeideeeaaaDoor
open Tr
set_option linter.unusedVariables false
section
variable {R : List Rule} {s : ByteArray}
end
end Go.Proofs.YtglfdfeideeeaaaDoor

namespace Go.Proofs.YtglfdfeideeeaaaDoor
open Go.RowKit
set_option linter.unusedVariables false
abbrev Far : Type := Nat → Option (Array Value)
section
variable {X : Far} {w0 w : World} {bm : Nat} {rv : Value} {s : ByteArray} {fuel : Nat} {m : MS} {sv cv : Value} {gp : Option Addr} {vs : List Value}
theorem setCell_heap_same {w : World} {b : Nat} {cs : Array Value} {t : TypeId} (h : w.heap[b]? = some (.cells cs t (0, 0))) (i : Nat) (u : Value) : (w.setCell ⟨b, i, none⟩ u).heap[b]? = some (.cells (cs.setIfInBounds i u) t (0, 0)) := by
  simp [World.setCell, Array.getElem?_modify, h]
end
theorem Grew.grown {a w w' : World} (h : Grew a w) {row : Option Nat} (g : w.grownBy w' row) (hr : ∀ b, row = some b → a.heap.size ≤ b) : Grew a w' :=
  ⟨g.os.trans h.os, g.tape.trans h.tape, g.output.trans h.output, Nat.le_trans h.size g.size, fun x hx => by
    rw [g.block x (Nat.lt_of_lt_of_le hx h.size) (fun e => by have := hr x e.symm; omega)]; exact h.block x hx⟩
end Go.Proofs.YtglfdfeideeeaaaDoor
namespace Go.Proofs.YtglfdfeideeeaaaDoor
open Go.RowKit
set_option linter.unusedVariables false
end Go.Proofs.YtglfdfeideeeaaaDoor

namespace Go.Proofs.YtglfdfeideeeaaaDoor
open Go.RowKit
set_option linter.unusedVariables false
theorem mn_none {n : Nat} (h : n ≠ 0) : manyErr n 0 0 = 5 := by unfold manyErr; rw [if_pos (by omega)]
theorem mn_zero {n : Nat} (h : n = 0) : manyErr n 0 0 = 0 := by unfold manyErr; rw [if_neg (by omega)]
theorem mn_not1 {n : Nat} (h : n ≠ 1) : manyErr n 1 1 = 5 := by unfold manyErr; rw [if_pos (by omega)]
theorem mn_one1 {n : Nat} (h : n = 1) : manyErr n 1 1 = 0 := by unfold manyErr; rw [if_neg (by omega)]
theorem mn_few {n : Nat} (h : n < 2) : manyErr n 2 4096 = 5 := by unfold manyErr; rw [if_pos (by omega)]
theorem mn_two {n : Nat} (h : ¬ n < 2) (k : n ≤ 4096) : manyErr n 2 4096 = 0 := by unfold manyErr; rw [if_neg (by omega)]
theorem Node_any {p : Pat} {kv : Value} {w : World} (hp : PatV w kv p) (hl : p.kids.length ≤ 4096) :
    Calls Tryd.prog 44 #[.agg (p.cells kv)] w fun e w' => e = .returned (.int .i64 (nodeErr p)) ∧ Grew w w' := by
  unfold nodeErr
  by_cases h1 : p.kind < 1
  · rw [if_pos (Or.inl h1)]; exact node_lo hp h1
  by_cases h2 : 24 < p.kind
  · rw [if_pos (Or.inr h2)]; exact node_hi hp h2
  rw [if_neg (by omega)]
  by_cases k1 : p.kind = 1
  · rw [if_pos k1]
    by_cases b : 65536 < p.text.size
    · rw [if_pos b]; exact node_4 hp k1 b
    rw [if_neg b]
    by_cases c : p.kids.length = 0
    · rw [mn_zero c]; exact node_6 hp k1 b c
    · rw [mn_none c]; exact node_5 hp k1 b c
  rw [if_neg k1]
  by_cases k2 : p.kind = 3 ∨ p.kind = 4 ∨ p.kind = 5 ∨ p.kind = 6 ∨ p.kind = 7
  · rw [if_pos k2]
    by_cases b : 65536 < p.text.size
    · rw [if_pos b]; exact node_0 hp k2 b
    rw [if_neg b]
    by_cases e : p.text.size = 0
    · rw [if_pos e]; exact node_1 hp k2 b e
    rw [if_neg e]
    by_cases c : p.kids.length = 0
    · rw [mn_zero c]; exact node_3 hp k2 b e c
    · rw [mn_none c]; exact node_2 hp k2 b e c
  rw [if_neg k2]
  by_cases k3 : p.kind = 2 ∨ p.kind = 8 ∨ p.kind = 9 ∨ p.kind = 10 ∨ p.kind = 11
  · rw [if_pos k3]
    by_cases b : p.n < 0
    · rw [if_pos (Or.inl b)]; exact node_7 hp k3 b
    by_cases e : 65536 < p.n
    · rw [if_pos (Or.inr e)]; exact node_8 hp k3 b e
    rw [if_neg (by omega)]
    by_cases c : p.kids.length = 0
    · rw [mn_zero c]; exact node_10 hp k3 b e c
    · rw [mn_none c]; exact node_9 hp k3 b e c
  rw [if_neg k3]
  by_cases k4 : p.kind = 18 ∨ p.kind = 19
  · rw [if_pos k4]
    by_cases c : p.kids.length < 2
    · rw [mn_few c]; exact node_11 hp k4 c
    · rw [mn_two c hl]; exact node_12 hp k4 c
  rw [if_neg k4]
  by_cases k5 : p.kind = 20
  · rw [if_pos k5]
    by_cases c : p.kids.length = 1
    · rw [mn_one1 c]; exact node_14 hp k5 c
    · rw [mn_not1 c]; exact node_13 hp k5 c
  rw [if_neg k5]
  by_cases k6 : p.kind = 21 ∨ p.kind = 22
  · rw [if_pos k6]
    by_cases b : named p.name = false
    · rw [if_pos b]; exact node_15 hp k6 b
    rw [if_neg b]
    have b : named p.name = true := by simpa using b
    by_cases c : p.kids.length = 1
    · rw [mn_one1 c]; exact node_17 hp k6 b c
    · rw [mn_not1 c]; exact node_16 hp k6 b c
  rw [if_neg k6]
  by_cases k7 : p.kind = 23 ∨ p.kind = 24
  · rw [if_pos k7]
    by_cases b : named p.name = false
    · rw [if_pos b]; exact node_18 hp k7 b
    rw [if_neg b]
    have b : named p.name = true := by simpa using b
    by_cases c : p.kids.length = 0
    · rw [mn_zero c]; exact node_20 hp k7 b c
    · rw [mn_none c]; exact node_19 hp k7 b c
  rw [if_neg k7]
  have k8 : p.kind = 12 ∨ p.kind = 13 ∨ p.kind = 14 ∨ p.kind = 15 ∨ p.kind = 16 ∨ p.kind = 17 := by omega
  by_cases c : p.kids.length = 0
  · rw [mn_zero c]; exact node_22 hp k8 c
  · rw [mn_none c]; exact node_21 hp k8 c
end Go.Proofs.YtglfdfeideeeaaaDoor
