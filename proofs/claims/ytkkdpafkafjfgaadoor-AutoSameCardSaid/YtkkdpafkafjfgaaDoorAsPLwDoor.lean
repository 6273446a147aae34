/- What the rows' lists give (chapter 7), and a world for the witness. -/
import Derived.Test.YtkkdpafkafjfgaaDoorAsPGlZ
import Derived.Test.YtkkdpafkafjfgaaDoorAsPAuA
import Derived.Test.YtkkdpafkafjfgaaDoorAsStBits
import Derived.Test.YtkkdpafkafjfgaaDoorCards
import Derived.Test.YtkkdpafkafjfgaaDoorTie
import Derived.LaidSub
import Derived.Lib.LaidTab
import Derived.ProofKit
import Derived.OpenShut
import Derived.Deep.DeepHandedRow
import Derived.Test.YtkkdpafkafjfgaaDoorAsPGlX
import Derived.Great.BuildSlice
import Derived.Deep.WholeRow
import Derived.Test.YtkkdpafkafjfgaaDoorAsScTr
import Derived.Test.YtkkdpafkafjfgaaDoorAsScWrong
import Derived.Test.YtkkdpafkafjfgaaDoorAsPAuY
namespace Go.Proofs.YtkkdpafkafjfgaaDoor
open Go.RowKit
set_option linter.unusedVariables false
def cellsD : DataW Unit → Array Value
  | .agg l => (l.map fun | .lit (.int k n) => Value.int k n | _ => Value.bool false).toArray
  | _ => #[]
def layCells (d : DataW Unit) : Obj → Obj
  | .cells _ t frozen => .cells (cellsD d) t frozen
  | o => o
def layTabs (h : Array Obj) : Array Obj :=
  let h1 := h.modify 0 (layCells Rows.laid_math_bits_deBruijn32tab)
  let h2 := h1.modify 1 (layCells Rows.laid_math_bits_deBruijn64tab)
  h2.modify 3 (layCells Rows.laid_internal_strconv_uint64pow10)
noncomputable def laidW (os : Os) : World :=
  { World.holding Tryd.prog os ⟨#[], #[], []⟩ with heap := layTabs (World.holding Tryd.prog os ⟨#[], #[], []⟩).heap }
theorem gTab32 : Tryd.prog.globalNamed "math/bits.deBruijn32tab" = some 0 := by kernel_rfl
theorem gTab32T : (Tryd.prog.globals[0]?).map (·.type) = some 143 := by kernel_rfl
theorem cellsTab32 : Tryd.prog.cellsOf 143 = 32 := by kernel_rfl
theorem cellsU8x : Tryd.prog.cellsOf 5 = 1 := by kernel_rfl
theorem tab32_met {W : World} (h3 : laidMet Tryd.prog [("math/bits.deBruijn32tab", Lib.tabData .u8 (Lib.deBruijn32tab.map Int.ofNat))] W) : TabZ32 W := by
  have h4 := Lib.tabIs_of_head (rest := []) gTab32 gTab32T Tryd.underlying143 Tryd.underlying5 cellsU8x cellsTab32 h3
  intro j hj
  have h5 := h4.cell gTab32 j (by simpa [Lib.deBruijn32tab] using hj)
  rw [h5]
  have hj2 : j < Lib.deBruijn32tab.length := hj
  simp [List.getD_eq_getElem?_getD, List.getElem?_eq_getElem hj2]
theorem tab32_same {W : World} (h : laidMetH Tryd.prog Rows.autoSameRow.laid W) : TabZ32 W :=
  tab32_met (laidMetH.filter (fun x => x.1 == "math/bits.deBruijn32tab") h)
theorem gTab64 : Tryd.prog.globalNamed "math/bits.deBruijn64tab" = some 1 := by kernel_rfl
theorem gTab64T : (Tryd.prog.globals[1]?).map (·.type) = some 229 := by kernel_rfl
theorem cellsTab64 : Tryd.prog.cellsOf 229 = 64 := by kernel_rfl
theorem tabZ_met {W : World} (h3 : laidMet Tryd.prog [("math/bits.deBruijn64tab", Lib.tabData .u8 (Lib.deBruijn64tab.map Int.ofNat))] W) : TabZ W := by
  have h4 := Lib.tabIs_of_head (rest := []) gTab64 gTab64T Tryd.underlying229 Tryd.underlying5 cellsU8x cellsTab64 h3
  intro j hj
  have h5 := h4.cell gTab64 j (by simpa [Lib.deBruijn64tab] using hj)
  rw [h5]
  have hj2 : j < Lib.deBruijn64tab.length := hj
  simp [List.getD_eq_getElem?_getD, List.getElem?_eq_getElem hj2]
theorem tabz_same {W : World} (h : laidMetH Tryd.prog Rows.autoSameRow.laid W) : TabZ W :=
  tabZ_met (laidMetH.filter (fun x => x.1 == "math/bits.deBruijn64tab") h)
end Go.Proofs.YtkkdpafkafjfgaaDoor

namespace Go.Proofs.YtkkdpafkafjfgaaDoor
open Go.RowKit RR
set_option linter.unusedVariables false
set_option maxRecDepth 100000
set_option linter.unusedSimpArgs false
section
variable {ops : Array Oper} {rest : List Oper} {o : Oper} {a : Act} {w : World} {Q : Exit → Act → World → Prop}
end
end Go.Proofs.YtkkdpafkafjfgaaDoor

namespace Go.Proofs.YtkkdpafkafjfgaaDoor
open Tr
set_option linter.unusedVariables false
section
variable {R : List Rule} {s : ByteArray} {fuel : Nat} {m : MS} {T : Tr}
def more (x : Way) : List Way × Bool × Int → List Way × Bool × Int
  | (l, c, e) => if e = 0 then (x :: l, c, 0) else ([], false, e)
def after (d : List Way) : List Way × Bool × Int → List Way × Bool × Int
  | (l, c, e) => if e = 0 then (d ++ l, c, 0) else ([], false, e)
end
end Go.Proofs.YtkkdpafkafjfgaaDoor
namespace Go.Proofs.YtkkdpafkafjfgaaDoor
open Tr
set_option linter.unusedVariables false
section
variable (R : List Rule) (s : ByteArray)
end
end Go.Proofs.YtkkdpafkafjfgaaDoor
namespace Go.Proofs.YtkkdpafkafjfgaaDoor
open Tr
set_option linter.unusedVariables false
section
variable {R : List Rule} {s : ByteArray}
end
end Go.Proofs.YtkkdpafkafjfgaaDoor
namespace Go.Proofs.YtkkdpafkafjfgaaDoor
open Tr
set_option linter.unusedVariables false
namespace Tr
end Tr
section
variable {R : List Rule} {s : ByteArray}
end
end Go.Proofs.YtkkdpafkafjfgaaDoor
namespace Go.Proofs.YtkkdpafkafjfgaaDoor
open Tr
set_option linter.unusedVariables false
section
variable {R : List Rule} {s : ByteArray}
end
end Go.Proofs.YtkkdpafkafjfgaaDoor

namespace Go.Proofs.YtkkdpafkafjfgaaDoor
set_option linter.unusedVariables false
mutual
def nodesP : Pat → Nat
  | .mk _ _ _ _ l => 1 + nodesL l
def nodesL : List Pat → Nat
  | [] => 0
  | p :: l => nodesP p + nodesL l
end
mutual
def depthP : Pat → Nat
  | .mk _ _ _ _ l => 1 + depthL l
def depthL : List Pat → Nat
  | [] => 0
  | p :: l => max (depthP p) (depthL l)
end
theorem nodesP_pos (p : Pat) : 1 ≤ nodesP p := by cases p; rw [nodesP]; omega
theorem depthP_pos (p : Pat) : 1 ≤ depthP p := by cases p; rw [depthP]; omega
theorem nodesP_eq (p : Pat) : nodesP p = 1 + nodesL p.kids := by cases p; rfl
theorem depthP_eq (p : Pat) : depthP p = 1 + depthL p.kids := by cases p; rfl
theorem nodesL_append (a b : List Pat) : nodesL (a ++ b) = nodesL a + nodesL b := by
  induction a with
  | nil => simp [nodesL]
  | cons x a ih => rw [List.cons_append, nodesL, nodesL, ih]; omega
theorem depthL_append (a b : List Pat) : depthL (a ++ b) = max (depthL a) (depthL b) := by
  induction a with
  | nil => simp [depthL]
  | cons x a ih => rw [List.cons_append, depthL, depthL, ih]; omega
theorem length_le_nodes (l : List Pat) : l.length ≤ nodesL l := by
  induction l with
  | nil => simp [nodesL]
  | cons x l ih => have := nodesP_pos x; rw [nodesL, List.length_cons]; omega
mutual
theorem sizeW_fits : ∀ (p : Pat) (d N D : Nat), 1 ≤ d → N + nodesP p ≤ 4096 → d + depthP p ≤ 201 → sizeW p d N D = (true, N + nodesP p, max D (d + depthP p - 1))
  | .mk k t n m l, d, N, D, hd, h1, h2 => by
    rw [nodesP] at h1 ⊢
    rw [depthP] at h2 ⊢
    rw [sizeW, if_pos (by omega), sizeL_fits l (d + 1) (N + 1) (max D d) (by omega) (by omega) (by omega)]
    have e1 : N + 1 + nodesL l = N + (1 + nodesL l) := by omega
    have e2 : (if l = [] then max D d else max (max D d) (d + 1 + depthL l - 1)) = max D (d + (1 + depthL l) - 1) := by
      split
      · rename_i e; subst e; rw [depthL]; omega
      · omega
    rw [e1, e2]
theorem sizeL_fits : ∀ (l : List Pat) (d N D : Nat), 1 ≤ d → N + nodesL l ≤ 4096 → d + depthL l ≤ 201 → sizeL l d N D = (true, N + nodesL l, if l = [] then D else max D (d + depthL l - 1))
  | [], d, N, D, hd, h1, h2 => rfl
  | p :: l, d, N, D, hd, h1, h2 => by
    rw [nodesL] at h1 ⊢
    rw [depthL] at h2 ⊢
    rw [sizeL, sizeW_fits p d N D hd (by omega) (by omega)]
    dsimp only
    rw [sizeL_fits l d (N + nodesP p) (max D (d + depthP p - 1)) hd (by omega) (by omega), if_neg (List.cons_ne_nil p l)]
    have := depthP_pos p
    have e1 : N + nodesP p + nodesL l = N + (nodesP p + nodesL l) := by omega
    have e2 : (if l = [] then max D (d + depthP p - 1) else max (max D (d + depthP p - 1)) (d + depthL l - 1)) = max D (d + max (depthP p) (depthL l) - 1) := by
      split
      · rename_i e; subst e; rw [depthL]; omega
      · omega
    rw [e1, e2]
end
mutual
theorem fits_sizeW : ∀ (p : Pat) (d N D : Nat), 1 ≤ d → (sizeW p d N D).1 = true → N + nodesP p ≤ 4096 ∧ d + depthP p ≤ 201
  | .mk k t n m l, d, N, D, hd, h => by
    rw [sizeW] at h
    split at h
    · rename_i h1
      have := fits_sizeL l (d + 1) (N + 1) (max D d) (by omega) (by omega) (by omega) h
      rw [nodesP, depthP]; omega
    · simp at h
theorem fits_sizeL : ∀ (l : List Pat) (d N D : Nat), 1 ≤ d → N ≤ 4096 → d ≤ 201 → (sizeL l d N D).1 = true → N + nodesL l ≤ 4096 ∧ d + depthL l ≤ 201
  | [], d, N, D, hd, hN, hd2, h => by rw [nodesL, depthL]; omega
  | p :: l, d, N, D, hd, hN, hd2, h => by
    rw [sizeL] at h
    obtain ⟨b, N', D', e⟩ : ∃ b N' D', sizeW p d N D = (b, N', D') := ⟨_, _, _, rfl⟩
    rw [e] at h
    cases b with
    | false => simp at h
    | true =>
      have h1 := fits_sizeW p d N D hd (by rw [e])
      rw [sizeW_fits p d N D hd h1.1 h1.2] at e
      cases e
      have h2 := fits_sizeL l d (N + nodesP p) _ hd (by omega) hd2 h
      rw [nodesL, depthL]; omega
end
theorem size_iff (p : Pat) : (sizeW p 1 0 0).1 = true ↔ nodesP p ≤ 4096 ∧ depthP p ≤ 200 := by
  constructor
  · intro h
    have := fits_sizeW p 1 0 0 (by omega) h
    omega
  · intro h
    rw [sizeW_fits p 1 0 0 (by omega) (by omega) (by omega)]
end Go.Proofs.YtkkdpafkafjfgaaDoor
