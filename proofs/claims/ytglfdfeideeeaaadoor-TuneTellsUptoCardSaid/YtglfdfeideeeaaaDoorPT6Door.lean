/- What the rows' lists give (chapter 6, TuneTells alone), and a world for the witness. -/
import Derived.Test.YtglfdfeideeeaaaDoorStBits
import Derived.Test.YtglfdfeideeeaaaDoorScWrong
import Derived.Test.YtglfdfeideeeaaaDoorCards
import Derived.Test.YtglfdfeideeeaaaDoorTie
import Derived.LaidSub
import Derived.Lib.LaidTab
import Derived.ProofKit
import Derived.OpenShut
import Derived.Deep.DeepHandedRow
import Derived.Test.YtglfdfeideeeaaaDoorTnRight
namespace Go.Proofs.YtglfdfeideeeaaaDoor
open Go.RowKit
set_option linter.unusedVariables false
def cellsD : DataW Unit → Array Value
  | .agg l => (l.map fun | .lit (.int k n) => Value.int k n | _ => Value.bool false).toArray
  | _ => #[]
def layCells (d : DataW Unit) : Obj → Obj
  | .cells _ t frozen => .cells (cellsD d) t frozen
  | o => o
def layTabs (h : Array Obj) : Array Obj := h.modify 0 (layCells Rows.laid_math_bits_deBruijn64tab)
noncomputable def laidW (os : Os) : World :=
  { World.holding Tryd.prog os ⟨#[], #[], []⟩ with heap := layTabs (World.holding Tryd.prog os ⟨#[], #[], []⟩).heap }
theorem gTab : Tryd.prog.globalNamed "math/bits.deBruijn64tab" = some 0 := by kernel_rfl
theorem gTabT : (Tryd.prog.globals[0]?).map (·.type) = some 83 := by kernel_rfl
theorem cellsTab : Tryd.prog.cellsOf 83 = 64 := by kernel_rfl
theorem cellsU8 : Tryd.prog.cellsOf 5 = 1 := by kernel_rfl
theorem tabZ_met {W : World} (h3 : laidMet Tryd.prog [("math/bits.deBruijn64tab", Lib.tabData .u8 (Lib.deBruijn64tab.map Int.ofNat))] W) : TabZ W := by
  have h4 := Lib.tabIs_of_head (rest := []) gTab gTabT Tryd.underlying83 Tryd.underlying5 cellsU8 cellsTab h3
  intro j hj
  have h5 := h4.cell gTab j (by simpa [Lib.deBruijn64tab] using hj)
  rw [h5]
  have hj2 : j < Lib.deBruijn64tab.length := hj
  simp [List.getD_eq_getElem?_getD, List.getElem?_eq_getElem hj2]
theorem tabZ_of {W : World} (h : laidMetH Tryd.prog Rows.tuneTellsUptoRow.laid W) : TabZ W :=
  tabZ_met (laidMetH.filter (fun x => x.1 == "math/bits.deBruijn64tab") h)
end Go.Proofs.YtglfdfeideeeaaaDoor

namespace Go.Proofs.YtglfdfeideeeaaaDoor
set_option linter.unusedVariables false
def bareText (k : Int) (t : ByteArray) : ByteArray := if k = 1 ∨ k = 3 ∨ k = 4 ∨ k = 5 ∨ k = 6 ∨ k = 7 then t else ByteArray.empty
def bareNum (k n : Int) : Int := if k = 2 ∨ k = 8 ∨ k = 9 ∨ k = 10 ∨ k = 11 then n else 0
def bareName (k : Int) (m : ByteArray) : ByteArray := if k = 21 ∨ k = 22 ∨ k = 23 ∨ k = 24 then m else ByteArray.empty
mutual
def bareQ : Pat → Pat
  | .mk k t n m l => .mk k (bareText k t) (bareNum k n) (bareName k m) (bareL l)
def bareL : List Pat → List Pat
  | [] => []
  | p :: l => bareQ p :: bareL l
end
theorem bareL_map : ∀ l : List Pat, bareL l = l.map bareQ
  | [] => rfl
  | p :: l => by rw [bareL, bareL_map l]; rfl
theorem makeP_bare (k : Int) (t : ByteArray) (n : Int) (m : ByteArray) (l : List Pat) : makeP k (bareText k t) (bareNum k n) (bareName k m) l = makeP k t n m l := by
  by_cases h : 1 ≤ k ∧ k ≤ 24
  · have hcs : k = 1 ∨ k = 2 ∨ k = 3 ∨ k = 4 ∨ k = 5 ∨ k = 6 ∨ k = 7 ∨ k = 8 ∨ k = 9 ∨ k = 10 ∨ k = 11 ∨ k = 12 ∨ k = 13 ∨ k = 14 ∨ k = 15 ∨ k = 16 ∨ k = 17 ∨ k = 18 ∨ k = 19 ∨ k = 20 ∨ k = 21 ∨ k = 22 ∨ k = 23 ∨ k = 24 := by omega
    rcases hcs with rfl | rfl | rfl | rfl | rfl | rfl | rfl | rfl | rfl | rfl | rfl | rfl | rfl | rfl | rfl | rfl | rfl | rfl | rfl | rfl | rfl | rfl | rfl | rfl <;> simp [makeP, bareText, bareNum, bareName]
  · have e : ∀ t n m, makeP k t n m l = bareP k := fun t n m => by
      unfold makeP
      rw [if_neg (by omega), if_neg (by omega), if_neg (by omega), if_neg (by omega), if_neg (by omega), if_neg (by omega), if_neg (by omega), if_neg (by omega), if_neg (by omega), if_neg (by omega), if_neg (by omega)]
    rw [e, e]
mutual
theorem simple_bare : ∀ p : Pat, simple (bareQ p) = simple p
  | .mk k t n m l => by rw [bareQ, simple, simple, simple_bareL l, makeP_bare]
theorem simple_bareL : ∀ l : List Pat, simpleL (bareL l) = simpleL l
  | [] => rfl
  | p :: l => by rw [bareL, simpleL, simpleL, simple_bare p, simple_bareL l]
end
mutual
theorem bareQ_right : ∀ p : Pat, errW p = 0 → errW (bareQ p) = 0
  | .mk k t n m l, he => by
    have hok := ((errW_iff _).1 he).1
    have hlen : (bareL l).length = l.length := by rw [bareL_map, List.length_map]
    refine (errW_iff _).2 ⟨⟨hok.kind, fun h => ?_, fun h => ?_, fun h => ?_, fun h => ?_, fun h => ?_, fun h => ?_, fun h => ?_⟩, ?_⟩
    · have h : k = 1 := h
      show (bareText k t).size ≤ 65536
      unfold bareText; rw [if_pos (Or.inl h)]; exact hok.lit h
    · have h : k = 3 ∨ k = 4 ∨ k = 5 ∨ k = 6 ∨ k = 7 := h
      show 0 < (bareText k t).size ∧ (bareText k t).size ≤ 65536
      unfold bareText; rw [if_pos (Or.inr h)]; exact hok.text h
    · have h : k = 2 ∨ k = 8 ∨ k = 9 ∨ k = 10 ∨ k = 11 := h
      show 0 ≤ bareNum k n ∧ bareNum k n ≤ 65536
      unfold bareNum; rw [if_pos h]; exact hok.num h
    · show 2 ≤ (bareL l).length ∧ (bareL l).length ≤ 4096
      rw [hlen]; exact hok.many h
    · show (bareL l).length = 1
      rw [hlen]; exact hok.only h
    · have h : k = 21 ∨ k = 22 ∨ k = 23 ∨ k = 24 := h
      show named (bareName k m) = true
      unfold bareName; rw [if_pos h]; exact hok.name h
    · have h1 : l = [] := hok.none h
      show bareL l = []
      rw [h1]; rfl
    · exact bareL_right l ((errW_iff _).1 he).2
theorem bareL_right : ∀ l : List Pat, (∀ q ∈ l, errW q = 0) → ∀ q ∈ bareL l, errW q = 0
  | [], _, q, hq => by simp [bareL] at hq
  | p :: l, he, q, hq => by
    rw [bareL, List.mem_cons] at hq
    rcases hq with rfl | hq
    · exact bareQ_right p (he p (by simp))
    · exact bareL_right l (fun r hr => he r (by simp [hr])) q hq
end
mutual
theorem bare_nodes : ∀ p : Pat, nodesP (bareQ p) = nodesP p
  | .mk k t n m l => by rw [bareQ, nodesP, nodesP, bareL_nodes l]
theorem bareL_nodes : ∀ l : List Pat, nodesL (bareL l) = nodesL l
  | [] => rfl
  | p :: l => by rw [bareL, nodesL, nodesL, bare_nodes p, bareL_nodes l]
end
end Go.Proofs.YtglfdfeideeeaaaDoor

namespace Go.Proofs.YtglfdfeideeeaaaDoor
set_option linter.unusedVariables false
abbrev Fi := (Nat → Bool) × Bool
def catF (s f : Fi) : Fi := if s.2 = true then (fun i => s.1 i || f.1 i, f.2) else s
def altF (s f : Fi) : Fi := (fun i => s.1 i || f.1 i, s.2 || f.2)
def headB (t : ByteArray) : ByteArray := t.extract 0 (min 1 t.size)
def allS : Nat → Bool := fun i => !emptyS i
def firstK (k : Int) (t : ByteArray) (n : Int) (fs : List Fi) : Fi :=
  if k = 1 then (setOf (headB t).data.toList, t.size == 0)
  else if k = 2 then (if n = 0 then (emptyS, true) else (allS, false))
  else if k = 3 ∨ k = 5 then (setOf t.data.toList, false)
  else if k = 4 then ((fun i => !setOf t.data.toList i), false)
  else if k = 6 then ((fun i => !setOf t.data.toList i), true)
  else if k = 10 ∨ k = 11 ∨ k = 16 ∨ k = 23 then (emptyS, true)
  else if k = 14 then ((fun i => allS i && !setOf [41] i), false)
  else if k = 15 ∨ k = 17 then (emptyS, false)
  else if k = 18 then fs.foldl catF (emptyS, true)
  else if k = 19 then fs.foldl altF (emptyS, false)
  else if k = 20 then ((fs.getD 0 (emptyS, true)).1, true)
  else if k = 21 ∨ k = 22 then fs.getD 0 (emptyS, true)
  else (allS, true)
mutual
def firstP : Pat → Fi
  | .mk k t n m l => firstK k t n (firstL l)
def firstL : List Pat → List Fi
  | [] => []
  | p :: l => firstP p :: firstL l
end
theorem firstL_map : ∀ l : List Pat, firstL l = l.map firstP
  | [] => rfl
  | p :: l => by rw [firstL, firstL_map l]; rfl
end Go.Proofs.YtglfdfeideeeaaaDoor
