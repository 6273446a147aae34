/- With which bytes a pattern may begin, as the program reckons it. Plain. -/
import Derived.Test.YtmcfoefhenmjeaaDoorTnRight
namespace Go.Proofs.YtmcfoefhenmjeaaDoor
set_option linter.unusedVariables false
/-- A set, and whether there may be nothing. -/
abbrev Fi := (Nat → Bool) × Bool
def catF (s f : Fi) : Fi := if s.2 = true then (fun i => s.1 i || f.1 i, f.2) else s
def altF (s f : Fi) : Fi := (fun i => s.1 i || f.1 i, s.2 || f.2)
def headB (t : ByteArray) : ByteArray := t.extract 0 (min 1 t.size)
def allS : Nat → Bool := fun i => !emptyS i
def firstK (k : Int) (t : ByteArray) (n : Int) (fs : List Fi) : Fi :=
  if k = 1 then (setOf (headB t).data.toList, t.size == 0)
  else if k = 2 then (if n = 0 then (emptyS, true) else (allS, false))
  else if k = 3 ∨ k = 5 then (setOf t.data.toList, false)
  else if k = 4 then ((fun i => !setOf t.data.toList i), false)
  else if k = 6 then ((fun i => !setOf t.data.toList i), true)
  else if k = 10 ∨ k = 11 ∨ k = 16 ∨ k = 23 then (emptyS, true)
  else if k = 14 then ((fun i => allS i && !setOf [41] i), false)
  else if k = 15 ∨ k = 17 then (emptyS, false)
  else if k = 18 then fs.foldl catF (emptyS, true)
  else if k = 19 then fs.foldl altF (emptyS, false)
  else if k = 20 then ((fs.getD 0 (emptyS, true)).1, true)
  else if k = 21 ∨ k = 22 then fs.getD 0 (emptyS, true)
  else (allS, true)
mutual
def firstP : Pat → Fi
  | .mk k t n m l => firstK k t n (firstL l)
def firstL : List Pat → List Fi
  | [] => []
  | p :: l => firstP p :: firstL l
end
theorem firstL_map : ∀ l : List Pat, firstL l = l.map firstP
  | [] => rfl
  | p :: l => by rw [firstL, firstL_map l]; rfl
end Go.Proofs.YtmcfoefhenmjeaaDoor
