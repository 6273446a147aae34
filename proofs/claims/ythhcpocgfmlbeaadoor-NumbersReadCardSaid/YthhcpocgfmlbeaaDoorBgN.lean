/- scanfailbig: Mul into the first factor itself; Set, Abs; Cmp. -/
import Derived.Test.YthhcpocgfmlbeaaDoorBgK
import Derived.Test.YthhcpocgfmlbeaaDoorBgH
namespace Go.Proofs.YthhcpocgfmlbeaaDoor
open Go.RowKit
set_option linter.unusedVariables false
section
variable {w : World} {z x y : Nat} {X Y : Int}
set_option maxRecDepth 100000 in
set_option maxHeartbeats 4000000 in
theorem Abs_own (hz : ObjAt w z) (hx : IntAt w x X) (hn : nw X.natAbs ≤ 1099511627776) :
    Calls Tryd.prog 36 #[.pointer (some ⟨z, 0, none⟩), .pointer (some ⟨x, 0, none⟩)] w fun e w' => e = .returned (.pointer (some ⟨z, 0, none⟩)) ∧ But z w w' ∧ IntAt w' z (X.natAbs : Nat) := by
  have HO := hidd hz
  obtain ⟨p, c, hh, hp⟩ := hx
  obtain ⟨⟨k0, k1⟩, _⟩ := two_cells hh
  have HS := hidd (twin_any hp hn)
  have HV : Hid (∀ w1 p' c', Grew w w1 → WordsAt w1 (.slice p' (nw X.natAbs) c') X.natAbs (nw X.natAbs) → Calls Tryd.prog 54 #[.pointer (some ⟨z, 0, none⟩), .bool false, .slice p' (nw X.natAbs) c'] w1 fun e w' => e = .returned (.pointer (some ⟨z, 0, none⟩)) ∧ But z w1 w' ∧ IntAt w' z (X.natAbs : Nat)) := fun w1 p' c' g h => by
    have := give_any false (HO.out.kept g) h
    exact this
  obtain ⟨n, hn0⟩ : ∃ n, nw X.natAbs = n := ⟨_, rfl⟩
  rw [hn0] at HS HV k1
  clear hz hh hp hn hn0
  go_enter Tryd.func36, Tryd.ntmps36
  go_wp2_with fail
  refine HS.out.mono ?_; rintro e w2 ⟨g2, p2, c2, rfl, hN⟩
  have HN := hidd (And.intro g2 hN)
  clear g2 hN
  go_wp2_with fail
  refine (HV.out _ _ _ HN.out.1 HN.out.2).mono ?_; rintro e w3 ⟨rfl, b3, i3⟩
  have HB := hidd (And.intro b3 i3)
  clear b3 i3
  go_wp2_with fail
  go_ret
  exact ⟨rfl, (But.of_grew HN.out.1).trans HB.out.1, HB.out.2⟩
/-- As two numbers with signs stand. -/
def cmpZ (X Y : Int) : Int := if X < Y then -1 else if X = Y then 0 else 1
end
end Go.Proofs.YthhcpocgfmlbeaaDoor
