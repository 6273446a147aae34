/- scanfailbig: Neg into the number itself. Printed. -/
import Derived.Test.YthhcpocgfmlbeaaDoorBgN
namespace Go.Proofs.YthhcpocgfmlbeaaDoor
open Go.RowKit
set_option linter.unusedVariables false
section
variable {w : World} {z x y : Nat} {X Y : Int}
set_option maxRecDepth 100000 in
set_option maxHeartbeats 4000000 in
theorem Neg_self (hx : IntAt w x X) (hn : nw X.natAbs ≤ 1099511627776) :
    Calls Tryd.prog 31 #[.pointer (some ⟨x, 0, none⟩), .pointer (some ⟨x, 0, none⟩)] w fun e w' => e = .returned (.pointer (some ⟨x, 0, none⟩)) ∧ But x w w' ∧ IntAt w' x (-X) := by
  have HO := hidd hx.obj
  obtain ⟨p, c, hh, hp⟩ := hx
  obtain ⟨⟨k0, k1⟩, _⟩ := two_cells hh
  have HS := hidd (twin_any (hp.kept (Grew.refl w).drew) hn)
  have HV : Hid (∀ w1 p' c', Grew w.drew w1 → WordsAt w1 (.slice p' (nw X.natAbs) c') X.natAbs (nw X.natAbs) → Calls Tryd.prog 54 #[.pointer (some ⟨x, 0, none⟩), .bool (!decide (X < 0)), .slice p' (nw X.natAbs) c'] w1 fun e w' => e = .returned (.pointer (some ⟨x, 0, none⟩)) ∧ But x w1 w' ∧ IntAt w' x (-X)) := fun w1 p' c' g h => by
    have := give_any (!decide (X < 0)) (HO.out.kept (((Grew.refl w).drew).trans g)) h
    rw [sg_not, sgI_of] at this
    exact this
  obtain ⟨s, hs⟩ : ∃ s, decide (X < 0) = s := ⟨_, rfl⟩
  obtain ⟨n, hn0⟩ : ∃ n, nw X.natAbs = n := ⟨_, rfl⟩
  rw [hn0] at HS HV k1
  rw [hs] at k0 HV
  clear hh hp hn hs hn0
  go_enter Tryd.func31, Tryd.ntmps31
  go_wp2_with fail
  go_region_with
    (first
     | (go_at_call 55; refine HS.out.mono ?_; rintro e w2 ⟨g2, p2, c2, rfl, hN⟩; have HN := hidd (And.intro g2 hN); have m0 := g2.keeps k0; have m1 := g2.keeps k1; clear g2 hN)
     | (go_at_call 54; refine (HV.out _ _ _ HN.out.1 HN.out.2).mono ?_; rintro e w3 ⟨rfl, b3, i3⟩; have HB := hidd (And.intro b3 i3); clear b3 i3))
  all_goals
    go_wp2_with fail
    go_ret
    exact ⟨rfl, (But.of_grew (((Grew.refl w).drew).trans HN.out.1)).trans HB.out.1, HB.out.2⟩
end
end Go.Proofs.YthhcpocgfmlbeaaDoor
