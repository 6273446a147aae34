/- scanfailbig: Mul into the first factor itself. -/
import Derived.Test.YthhcpocgfmlbeaaDoorBgK
namespace Go.Proofs.YthhcpocgfmlbeaaDoor
open Go.RowKit
set_option linter.unusedVariables false
section
variable {w : World} {z x y : Nat} {X Y : Int}
set_option maxRecDepth 100000 in
set_option maxHeartbeats 8000000 in
theorem Mul_self (hx : IntAt w x X) (hy : IntAt w y Y) (hn : nw X.natAbs ≤ 1099511627776) (hm : nw Y.natAbs ≤ 1099511627776) :
    Calls Tryd.prog 52 #[.pointer (some ⟨x, 0, none⟩), .pointer (some ⟨x, 0, none⟩), .pointer (some ⟨y, 0, none⟩)] w fun e w' => e = .returned (.pointer (some ⟨x, 0, none⟩)) ∧ But x w w' ∧ IntAt w' x (X * Y) := by
  have HO := hidd hx.obj
  obtain ⟨p, c, hh, hp⟩ := hx
  obtain ⟨q, d, hk, hq⟩ := hy
  obtain ⟨⟨k0, k1⟩, _⟩ := two_cells hh
  obtain ⟨⟨j0, j1⟩, _⟩ := two_cells hk
  have HS : Hid (Calls Tryd.prog 73 #[.slice p (nw X.natAbs) c, .slice q (nw Y.natAbs) d] w.drew fun e w' => Grew w.drew w' ∧ ∃ p' c', e = .returned (.slice p' (nw (X.natAbs * Y.natAbs)) c') ∧ WordsAt w' (.slice p' (nw (X.natAbs * Y.natAbs)) c') (X.natAbs * Y.natAbs) (nw (X.natAbs * Y.natAbs)) ∧ sgI (decide (X < 0) != decide (Y < 0)) (X.natAbs * Y.natAbs) = X * Y) :=
    (mul_any (hp.kept (Grew.refl w).drew) (hq.kept (Grew.refl w).drew) hn hm).mono fun e w' ⟨g, p', c', he, h⟩ => ⟨g, p', c', he, h, by rw [sg_mul, sgI_of, sgI_of]⟩
  obtain ⟨s, hs⟩ : ∃ s, decide (X < 0) = s := ⟨_, rfl⟩
  obtain ⟨t, ht⟩ : ∃ s, decide (Y < 0) = s := ⟨_, rfl⟩
  obtain ⟨n, hn0⟩ : ∃ n, nw X.natAbs = n := ⟨_, rfl⟩
  obtain ⟨m, hm0⟩ : ∃ n, nw Y.natAbs = n := ⟨_, rfl⟩
  rw [hn0] at HS k1
  rw [hm0] at HS j1
  rw [hs] at k0 HS
  rw [ht] at j0 HS
  clear hh hk hp hq hn hm hs ht hn0 hm0
  go_enter Tryd.func52, Tryd.ntmps52
  go_wp2_with fail
  go_region_with
    (first
     | (go_at_call 73; refine HS.out.mono ?_; rintro e w2 ⟨g2, p2, c2, rfl, hN, hZ⟩; have HN := hidd (And.intro g2 (And.intro hN hZ)); have m0 := g2.keeps k0; have m1 := g2.keeps k1; have m2 := g2.keeps j0; have m3 := g2.keeps j1; clear g2 hN hZ)
     | (go_at_call 54; refine (give_any _ (HO.out.kept (((Grew.refl w).drew).trans HN.out.1)) HN.out.2.1).mono ?_; rintro e w3 ⟨rfl, b3, i3⟩; have HB := hidd (And.intro b3 i3); clear b3 i3))
  all_goals
    go_wp2_with fail
    go_ret
    refine ⟨rfl, (But.of_grew (((Grew.refl w).drew).trans HN.out.1)).trans HB.out.1, ?_⟩
    rw [← HN.out.2.2]; exact HB.out.2
end
end Go.Proofs.YthhcpocgfmlbeaaDoor
