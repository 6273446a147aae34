/- scanfailbig: Add, Sub, Mul into a number of its own. Printed. -/
import Derived.Test.YthhcpocgfmlbeaaDoorBgG
import Derived.Deep.RegionHeld3
namespace Go.Proofs.YthhcpocgfmlbeaaDoor
open Go.RowKit
set_option linter.unusedVariables false
theorem sg_mul (s t : Bool) (A C : Nat) : sgI (s != t) (A * C) = sgI s A * sgI t C := by
  unfold sgI
  cases s <;> cases t <;> simp [Int.neg_mul, Int.mul_neg]
theorem sg_not (t : Bool) (C : Nat) : sgI (!t) C = -sgI t C := by
  unfold sgI
  cases t <;> simp
section
variable {w : World} {z x y : Nat} {X Y : Int}
set_option maxRecDepth 100000 in
set_option maxHeartbeats 4000000 in
theorem Add_own (hz : ObjAt w z) (hx : IntAt w x X) (hy : IntAt w y Y) (hzx : z ≠ x) (hzy : z ≠ y) (hn : nw X.natAbs ≤ 1099511627776) (hm : nw Y.natAbs ≤ 1099511627776) :
    Calls Tryd.prog 53 #[.pointer (some ⟨z, 0, none⟩), .pointer (some ⟨x, 0, none⟩), .pointer (some ⟨y, 0, none⟩)] w fun e w' => e = .returned (.pointer (some ⟨z, 0, none⟩)) ∧ But z w w' ∧ IntAt w' z (X + Y) := by
  have HO := hidd hz
  obtain ⟨p, c, hh, hp⟩ := hx
  obtain ⟨q, d, hk, hq⟩ := hy
  obtain ⟨⟨k0, k1⟩, _⟩ := two_cells hh
  obtain ⟨⟨j0, j1⟩, _⟩ := two_cells hk
  have HS := hidd (sum_any (w := w.drew) (decide (X < 0)) (decide (Y < 0)) (hp.kept (Grew.refl w).drew) (hq.kept (Grew.refl w).drew) hn hm)
  rw [sgI_of, sgI_of] at HS
  unfold SumEnd at HS
  obtain ⟨s, hs⟩ : ∃ s, decide (X < 0) = s := ⟨_, rfl⟩
  obtain ⟨t, ht⟩ : ∃ s, decide (Y < 0) = s := ⟨_, rfl⟩
  obtain ⟨n, hn0⟩ : ∃ n, nw X.natAbs = n := ⟨_, rfl⟩
  obtain ⟨m, hm0⟩ : ∃ n, nw Y.natAbs = n := ⟨_, rfl⟩
  rw [hn0] at HS k1
  rw [hm0] at HS j1
  rw [hs] at k0 HS
  rw [ht] at j0 HS
  clear hz hh hk hp hq hn hm hs ht hn0 hm0
  go_enter Tryd.func53, Tryd.ntmps53
  go_wp2_with fail
  go_region_held3 (fun w' => w'.cell? ⟨x, 0, none⟩ = some (.bool s) ∧ w'.cell? ⟨x, 1, none⟩ = some (.slice p n c) ∧ w'.cell? ⟨y, 0, none⟩ = some (.bool t) ∧ w'.cell? ⟨y, 1, none⟩ = some (.slice q m d)) (first | go_keep | with_reducible exact hnm | with_reducible exact hnm2)
    (first
     | (go_at_call 74; refine HS.out.mono ?_; rintro e w2 ⟨g2, s2, p2, c2, N, rfl, hN, hZ⟩; have HN := hidd (And.intro g2 (And.intro hN hZ)); have hnm : w2.cell? ⟨x, 0, none⟩ = some (.bool s) ∧ w2.cell? ⟨x, 1, none⟩ = some (.slice p n c) ∧ w2.cell? ⟨y, 0, none⟩ = some (.bool t) ∧ w2.cell? ⟨y, 1, none⟩ = some (.slice q m d) := ⟨g2.keeps k0, g2.keeps k1, g2.keeps j0, g2.keeps j1⟩; clear g2 hN hZ)
     | (go_at_call 54; refine (give_any _ (HO.out.kept (((Grew.refl w).drew).trans HN.out.1)) HN.out.2.1).mono ?_; rintro e w3 ⟨rfl, b3, i3⟩; have hnm2 : w3.cell? ⟨x, 0, none⟩ = some (.bool s) ∧ w3.cell? ⟨x, 1, none⟩ = some (.slice p n c) ∧ w3.cell? ⟨y, 0, none⟩ = some (.bool t) ∧ w3.cell? ⟨y, 1, none⟩ = some (.slice q m d) := ⟨b3.cell (Ne.symm hzx) hnm.1, b3.cell (Ne.symm hzx) hnm.2.1, b3.cell (Ne.symm hzy) hnm.2.2.1, b3.cell (Ne.symm hzy) hnm.2.2.2⟩; have HB := hidd (And.intro b3 i3); clear b3 i3))
  all_goals
    go_wp2_with fail
    go_ret
    refine ⟨rfl, (But.of_grew (((Grew.refl w).drew).trans HN.out.1)).trans HB.out.1, ?_⟩
    rw [← HN.out.2.2]; exact HB.out.2
set_option maxRecDepth 100000 in
set_option maxHeartbeats 4000000 in
theorem Mul_own (hz : ObjAt w z) (hx : IntAt w x X) (hy : IntAt w y Y) (hzx : z ≠ x) (hzy : z ≠ y) (hn : nw X.natAbs ≤ 1099511627776) (hm : nw Y.natAbs ≤ 1099511627776) :
    Calls Tryd.prog 52 #[.pointer (some ⟨z, 0, none⟩), .pointer (some ⟨x, 0, none⟩), .pointer (some ⟨y, 0, none⟩)] w fun e w' => e = .returned (.pointer (some ⟨z, 0, none⟩)) ∧ But z w w' ∧ IntAt w' z (X * Y) := by
  have HO := hidd hz
  obtain ⟨p, c, hh, hp⟩ := hx
  obtain ⟨q, d, hk, hq⟩ := hy
  obtain ⟨⟨k0, k1⟩, _⟩ := two_cells hh
  obtain ⟨⟨j0, j1⟩, _⟩ := two_cells hk
  have HS : Hid (Calls Tryd.prog 73 #[.slice p (nw X.natAbs) c, .slice q (nw Y.natAbs) d] w.drew fun e w' => Grew w.drew w' ∧ ∃ p' c', e = .returned (.slice p' (nw (X.natAbs * Y.natAbs)) c') ∧ WordsAt w' (.slice p' (nw (X.natAbs * Y.natAbs)) c') (X.natAbs * Y.natAbs) (nw (X.natAbs * Y.natAbs)) ∧ sgI (decide (X < 0) != decide (Y < 0)) (X.natAbs * Y.natAbs) = X * Y) :=
    (mul_any (hp.kept (Grew.refl w).drew) (hq.kept (Grew.refl w).drew) hn hm).mono fun e w' ⟨g, p', c', he, h⟩ => ⟨g, p', c', he, h, by rw [sg_mul, sgI_of, sgI_of]⟩
  obtain ⟨s, hs⟩ : ∃ s, decide (X < 0) = s := ⟨_, rfl⟩
  obtain ⟨t, ht⟩ : ∃ s, decide (Y < 0) = s := ⟨_, rfl⟩
  obtain ⟨n, hn0⟩ : ∃ n, nw X.natAbs = n := ⟨_, rfl⟩
  obtain ⟨m, hm0⟩ : ∃ n, nw Y.natAbs = n := ⟨_, rfl⟩
  rw [hn0] at HS k1
  rw [hm0] at HS j1
  rw [hs] at k0 HS
  rw [ht] at j0 HS
  clear hz hh hk hp hq hn hm hs ht hn0 hm0
  go_enter Tryd.func52, Tryd.ntmps52
  go_wp2_with fail
  go_region_held3 (fun w' => w'.cell? ⟨x, 0, none⟩ = some (.bool s) ∧ w'.cell? ⟨x, 1, none⟩ = some (.slice p n c) ∧ w'.cell? ⟨y, 0, none⟩ = some (.bool t) ∧ w'.cell? ⟨y, 1, none⟩ = some (.slice q m d)) (first | go_keep | with_reducible exact hnm | with_reducible exact hnm2)
    (first
     | (go_at_call 73; refine HS.out.mono ?_; rintro e w2 ⟨g2, p2, c2, rfl, hN, hZ⟩; have HN := hidd (And.intro g2 (And.intro hN hZ)); have hnm : w2.cell? ⟨x, 0, none⟩ = some (.bool s) ∧ w2.cell? ⟨x, 1, none⟩ = some (.slice p n c) ∧ w2.cell? ⟨y, 0, none⟩ = some (.bool t) ∧ w2.cell? ⟨y, 1, none⟩ = some (.slice q m d) := ⟨g2.keeps k0, g2.keeps k1, g2.keeps j0, g2.keeps j1⟩; clear g2 hN hZ)
     | (go_at_call 54; refine (give_any _ (HO.out.kept (((Grew.refl w).drew).trans HN.out.1)) HN.out.2.1).mono ?_; rintro e w3 ⟨rfl, b3, i3⟩; have hnm2 : w3.cell? ⟨x, 0, none⟩ = some (.bool s) ∧ w3.cell? ⟨x, 1, none⟩ = some (.slice p n c) ∧ w3.cell? ⟨y, 0, none⟩ = some (.bool t) ∧ w3.cell? ⟨y, 1, none⟩ = some (.slice q m d) := ⟨b3.cell (Ne.symm hzx) hnm.1, b3.cell (Ne.symm hzx) hnm.2.1, b3.cell (Ne.symm hzy) hnm.2.2.1, b3.cell (Ne.symm hzy) hnm.2.2.2⟩; have HB := hidd (And.intro b3 i3); clear b3 i3))
  all_goals
    go_wp2_with fail
    go_ret
    refine ⟨rfl, (But.of_grew (((Grew.refl w).drew).trans HN.out.1)).trans HB.out.1, ?_⟩
    rw [← HN.out.2.2]; exact HB.out.2
end
end Go.Proofs.YthhcpocgfmlbeaaDoor
