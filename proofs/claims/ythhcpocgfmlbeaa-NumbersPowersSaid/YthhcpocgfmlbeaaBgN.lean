/- scanfailbig: Mul into the first factor itself; Set, Abs; Cmp. -/
import Derived.Test.YthhcpocgfmlbeaaBgK
import Derived.Test.YthhcpocgfmlbeaaBgH
namespace Go.Proofs.Ythhcpocgfmlbeaa
open Go.RowKit
set_option linter.unusedVariables false
section
variable {w : World} {z x y : Nat} {X Y : Int}
set_option maxRecDepth 100000 in
set_option maxHeartbeats 4000000 in
theorem Set_own (hz : ObjAt w z) (hx : IntAt w x X) (hzx : z ≠ x) (hn : nw X.natAbs ≤ 1099511627776) :
    Calls Try.prog 44 #[.pointer (some ⟨z, 0, none⟩), .pointer (some ⟨x, 0, none⟩)] w fun e w' => e = .returned (.pointer (some ⟨z, 0, none⟩)) ∧ But z w w' ∧ IntAt w' z X := by
  have HO := hidd hz
  obtain ⟨p, c, hh, hp⟩ := hx
  obtain ⟨⟨k0, k1⟩, _⟩ := two_cells hh
  have HS := hidd (twin_any (hp.kept (Grew.refl w).drew) hn)
  have HV : Hid (∀ w1 p' c', Grew w.drew w1 → WordsAt w1 (.slice p' (nw X.natAbs) c') X.natAbs (nw X.natAbs) → Calls Try.prog 36 #[.pointer (some ⟨z, 0, none⟩), .bool (decide (X < 0)), .slice p' (nw X.natAbs) c'] w1 fun e w' => e = .returned (.pointer (some ⟨z, 0, none⟩)) ∧ But z w1 w' ∧ IntAt w' z X) := fun w1 p' c' g h => by
    have := give_any (decide (X < 0)) (HO.out.kept (((Grew.refl w).drew).trans g)) h
    rw [sgI_of] at this
    exact this
  obtain ⟨s, hs⟩ : ∃ s, decide (X < 0) = s := ⟨_, rfl⟩
  obtain ⟨n, hn0⟩ : ∃ n, nw X.natAbs = n := ⟨_, rfl⟩
  rw [hn0] at HS HV k1
  rw [hs] at k0 HV
  clear hz hh hp hn hs hn0
  go_enter Try.func44, Try.ntmps44
  go_wp2_with fail
  go_region_held3 (fun w' => w'.cell? ⟨x, 0, none⟩ = some (.bool s) ∧ w'.cell? ⟨x, 1, none⟩ = some (.slice p n c)) (first | go_keep | with_reducible exact hnm | with_reducible exact hnm2)
    (first
     | (go_at_call 41; refine HS.out.mono ?_; rintro e w2 ⟨g2, p2, c2, rfl, hN⟩; have HN := hidd (And.intro g2 hN); have hnm : w2.cell? ⟨x, 0, none⟩ = some (.bool s) ∧ w2.cell? ⟨x, 1, none⟩ = some (.slice p n c) := ⟨g2.keeps k0, g2.keeps k1⟩; clear g2 hN)
     | (go_at_call 36; refine (HV.out _ _ _ HN.out.1 HN.out.2).mono ?_; rintro e w3 ⟨rfl, b3, i3⟩; have hnm2 : w3.cell? ⟨x, 0, none⟩ = some (.bool s) ∧ w3.cell? ⟨x, 1, none⟩ = some (.slice p n c) := ⟨b3.cell (Ne.symm hzx) hnm.1, b3.cell (Ne.symm hzx) hnm.2⟩; have HB := hidd (And.intro b3 i3); clear b3 i3))
  all_goals
    go_wp2_with fail
    go_ret
    exact ⟨rfl, (But.of_grew (((Grew.refl w).drew).trans HN.out.1)).trans HB.out.1, HB.out.2⟩
set_option maxRecDepth 100000 in
set_option maxHeartbeats 4000000 in
theorem Abs_own (hz : ObjAt w z) (hx : IntAt w x X) (hn : nw X.natAbs ≤ 1099511627776) :
    Calls Try.prog 31 #[.pointer (some ⟨z, 0, none⟩), .pointer (some ⟨x, 0, none⟩)] w fun e w' => e = .returned (.pointer (some ⟨z, 0, none⟩)) ∧ But z w w' ∧ IntAt w' z (X.natAbs : Nat) := by
  have HO := hidd hz
  obtain ⟨p, c, hh, hp⟩ := hx
  obtain ⟨⟨k0, k1⟩, _⟩ := two_cells hh
  have HS := hidd (twin_any hp hn)
  have HV : Hid (∀ w1 p' c', Grew w w1 → WordsAt w1 (.slice p' (nw X.natAbs) c') X.natAbs (nw X.natAbs) → Calls Try.prog 36 #[.pointer (some ⟨z, 0, none⟩), .bool false, .slice p' (nw X.natAbs) c'] w1 fun e w' => e = .returned (.pointer (some ⟨z, 0, none⟩)) ∧ But z w1 w' ∧ IntAt w' z (X.natAbs : Nat)) := fun w1 p' c' g h => by
    have := give_any false (HO.out.kept g) h
    exact this
  obtain ⟨n, hn0⟩ : ∃ n, nw X.natAbs = n := ⟨_, rfl⟩
  rw [hn0] at HS HV k1
  clear hz hh hp hn hn0
  go_enter Try.func31, Try.ntmps31
  go_wp2_with fail
  refine HS.out.mono ?_; rintro e w2 ⟨g2, p2, c2, rfl, hN⟩
  have HN := hidd (And.intro g2 hN)
  clear g2 hN
  go_wp2_with fail
  refine (HV.out _ _ _ HN.out.1 HN.out.2).mono ?_; rintro e w3 ⟨rfl, b3, i3⟩
  have HB := hidd (And.intro b3 i3)
  clear b3 i3
  go_wp2_with fail
  go_ret
  exact ⟨rfl, (But.of_grew HN.out.1).trans HB.out.1, HB.out.2⟩
/-- As two numbers with signs stand. -/
def cmpZ (X Y : Int) : Int := if X < Y then -1 else if X = Y then 0 else 1
set_option maxRecDepth 100000 in
set_option maxHeartbeats 4000000 in
theorem Cmp_own (hx : IntAt w x X) (hy : IntAt w y Y) (h0 : 0 ≤ X) (h1 : 0 ≤ Y) :
    Calls Try.prog 47 #[.pointer (some ⟨x, 0, none⟩), .pointer (some ⟨y, 0, none⟩)] w fun e w' => e = .returned (.int .i64 (cmpI X.natAbs Y.natAbs)) ∧ Grew w w' := by
  obtain ⟨p, c, hh, hp⟩ := hx
  obtain ⟨q, d, hk, hq⟩ := hy
  obtain ⟨⟨k0, k1⟩, _⟩ := two_cells hh
  obtain ⟨⟨j0, j1⟩, _⟩ := two_cells hk
  have HS := hidd (fun k => cmp_any (w := w.drewN k) (hp.kept ((Grew.refl w).drewN k)) (hq.kept ((Grew.refl w).drewN k)))
  rw [decide_eq_false (show ¬ X < 0 by omega)] at k0
  rw [decide_eq_false (show ¬ Y < 0 by omega)] at j0
  obtain ⟨n, hn0⟩ : ∃ n, nw X.natAbs = n := ⟨_, rfl⟩
  obtain ⟨m, hm0⟩ : ∃ n, nw Y.natAbs = n := ⟨_, rfl⟩
  obtain ⟨r, hr⟩ : ∃ r, cmpI X.natAbs Y.natAbs = r := ⟨_, rfl⟩
  rw [hn0, hm0, hr] at HS
  rw [hn0] at k1
  rw [hm0] at j1
  rw [hr]
  clear hh hk hp hq h0 h1 hn0 hm0 hr
  go_enter Try.func47, Try.ntmps47
  go_wp2_with fail
  go_quiet (fail)
  go_wp2_with fail
  go_region_held3 (fun w' => w'.cell? ⟨x, 1, none⟩ = some (.slice p n c) ∧ w'.cell? ⟨y, 1, none⟩ = some (.slice q m d)) (first | go_keep | with_reducible exact hnm)
    (first
     | (go_at_call 51; refine (HS.out _).mono ?_; rintro e w2 ⟨rfl, k, rfl⟩; have hnm : ((w.drewN (nq + 1)).drewN k).cell? ⟨x, 1, none⟩ = some (.slice p n c) ∧ ((w.drewN (nq + 1)).drewN k).cell? ⟨y, 1, none⟩ = some (.slice q m d) := ⟨(((Grew.refl w).drewN _).drewN k).keeps k1, (((Grew.refl w).drewN _).drewN k).keeps j1⟩))
  all_goals
    go_wp2_with fail
    go_ret
    exact ⟨rfl, (Grew.refl w).drewN _⟩
end
end Go.Proofs.Ythhcpocgfmlbeaa
