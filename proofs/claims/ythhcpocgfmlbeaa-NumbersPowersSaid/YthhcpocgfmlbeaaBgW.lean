/- The document's Gcd and Root. -/
import Derived.Test.YthhcpocgfmlbeaaBgV
import Derived.Test.YthhcpocgfmlbeaaBgL
namespace Go.Proofs.Ythhcpocgfmlbeaa
open Go.RowKit
set_option linter.unusedVariables false
set_option maxRecDepth 100000 in
set_option maxHeartbeats 2000000 in
theorem RRoot_any (A : Nat) (w : World) (hA : A ≤ 9223372036854775807) :
    Calls Try.prog 20 #[.int .i64 (A : Nat)] w fun e w' => Grew w w' ∧ ∃ R : Nat, e = numR (R : Nat) ∧ R * R ≤ A ∧ A < (R + 1) * (R + 1) := by
  have HA := hidd (fun w1 => Big_any (A : Nat) (by unfold In64; omega) w1)
  have e0 : decide ((A : Int) < 0) = false := decide_eq_false (by omega)
  have HG := hidd ((Grew.refl w).alloc (.cells #[.bool false, .slice none 0 0] 31))
  have HZ := hidd (obj_new w)
  go_enter Try.func20, Try.ntmps20
  go_wp2_with fail
  refine (HA.out _).mono ?_; rintro e w1 ⟨rfl, g1, i1⟩
  rw [World.size_alloc] at i1 ⊢
  have H1 := hidd (And.intro (HG.out.trans g1) (And.intro (HZ.out.kept g1) i1))
  clear g1 i1
  go_wp2_with fail
  refine (Sqrt_own H1.out.2.1 H1.out.2.2 (by omega) (by omega)).mono ?_; rintro e w2 ⟨rfl, b2, R, i2, r1, r2⟩
  have H2 := hidd (And.intro (b2.grew H1.out.1 (Nat.le_refl _)) (And.intro i2 (And.intro r1 r2)))
  have HR := hidd (numR_def (R : Nat))
  have hR : R < 18446744073709551616 := by have := root_small r1 (by omega); omega
  clear b2 i2 r1 r2
  go_wp2_with fail
  refine (Within_any H2.out.2.1 (nw_small2 hR)).mono ?_; rintro e w4 ⟨he, rfl⟩
  rw [HR.out] at he
  subst he
  go_wp2_with fail
  go_ret2
  exact ⟨H2.out.1, R, HR.out.symm, H2.out.2.2.1, H2.out.2.2.2⟩
set_option maxRecDepth 100000 in
theorem RRoot_neg (a : Int) (w : World) (h : a < 0) :
    Calls Try.prog 20 #[.int .i64 a] w fun e w' => e = .returned (.tuple #[.int .i64 0, .int .i64 6]) ∧ Grew w w' := by
  have e0 : decide (a < 0) = true := decide_eq_true h
  go_enter Try.func20, Try.ntmps20
  go_wp2_with fail
  go_ret2
  exact ⟨rfl, Grew.refl _⟩
set_option maxRecDepth 100000 in
set_option maxHeartbeats 2000000 in
theorem RGcd_any (a b : Int) (w : World) (ha : In64 a) (hb : In64 b) :
    Calls Try.prog 18 #[.int .i64 a, .int .i64 b] w fun e w' => e = numR (Nat.gcd a.natAbs b.natAbs : Nat) ∧ Grew w w' := by
  have HA := hidd (fun w1 => Big_any a ha w1)
  have HB := hidd (fun w1 => Big_any b hb w1)
  have la : a.natAbs < 18446744073709551616 := by obtain ⟨h0, h1⟩ := ha; omega
  have lb : b.natAbs < 18446744073709551616 := by obtain ⟨h0, h1⟩ := hb; omega
  have HG := hidd ((Grew.refl w).alloc (.cells #[.bool false, .slice none 0 0] 31))
  have HZ := hidd (obj_new w)
  have HR := hidd (numR_def (Nat.gcd a.natAbs b.natAbs : Nat))
  clear ha hb
  go_enter Try.func18, Try.ntmps18
  go_wp2_with fail
  refine (HA.out _).mono ?_; rintro e w1 ⟨rfl, g1, i1⟩
  rw [World.size_alloc] at i1 ⊢
  have H1 := hidd (And.intro (HG.out.trans g1) (And.intro (HZ.out.kept g1) i1))
  clear g1 i1
  go_wp2_with fail
  refine (Abs_own H1.out.2.1 H1.out.2.2 (nw_small2 la)).mono ?_; rintro e w2 ⟨rfl, b2, i2⟩
  have H2 := hidd (And.intro (b2.grew H1.out.1 (Nat.le_refl _)) i2)
  have l2 : w.heap.size < w2.heap.size := int_lt i2
  have HGb := hidd ((Grew.refl w2).alloc (.cells #[.bool false, .slice none 0 0] 31))
  have HZb := hidd (obj_new w2)
  clear b2 i2
  go_wp2_with fail
  refine (HB.out _).mono ?_; rintro e w3 ⟨rfl, g3, i3⟩
  rw [World.size_alloc] at i3 ⊢
  have H3 := hidd (And.intro (HGb.out.trans g3) (And.intro (HZb.out.kept g3) i3))
  clear g3 i3
  go_wp2_with fail
  refine (Abs_own H3.out.2.1 H3.out.2.2 (nw_small2 lb)).mono ?_; rintro e w4 ⟨rfl, b4, i4⟩
  have H4 := hidd (And.intro (b4.grew H3.out.1 (Nat.le_refl _)) i4)
  have l4 : w2.heap.size < w4.heap.size := int_lt i4
  have HGc := hidd ((Grew.refl w4).alloc (.cells #[.bool false, .slice none 0 0] 31))
  have HX : Hid (Calls Try.prog 32 #[.pointer (some ⟨w4.heap.size, 0, none⟩), .pointer none, .pointer none, .pointer (some ⟨w.heap.size, 0, none⟩), .pointer (some ⟨w2.heap.size, 0, none⟩)] (w4.alloc (.cells #[.bool false, .slice none 0 0] 31)) fun e w' => e = .returned (.pointer (some ⟨w4.heap.size, 0, none⟩)) ∧ Grew w4 w' ∧ IntAt w' w4.heap.size (Nat.gcd a.natAbs b.natAbs : Nat)) :=
    (GCD_own (obj_new w4) (H2.out.2.kept (H4.out.1.trans HGc.out)) (H4.out.2.kept HGc.out) (by omega) (by omega) la lb).mono fun e w' ⟨he, b5, i5⟩ => ⟨he, b5.grew HGc.out (Nat.le_refl _), i5⟩
  have lg : Nat.gcd a.natAbs b.natAbs < 18446744073709551616 := by
    rcases Nat.eq_zero_or_pos a.natAbs with h | h
    · rw [h, Nat.gcd_zero_left]; exact lb
    · exact Nat.lt_of_le_of_lt (Nat.gcd_le_left _ h) la
  have HNG := hidd (nw_small2 lg)
  clear la lb lg
  go_wp2_with fail
  refine HX.out.mono ?_; rintro e w5 ⟨rfl, g5, i5⟩
  have H5 := hidd (And.intro (H2.out.1.trans (H4.out.1.trans g5)) i5)
  clear g5 i5
  go_wp2_with fail
  refine (Within_any H5.out.2 HNG.out).mono ?_; rintro e w6 ⟨he, rfl⟩
  rw [HR.out] at he
  subst he
  go_wp2_with fail
  go_ret2
  exact ⟨HR.out.symm, H5.out.1⟩
end Go.Proofs.Ythhcpocgfmlbeaa
