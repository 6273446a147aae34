/- The greatest divisor and the root: at every three numbers. -/
import Derived.Test.YthhcpocgfmlbeaaDoorNumAlive
import Derived.Test.YthhcpocgfmlbeaaDoorNumGcd
namespace Go.Proofs.YthhcpocgfmlbeaaDoor
open Go.RowKit
set_option linter.unusedVariables false
theorem dnumR_in {x : Int} (h : In64 x) : numR x = .returned (.tuple #[.int .i64 x, .int .i64 0]) := by rw [numR, numV_in h, numE_in h]
theorem dnumR_out {x : Int} (h : ¬ In64 x) : numR x = .returned (.tuple #[.int .i64 0, .int .i64 3]) := by rw [numR, numV_out h, numE_out h]

/-- What the root is, or that there is none. -/
theorem Root_all (a : Int) (w : World) (ha : In64 a) :
    Calls Tryd.prog 11 #[.int .i64 a] w fun e w' => ((∃ r : Int, e = .returned (.tuple #[.int .i64 r, .int .i64 0]) ∧ 0 ≤ r ∧ r ≤ 3037000499 ∧ r * r ≤ a ∧ (r = 3037000499 ∨ (r < 3037000499 ∧ a < (r + 1) * (r + 1)))) ∨ (e = .returned (.tuple #[.int .i64 0, .int .i64 6]) ∧ a < 0)) ∧ Grew w w' := by
  by_cases h : a < 0
  · exact (Root_neg a w h).mono fun e w' ⟨he, hg⟩ => ⟨Or.inr ⟨he, h⟩, hg⟩
  · exact (Root_any a w (by omega) ha.2).mono fun e w' ⟨r, he, h1, h2, h3, h4, hg⟩ => ⟨Or.inl ⟨r, he, h1, h2, h3, by
      rcases h4 with h4 | h4
      · exact Or.inl h4
      · by_cases hr : r = 3037000499
        · exact Or.inl hr
        · exact Or.inr ⟨by omega, h4⟩⟩, hg⟩

theorem tmod_gcd (a b : Int) : a.tmod (Nat.gcd a.natAbs b.natAbs : Nat) = 0 ∧ b.tmod (Nat.gcd a.natAbs b.natAbs : Nat) = 0 := by
  constructor
  · exact Int.tmod_eq_zero_of_dvd (Int.natAbs_dvd_natAbs.1 (by simpa using Nat.gcd_dvd_left _ _))
  · exact Int.tmod_eq_zero_of_dvd (Int.natAbs_dvd_natAbs.1 (by simpa using Nat.gcd_dvd_right _ _))
theorem tmod_of_both (a b c : Int) (h1 : a.tmod c = 0) (h2 : b.tmod c = 0) : ((Nat.gcd a.natAbs b.natAbs : Nat) : Int).tmod c = 0 := by
  apply Int.tmod_eq_zero_of_dvd
  rw [← Int.natAbs_dvd_natAbs] at *
  exact Nat.dvd_gcd (Int.natAbs_dvd_natAbs.2 (Int.dvd_of_tmod_eq_zero h1)) (Int.natAbs_dvd_natAbs.2 (Int.dvd_of_tmod_eq_zero h2))

set_option maxHeartbeats 2000000 in
theorem NumbersDivide_walk (a b c : Int) (w : World) (ht : TabD w) (ha0 : (Lit.int .i64 a).wf = true) (hb0 : (Lit.int .i64 b).wf = true) (hc0 : (Lit.int .i64 c).wf = true) :
    Calls Tryd.prog 3 #[.int .i64 a, .int .i64 b, .int .i64 c] w fun e w' => e = .returned (.bool true) ∧ Grew w w' := by
  have ha : Hid (In64 a) := bd_i64 ha0
  have hb : Hid (In64 b) := bd_i64 hb0
  clear ha0 hb0 hc0
  obtain ⟨t1, t2⟩ := tmod_gcd a b
  have t3 := tmod_of_both a b c
  have t4 : (Nat.gcd a.natAbs b.natAbs = 0) → a = 0 ∧ b = 0 := fun h => by
    have h1 := Nat.eq_zero_of_gcd_eq_zero_left h
    have h2 := Nat.eq_zero_of_gcd_eq_zero_right h
    omega
  obtain ⟨g, hg⟩ : ∃ g, Nat.gcd a.natAbs b.natAbs = g := ⟨_, rfl⟩
  rw [hg] at t1 t2 t3 t4
  have HG := hidd hg
  clear hg
  by_cases hi : In64 (g : Int)
  · rcases Nat.eq_zero_or_pos g with rfl | g0
    · obtain ⟨rfl, rfl⟩ := t4 rfl
      have HI := hidd hi
      clear hi t3 t4 t1 t2
      go_enter Tryd.func3, Tryd.ntmps3
      go_wp2_with fail
      refine (alive_true w ht).mono ?_; rintro e w1 ⟨rfl, G1⟩
      go_wp2_with fail
      refine (Gcd_any 0 0 w1 ha.out hb.out).mono ?_; rintro e w2 ⟨rfl, G2⟩
      rw [HG.out, dnumR_in HI.out]
      go_wp2_with fail
      refine (Root_all 0 w2 ha.out).mono ?_; rintro e w3 ⟨(⟨r, rfl, r0, r1, r2, r3⟩ | ⟨rfl, r4⟩), G3⟩
      · have hw : 0 ≤ r * r := Int.mul_nonneg r0 r0
        rcases r3 with r3 | ⟨r3, r4⟩
        · exfalso; subst r3; omega
        · have hw2 : (r + 1) * (r + 1) ≤ 9223372030926249001 := by
            have := Int.mul_le_mul (show r + 1 ≤ 3037000499 by omega) (show r + 1 ≤ 3037000499 by omega) (by omega) (by omega)
            omega
          go_wp2_with fail
          go_ret
          exact ⟨rfl, (G1.trans G2).trans G3⟩
      · exact absurd r4 (by decide)
    · have HI := hidd hi
      have hgz : ((g : Int) == 0) = false := by simp; omega
      have hgb : (g : Int) ≤ 9223372036854775807 := hi.2
      clear hi t4
      have K : (c = 0) ∨ ((c == 0) = false ∧ (a.tmod c == 0) = false) ∨ ((c == 0) = false ∧ a.tmod c = 0 ∧ (b.tmod c == 0) = false) ∨ ((c == 0) = false ∧ a.tmod c = 0 ∧ b.tmod c = 0 ∧ (g : Int).tmod c = 0) := by
        by_cases h0 : c = 0
        · exact Or.inl h0
        · by_cases h1 : a.tmod c = 0
          · by_cases h2 : b.tmod c = 0
            · exact Or.inr (Or.inr (Or.inr ⟨by simpa using h0, h1, h2, t3 h1 h2⟩))
            · exact Or.inr (Or.inr (Or.inl ⟨by simpa using h0, h1, by simpa using h2⟩))
          · exact Or.inr (Or.inl ⟨by simpa using h0, by simpa using h1⟩)
      clear t3
      rcases K with rfl | ⟨k1, k2⟩ | ⟨k1, k2, k3⟩ | ⟨k1, k2, k3, k4⟩
      all_goals
        go_enter Tryd.func3, Tryd.ntmps3
        go_wp2_with fail
        refine (alive_true w ht).mono ?_; rintro e w1 ⟨rfl, G1⟩
        go_wp2_with fail
        refine (Gcd_any a b w1 ha.out hb.out).mono ?_; rintro e w2 ⟨rfl, G2⟩
        rw [HG.out, dnumR_in HI.out]
        go_wp2_with fail
        all_goals
          refine (Root_all a w2 ha.out).mono ?_; rintro e w3 ⟨(⟨r, rfl, r0, r1, r2, r3⟩ | ⟨rfl, r4⟩), G3⟩
          · have hw : 0 ≤ r * r := Int.mul_nonneg r0 r0
            have hab := ha.out.2
            rcases r3 with r3 | ⟨r3, r4⟩
            · subst r3
              go_wp2_with fail
              go_ret
              exact ⟨rfl, (G1.trans G2).trans G3⟩
            · have hw2 : (r + 1) * (r + 1) ≤ 9223372030926249001 := by
                have := Int.mul_le_mul (show r + 1 ≤ 3037000499 by omega) (show r + 1 ≤ 3037000499 by omega) (by omega) (by omega)
                omega
              go_wp2_with fail
              go_ret
              exact ⟨rfl, (G1.trans G2).trans G3⟩
          · go_wp2_with fail
            go_ret
            exact ⟨rfl, (G1.trans G2).trans G3⟩
  · have HI := hidd hi
    clear hi t1 t2 t3 t4
    go_enter Tryd.func3, Tryd.ntmps3
    go_wp2_with fail
    refine (alive_true w ht).mono ?_; rintro e w1 ⟨rfl, G1⟩
    go_wp2_with fail
    refine (Gcd_any a b w1 ha.out hb.out).mono ?_; rintro e w2 ⟨rfl, G2⟩
    rw [HG.out, dnumR_out HI.out]
    go_wp2_with fail
    refine (Root_all a w2 ha.out).mono ?_; rintro e w3 ⟨(⟨r, rfl, r0, r1, r2, r3⟩ | ⟨rfl, r4⟩), G3⟩
    · have hw : 0 ≤ r * r := Int.mul_nonneg r0 r0
      have hab := ha.out.2
      rcases r3 with r3 | ⟨r3, r4⟩
      · subst r3
        go_wp2_with fail
        go_ret
        exact ⟨rfl, (G1.trans G2).trans G3⟩
      · have hw2 : (r + 1) * (r + 1) ≤ 9223372030926249001 := by
          have := Int.mul_le_mul (show r + 1 ≤ 3037000499 by omega) (show r + 1 ≤ 3037000499 by omega) (by omega) (by omega)
          omega
        go_wp2_with fail
        go_ret
        exact ⟨rfl, (G1.trans G2).trans G3⟩
    · go_wp2_with fail
      go_ret
      exact ⟨rfl, (G1.trans G2).trans G3⟩
end Go.Proofs.YthhcpocgfmlbeaaDoor
