/- Exponents add up: at every number and two exponents. -/
import Derived.Test.YthhcpocgfmlbeaaDoorNumAlive
import Derived.Test.YthhcpocgfmlbeaaDoorNumPower
namespace Go.Proofs.YthhcpocgfmlbeaaDoor
open Go.RowKit
set_option linter.unusedVariables false

set_option maxHeartbeats 2000000 in
theorem NumbersExponents_walk (a n m : Int) (w : World) (ht : TabD w) (ha0 : (Lit.int .i64 a).wf = true) (hn0 : (Lit.int .i64 n).wf = true) (hm0 : (Lit.int .i64 m).wf = true) :
    Calls Tryd.prog 6 #[.int .i64 a, .int .i64 n, .int .i64 m] w fun e w' => e = .returned (.bool true) ∧ Grew w w' := by
  have ha : Hid (In64 a) := bd_i64 ha0
  clear ha0 hn0 hm0
  by_cases h : n < 0 ∨ m < 0 ∨ 1099511627776 < n ∨ 1099511627776 < m
  · by_cases h1 : n < 0 <;> by_cases h2 : m < 0 <;> by_cases h3 : 1099511627776 < n <;> by_cases h4 : 1099511627776 < m
    all_goals first
      | (exfalso; omega)
      | (clear h
         go_enter Tryd.func6, Tryd.ntmps6
         go_wp2_with fail
         refine (alive_true w ht).mono ?_; rintro e w1 ⟨rfl, G1⟩
         go_wp2_with fail
         go_ret
         exact ⟨rfl, G1⟩)
  · obtain ⟨n, rfl⟩ := Int.eq_ofNat_of_zero_le (show 0 ≤ n by omega)
    obtain ⟨m, rfl⟩ := Int.eq_ofNat_of_zero_le (show 0 ≤ m by omega)
    have hn : n ≤ 1099511627776 := by omega
    have hm : m ≤ 1099511627776 := by omega
    clear h
    have HS : Hid (a ^ (n + m) = a ^ n * a ^ m) := pow_add' a n m
    have HN : Hid ((n : Int) + (m : Int) = ((n + m : Nat) : Int)) := by unfold Hid; omega
    have hnm : Hid (n + m ≤ 9223372036854775807) := by unfold Hid; omega
    obtain ⟨x, hx⟩ : ∃ x, a ^ n = x := ⟨_, rfl⟩
    obtain ⟨y, hy⟩ : ∃ y, a ^ m = y := ⟨_, rfl⟩
    rw [hx, hy] at HS
    have HX := hidd hx
    have HY := hidd hy
    clear hx hy
    have L : (Hid (¬ In64 x) ∧ Hid (¬ In64 y)) ∨ (Hid (In64 x) ∧ Hid (¬ In64 y)) ∨ (Hid (¬ In64 x) ∧ Hid (In64 y)) ∨ (Hid (In64 x) ∧ Hid (In64 y)) := by
      unfold Hid
      by_cases h1 : In64 x <;> by_cases h2 : In64 y <;> simp [h1, h2]
    rcases L with ⟨l1, l2⟩ | ⟨l1, l2⟩ | ⟨l1, l2⟩ | ⟨l1, l2⟩
    all_goals
      go_enter Tryd.func6, Tryd.ntmps6
      go_wp2_with fail
      refine (alive_true w ht).mono ?_; rintro e w1 ⟨rfl, G1⟩
      go_wp2_with fail
      refine (Power_any a n w1 ha.out (by omega)).mono ?_; rintro e w2 ⟨rfl, G2⟩
      rw [HX.out]
      first | rw [pnumR_in l1.out] | rw [pnumR_out l1.out]
      go_wp2_with fail
      refine (Power_any a m w2 ha.out (by omega)).mono ?_; rintro e w3 ⟨rfl, G3⟩
      rw [HY.out]
      first | rw [pnumR_in l2.out] | rw [pnumR_out l2.out]
      go_wp2_with fail
      replace G1 := hidd ((G1.trans G2).trans G3)
      try
        first | rw [HN.out] | skip
        refine (Power_any a (n + m) w3 ha.out hnm.out).mono ?_; rintro e w4 ⟨rfl, G4⟩
        rw [HS.out, numR_def]
        go_wp2_with fail
        refine (Mul_any x y w4 l1.out l2.out).mono ?_; rintro e w5 ⟨rfl, G5⟩
        rw [numR_def]
        go_wp2_with fail
        replace G1 := hidd ((G1.out.trans G4).trans G5)
      go_ret
      exact ⟨rfl, G1.out⟩
end Go.Proofs.YthhcpocgfmlbeaaDoor
