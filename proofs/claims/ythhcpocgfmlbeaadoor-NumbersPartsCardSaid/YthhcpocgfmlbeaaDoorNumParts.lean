/- Quotient and rest make the number: at every pair. -/
import Derived.Test.YthhcpocgfmlbeaaDoorNumAlive
namespace Go.Proofs.YthhcpocgfmlbeaaDoor
open Go.RowKit
set_option linter.unusedVariables false

theorem numR_in {x : Int} (h : In64 x) : numR x = .returned (.tuple #[.int .i64 x, .int .i64 0]) := by rw [numR, numV_in h, numE_in h]
theorem numR_out {x : Int} (h : ¬ In64 x) : numR x = .returned (.tuple #[.int .i64 0, .int .i64 3]) := by rw [numR, numV_out h, numE_out h]

theorem Parts_zero (a : Int) (w : World) (ht : TabD w) :
    Calls Tryd.prog 5 #[.int .i64 a, .int .i64 0] w fun e w' => e = .returned (.bool true) ∧ Grew w w' := by
  go_enter Tryd.func5, Tryd.ntmps5
  go_wp2_with fail
  refine (alive_true w ht).mono ?_; rintro e w1 ⟨rfl, G1⟩
  go_wp2_with fail
  refine (Div_none a w1).mono ?_; rintro e w2 ⟨rfl, G2⟩
  go_wp2_with fail
  refine (Rem_none a w2).mono ?_; rintro e w3 ⟨rfl, G3⟩
  go_wp2_with fail
  go_ret
  exact ⟨rfl, (G1.trans G2).trans G3⟩

theorem tmod_facts (a b : Int) (hb : b ≠ 0) : (a < 0 → a.tmod b ≤ 0) ∧ (0 ≤ a → 0 ≤ a.tmod b) ∧ (a.tmod b).natAbs < b.natAbs ∧ a.tdiv b * b + a.tmod b = a ∧ (a.tdiv b * b).natAbs ≤ a.natAbs := by
  have h1 := Int.tdiv_mul_add_tmod a b
  have h2 : (a.tmod b).natAbs = a.natAbs % b.natAbs := Int.natAbs_tmod a b
  have h3 : (a.tdiv b * b).natAbs = a.natAbs / b.natAbs * b.natAbs := by rw [Int.natAbs_mul, Int.natAbs_tdiv]; rfl
  have h4 := Nat.div_mul_le_self a.natAbs b.natAbs
  have h5 := Nat.mod_lt a.natAbs (show 0 < b.natAbs by omega)
  have h6 : 0 ≤ a → 0 ≤ a.tmod b := fun h => Int.tmod_nonneg b h
  have h7 : a < 0 → a.tmod b ≤ 0 := fun h => by
    have := Int.tmod_nonneg b (show 0 ≤ -a by omega)
    rw [Int.neg_tmod] at this; omega
  exact ⟨h7, h6, by omega, h1, by omega⟩

set_option maxHeartbeats 2000000 in
theorem Parts_walk' (a b q r : Int) (w : World) (ha : In64 a) (hb : In64 b) (ht : TabD w) (h0 : b ≠ 0) (hq : Hid (a.tdiv b = q)) (hr : Hid (a.tmod b = r))
    (f1 : a < 0 → r ≤ 0) (f2 : 0 ≤ a → 0 ≤ r) (f3 : r.natAbs < b.natAbs) (f4 : Hid (q * b + r = a)) (f5 : Hid ((q * b).natAbs ≤ a.natAbs)) :
    Calls Tryd.prog 5 #[.int .i64 a, .int .i64 b] w fun e w' => e = .returned (.bool true) ∧ Grew w w' := by
  have hz : (b == 0) = false := by simpa using h0
  have ha' := ha
  have hb' := hb
  obtain ⟨a0, a1⟩ := ha'
  obtain ⟨b0, b1⟩ := hb'
  have hr64 : Hid (In64 r) := by rw [Hid]; unfold In64; omega
  have hA := hidd ha
  have hB := hidd hb
  by_cases hq64 : In64 q
  · have hp : Hid (In64 (q * b)) := by have := f5.out; have := f4.out; rw [Hid]; unfold In64; omega
    have hQ := hidd hq64
    clear hq64 ha hb
    have hcs : (a < 0 ∧ r < 0 ∧ b < 0 ∧ b < r) ∨ (a < 0 ∧ r < 0 ∧ 0 < b ∧ -b < r) ∨ (0 ≤ r ∧ r ≤ 0 ∧ b < 0 ∧ b < r) ∨ (0 ≤ r ∧ r ≤ 0 ∧ 0 < b ∧ r < b ∧ -b < r) ∨ (0 ≤ a ∧ 0 < r ∧ b < 0 ∧ b < -r) ∨ (0 ≤ a ∧ 0 < r ∧ 0 < b ∧ r < b) := by omega
    clear f1 f2 f3
    rcases hcs with ⟨c1, c2, c3, c4⟩ | ⟨c1, c2, c3, c4⟩ | ⟨c1, c2, c3, c4⟩ | ⟨c1, c2, c3, c4, c5⟩ | ⟨c1, c2, c3, c4⟩ | ⟨c1, c2, c3, c4⟩
    all_goals
      go_enter Tryd.func5, Tryd.ntmps5
      go_wp2_with fail
      refine (alive_true w ht).mono ?_; rintro e w1 ⟨rfl, G1⟩
      go_wp2_with fail
      refine (Div_any a b w1 hA.out hB.out h0).mono ?_; rintro e w2 ⟨rfl, G2⟩
      rw [hq.out, numR_in hQ.out]
      go_wp2_with fail
      refine (Rem_any a b w2 hA.out hB.out h0).mono ?_; rintro e w3 ⟨rfl, G3⟩
      rw [hr.out, numR_in hr64.out]
      go_wp2_with fail
      refine (Mul_any q b w3 hQ.out hB.out).mono ?_; rintro e w4 ⟨rfl, G4⟩
      rw [numR_in hp.out]
      go_wp2_with fail
      refine (Add_any (q * b) r w4 hp.out hr64.out).mono ?_; rintro e w5 ⟨rfl, G5⟩
      rw [f4.out, numR_in hA.out]
      go_wp2_with fail
      go_ret
      exact ⟨rfl, (((G1.trans G2).trans G3).trans G4).trans G5⟩
  · have hm : b = -1 ∧ a = -9223372036854775808 := by
      have e := hq.out
      have h2 : q.natAbs = a.natAbs / b.natAbs := by rw [← e, Int.natAbs_tdiv]; rfl
      by_cases hb1 : b.natAbs = 1
      · rcases (show b = 1 ∨ b = -1 by omega) with rfl | rfl
        · exfalso; rw [Int.tdiv_one] at e; subst e; exact hq64 ha
        · rw [show (-1 : Int) = -(1 : Int) from rfl, Int.tdiv_neg, Int.tdiv_one] at e
          unfold In64 at hq64
          exact ⟨rfl, by omega⟩
      · exfalso
        have := Nat.div_le_div_left (show 2 ≤ b.natAbs by omega) (show 0 < 2 by omega) (a := a.natAbs)
        unfold In64 at hq64
        omega
    obtain ⟨rfl, rfl⟩ := hm
    obtain rfl : r = 0 := by omega
    clear ha hb f1 f2 f3 hz
    have hQ := hidd hq64
    clear hq64
    go_enter Tryd.func5, Tryd.ntmps5
    go_wp2_with fail
    refine (alive_true w ht).mono ?_; rintro e w1 ⟨rfl, G1⟩
    go_wp2_with fail
    refine (Div_any _ _ w1 hA.out hB.out h0).mono ?_; rintro e w2 ⟨rfl, G2⟩
    rw [hq.out, numR_out hQ.out]
    go_wp2_with fail
    refine (Rem_any _ _ w2 hA.out hB.out h0).mono ?_; rintro e w3 ⟨rfl, G3⟩
    rw [hr.out, numR_in hr64.out]
    go_wp2_with fail
    go_ret
    exact ⟨rfl, (G1.trans G2).trans G3⟩

theorem NumbersParts_walk (a b : Int) (w : World) (ht : TabD w) (ha : (Lit.int .i64 a).wf = true) (hb : (Lit.int .i64 b).wf = true) :
    Calls Tryd.prog 5 #[.int .i64 a, .int .i64 b] w fun e w' => e = .returned (.bool true) ∧ Grew w w' := by
  by_cases h0 : b = 0
  · subst h0; exact Parts_zero a w ht
  · obtain ⟨f1, f2, f3, f4, f5⟩ := tmod_facts a b h0
    exact Parts_walk' a b _ _ w (bd_i64 ha) (bd_i64 hb) ht h0 rfl rfl f1 f2 f3 f4 f5
end Go.Proofs.YthhcpocgfmlbeaaDoor
