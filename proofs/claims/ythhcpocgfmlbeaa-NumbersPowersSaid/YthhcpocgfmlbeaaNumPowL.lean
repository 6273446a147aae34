/- Powers: the plain law. -/
import Derived.Test.YthhcpocgfmlbeaaNum
namespace Go.Proofs.Ythhcpocgfmlbeaa
set_option linter.unusedVariables false

theorem pow_add' (a : Int) (m n : Nat) : a ^ (m + n) = a ^ m * a ^ n := by
  induction n with
  | zero => simp
  | succ n ih => rw [← Nat.add_assoc, Int.pow_succ, Int.pow_succ, ih, Int.mul_assoc]
theorem pow_two_mul (a : Int) (q : Nat) : a ^ (2 * q) = (a * a) ^ q := by
  induction q with
  | zero => simp
  | succ q ih => rw [show 2 * (q + 1) = 2 * q + 1 + 1 by omega, Int.pow_succ, Int.pow_succ, Int.pow_succ, ih, Int.mul_assoc]
theorem sq_pos (a : Int) (h : a ≠ 0) : 1 ≤ a * a := by
  rcases Int.lt_or_gt_of_ne h with h | h
  · have := Int.mul_pos_of_neg_of_neg h h; omega
  · have := Int.mul_pos h h; omega
theorem pow_ge_one (x : Int) (h : 1 ≤ x) (q : Nat) : 1 ≤ x ^ q := by
  induction q with
  | zero => simp
  | succ q ih =>
    rw [Int.pow_succ]
    have := Int.mul_le_mul ih h (by omega) (by omega)
    omega
theorem pow_ge_self (x : Int) (h : 1 ≤ x) (q : Nat) (hq : 1 ≤ q) : x ≤ x ^ q := by
  obtain ⟨r, rfl⟩ : ∃ r, q = r + 1 := ⟨q - 1, by omega⟩
  rw [Int.pow_succ]
  have := Int.mul_le_mul (pow_ge_one x h r) (Int.le_refl x) (by omega) (by have := pow_ge_one x h r; omega)
  omega
theorem out_mul (x y : Int) (hx : ¬ In64 x) (hy : 1 ≤ y) : ¬ In64 (x * y) := by
  unfold In64 at *
  rcases Int.lt_or_le x 0 with h | h
  · have := Int.mul_le_mul_of_nonpos_left (show x ≤ 0 by omega) hy
    omega
  · have := Int.mul_le_mul_of_nonneg_left hy h
    omega
theorem odd_out (o A : Int) (q : Nat) (h : ¬ In64 (o * A)) : ¬ In64 (o * A ^ (2 * q + 1)) := by
  have hA : A ≠ 0 := by rintro rfl; apply h; rw [Int.mul_zero]; decide
  rw [Nat.add_comm, pow_add', pow_two_mul, ← Int.mul_assoc, Int.pow_succ, Int.pow_zero, Int.one_mul]
  exact out_mul _ _ h (pow_ge_one _ (sq_pos A hA) q)
theorem sq_big (A : Int) (h : ¬ In64 (A * A)) : 9223372037000250000 ≤ A * A := by
  have key : ∀ n : Nat, 9223372036854775807 < n * n → 9223372037000250000 ≤ n * n := by
    intro n hn
    have : 3037000500 ≤ n := by
      rcases Nat.lt_or_ge n 3037000500 with h | h
      · have := Nat.mul_le_mul (show n ≤ 3037000499 by omega) (show n ≤ 3037000499 by omega); omega
      · exact h
    exact Nat.le_trans (by decide) (Nat.mul_le_mul this this)
  have e : A * A = ((A.natAbs * A.natAbs : Nat) : Int) := Int.natAbs_mul_self.symm
  rw [e] at h ⊢
  unfold In64 at h
  have := key A.natAbs (by omega)
  omega
theorem sq_out (o A : Int) (q : Nat) (hq : 1 ≤ q) (h : ¬ In64 (A * A)) (ho : o = 0 → A = 0) : ¬ In64 (o * (A * A) ^ q) := by
  have hA : A ≠ 0 := by rintro rfl; apply h; decide
  have ho' : o ≠ 0 := fun e => hA (ho e)
  have h1 := sq_big A h
  have h2 := pow_ge_self (A * A) (sq_pos A hA) q hq
  generalize (A * A) ^ q = B at *
  unfold In64
  rcases Int.lt_or_gt_of_ne ho' with h3 | h3
  · have := Int.mul_le_mul_of_nonneg_right (show o ≤ -1 by omega) (show 0 ≤ B by omega)
    omega
  · have := Int.mul_le_mul_of_nonneg_right (show 1 ≤ o by omega) (show 0 ≤ B by omega)
    omega
end Go.Proofs.Ythhcpocgfmlbeaa
