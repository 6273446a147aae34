/- The order of lists of bytes, as the shelf's word for it has it: one of three, turned round, transitive. -/
import Derived.Lib.Bytealg
namespace Go.Proofs.YtgkchdjogfdjaaaDoor
open Go
theorem cmp_range : ∀ (a b : List UInt8), -1 ≤ Lib.compareBytes a b ∧ Lib.compareBytes a b ≤ 1
  | [], [] => by simp [Lib.compareBytes]
  | [], _ :: _ => by simp [Lib.compareBytes]
  | _ :: _, [] => by simp [Lib.compareBytes]
  | a :: as, b :: bs => by
    have := cmp_range as bs
    simp only [Lib.compareBytes]
    split
    · omega
    · split <;> omega
theorem cmp_neg : ∀ (a b : List UInt8), Lib.compareBytes b a = - Lib.compareBytes a b
  | [], [] => by simp [Lib.compareBytes]
  | [], _ :: _ => by simp [Lib.compareBytes]
  | _ :: _, [] => by simp [Lib.compareBytes]
  | a :: as, b :: bs => by
    have := cmp_neg as bs
    simp only [Lib.compareBytes]
    by_cases h1 : a < b
    · have h2 : ¬ b < a := fun h => absurd (UInt8.lt_trans h1 h) (UInt8.lt_irrefl a)
      simp [h1, h2]
    · by_cases h2 : b < a
      · simp [h1, h2]
      · simp [h1, h2, this]
theorem cmp_zero : ∀ (a b : List UInt8), Lib.compareBytes a b = 0 ↔ a = b
  | [], [] => by simp [Lib.compareBytes]
  | [], _ :: _ => by simp [Lib.compareBytes]
  | _ :: _, [] => by simp [Lib.compareBytes]
  | a :: as, b :: bs => by
    have := cmp_zero as bs
    simp only [Lib.compareBytes]
    by_cases h1 : a < b
    · have : a ≠ b := fun h => by subst h; exact absurd h1 (UInt8.lt_irrefl a)
      simp [h1, this]
    · by_cases h2 : b < a
      · have : a ≠ b := fun h => by subst h; exact absurd h2 (UInt8.lt_irrefl a)
        simp [h1, h2, this]
      · have : a = b := by
          rw [UInt8.lt_iff_toNat_lt] at h1 h2
          exact UInt8.toNat_inj.1 (by omega)
        simp [this, cmp_zero as bs]
theorem cmp_trans : ∀ (a b c : List UInt8), Lib.compareBytes a b ≤ 0 → Lib.compareBytes b c ≤ 0 → Lib.compareBytes a c ≤ 0 ∧ (Lib.compareBytes a c < 0 ∨ Lib.compareBytes a b = 0 ∧ Lib.compareBytes b c = 0)
  | [], [], [] => by simp [Lib.compareBytes]
  | [], [], _ :: _ => by simp [Lib.compareBytes]
  | [], _ :: _, [] => by simp [Lib.compareBytes]
  | [], _ :: _, _ :: _ => by simp [Lib.compareBytes]
  | _ :: _, [], _ => by simp [Lib.compareBytes]
  | _ :: _, _ :: _, [] => by simp [Lib.compareBytes]
  | a :: as, b :: bs, c :: cs => by
    have ih := cmp_trans as bs cs
    simp only [Lib.compareBytes]
    simp only [UInt8.lt_iff_toNat_lt]
    intro h1 h2
    by_cases x1 : a.toNat < b.toNat
    · rw [if_pos x1] at h1 ⊢
      by_cases x2 : b.toNat < c.toNat
      · rw [if_pos (show a.toNat < c.toNat by omega)]; omega
      · rw [if_neg x2] at h2 ⊢
        by_cases x3 : c.toNat < b.toNat
        · rw [if_pos x3] at h2; omega
        · rw [if_pos (show a.toNat < c.toNat by omega)]; omega
    · rw [if_neg x1] at h1 ⊢
      by_cases y1 : b.toNat < a.toNat
      · rw [if_pos y1] at h1; omega
      · rw [if_neg y1] at h1 ⊢
        by_cases x2 : b.toNat < c.toNat
        · rw [if_pos (show a.toNat < c.toNat by omega)]; omega
        · rw [if_neg x2] at h2 ⊢
          by_cases x3 : c.toNat < b.toNat
          · rw [if_pos x3] at h2; omega
          · rw [if_neg x3] at h2 ⊢
            rw [if_neg (show ¬ a.toNat < c.toNat by omega), if_neg (show ¬ c.toNat < a.toNat by omega)]
            exact ih h1 h2
end Go.Proofs.YtgkchdjogfdjaaaDoor
