/- numbers.Gcd and numbers.Root: at every number. -/
import Derived.Test.YthhcpocgfmlbeaaNum
namespace Go.Proofs.Ythhcpocgfmlbeaa
open Go.RowKit
set_option linter.unusedVariables false

set_option maxHeartbeats 1000000 in
theorem Gcd_any (a b : Int) (w : World) (ha : In64 a) (hb : In64 b) :
    Calls Try.prog 17 #[.int .i64 a, .int .i64 b] w fun e w' => e = numR (Nat.gcd a.natAbs b.natAbs : Nat) ∧ Grew w w' := by
  have hla := abs_lt ha
  have hlb := abs_lt hb
  obtain ⟨G, hG⟩ : ∃ G, Nat.gcd a.natAbs b.natAbs = G := ⟨_, rfl⟩
  rw [hG]
  have HGG := hidd hG
  clear hG
  go_enter Try.func17, Try.ntmps17
  go_wp2_with fail
  refine (size_any a w ha).mono ?_; rintro e w1 ⟨rfl, rfl⟩
  go_wp2_with fail
  refine (size_any b w1 hb).mono ?_; rintro e w2 ⟨rfl, rfl⟩
  go_wp2_with fail
  go_loopw [6, 7] (fun u6 u7 wr => ∃ x y : Nat, u6 = .int .u64 x ∧ u7 = .int .u64 y ∧ x < 18446744073709551616 ∧ y < 18446744073709551616 ∧ Hid (Nat.gcd x y = G) ∧ Hid (Grew w2 wr)) (fun _ u7 _ => (intOf u7).toNat)
  case atStart => exact ⟨a.natAbs, b.natAbs, rfl, rfl, hla, hlb, HGG, Grew.refl _⟩
  case round =>
    obtain ⟨x, y, rfl, rfl, hx, hy, HE, HG⟩ := hrel
    clear hla hlb ha hb
    rcases Nat.eq_zero_or_pos y with rfl | h0
    · have HX : Hid (x = G) := by have := HE.out; rw [Nat.gcd_zero_right] at this; exact this
      go_wp2_with fail
      refine (signed_any x false wr hx).mono ?_; rintro e w3 ⟨rfl, rfl⟩
      rw [show sgn x false = (x : Int) from rfl, numR_def]
      go_wp2_with fail
      go_ret2
      exact ⟨by rw [← HX.out]; rfl, HG.out⟩
    · have hmod := Nat.mod_lt x h0
      have hyz : ((y : Int) == 0) = false := by simp; omega
      have hm : (x : Int) % (y : Int) = ((x % y : Nat) : Int) := (Int.natCast_emod x y).symm
      obtain ⟨r, hr⟩ : ∃ r, x % y = r := ⟨_, rfl⟩
      rw [hr] at hmod hm
      have HR := hidd hr
      clear hr
      go_wp2_with fail
      go_quiet (fail)
      go_wp2_with fail
      go_roundw
      case rel => exact ⟨y, r, rfl, by rw [hm], hy, by omega, by unfold Hid; rw [← HR.out, Nat.gcd_comm, ← Nat.gcd_rec, Nat.gcd_comm]; exact HE.out, HG.out.drewN _⟩
      case measure => simp [intOf]; omega

theorem Root_neg (a : Int) (w : World) (hn : a < 0) :
    Calls Try.prog 19 #[.int .i64 a] w fun e w' => e = .returned (.tuple #[.int .i64 0, .int .i64 6]) ∧ Grew w w' := by
  go_enter Try.func19, Try.ntmps19
  go_wp2_with fail
  go_ret2
  exact ⟨rfl, Grew.refl _⟩

set_option maxHeartbeats 1000000 in
theorem Root_any (a : Int) (w : World) (h0 : 0 ≤ a) (ha : a ≤ 9223372036854775807) :
    Calls Try.prog 19 #[.int .i64 a] w fun e w' => ∃ r : Int, e = .returned (.tuple #[.int .i64 r, .int .i64 0]) ∧ 0 ≤ r ∧ r ≤ 3037000499 ∧ r * r ≤ a ∧ (r = 3037000499 ∨ a < (r + 1) * (r + 1)) ∧ Grew w w' := by
  go_enter Try.func19, Try.ntmps19
  go_wp2_with fail
  go_loopw [4, 5, 6] (fun u4 u5 _ wr => ∃ lo hi : Int, u4 = .int .i64 lo ∧ u5 = .int .i64 hi ∧ 0 ≤ lo ∧ lo ≤ hi ∧ hi ≤ 3037000499 ∧ Hid (lo * lo ≤ a) ∧ Hid (hi = 3037000499 ∨ a < (hi + 1) * (hi + 1)) ∧ Hid (Grew w wr)) (fun u4 u5 _ _ => (intOf u5 - intOf u4).toNat)
  case atStart => exact ⟨0, 3037000499, rfl, rfl, by omega, by omega, by omega, by unfold Hid; omega, Or.inl rfl, Grew.refl _⟩
  case round =>
    obtain ⟨lo, hi, rfl, rfl, b0, b1, b2, HL, HH, HG⟩ := hrel
    by_cases hlt : lo < hi
    · obtain ⟨m, hm⟩ : ∃ m, (lo + hi + 1) / 2 = m := ⟨_, rfl⟩
      have c1 : lo < m := by omega
      have c2 : m ≤ hi := by omega
      have hw : 0 ≤ m * m := Int.mul_nonneg (by omega) (by omega)
      have hw2 : m * m ≤ 9223372030926249001 := by
        have := Int.mul_le_mul (show m ≤ 3037000499 by omega) (show m ≤ 3037000499 by omega) (by omega) (by omega)
        omega
      by_cases hle : m * m ≤ a
      · go_wp2_with fail
        go_roundw
        case rel => exact ⟨m, hi, by rw [hm], rfl, by omega, by omega, by omega, hle, HH, HG⟩
        case measure => simp only [hm]; simp [intOf]; omega
      · go_wp2_with fail
        go_roundw
        case rel => exact ⟨lo, m - 1, rfl, by first | rfl | rw [hm], by omega, by omega, by omega, HL, Or.inr (by rw [show m - 1 + 1 = m by omega]; omega), HG⟩
        case measure => simp [intOf]; omega
    · go_wp2_with fail
      go_ret2
      have : lo = hi := by omega
      subst this
      exact ⟨_, rfl, b0, b2, HL.out, HH.out, HG.out⟩
end Go.Proofs.Ythhcpocgfmlbeaa
