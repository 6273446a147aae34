/- numbers: Add, Sub, size, signed, Mul, Div, Rem: at every number. -/
import Derived.Test.YthhcpocgfmlbeaaDoorBase
import Derived.Test.YthhcpocgfmlbeaaDoorShelfB
namespace Go.Proofs.YthhcpocgfmlbeaaDoor
open Go.RowKit
set_option linter.unusedVariables false

def In64 (x : Int) : Prop := -9223372036854775808 ≤ x ∧ x ≤ 9223372036854775807
instance (x : Int) : Decidable (In64 x) := by unfold In64; infer_instance
/-- An answer that may be no number of 64 bits: the number and 0; or 0 and 3. -/
def numV (x : Int) : Int := if In64 x then x else 0
def numE (x : Int) : Int := if In64 x then 0 else 3
theorem numV_in {x : Int} (h : In64 x) : numV x = x := if_pos h
theorem numE_in {x : Int} (h : In64 x) : numE x = 0 := if_pos h
theorem numV_out {x : Int} (h : ¬ In64 x) : numV x = 0 := if_neg h
theorem numE_out {x : Int} (h : ¬ In64 x) : numE x = 3 := if_neg h
theorem numE_eq0 {x : Int} : numE x = 0 ↔ In64 x := by unfold numE; split <;> simp_all
theorem numE_ne0 {x : Int} (h : ¬ In64 x) : numE x ≠ 0 := by rw [numE_out h]; decide
theorem numV_64 (x : Int) : In64 (numV x) := by unfold numV; split <;> first | assumption | (unfold In64; omega)
def numR (x : Int) : Ending := .returned (.tuple #[.int .i64 (numV x), .int .i64 (numE x)])

theorem numR_def (x : Int) : numR x = .returned (.tuple #[.int .i64 (numV x), .int .i64 (numE x)]) := rfl
theorem Add_any (a b : Int) (w : World) (ha : In64 a) (hb : In64 b) :
    Calls Tryd.prog 12 #[.int .i64 a, .int .i64 b] w fun e w' => e = numR (a + b) ∧ Grew w w' := by
  obtain ⟨ha0, ha1⟩ := ha
  obtain ⟨hb0, hb1⟩ := hb
  by_cases h : In64 (a + b)
  · have HE : Hid (numR (a + b) = .returned (.tuple #[.int .i64 (a + b), .int .i64 0])) := by rw [Hid, numR, numV_in h, numE_in h]
    obtain ⟨h0, h1⟩ := h
    rw [HE.out]
    have hw : IntKind.i64.wrap (a + b) = a + b := by rw [IntKind.wrap_i64]; omega
    go_enter Tryd.func12, Tryd.ntmps12
    go_wp2_with fail
    all_goals go_ret2
    all_goals exact ⟨rfl, Grew.refl _⟩
  · have HE : Hid (numR (a + b) = .returned (.tuple #[.int .i64 0, .int .i64 3])) := by rw [Hid, numR, numV_out h, numE_out h]
    rw [HE.out]
    have hx : (b > 0 ∧ a + b > 9223372036854775807) ∨ (b < 0 ∧ a + b < -9223372036854775808) := by unfold In64 at h; omega
    clear h
    rcases hx with ⟨hb2, hx⟩ | ⟨hb2, hx⟩
    · have hw : IntKind.i64.wrap (a + b) = a + b - 18446744073709551616 := by rw [IntKind.wrap_i64]; omega
      have hn : (b != 0) = true := by simp; omega
      have hd : decide (a < a + b - 18446744073709551616) = false := by simp; omega
      have hd2 : decide (0 < b) = true := by simp; omega
      go_enter Tryd.func12, Tryd.ntmps12
      go_wp2_with fail
      all_goals go_ret2
      all_goals exact ⟨rfl, Grew.refl _⟩
    · have hw : IntKind.i64.wrap (a + b) = a + b + 18446744073709551616 := by rw [IntKind.wrap_i64]; omega
      have hn : (b != 0) = true := by simp; omega
      have hd : decide (a < a + b + 18446744073709551616) = true := by simp; omega
      have hd2 : decide (0 < b) = false := by simp; omega
      go_enter Tryd.func12, Tryd.ntmps12
      go_wp2_with fail
      all_goals go_ret2
      all_goals exact ⟨rfl, Grew.refl _⟩

theorem Sub_any (a b : Int) (w : World) (ha : In64 a) (hb : In64 b) :
    Calls Tryd.prog 13 #[.int .i64 a, .int .i64 b] w fun e w' => e = numR (a - b) ∧ Grew w w' := by
  obtain ⟨ha0, ha1⟩ := ha
  obtain ⟨hb0, hb1⟩ := hb
  by_cases h : In64 (a - b)
  · have HE : Hid (numR (a - b) = .returned (.tuple #[.int .i64 (a - b), .int .i64 0])) := by rw [Hid, numR, numV_in h, numE_in h]
    obtain ⟨h0, h1⟩ := h
    rw [HE.out]
    have hw : IntKind.i64.wrap (a - b) = a - b := by rw [IntKind.wrap_i64]; omega
    go_enter Tryd.func13, Tryd.ntmps13
    go_wp2_with fail
    all_goals go_ret2
    all_goals exact ⟨rfl, Grew.refl _⟩
  · have HE : Hid (numR (a - b) = .returned (.tuple #[.int .i64 0, .int .i64 3])) := by rw [Hid, numR, numV_out h, numE_out h]
    rw [HE.out]
    have hx : (b < 0 ∧ a - b > 9223372036854775807) ∨ (b > 0 ∧ a - b < -9223372036854775808) := by unfold In64 at h; omega
    clear h
    rcases hx with ⟨hb2, hx⟩ | ⟨hb2, hx⟩
    · have hw : IntKind.i64.wrap (a - b) = a - b - 18446744073709551616 := by rw [IntKind.wrap_i64]; omega
      have hn : (b != 0) = true := by simp; omega
      have hd : decide (a - b - 18446744073709551616 < a) = true := by simp; omega
      have hd2 : decide (0 < b) = false := by simp; omega
      go_enter Tryd.func13, Tryd.ntmps13
      go_wp2_with fail
      all_goals go_ret2
      all_goals exact ⟨rfl, Grew.refl _⟩
    · have hw : IntKind.i64.wrap (a - b) = a - b + 18446744073709551616 := by rw [IntKind.wrap_i64]; omega
      have hn : (b != 0) = true := by simp; omega
      have hd : decide (a - b + 18446744073709551616 < a) = false := by simp; omega
      have hd2 : decide (0 < b) = true := by simp; omega
      go_enter Tryd.func13, Tryd.ntmps13
      go_wp2_with fail
      all_goals go_ret2
      all_goals exact ⟨rfl, Grew.refl _⟩

theorem size_any (a : Int) (w : World) (ha : In64 a) :
    Calls Tryd.prog 25 #[.int .i64 a] w fun e w' => e = .returned (.int .u64 (a.natAbs : Int)) ∧ w' = w := by
  obtain ⟨ha0, ha1⟩ := ha
  by_cases h : a < 0
  · obtain ⟨n, rfl⟩ : ∃ n : Nat, a = -(n : Int) := ⟨a.natAbs, by omega⟩
    have HE : Hid (((-(n : Int)).natAbs : Int) = n) := by rw [Hid]; omega
    rw [HE.out]
    have hw1 : IntKind.u64.wrap (-(n : Int)) = 18446744073709551616 - n := by rw [IntKind.wrap_u64]; omega
    have hw2 : IntKind.u64.wrap (-(18446744073709551616 - (n : Int))) = n := by rw [IntKind.wrap_u64]; omega
    go_enter Tryd.func25, Tryd.ntmps25
    go_wp2_with fail
    all_goals go_ret
    all_goals exact ⟨rfl, rfl⟩
  · obtain ⟨n, rfl⟩ : ∃ n : Nat, a = (n : Int) := ⟨a.natAbs, by omega⟩
    have HE : Hid (((n : Int).natAbs : Int) = n) := by rw [Hid]; omega
    rw [HE.out]
    have hw1 : IntKind.u64.wrap (n : Int) = n := by rw [IntKind.wrap_u64]; omega
    go_enter Tryd.func25, Tryd.ntmps25
    go_wp2_with fail
    all_goals go_ret
    all_goals exact ⟨rfl, rfl⟩

/-- The number of a size and a sign. -/
def sgn (n : Nat) (b : Bool) : Int := if b then -(n : Int) else n
theorem signed_any (n : Nat) (b : Bool) (w : World) (hn : n < 18446744073709551616) :
    Calls Tryd.prog 26 #[.int .u64 n, .bool b] w fun e w' => e = numR (sgn n b) ∧ w' = w := by
  cases b
  · have HS : Hid (sgn n false = n) := rfl
    rw [HS.out]
    by_cases h : n ≤ 9223372036854775807
    · have HE : Hid (numR n = .returned (.tuple #[.int .i64 n, .int .i64 0])) := by rw [Hid, numR, numV_in (by unfold In64; omega), numE_in (by unfold In64; omega)]
      rw [HE.out]
      have hw1 : IntKind.i64.wrap (n : Int) = n := by rw [IntKind.wrap_i64]; omega
      go_enter Tryd.func26, Tryd.ntmps26
      go_wp2_with fail
      all_goals go_ret2
      all_goals exact ⟨rfl, rfl⟩
    · have HE : Hid (numR n = .returned (.tuple #[.int .i64 0, .int .i64 3])) := by rw [Hid, numR, numV_out (by unfold In64; omega), numE_out (by unfold In64; omega)]
      rw [HE.out]
      go_enter Tryd.func26, Tryd.ntmps26
      go_wp2_with fail
      all_goals go_ret2
      all_goals exact ⟨rfl, rfl⟩
  · have HS : Hid (sgn n true = -(n : Int)) := rfl
    rw [HS.out]
    by_cases h : n ≤ 9223372036854775808
    · have HE : Hid (numR (-(n : Int)) = .returned (.tuple #[.int .i64 (-(n : Int)), .int .i64 0])) := by rw [Hid, numR, numV_in (by unfold In64; omega), numE_in (by unfold In64; omega)]
      rw [HE.out]
      have hw2 : Hid (wrap64 (-(wrap64 (n : Int))) = -(n : Int)) := by rw [Hid]; unfold wrap64; omega
      go_enter Tryd.func26, Tryd.ntmps26
      go_wp2_with fail
      all_goals go_ret2
      all_goals exact ⟨by show Ending.returned (.tuple #[.int .i64 (wrap64 (-wrap64 (n : Int))), .int .i64 0]) = _; rw [hw2.out], rfl⟩
    · have HE : Hid (numR (-(n : Int)) = .returned (.tuple #[.int .i64 0, .int .i64 3])) := by rw [Hid, numR, numV_out (by unfold In64; omega), numE_out (by unfold In64; omega)]
      rw [HE.out]
      go_enter Tryd.func26, Tryd.ntmps26
      go_wp2_with fail
      all_goals go_ret2
      all_goals exact ⟨rfl, rfl⟩

theorem abs_lt {a : Int} (h : In64 a) : a.natAbs < 18446744073709551616 := by unfold In64 at h; omega
theorem sgn_abs (a : Int) : sgn a.natAbs (decide (a < 0)) = a := by
  unfold sgn; by_cases h : a < 0 <;> simp [h] <;> omega
theorem sgn_mul (a b : Int) : sgn (a.natAbs * b.natAbs) (decide (a < 0) != decide (b < 0)) = a * b := by
  have h := Int.natAbs_mul a b
  have hs : a * b < 0 ∨ a * b = 0 ∨ 0 < a * b := by omega
  unfold sgn
  by_cases ha : a < 0 <;> by_cases hb : b < 0
  · have := Int.mul_pos_of_neg_of_neg ha hb; simp [ha, hb]; omega
  · have : a * b ≤ 0 := Int.mul_nonpos_of_nonpos_of_nonneg (by omega) (by omega)
    simp [ha, hb]; omega
  · have : a * b ≤ 0 := Int.mul_nonpos_of_nonneg_of_nonpos (by omega) (by omega)
    simp [ha, hb]; omega
  · have : 0 ≤ a * b := Int.mul_nonneg (by omega) (by omega)
    simp [ha, hb]; omega

theorem Mul_any (a b : Int) (w : World) (ha : In64 a) (hb : In64 b) :
    Calls Tryd.prog 14 #[.int .i64 a, .int .i64 b] w fun e w' => e = numR (a * b) ∧ Grew w w' := by
  have hla := abs_lt ha
  have hlb := abs_lt hb
  by_cases h : a.natAbs * b.natAbs < 18446744073709551616
  · have hq : a.natAbs * b.natAbs / 18446744073709551616 = 0 := Nat.div_eq_of_lt h
    have hr : a.natAbs * b.natAbs % 18446744073709551616 = a.natAbs * b.natAbs := Nat.mod_eq_of_lt h
    have HS : Hid (sgn (a.natAbs * b.natAbs) (!(decide (a < 0) == decide (b < 0))) = a * b) := sgn_mul a b
    go_enter Tryd.func14, Tryd.ntmps14
    go_wp2_with fail
    refine (size_any a w ha).mono ?_; rintro e w1 ⟨rfl, rfl⟩
    go_wp2_with fail
    refine (size_any b w1 hb).mono ?_; rintro e w2 ⟨rfl, rfl⟩
    go_wp2_with fail
    refine (Tryd.bits_Mul64 _ _ hla hlb w2).mono ?_; rintro e w3 ⟨rfl, rfl⟩
    rw [hq, hr]
    go_wp2_with fail
    refine (signed_any _ _ w3 h).mono ?_; rintro e w4 ⟨rfl, rfl⟩
    rw [HS.out, numR_def]
    go_wp2_with fail
    all_goals go_ret2
    all_goals exact ⟨rfl, Grew.refl _⟩
  · have hq : 0 < a.natAbs * b.natAbs / 18446744073709551616 := Nat.div_pos (by omega) (by omega)
    have HE : Hid (numR (a * b) = .returned (.tuple #[.int .i64 0, .int .i64 3])) := by
      have h := Int.natAbs_mul a b
      rw [Hid, numR, numV_out (by unfold In64; omega), numE_out (by unfold In64; omega)]
    rw [HE.out]
    obtain ⟨hi, hhi⟩ : ∃ q, a.natAbs * b.natAbs / 18446744073709551616 = q := ⟨_, rfl⟩
    obtain ⟨lo, hlo⟩ : ∃ q, a.natAbs * b.natAbs % 18446744073709551616 = q := ⟨_, rfl⟩
    rw [hhi] at hq
    have H1 := hidd hhi
    have H2 := hidd hlo
    have H3 := hidd h
    clear h hhi hlo
    go_enter Tryd.func14, Tryd.ntmps14
    go_wp2_with fail
    refine (size_any a w ha).mono ?_; rintro e w1 ⟨rfl, rfl⟩
    go_wp2_with fail
    refine (size_any b w1 hb).mono ?_; rintro e w2 ⟨rfl, rfl⟩
    go_wp2_with fail
    refine (Tryd.bits_Mul64 _ _ hla hlb w2).mono ?_; rintro e w3 ⟨rfl, rfl⟩
    rw [H1.out, H2.out]
    go_wp2_with fail
    all_goals go_ret2
    all_goals exact ⟨rfl, Grew.refl _⟩

theorem sgn_tdiv (a b : Int) (hb : b ≠ 0) : sgn (a.natAbs / b.natAbs) (decide (a < 0) != decide (b < 0)) = a.tdiv b := by
  obtain ⟨m, rfl | rfl⟩ := Int.eq_nat_or_neg a <;> obtain ⟨n, rfl | rfl⟩ := Int.eq_nat_or_neg b
  all_goals simp only [Int.neg_tdiv, Int.tdiv_neg, Int.natAbs_neg, Int.natAbs_natCast, Int.neg_neg, ← Int.ofNat_tdiv]
  all_goals unfold sgn
  · have h1 : ¬ (m : Int) < 0 := by omega
    have h2 : ¬ (n : Int) < 0 := by omega
    simp [h1, h2]
  · have : 0 < n := by omega
    simp; omega
  · rcases Nat.eq_zero_or_pos m with rfl | h
    · simp
    · simp; omega
  · have : 0 < n := by omega
    rcases Nat.eq_zero_or_pos m with rfl | h
    · simp
    · simp; omega
theorem sgn_tmod (a b : Int) : sgn (a.natAbs % b.natAbs) (decide (a < 0)) = a.tmod b := by
  obtain ⟨m, rfl | rfl⟩ := Int.eq_nat_or_neg a <;> obtain ⟨n, rfl | rfl⟩ := Int.eq_nat_or_neg b
  all_goals simp only [Int.neg_tmod, Int.tmod_neg, Int.natAbs_neg, Int.natAbs_natCast, ← Int.ofNat_tmod]
  all_goals unfold sgn
  · have h1 : ¬ (m : Int) < 0 := by omega
    simp [h1]
  · have h1 : ¬ (m : Int) < 0 := by omega
    simp [h1]
  · rcases Nat.eq_zero_or_pos m with rfl | h
    · simp
    · simp; omega
  · rcases Nat.eq_zero_or_pos m with rfl | h
    · simp
    · simp; omega

theorem Div_none (a : Int) (w : World) :
    Calls Tryd.prog 15 #[.int .i64 a, .int .i64 0] w fun e w' => e = .returned (.tuple #[.int .i64 0, .int .i64 6]) ∧ Grew w w' := by
  go_enter Tryd.func15, Tryd.ntmps15
  go_wp2_with fail
  all_goals go_ret2
  all_goals exact ⟨rfl, Grew.refl _⟩
theorem Rem_none (a : Int) (w : World) :
    Calls Tryd.prog 16 #[.int .i64 a, .int .i64 0] w fun e w' => e = .returned (.tuple #[.int .i64 0, .int .i64 6]) ∧ Grew w w' := by
  go_enter Tryd.func16, Tryd.ntmps16
  go_wp2_with fail
  all_goals go_ret2
  all_goals exact ⟨rfl, Grew.refl _⟩

theorem Div_any (a b : Int) (w : World) (ha : In64 a) (hb : In64 b) (h0 : b ≠ 0) :
    Calls Tryd.prog 15 #[.int .i64 a, .int .i64 b] w fun e w' => e = numR (a.tdiv b) ∧ Grew w w' := by
  have hla := abs_lt ha
  have hlb := abs_lt hb
  have HS : Hid (sgn (a.natAbs / b.natAbs) (!(decide (a < 0) == decide (b < 0))) = a.tdiv b) := sgn_tdiv a b h0
  have hz : ((b == 0) = false) := by simpa using h0
  have hp : 0 < b.natAbs := by omega
  have hle := Nat.div_le_self a.natAbs b.natAbs
  have hlt : a.natAbs / b.natAbs < 18446744073709551616 := by omega
  have HD : Hid (IntKind.u64.wrap ((a.natAbs : Int) / (b.natAbs : Int)) = ((a.natAbs / b.natAbs : Nat) : Int)) := by
    rw [Hid, ← Int.natCast_ediv, IntKind.wrap_u64]; revert hlt; generalize a.natAbs / b.natAbs = q; intro hlt; omega
  obtain ⟨m, hm⟩ : ∃ m, a.natAbs = m := ⟨_, rfl⟩
  obtain ⟨n, hn⟩ : ∃ n, b.natAbs = n := ⟨_, rfl⟩
  have H1 := hidd hm
  have H2 := hidd hn
  rw [hm] at hla hle hlt HD HS
  rw [hn] at hlb hle hlt hp HD HS
  clear hm hn
  go_enter Tryd.func15, Tryd.ntmps15
  go_wp2_with fail
  refine (size_any a w ha).mono ?_; rintro e w1 ⟨rfl, rfl⟩
  rw [H1.out]
  go_wp2_with fail
  refine (size_any b w1 hb).mono ?_; rintro e w2 ⟨rfl, rfl⟩
  rw [H2.out]
  go_wp2_with fail
  rw [HD.out]
  refine (signed_any _ _ w2 hlt).mono ?_; rintro e w4 ⟨rfl, rfl⟩
  rw [HS.out, numR_def]
  go_wp2_with fail
  all_goals go_ret2
  all_goals exact ⟨rfl, Grew.refl _⟩

theorem Rem_any (a b : Int) (w : World) (ha : In64 a) (hb : In64 b) (h0 : b ≠ 0) :
    Calls Tryd.prog 16 #[.int .i64 a, .int .i64 b] w fun e w' => e = numR (a.tmod b) ∧ Grew w w' := by
  have hla := abs_lt ha
  have hlb := abs_lt hb
  have HS : Hid (sgn (a.natAbs % b.natAbs) (decide (a < 0)) = a.tmod b) := sgn_tmod a b
  have hz : ((b == 0) = false) := by simpa using h0
  have hp : 0 < b.natAbs := by omega
  have hle := Nat.mod_le a.natAbs b.natAbs
  have hlt : a.natAbs % b.natAbs < 18446744073709551616 := by omega
  have HD : Hid (IntKind.u64.wrap ((a.natAbs : Int) % (b.natAbs : Int)) = ((a.natAbs % b.natAbs : Nat) : Int)) := by
    rw [Hid, ← Int.natCast_emod, IntKind.wrap_u64]; revert hlt; generalize a.natAbs % b.natAbs = q; intro hlt; omega
  have HD2 : Hid ((a.natAbs : Int) % (b.natAbs : Int) = ((a.natAbs % b.natAbs : Nat) : Int)) := by
    rw [Hid, ← Int.natCast_emod]
  obtain ⟨m, hm⟩ : ∃ m, a.natAbs = m := ⟨_, rfl⟩
  obtain ⟨n, hn⟩ : ∃ n, b.natAbs = n := ⟨_, rfl⟩
  have H1 := hidd hm
  have H2 := hidd hn
  rw [hm] at hla hle hlt HD HD2 HS
  rw [hn] at hlb hle hlt hp HD HD2 HS
  clear hm hn
  go_enter Tryd.func16, Tryd.ntmps16
  go_wp2_with fail
  refine (size_any a w ha).mono ?_; rintro e w1 ⟨rfl, rfl⟩
  rw [H1.out]
  go_wp2_with fail
  refine (size_any b w1 hb).mono ?_; rintro e w2 ⟨rfl, rfl⟩
  rw [H2.out]
  go_wp2_with fail
  first | rw [HD.out] | rw [HD2.out]
  refine (signed_any _ _ w2 hlt).mono ?_; rintro e w4 ⟨rfl, rfl⟩
  rw [HS.out, numR_def]
  go_wp2_with fail
  all_goals go_ret2
  all_goals exact ⟨rfl, Grew.refl _⟩
end Go.Proofs.YthhcpocgfmlbeaaDoor
