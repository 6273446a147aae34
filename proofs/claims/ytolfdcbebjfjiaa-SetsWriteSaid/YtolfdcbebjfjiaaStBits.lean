/- math/bits.OnesCount64 and TrailingZeros64; sets.Has, sets.Size. Conditions: words of 64 bits; the library's table of de Bruijn. -/
import Derived.Test.YtolfdcbebjfjiaaStArr
namespace Go.Proofs.Ytolfdcbebjfjiaa
open Go.RowKit
set_option linter.unusedVariables false
theorem rep85 : rep 85 8 = 6148914691236517205 := rfl
theorem rep51 : rep 51 8 = 3689348814741910323 := rfl
theorem rep15 : rep 15 8 = 1085102592571150095 := rfl
theorem and_le' (a b : Nat) : a &&& b ≤ b := Nat.and_le_right
theorem q1_lt (x : Nat) : q1 8 x ≤ 12297829382473034410 := by
  have h1 : x / 2 &&& rep 85 8 ≤ rep 85 8 := Nat.and_le_right
  have h2 : x &&& rep 85 8 ≤ rep 85 8 := Nat.and_le_right
  rw [rep85] at h1 h2
  unfold q1; rw [rep85]; omega
theorem q2_lt (x : Nat) : q2 8 x ≤ 7378697629483820646 := by
  have h1 : x / 4 &&& rep 51 8 ≤ rep 51 8 := Nat.and_le_right
  have h2 : x &&& rep 51 8 ≤ rep 51 8 := Nat.and_le_right
  rw [rep51] at h1 h2
  unfold q2; rw [rep51]; omega
/-- One step of the sum, as the machine says it. -/
theorem ones_steps (x : Nat) (hx : x < 18446744073709551616) :
    IntKind.u64.wrap (bits .and .u64 ((x : Int) / 2) 6148914691236517205 + bits .and .u64 (x : Int) 6148914691236517205) = ((q1 8 x : Nat) : Int) := by
  have a1 := bits_and_u64_nat (x / 2) 6148914691236517205 (by omega) (by omega)
  have a2 := bits_and_u64_nat x 6148914691236517205 (by omega) (by omega)
  have b := q1_lt x
  rw [show ((x : Int) / 2) = ((x / 2 : Nat) : Int) by omega]
  erw [a1, a2]
  rw [IntKind.wrap_u64]
  unfold q1 at b ⊢
  rw [rep85] at b ⊢
  omega
theorem ones_step2 (x : Nat) (hx : x < 18446744073709551616) :
    IntKind.u64.wrap (bits .and .u64 ((x : Int) / 4) 3689348814741910323 + bits .and .u64 (x : Int) 3689348814741910323) = ((q2 8 x : Nat) : Int) := by
  have a1 := bits_and_u64_nat (x / 4) 3689348814741910323 (by omega) (by omega)
  have a2 := bits_and_u64_nat x 3689348814741910323 (by omega) (by omega)
  have b := q2_lt x
  rw [show ((x : Int) / 4) = ((x / 4 : Nat) : Int) by omega]
  erw [a1, a2]
  rw [IntKind.wrap_u64]
  unfold q2 at b ⊢
  rw [rep51] at b ⊢
  omega
theorem ones_step3 (x : Nat) (hx : x ≤ 7378697629483820646) :
    bits .and .u64 (IntKind.u64.wrap ((x : Int) / 16 + (x : Int))) 1085102592571150095 = ((q3 8 x : Nat) : Int) := by
  have a1 := bits_and_u64_nat (x / 16 + x) 1085102592571150095 (by omega) (by omega)
  rw [IntKind.wrap_u64, show ((x : Int) / 16 + x) % 18446744073709551616 = ((x / 16 + x : Nat) : Int) by omega]
  erw [a1]
  unfold q3
  rw [rep15]
theorem and127 (y : Nat) (hy : y < 9223372036854775808) : bits .and .i64 (wrap64 (y : Int)) 127 = ((y % 128 : Nat) : Int) := by
  have e : wrap64 (y : Int) = (y : Int) := by unfold wrap64; omega
  rw [e]
  have h1 : (BitVec.ofInt 64 (y : Int)).toNat = y := by
    rw [BitVec.ofInt_natCast, BitVec.toNat_ofNat]; exact Nat.mod_eq_of_lt (by omega)
  have h2 : (BitVec.ofInt 64 (127 : Int)).toNat = 127 := rfl
  show IntKind.i64.wrap ((BitVec.ofInt 64 (y : Int) &&& BitVec.ofInt 64 127).toNat : Int) = _
  have h := Nat.and_two_pow_sub_one_eq_mod y 7
  simp only [Nat.reducePow, Nat.add_one_sub_one] at h
  rw [BitVec.toNat_and, h1, h2, h, IntKind.wrap_i64]
  omega
/-- Whether a byte is in it. -/
theorem and_one (x k : Nat) (hx : x < 18446744073709551616) : (bits .and .u64 ((x : Int) / ((2 ^ k : Nat) : Int)) 1 == 1) = ((x / 2 ^ k) % 2 == 1) := by
  have hd : x / 2 ^ k < 18446744073709551616 := Nat.lt_of_le_of_lt (Nat.div_le_self _ _) hx
  have a1 := bits_and_u64_nat (x / 2 ^ k) 1 hd (by omega)
  rw [show ((x : Int) / ((2 ^ k : Nat) : Int)) = ((x / 2 ^ k : Nat) : Int) by simp]
  erw [a1]
  have h := Nat.and_two_pow_sub_one_eq_mod (x / 2 ^ k) 1
  simp only [Nat.pow_one, Nat.add_one_sub_one] at h
  rw [h]
  rcases Nat.mod_two_eq_zero_or_one (x / 2 ^ k) with h | h <;> rw [h] <;> rfl
theorem Has_any (f : Nat → Bool) (b : Nat) (w : World) (hb : b < 256) : Calls Try.prog 8 #[setV f, .int .u8 b] w fun e w' => e = .returned (.bool (f b)) ∧ Grew w w' := by
  obtain ⟨q, hq0⟩ : ∃ q, q = b / 64 := ⟨_, rfl⟩
  obtain ⟨r, hr0⟩ : ∃ r, r = b % 64 := ⟨_, rfl⟩
  have hq : ((b : Int) / 64) = (q : Int) := by omega
  have hr : ((b : Int) % 64) = (r : Int) := by omega
  have hlt : q < 4 := by omega
  have hrl : r < 64 := by omega
  have HX : Hid (ArrAt (w.alloc (.cells (wordsB fun j => word f (64 * j) 64) 24)) w.heap.size 0 4 (fun j => .int .u64 (word f (64 * j) 64))) := words_at w _
  have cw := HX.out.at0 q hlt
  have HW := hidd (has_word f (64 * q) r hrl)
  have HB := hidd (show 64 * q + r = b by omega)
  have HL := hidd (word_lt64 f (64 * q))
  have HO : Hid ((bits .and .u64 ((word f (64 * q) 64 : Nat) / 2 ^ r : Int) 1 == 1) = f b) := by
    have := and_one (word f (64 * q) 64) r (word_lt64 f _)
    rw [has_word f (64 * q) r hrl, show 64 * q + r = b by omega] at this
    rw [Hid, ← this]
    simp
  obtain ⟨x, hx⟩ : ∃ x, word f (64 * q) 64 = x := ⟨_, rfl⟩
  rw [hx] at cw HW HL HO
  unfold wordsB at cw HX
  simp only [Nat.mul_zero, Nat.mul_one, Nat.reduceMul] at cw HX
  unfold setV
  clear hq0 hr0 hx
  go_enter Try.func8, Try.ntmps8
  go_wp2_with fail
  go_ret
  exact ⟨congrArg (fun v => Ending.returned (.bool v)) HO.out, (Grew.refl w).alloc _⟩
def csum (A : Nat → Nat) : Nat → Nat
  | 0 => 0
  | n + 1 => csum A n + cnt (A n)
theorem csum_le (A : Nat → Nat) : ∀ n, csum A n ≤ 64 * n
  | 0 => by simp [csum]
  | n + 1 => by have := csum_le A n; have := cnt_le (A n); simp only [csum]; omega
theorem csum_four (f : Nat → Bool) : csum (fun j => word f (64 * j) 64) 4 = (bl f 0 256).length := by
  simp only [csum, cnt_word, bl_words, List.length_append, Nat.mul_zero, Nat.mul_one, Nat.reduceMul]
  omega
/-! TrailingZeros64: the library's own text. -/
theorem tz_key (x a : Nat) (hx : x < 18446744073709551616) (hx0 : x ≠ 0) (hlow : x &&& (18446744073709551616 - x) = a) :
    IntKind.u64.wrap (bits BinOp.and IntKind.u64 (x : Int) (IntKind.u64.wrap (-(x : Int))) * 285870213051353865) / 288230376151711744 = ((a * 285870213051353865 % 18446744073709551616 / 288230376151711744 : Nat) : Int) := by
  have e1 : IntKind.u64.wrap (-(x : Int)) = ((18446744073709551616 - x : Nat) : Int) := by rw [IntKind.wrap_u64]; omega
  rw [e1, bits_and_u64_nat x _ hx (by omega), hlow, IntKind.wrap_u64]
  omega
end Go.Proofs.Ytolfdcbebjfjiaa
