/- math/bits.OnesCount64 and TrailingZeros64; sets.Has, sets.Size. Conditions: words of 64 bits; the library's table of de Bruijn. -/
import Derived.Test.YtolfdcbebjfjiaaDoorStArr
namespace Go.Proofs.YtolfdcbebjfjiaaDoor
open Go.RowKit
set_option linter.unusedVariables false
theorem rep85 : rep 85 8 = 6148914691236517205 := rfl
theorem rep51 : rep 51 8 = 3689348814741910323 := rfl
theorem rep15 : rep 15 8 = 1085102592571150095 := rfl
theorem and_le' (a b : Nat) : a &&& b ≤ b := Nat.and_le_right
theorem q1_lt (x : Nat) : q1 8 x ≤ 12297829382473034410 := by
  have h1 : x / 2 &&& rep 85 8 ≤ rep 85 8 := Nat.and_le_right
  have h2 : x &&& rep 85 8 ≤ rep 85 8 := Nat.and_le_right
  rw [rep85] at h1 h2
  unfold q1; rw [rep85]; omega
theorem q2_lt (x : Nat) : q2 8 x ≤ 7378697629483820646 := by
  have h1 : x / 4 &&& rep 51 8 ≤ rep 51 8 := Nat.and_le_right
  have h2 : x &&& rep 51 8 ≤ rep 51 8 := Nat.and_le_right
  rw [rep51] at h1 h2
  unfold q2; rw [rep51]; omega
/-- One step of the sum, as the machine says it. -/
theorem ones_steps (x : Nat) (hx : x < 18446744073709551616) :
    IntKind.u64.wrap (bits .and .u64 ((x : Int) / 2) 6148914691236517205 + bits .and .u64 (x : Int) 6148914691236517205) = ((q1 8 x : Nat) : Int) := by
  have a1 := bits_and_u64_nat (x / 2) 6148914691236517205 (by omega) (by omega)
  have a2 := bits_and_u64_nat x 6148914691236517205 (by omega) (by omega)
  have b := q1_lt x
  rw [show ((x : Int) / 2) = ((x / 2 : Nat) : Int) by omega]
  erw [a1, a2]
  rw [IntKind.wrap_u64]
  unfold q1 at b ⊢
  rw [rep85] at b ⊢
  omega
theorem ones_step2 (x : Nat) (hx : x < 18446744073709551616) :
    IntKind.u64.wrap (bits .and .u64 ((x : Int) / 4) 3689348814741910323 + bits .and .u64 (x : Int) 3689348814741910323) = ((q2 8 x : Nat) : Int) := by
  have a1 := bits_and_u64_nat (x / 4) 3689348814741910323 (by omega) (by omega)
  have a2 := bits_and_u64_nat x 3689348814741910323 (by omega) (by omega)
  have b := q2_lt x
  rw [show ((x : Int) / 4) = ((x / 4 : Nat) : Int) by omega]
  erw [a1, a2]
  rw [IntKind.wrap_u64]
  unfold q2 at b ⊢
  rw [rep51] at b ⊢
  omega
theorem ones_step3 (x : Nat) (hx : x ≤ 7378697629483820646) :
    bits .and .u64 (IntKind.u64.wrap ((x : Int) / 16 + (x : Int))) 1085102592571150095 = ((q3 8 x : Nat) : Int) := by
  have a1 := bits_and_u64_nat (x / 16 + x) 1085102592571150095 (by omega) (by omega)
  rw [IntKind.wrap_u64, show ((x : Int) / 16 + x) % 18446744073709551616 = ((x / 16 + x : Nat) : Int) by omega]
  erw [a1]
  unfold q3
  rw [rep15]
theorem and127 (y : Nat) (hy : y < 9223372036854775808) : bits .and .i64 (wrap64 (y : Int)) 127 = ((y % 128 : Nat) : Int) := by
  have e : wrap64 (y : Int) = (y : Int) := by unfold wrap64; omega
  rw [e]
  have h1 : (BitVec.ofInt 64 (y : Int)).toNat = y := by
    rw [BitVec.ofInt_natCast, BitVec.toNat_ofNat]; exact Nat.mod_eq_of_lt (by omega)
  have h2 : (BitVec.ofInt 64 (127 : Int)).toNat = 127 := rfl
  show IntKind.i64.wrap ((BitVec.ofInt 64 (y : Int) &&& BitVec.ofInt 64 127).toNat : Int) = _
  have h := Nat.and_two_pow_sub_one_eq_mod y 7
  simp only [Nat.reducePow, Nat.add_one_sub_one] at h
  rw [BitVec.toNat_and, h1, h2, h, IntKind.wrap_i64]
  omega
theorem ones_any (x : Nat) (w : World) (hx : x < 18446744073709551616) : Calls Tryd.prog 27 #[.int .u64 x] w fun e w' => e = .returned (.int .i64 (cnt x)) ∧ w' = w := by
  have s1 := ones_steps x hx
  have s2 := ones_step2 (q1 8 x) (by have := q1_lt x; omega)
  have s3 := ones_step3 (q2 8 (q1 8 x)) (q2_lt _)
  obtain ⟨p0, p1, p2, p3, p4⟩ := pop_eq x hx
  have s4 : IntKind.u64.wrap (((pop 8 x : Nat) : Int) + ((pop 8 x : Nat) : Int) / 256) = ((fold1 (pop 8 x) : Nat) : Int) := by rw [IntKind.wrap_u64]; unfold fold1 at p1 ⊢; omega
  have s5 : IntKind.u64.wrap (((fold1 (pop 8 x) : Nat) : Int) + ((fold1 (pop 8 x) : Nat) : Int) / 65536) = ((fold2 (fold1 (pop 8 x)) : Nat) : Int) := by rw [IntKind.wrap_u64]; unfold fold2 at p2 ⊢; omega
  have s6 : IntKind.u64.wrap (((fold2 (fold1 (pop 8 x)) : Nat) : Int) + ((fold2 (fold1 (pop 8 x)) : Nat) : Int) / 4294967296) = ((fold3 (fold2 (fold1 (pop 8 x))) : Nat) : Int) := by rw [IntKind.wrap_u64]; unfold fold3 at p3 ⊢; omega
  have e3 : q3 8 (q2 8 (q1 8 x)) = pop 8 x := rfl
  rw [e3] at s3
  generalize pop 8 x = y at s3 s4 s5 s6 p0 p1 p2 p3 p4
  generalize fold1 y = y1 at s4 s5 s6 p1 p2 p3 p4
  generalize fold2 y1 = y2 at s5 s6 p2 p3 p4
  generalize fold3 y2 = y3 at s6 p3 p4
  generalize q1 8 x = x1 at s1 s2 s3
  generalize q2 8 x1 = x2 at s2 s3
  have HW := hidd (And.intro s1 (And.intro s2 (And.intro s3 (And.intro s4 (And.intro s5 s6)))))
  have HP := hidd p4
  have hp3 := hidd p3
  clear s1 s2 s3 s4 s5 s6 p0 p1 p2 p3 p4 e3
  go_enter Tryd.func27, Tryd.ntmps27
  go_wp2_with fail
  go_ret
  obtain ⟨s1, s2, s3, s4, s5, s6⟩ := HW.out
  simp only [s1, s2, s3, s4, s5, s6]
  refine ⟨?_, trivial⟩
  rw [and127 y3 hp3.out, HP.out]
  rfl
/-- Whether a byte is in it. -/
theorem and_one (x k : Nat) (hx : x < 18446744073709551616) : (bits .and .u64 ((x : Int) / ((2 ^ k : Nat) : Int)) 1 == 1) = ((x / 2 ^ k) % 2 == 1) := by
  have hd : x / 2 ^ k < 18446744073709551616 := Nat.lt_of_le_of_lt (Nat.div_le_self _ _) hx
  have a1 := bits_and_u64_nat (x / 2 ^ k) 1 hd (by omega)
  rw [show ((x : Int) / ((2 ^ k : Nat) : Int)) = ((x / 2 ^ k : Nat) : Int) by simp]
  erw [a1]
  have h := Nat.and_two_pow_sub_one_eq_mod (x / 2 ^ k) 1
  simp only [Nat.pow_one, Nat.add_one_sub_one] at h
  rw [h]
  rcases Nat.mod_two_eq_zero_or_one (x / 2 ^ k) with h | h <;> rw [h] <;> rfl
theorem Has_any (f : Nat → Bool) (b : Nat) (w : World) (hb : b < 256) : Calls Tryd.prog 12 #[setV f, .int .u8 b] w fun e w' => e = .returned (.bool (f b)) ∧ Grew w w' := by
  obtain ⟨q, hq0⟩ : ∃ q, q = b / 64 := ⟨_, rfl⟩
  obtain ⟨r, hr0⟩ : ∃ r, r = b % 64 := ⟨_, rfl⟩
  have hq : ((b : Int) / 64) = (q : Int) := by omega
  have hr : ((b : Int) % 64) = (r : Int) := by omega
  have hlt : q < 4 := by omega
  have hrl : r < 64 := by omega
  have HX : Hid (ArrAt (w.alloc (.cells (wordsB fun j => word f (64 * j) 64) 24)) w.heap.size 0 4 (fun j => .int .u64 (word f (64 * j) 64))) := words_at w _
  have cw := HX.out.at0 q hlt
  have HW := hidd (has_word f (64 * q) r hrl)
  have HB := hidd (show 64 * q + r = b by omega)
  have HL := hidd (word_lt64 f (64 * q))
  have HO : Hid ((bits .and .u64 ((word f (64 * q) 64 : Nat) / 2 ^ r : Int) 1 == 1) = f b) := by
    have := and_one (word f (64 * q) 64) r (word_lt64 f _)
    rw [has_word f (64 * q) r hrl, show 64 * q + r = b by omega] at this
    rw [Hid, ← this]
    simp
  obtain ⟨x, hx⟩ : ∃ x, word f (64 * q) 64 = x := ⟨_, rfl⟩
  rw [hx] at cw HW HL HO
  unfold wordsB at cw HX
  simp only [Nat.mul_zero, Nat.mul_one, Nat.reduceMul] at cw HX
  unfold setV
  clear hq0 hr0 hx
  go_enter Tryd.func12, Tryd.ntmps12
  go_wp2_with fail
  go_ret
  exact ⟨congrArg (fun v => Ending.returned (.bool v)) HO.out, (Grew.refl w).alloc _⟩
def csum (A : Nat → Nat) : Nat → Nat
  | 0 => 0
  | n + 1 => csum A n + cnt (A n)
theorem csum_le (A : Nat → Nat) : ∀ n, csum A n ≤ 64 * n
  | 0 => by simp [csum]
  | n + 1 => by have := csum_le A n; have := cnt_le (A n); simp only [csum]; omega
theorem csum_four (f : Nat → Bool) : csum (fun j => word f (64 * j) 64) 4 = (bl f 0 256).length := by
  simp only [csum, cnt_word, bl_words, List.length_append, Nat.mul_zero, Nat.mul_one, Nat.reduceMul]
  omega
set_option maxHeartbeats 1000000 in
theorem Size_w (A : Nat → Nat) (w : World) (hA : W64 A) : Calls Tryd.prog 11 #[setW A] w fun e w' => e = .returned (.int .i64 (csum A 4)) ∧ Grew w w' := by
  have HA := hidd hA
  have HG : Hid (Grew w (w.alloc (.cells (wordsB A) 24))) := (Grew.refl w).alloc _
  unfold wordsB at HG
  unfold setW
  clear hA
  go_enter Tryd.func11, Tryd.ntmps11
  go_wp2_with fail
  go_loopw [3, 5, 7] (fun u3 u5 u7 wr => ∃ (i : Nat), u7 = .int .i64 i ∧ i ≤ 4 ∧ u3 = .int .i64 (csum A i) ∧ Hid (Grew w wr)) (fun _ _ u7 _ => 4 - (intOf u7).toNat)
  case atStart => exact ⟨0, rfl, by omega, rfl, HG⟩
  case round =>
    obtain ⟨i, rfl, hi, rfl, KW⟩ := hrel
    have hb := csum_le A i
    by_cases h : i < 4
    · have la := HA.out i
      have hx := run_index_set A i h
      have hc := cnt_le (A i)
      have HS : Hid (csum A i + cnt (A i) = csum A (i + 1)) := rfl
      go_wp2_with fail
      refine (ones_any _ _ la).mono ?_; rintro e w1 ⟨rfl, rfl⟩
      go_wp2_with fail
      all_goals exact ⟨⟨i + 1, (by simp), (by omega), (by rw [← HS.out]; simp), KW⟩, (by simp [intOf]; omega)⟩
    · obtain rfl : i = 4 := by omega
      go_wp2_with fail
      go_ret
      exact ⟨rfl, KW.out⟩
theorem Size_any (f : Nat → Bool) (w : World) : Calls Tryd.prog 11 #[setV f] w fun e w' => e = .returned (.int .i64 (bl f 0 256).length) ∧ Grew w w' := by
  have := Size_w (fun j => word f (64 * j) 64) w (fun j => word_lt64 f _)
  rw [csum_four] at this
  exact this
/-! TrailingZeros64: the library's own text. -/
def TabZ (w : World) : Prop := ∀ j, j < 64 → w.cell? ⟨0, j, none⟩ = some (.int .u8 (Lib.deBruijn64tab.getD j 0))
theorem TabZ.kept {w w' : World} (h : TabZ w) (g : Grew w w') : TabZ w' := fun j hj => g.keeps (h j hj)
theorem tz_key (x a : Nat) (hx : x < 18446744073709551616) (hx0 : x ≠ 0) (hlow : x &&& (18446744073709551616 - x) = a) :
    IntKind.u64.wrap (bits BinOp.and IntKind.u64 (x : Int) (IntKind.u64.wrap (-(x : Int))) * 285870213051353865) / 288230376151711744 = ((a * 285870213051353865 % 18446744073709551616 / 288230376151711744 : Nat) : Int) := by
  have e1 : IntKind.u64.wrap (-(x : Int)) = ((18446744073709551616 - x : Nat) : Int) := by rw [IntKind.wrap_u64]; omega
  rw [e1, bits_and_u64_nat x _ hx (by omega), hlow, IntKind.wrap_u64]
  omega
theorem zeros_any (x : Nat) (w : World) (hx : x < 18446744073709551616) (hx0 : x ≠ 0) (hT : TabZ w) : Calls Tryd.prog 26 #[.int .u64 x] w fun e w' => e = .returned (.int .i64 (Lib.ctz 64 x)) ∧ w' = w := by
  obtain ⟨hlow, hk⟩ := Lib.lowest_bit 64 x hx0 hx
  obtain ⟨hi, htab⟩ := Lib.deBruijn64_at _ hk
  have hcell := hT _ hi
  rw [htab] at hcell
  have key := tz_key x _ hx hx0 hlow
  obtain ⟨idx, he⟩ : ∃ idx, 2 ^ Lib.ctz 64 x * 285870213051353865 % 18446744073709551616 / 288230376151711744 = idx := ⟨_, rfl⟩
  rw [he] at key hi hcell
  generalize Lib.ctz 64 x = k at hk hcell ⊢
  have hx1 : ((x : Int) == 0) = false := by simp; omega
  clear he htab hlow hT
  go_enter Tryd.func26, Tryd.ntmps26
  go_wp2_with (simp only [key])
  go_ret
  exact ⟨rfl, rfl⟩
end Go.Proofs.YtolfdcbebjfjiaaDoor
