/- math/bits.OnesCount64 and TrailingZeros64; sets.Has, sets.Size. Conditions: words of 64 bits; the library's table of de Bruijn. -/
import Derived.Test.YtkkdpafkafjfgaaDoorAsStArr
namespace Go.Proofs.YtkkdpafkafjfgaaDoor
open Go.RowKit
set_option linter.unusedVariables false
theorem rep85 : rep 85 8 = 6148914691236517205 := rfl
theorem rep51 : rep 51 8 = 3689348814741910323 := rfl
theorem rep15 : rep 15 8 = 1085102592571150095 := rfl
theorem q1_lt (x : Nat) : q1 8 x ≤ 12297829382473034410 := by
  have h1 : x / 2 &&& rep 85 8 ≤ rep 85 8 := Nat.and_le_right
  have h2 : x &&& rep 85 8 ≤ rep 85 8 := Nat.and_le_right
  rw [rep85] at h1 h2
  unfold q1; rw [rep85]; omega
theorem q2_lt (x : Nat) : q2 8 x ≤ 7378697629483820646 := by
  have h1 : x / 4 &&& rep 51 8 ≤ rep 51 8 := Nat.and_le_right
  have h2 : x &&& rep 51 8 ≤ rep 51 8 := Nat.and_le_right
  rw [rep51] at h1 h2
  unfold q2; rw [rep51]; omega
theorem ones_steps (x : Nat) (hx : x < 18446744073709551616) :
    IntKind.u64.wrap (bits .and .u64 ((x : Int) / 2) 6148914691236517205 + bits .and .u64 (x : Int) 6148914691236517205) = ((q1 8 x : Nat) : Int) := by
  have a1 := bits_and_u64_nat (x / 2) 6148914691236517205 (by omega) (by omega)
  have a2 := bits_and_u64_nat x 6148914691236517205 (by omega) (by omega)
  have b := q1_lt x
  rw [show ((x : Int) / 2) = ((x / 2 : Nat) : Int) by omega]
  erw [a1, a2]
  rw [IntKind.wrap_u64]
  unfold q1 at b ⊢
  rw [rep85] at b ⊢
  omega
theorem ones_step2 (x : Nat) (hx : x < 18446744073709551616) :
    IntKind.u64.wrap (bits .and .u64 ((x : Int) / 4) 3689348814741910323 + bits .and .u64 (x : Int) 3689348814741910323) = ((q2 8 x : Nat) : Int) := by
  have a1 := bits_and_u64_nat (x / 4) 3689348814741910323 (by omega) (by omega)
  have a2 := bits_and_u64_nat x 3689348814741910323 (by omega) (by omega)
  have b := q2_lt x
  rw [show ((x : Int) / 4) = ((x / 4 : Nat) : Int) by omega]
  erw [a1, a2]
  rw [IntKind.wrap_u64]
  unfold q2 at b ⊢
  rw [rep51] at b ⊢
  omega
theorem ones_step3 (x : Nat) (hx : x ≤ 7378697629483820646) :
    bits .and .u64 (IntKind.u64.wrap ((x : Int) / 16 + (x : Int))) 1085102592571150095 = ((q3 8 x : Nat) : Int) := by
  have a1 := bits_and_u64_nat (x / 16 + x) 1085102592571150095 (by omega) (by omega)
  rw [IntKind.wrap_u64, show ((x : Int) / 16 + x) % 18446744073709551616 = ((x / 16 + x : Nat) : Int) by omega]
  erw [a1]
  unfold q3
  rw [rep15]
theorem and127 (y : Nat) (hy : y < 9223372036854775808) : bits .and .i64 (wrap64 (y : Int)) 127 = ((y % 128 : Nat) : Int) := by
  have e : wrap64 (y : Int) = (y : Int) := by unfold wrap64; omega
  rw [e]
  have h1 : (BitVec.ofInt 64 (y : Int)).toNat = y := by
    rw [BitVec.ofInt_natCast, BitVec.toNat_ofNat]; exact Nat.mod_eq_of_lt (by omega)
  have h2 : (BitVec.ofInt 64 (127 : Int)).toNat = 127 := rfl
  show IntKind.i64.wrap ((BitVec.ofInt 64 (y : Int) &&& BitVec.ofInt 64 127).toNat : Int) = _
  have h := Nat.and_two_pow_sub_one_eq_mod y 7
  simp only [Nat.reducePow, Nat.add_one_sub_one] at h
  rw [BitVec.toNat_and, h1, h2, h, IntKind.wrap_i64]
  omega
theorem ones_any (x : Nat) (w : World) (hx : x < 18446744073709551616) : Calls Tryd.prog 124 #[.int .u64 x] w fun e w' => e = .returned (.int .i64 (bcnt x)) ∧ w' = w := by
  have s1 := ones_steps x hx
  have s2 := ones_step2 (q1 8 x) (by have := q1_lt x; omega)
  have s3 := ones_step3 (q2 8 (q1 8 x)) (q2_lt _)
  obtain ⟨p0, p1, p2, p3, p4⟩ := pop_eq x hx
  have s4 : IntKind.u64.wrap (((pop 8 x : Nat) : Int) + ((pop 8 x : Nat) : Int) / 256) = ((fold1 (pop 8 x) : Nat) : Int) := by rw [IntKind.wrap_u64]; unfold fold1 at p1 ⊢; omega
  have s5 : IntKind.u64.wrap (((fold1 (pop 8 x) : Nat) : Int) + ((fold1 (pop 8 x) : Nat) : Int) / 65536) = ((fold2 (fold1 (pop 8 x)) : Nat) : Int) := by rw [IntKind.wrap_u64]; unfold fold2 at p2 ⊢; omega
  have s6 : IntKind.u64.wrap (((fold2 (fold1 (pop 8 x)) : Nat) : Int) + ((fold2 (fold1 (pop 8 x)) : Nat) : Int) / 4294967296) = ((fold3 (fold2 (fold1 (pop 8 x))) : Nat) : Int) := by rw [IntKind.wrap_u64]; unfold fold3 at p3 ⊢; omega
  have e3 : q3 8 (q2 8 (q1 8 x)) = pop 8 x := rfl
  rw [e3] at s3
  generalize pop 8 x = y at s3 s4 s5 s6 p0 p1 p2 p3 p4
  generalize fold1 y = y1 at s4 s5 s6 p1 p2 p3 p4
  generalize fold2 y1 = y2 at s5 s6 p2 p3 p4
  generalize fold3 y2 = y3 at s6 p3 p4
  generalize q1 8 x = x1 at s1 s2 s3
  generalize q2 8 x1 = x2 at s2 s3
  have HW := hidd (And.intro s1 (And.intro s2 (And.intro s3 (And.intro s4 (And.intro s5 s6)))))
  have HP := hidd p4
  have hp3 := hidd p3
  clear s1 s2 s3 s4 s5 s6 p0 p1 p2 p3 p4 e3
  go_enter Tryd.func124, Tryd.ntmps124
  go_wp2_with fail
  go_ret
  obtain ⟨s1, s2, s3, s4, s5, s6⟩ := HW.out
  simp only [s1, s2, s3, s4, s5, s6]
  refine ⟨?_, trivial⟩
  rw [and127 y3 hp3.out, HP.out]
  rfl
theorem and_one (x k : Nat) (hx : x < 18446744073709551616) : (bits .and .u64 ((x : Int) / ((2 ^ k : Nat) : Int)) 1 == 1) = ((x / 2 ^ k) % 2 == 1) := by
  have hd : x / 2 ^ k < 18446744073709551616 := Nat.lt_of_le_of_lt (Nat.div_le_self _ _) hx
  have a1 := bits_and_u64_nat (x / 2 ^ k) 1 hd (by omega)
  rw [show ((x : Int) / ((2 ^ k : Nat) : Int)) = ((x / 2 ^ k : Nat) : Int) by simp]
  erw [a1]
  have h := Nat.and_two_pow_sub_one_eq_mod (x / 2 ^ k) 1
  simp only [Nat.pow_one, Nat.add_one_sub_one] at h
  rw [h]
  rcases Nat.mod_two_eq_zero_or_one (x / 2 ^ k) with h | h <;> rw [h] <;> rfl
theorem Has_any (f : Nat → Bool) (b : Nat) (w : World) (hb : b < 256) : Calls Tryd.prog 29 #[setV f, .int .u8 b] w fun e w' => e = .returned (.bool (f b)) ∧ Grew w w' := by
  obtain ⟨q, hq0⟩ : ∃ q, q = b / 64 := ⟨_, rfl⟩
  obtain ⟨r, hr0⟩ : ∃ r, r = b % 64 := ⟨_, rfl⟩
  have hq : ((b : Int) / 64) = (q : Int) := by omega
  have hr : ((b : Int) % 64) = (r : Int) := by omega
  have hlt : q < 4 := by omega
  have hrl : r < 64 := by omega
  have HX : Hid (ArrAt (w.alloc (.cells (wordsB fun j => word f (64 * j) 64) 77)) w.heap.size 0 4 (fun j => .int .u64 (word f (64 * j) 64))) := words_at w _
  have cw := HX.out.at0 q hlt
  have HW := hidd (has_word f (64 * q) r hrl)
  have HB := hidd (show 64 * q + r = b by omega)
  have HL := hidd (word_lt64 f (64 * q))
  have HO : Hid ((bits .and .u64 ((word f (64 * q) 64 : Nat) / 2 ^ r : Int) 1 == 1) = f b) := by
    have := and_one (word f (64 * q) 64) r (word_lt64 f _)
    rw [has_word f (64 * q) r hrl, show 64 * q + r = b by omega] at this
    rw [Hid, ← this]
    simp
  obtain ⟨x, hx⟩ : ∃ x, word f (64 * q) 64 = x := ⟨_, rfl⟩
  rw [hx] at cw HW HL HO
  unfold wordsB at cw HX
  simp only [Nat.mul_zero, Nat.mul_one, Nat.reduceMul] at cw HX
  unfold setV
  clear hq0 hr0 hx
  go_enter Tryd.func29, Tryd.ntmps29
  go_wp2_with fail
  go_ret
  exact ⟨congrArg (fun v => Ending.returned (.bool v)) HO.out, (Grew.refl w).alloc _⟩
def csum (A : Nat → Nat) : Nat → Nat
  | 0 => 0
  | n + 1 => csum A n + bcnt (A n)
theorem csum_le (A : Nat → Nat) : ∀ n, csum A n ≤ 64 * n
  | 0 => by simp [csum]
  | n + 1 => by have := csum_le A n; have := cnt_le (A n); simp only [csum]; omega
theorem csum_four (f : Nat → Bool) : csum (fun j => word f (64 * j) 64) 4 = (bl f 0 256).length := by
  simp only [csum, cnt_word, bl_words, List.length_append, Nat.mul_zero, Nat.mul_one, Nat.reduceMul]
  omega
set_option maxHeartbeats 1000000 in
theorem Size_w (A : Nat → Nat) (w : World) (hA : W64 A) : Calls Tryd.prog 107 #[setW A] w fun e w' => e = .returned (.int .i64 (csum A 4)) ∧ Grew w w' := by
  have HA := hidd hA
  have HG : Hid (Grew w (w.alloc (.cells (wordsB A) 77))) := (Grew.refl w).alloc _
  unfold wordsB at HG
  unfold setW
  clear hA
  go_enter Tryd.func107, Tryd.ntmps107
  go_wp2_with fail
  go_loopw [3, 5, 7] (fun u3 u5 u7 wr => ∃ (i : Nat), u7 = .int .i64 i ∧ i ≤ 4 ∧ u3 = .int .i64 (csum A i) ∧ Hid (Grew w wr)) (fun _ _ u7 _ => 4 - (intOf u7).toNat)
  case atStart => exact ⟨0, rfl, by omega, rfl, HG⟩
  case round =>
    obtain ⟨i, rfl, hi, rfl, KW⟩ := hrel
    have hb := csum_le A i
    by_cases h : i < 4
    · have la := HA.out i
      have hx := run_index_set A i h
      have hc := cnt_le (A i)
      have HS : Hid (csum A i + bcnt (A i) = csum A (i + 1)) := rfl
      go_wp2_with fail
      refine (ones_any _ _ la).mono ?_; rintro e w1 ⟨rfl, rfl⟩
      go_wp2_with fail
      all_goals exact ⟨⟨i + 1, (by simp), (by omega), (by rw [← HS.out]; simp), KW⟩, (by simp [intOf]; omega)⟩
    · obtain rfl : i = 4 := by omega
      go_wp2_with fail
      go_ret
      exact ⟨rfl, KW.out⟩
theorem SetSize_any (f : Nat → Bool) (w : World) : Calls Tryd.prog 107 #[setV f] w fun e w' => e = .returned (.int .i64 (bl f 0 256).length) ∧ Grew w w' := by
  have := Size_w (fun j => word f (64 * j) 64) w (fun j => word_lt64 f _)
  rw [csum_four] at this
  exact this
def TabZ (w : World) : Prop := ∀ j, j < 64 → w.cell? ⟨1, j, none⟩ = some (.int .u8 (Lib.deBruijn64tab.getD j 0))
theorem TabZ.kept {w w' : World} (h : TabZ w) (g : Grew w w') : TabZ w' := fun j hj => g.keeps (h j hj)
theorem tz_key (x a : Nat) (hx : x < 18446744073709551616) (hx0 : x ≠ 0) (hlow : x &&& (18446744073709551616 - x) = a) :
    IntKind.u64.wrap (bits BinOp.and IntKind.u64 (x : Int) (IntKind.u64.wrap (-(x : Int))) * 285870213051353865) / 288230376151711744 = ((a * 285870213051353865 % 18446744073709551616 / 288230376151711744 : Nat) : Int) := by
  have e1 : IntKind.u64.wrap (-(x : Int)) = ((18446744073709551616 - x : Nat) : Int) := by rw [IntKind.wrap_u64]; omega
  rw [e1, bits_and_u64_nat x _ hx (by omega), hlow, IntKind.wrap_u64]
  omega
theorem zeros_any (x : Nat) (w : World) (hx : x < 18446744073709551616) (hx0 : x ≠ 0) (hT : TabZ w) : Calls Tryd.prog 108 #[.int .u64 x] w fun e w' => e = .returned (.int .i64 (Lib.ctz 64 x)) ∧ w' = w := by
  obtain ⟨hlow, hk⟩ := Lib.lowest_bit 64 x hx0 hx
  obtain ⟨hi, htab⟩ := Lib.deBruijn64_at _ hk
  have hcell := hT _ hi
  rw [htab] at hcell
  have key := tz_key x _ hx hx0 hlow
  obtain ⟨idx, he⟩ : ∃ idx, 2 ^ Lib.ctz 64 x * 285870213051353865 % 18446744073709551616 / 288230376151711744 = idx := ⟨_, rfl⟩
  rw [he] at key hi hcell
  generalize Lib.ctz 64 x = k at hk hcell ⊢
  have hx1 : ((x : Int) == 0) = false := by simp; omega
  clear he htab hlow hT
  go_enter Tryd.func108, Tryd.ntmps108
  go_wp2_with (simp only [key])
  go_ret
  exact ⟨rfl, rfl⟩
end Go.Proofs.YtkkdpafkafjfgaaDoor
namespace Go.Proofs.YtkkdpafkafjfgaaDoor
open Go.RowKit
set_option linter.unusedVariables false
def upd (f : Nat → Bool) (c : Nat) : Nat → Bool := fun b => f b || b == c
theorem word_upd (f : Nat → Bool) (q r : Nat) (hr : r < 64) : word (upd f (64 * q + r)) (64 * q) 64 = word f (64 * q) 64 ||| 2 ^ r := by
  symm
  refine word_eq (Nat.or_lt_two_pow (word_lt f 64 _) (Nat.pow_lt_pow_right (by decide) hr)) fun j hj => ?_
  rw [Nat.testBit_or, testBit_word, Nat.testBit_two_pow]
  simp only [hj, decide_true, Bool.true_and, upd]
  congr 1
  by_cases e : r = j
  · subst e; simp
  · have h1 : ¬ j = r := fun x => e x.symm
    simp [e, h1]
theorem word_upd_other (f : Nat → Bool) (q r k : Nat) (hr : r < 64) (hk : k ≠ q) : word (upd f (64 * q + r)) (64 * k) 64 = word f (64 * k) 64 :=
  word_congr fun j hj => by
    have h1 : ¬ (64 * k + j = 64 * q + r) := by omega
    simp [upd, h1]
theorem upd_row (f : Nat → Bool) (q r : Nat) (hr : r < 64) (j : Nat) : (if j = q then Value.int .u64 ((word f (64 * q) 64 ||| 2 ^ r : Nat) : Int) else .int .u64 (word f (64 * j) 64)) = .int .u64 (word (upd f (64 * q + r)) (64 * j) 64) := by
  by_cases e : j = q
  · subst e; rw [if_pos rfl, word_upd f j r hr]
  · rw [if_neg e, word_upd_other f q r j hr e]
theorem or_bit (x r : Nat) (hx : x < 18446744073709551616) (hr : r < 64) : bits .or .u64 (x : Int) (IntKind.u64.wrap (2 ^ r : Int)) = ((x ||| 2 ^ r : Nat) : Int) := by
  have h1 : 2 ^ r < 2 ^ 64 := Nat.pow_lt_pow_right (by decide) hr
  have e : IntKind.u64.wrap (2 ^ r : Int) = ((2 ^ r : Nat) : Int) := by
    rw [IntKind.wrap_u64, show ((2 : Int) ^ r) = ((2 ^ r : Nat) : Int) by simp]
    generalize 2 ^ r = y at h1 ⊢
    omega
  rw [e]
  exact bits_or_u64_nat x (2 ^ r) hx h1
def emptyS : Nat → Bool := fun _ => false
theorem word_empty : ∀ n b, word emptyS b n = 0
  | 0, b => rfl
  | n + 1, b => by rw [word, word_empty n]; rfl
def setOf (l : List UInt8) : Nat → Bool := l.foldl (fun f c => upd f c.toNat) emptyS
theorem setOf_snoc (l : List UInt8) (c : UInt8) : setOf (l ++ [c]) = upd (setOf l) c.toNat := by simp [setOf]
theorem setOf_mem (l : List UInt8) (b : Nat) : setOf l b = l.any (fun c => b == c.toNat) := by
  have key : ∀ (l : List UInt8) (f : Nat → Bool), l.foldl (fun f c => upd f c.toNat) f b = (f b || l.any (fun c => b == c.toNat)) := by
    intro l
    induction l with
    | nil => intro f; simp
    | cons c l ih => intro f; rw [List.foldl_cons, ih]; simp [upd, Bool.or_assoc]
  rw [setOf, key]; simp [emptyS]
theorem take_next (t : ByteArray) (i : Nat) (h : i < t.size) : setOf (t.data.toList.take (i + 1)) = upd (setOf (t.data.toList.take i)) (t[i].toNat) := by
  have h' : i < t.data.toList.length := h
  rw [List.take_succ_eq_append_getElem h', setOf_snoc]
  rfl
theorem zeros_at (w : World) : ArrAt (w.alloc (.cells (wordsB fun _ => 0) 77)) w.heap.size 0 4 (fun j => .int .u64 (word emptyS (64 * j) 64)) :=
  (words_at w fun _ => 0).congr fun j hj => by rw [word_empty]
set_option maxHeartbeats 1000000 in
theorem Of_any (t : ByteArray) (w : World) (ht : t.size ≤ maxLen) : Calls Tryd.prog 58 #[.string t] w fun e w' => e = .returned (setV (setOf t.data.toList)) ∧ Grew w w' := by
  have HX : Hid (ArrAt (w.alloc (.cells (wordsB fun _ => 0) 77)) w.heap.size 0 4 (fun j => .int .u64 (word emptyS (64 * j) 64))) := zeros_at w
  have HG : Hid (Grew w (w.alloc (.cells (wordsB fun _ => 0) 77))) := (Grew.refl w).alloc _
  have HN : Hid (∀ i (h : i < t.size), setOf (t.data.toList.take (i + 1)) = upd (setOf (t.data.toList.take i)) (t[i].toNat)) := fun i h => take_next t i h
  have HE : Hid (setOf (t.data.toList.take t.size) = setOf t.data.toList) := by
    rw [Hid, List.take_of_length_le (show t.data.toList.length ≤ t.size from Nat.le_refl _)]
  unfold wordsB at HX HG
  have htt : t.size ≤ 9223372036854775807 := by unfold maxLen at ht; omega
  clear ht
  go_enter Tryd.func58, Tryd.ntmps58
  go_wp2_with fail
  go_loopw [3, 6] (fun u3 u6 wr => ∃ (i : Nat), u6 = .int .i64 i ∧ i ≤ t.size ∧ Hid (ArrAt wr w.heap.size 0 4 (fun j => .int .u64 (word (setOf (t.data.toList.take i)) (64 * j) 64))) ∧ Hid (Grew w wr)) (fun _ u6 _ => t.size - (intOf u6).toNat)
  case atStart => exact ⟨0, rfl, Nat.zero_le _, HX, HG⟩
  case round =>
    obtain ⟨i, rfl, hi, KX, KW⟩ := hrel
    clear HX HG
    by_cases h : i < t.size
    · obtain ⟨b, hb0⟩ : ∃ b, b = t[i].toNat := ⟨_, rfl⟩
      have hb := t[i].toNat_lt
      obtain ⟨q, hq0⟩ : ∃ q, q = b / 64 := ⟨_, rfl⟩
      obtain ⟨r, hr0⟩ : ∃ r, r = b % 64 := ⟨_, rfl⟩
      have hq : ((t[i].toNat : Int) / 64) = (q : Int) := by omega
      have hr : ((t[i].toNat : Int) % 64) = (r : Int) := by omega
      have hlt : q < 4 := by omega
      have hrl : r < 64 := by omega
      have HI : Hid (64 * q + r = t[i].toNat) := by rw [Hid]; omega
      have cw := KX.out.at0 q hlt
      have cf := KX.out.free0 q hlt
      have HL := hidd (word_lt64 (setOf (t.data.toList.take i)) (64 * q))
      clear hq0 hr0 hb0
      go_wp2_with fail
      go_region
      have ho := hidd (or_bit (word (setOf (t.data.toList.take i)) (64 * q) 64) r HL.out hrl)
      have KX' := hidd (((KX.out.set0 q hlt (.int .u64 (bits .or .u64 (word (setOf (t.data.toList.take i)) (64 * q) 64 : Nat) (IntKind.u64.wrap (2 ^ r : Int))))).drew).congr fun j hj => by rw [ho.out, upd_row _ q r hrl j, HI.out, ← HN.out i h])
      have KW' := hidd ((KW.out.setCell (p := ⟨w.heap.size, q, none⟩) (by simp) (.int .u64 (bits .or .u64 (word (setOf (t.data.toList.take i)) (64 * q) 64 : Nat) (IntKind.u64.wrap (2 ^ r : Int))))).drew)
      go_wp2_with fail
      exact ⟨⟨i + 1, (by simp), (by omega), KX', KW'⟩, (by simp [intOf]; omega)⟩
    · obtain rfl : i = t.size := by omega
      go_wp2_with (first | (refine wpList_load_arr rfl rfl rfl KX.out Tryd.underlying77 rfl info_set ?_) | (refine wpList_store_arr rfl rfl rfl rfl KX.out info_set (fun j _ => rfl) ?_; intro w5 hS hb))
      refine bodyPost_arr rfl rfl hS Tryd.underlying77 rfl info_set rfl ⟨?_, KW.out.below hb (by omega)⟩
      rw [HE.out]
      rfl
end Go.Proofs.YtkkdpafkafjfgaaDoor
namespace Go.Proofs.YtkkdpafkafjfgaaDoor
open Go.RowKit
set_option linter.unusedVariables false
def bytesL (l : List Nat) : List UInt8 := l.map UInt8.ofNat
def cellsL (l : List Nat) : List Value := l.map fun b : Nat => .int .u8 (b : Int)
theorem cellsL_eq (l : List Nat) (h : ∀ x ∈ l, x < 256) : cellsL l = (bytesL l).map fun b => .int .u8 b.toNat := by
  unfold cellsL bytesL
  rw [List.map_map]
  refine List.map_congr_left fun x hx => ?_
  have := h x hx
  simp only [Function.comp_apply, UInt8.toNat_ofNat']
  rw [Nat.mod_eq_of_lt (by omega)]
theorem cellsL_snoc (l : List Nat) (b : Nat) : cellsL l ++ [.int .u8 (b : Int)] = cellsL (l ++ [b]) := by simp [cellsL]
def outs (f : Nat → Bool) (k : Nat) : List Nat := bl f 0 (64 * k)
theorem outs_next (f : Nat → Bool) (k : Nat) : outs f (k + 1) = outs f k ++ (bl (word f (64 * k) 64).testBit 0 64).map (64 * k + ·) := by
  unfold outs
  rw [Nat.mul_add, Nat.mul_one, bl_add, Nat.zero_add, bl_word]
theorem and_pred_lt (x : Nat) (h : x ≠ 0) : x &&& (x - 1) < x := by
  have : x &&& (x - 1) ≤ x - 1 := Nat.and_le_right
  omega
theorem bl_zero : ∀ n k, bl (0 : Nat).testBit k n = []
  | 0, k => rfl
  | n + 1, k => by rw [bl, bl_zero n (k + 1)]; simp
theorem make_own (n : Nat) (hn : n ≤ 256) (w0 : World) : ∃ w', (Instr.makeSlice 109 (.int .i64 0) (.int .i64 (n : Int))).run Tryd.prog w0 = .ok (.slice (some ⟨w0.heap.size, 0, none⟩) 0 n) w' ∧ Own 5 w' w0.heap.size (.slice (some ⟨w0.heap.size, 0, none⟩) 0 n) [] ∧ Grew w0 w' := by
  obtain ⟨i0, hi, hz0, hz1, hz2⟩ := info_parts info_u8
  obtain ⟨w', h1, h2, h3⟩ := run_make_own (P := Tryd.prog) w0 w0.heap.size 109 5 i0 (.int .u8 0) 1 Tryd.underlying109 hi hz0 hz1 .i64 .i64 n (by rw [hz2]; omega) (by unfold maxLen; omega) (Nat.le_refl _)
  exact ⟨w', h1, h2, Grew.of_grownBy h3⟩
theorem cellsL_length (l : List Nat) : (cellsL l).length = l.length := by simp [cellsL]
theorem rest_step {x i : Nat} {ys L : List Nat} (h0 : x ≠ 0) (hx : x < 18446744073709551616) (h : ys ++ (bl x.testBit 0 64).map (64 * i + ·) = L) : Lib.ctz 64 x < 64 ∧ (ys ++ [64 * i + Lib.ctz 64 x]) ++ (bl (x &&& (x - 1)).testBit 0 64).map (64 * i + ·) = L := by
  obtain ⟨h1, h2⟩ := low_bit x h0 hx
  refine ⟨h1, ?_⟩
  rw [← h, h2]
  simp
set_option maxRecDepth 20000 in
set_option maxHeartbeats 1000000 in
theorem Text_w (A : Nat → Nat) (L : Nat → List Nat) (n : Nat) (w : World) (hT : TabZ w) (HC : ∀ w0, Hid (Calls Tryd.prog 107 #[setW A] w0 fun e w' => e = .returned (.int .i64 (n : Int)) ∧ Grew w0 w'))
    (HL : Hid (W64 A)) (hn : n ≤ 256) (H0 : Hid (L 0 = [])) (HS : ∀ i, Hid (L (i + 1) = L i ++ (bl (A i).testBit 0 64).map (64 * i + ·))) (HB : Hid (∀ i, i ≤ 4 → (L i).length ≤ 256)) (HM : Hid (∀ x ∈ L 4, x < 256)) :
    Calls Tryd.prog 77 #[setW A] w fun e w' => e = .returned (.string ⟨(bytesL (L 4)).toArray⟩) ∧ Grew w w' := by
  have HT := hidd hT
  clear hT
  have HK : ∀ w0, Hid _ := fun w0 => hidd (make_own n hn w0)
  have HW : Hid (ArrAt (w.alloc (.cells (wordsB A) 77)) w.heap.size 0 4 (fun j => .int .u64 (A j))) := words_at w A
  have HG : Hid (Grew w (w.alloc (.cells (wordsB A) 77))) := (Grew.refl w).alloc _
  unfold wordsB at HW HG
  unfold setW at HC ⊢
  go_enter Tryd.func77, Tryd.ntmps77
  go_wp2_with fail
  refine (HC _).out.mono ?_; rintro e w1 ⟨rfl, G⟩
  obtain ⟨w2, hm, OW, G2⟩ := (HK w1).out
  have KW := hidd (HG.out.trans G)
  have KX := hidd (HW.out.kept (G.trans G2))
  have OW := hidd OW
  have hsz : w.heap.size ≤ w1.heap.size := KW.out.lt
  have KW := hidd (KW.out.trans G2)
  have hs2 : w1.heap.size ≤ w2.heap.size := G2.lt
  clear G G2 HC HK HW HG
  have c0 := KX.out.at0 0 (by omega)
  have c1 := KX.out.at0 1 (by omega)
  have c2 := KX.out.at0 2 (by omega)
  have c3 := KX.out.at0 3 (by omega)
  clear KX
  go_wp2_with fail
  clear c0 c1 c2 c3 hm
  go_loopw [3, 4, 5, 10] (fun u3 u4 u5 u10 wr => ∃ (i : Nat), u10 = .int .i64 i ∧ i ≤ 4 ∧ Hid (Own 5 wr w1.heap.size u3 (cellsL (L i))) ∧ Hid (Grew w wr) ∧ w1.heap.size ≤ wr.heap.size) (fun _ _ _ u10 _ => 4 - (intOf u10).toNat)
  case atStart => exact ⟨0, rfl, Nat.zero_le _, (by rw [H0.out]; exact OW), KW, hs2⟩
  case round =>
    obtain ⟨i, rfl, hi, OR, KW, hsr⟩ := hrel
    by_cases h : i < 4
    · have hx := run_index_set A i h
      have HLB := hidd (HB.out (i + 1) (by omega))
      have hdd : decide ((i : Int) < 4) = true := decide_eq_true (by omega)
      go_wp2_with fail
      go_loopw [3, 5] (fun u3 u5 wr2 => ∃ (x : Nat) (ys : List Nat), u5 = .int .u64 x ∧ x < 18446744073709551616 ∧ Hid (Own 5 wr2 w1.heap.size u3 (cellsL ys)) ∧ Hid (ys ++ (bl x.testBit 0 64).map (64 * i + ·) = L (i + 1)) ∧ Hid (Grew w wr2) ∧ w1.heap.size ≤ wr2.heap.size) (fun _ u5 _ => (intOf u5).toNat)
      case atStart => exact ⟨A i, L i, rfl, HL.out i, OR, (HS i).out.symm, KW, hsr⟩
      case round =>
        obtain ⟨x, ys, rfl, hx, OR, HY, KW, hsr⟩ := hrel
        by_cases h0 : x = 0
        · subst h0
          have e : ys = L (i + 1) := by have := HY.out; rw [bl_zero] at this; simpa using this
          subst e
          go_wp2_with fail
          exact ⟨⟨i + 1, (by simp), (by omega), OR, KW, hsr⟩, (by simp [intOf]; omega)⟩
        · obtain ⟨hk, hY⟩ := rest_step h0 hx HY.out
          have HZ := hidd (zeros_any x wr hx h0 (HT.out.kept KW.out))
          have HY2 := hidd hY
          have HD := hidd (and_pred_lt x h0)
          obtain ⟨k, hk0⟩ : ∃ k, Lib.ctz 64 x = k := ⟨_, rfl⟩
          rw [hk0] at hk HY2 HZ
          have hln : (cellsL ys).length + 1 ≤ 257 := by
            have := HLB.out
            rw [← HY.out] at this
            rw [cellsL_length]
            simp at this
            omega
          obtain ⟨v', w', hap, HO', HB'⟩ := own_byte OR.out (B := w1.heap.size) hsr ((64 * i + k : Nat) : Int) (by omega) 109 5
          have HO2 := hidd HO'
          have HB2 := hidd HB'
          have hA2 : bits .and .u64 (x : Int) ((x : Int) - 1) = ((x &&& (x - 1) : Nat) : Int) := by
            rw [show ((x : Int) - 1) = ((x - 1 : Nat) : Int) by omega]
            exact bits_and_u64_nat x (x - 1) hx (by omega)
          clear HO' HB' hk0 hY
          go_wp2_with fail
          refine HZ.out.mono ?_; rintro e wz ⟨rfl, rfl⟩
          go_wp2_with (at_builtin; refine wpList_append_eq rfl rfl rfl rfl hap ?_)
          go_roundw
          case rel => exact ⟨x &&& (x - 1), ys ++ [64 * i + k], rfl, Nat.lt_trans HD.out hx, (by rw [← cellsL_snoc]; exact HO2), HY2, KW.out.below HB2.out hsz, Nat.le_trans hsr HB2.out.size⟩
          case measure => have := HD.out; simp [intOf]; omega
    · obtain rfl : i = 4 := by omega
      have hf := own_string (bytesL (L 4)) (by rw [← cellsL_eq _ HM.out]; exact OR.out)
      go_wp2_with fail
      go_ret
      exact ⟨rfl, KW.out⟩
theorem Text_any (f : Nat → Bool) (w : World) (hT : TabZ w) : Calls Tryd.prog 77 #[setV f] w fun e w' => e = .returned (.string ⟨(bytesL (bl f 0 256)).toArray⟩) ∧ Grew w w' :=
  Text_w (fun j => word f (64 * j) 64) (outs f) (bl f 0 256).length w hT (fun w0 => SetSize_any f w0) (fun j => word_lt64 f _) (bl_length _ _ _) rfl (fun i => outs_next f i)
    (fun i hi => Nat.le_trans (bl_length f (64 * i) 0) (by omega)) (fun x hx => by have := (bl_mem (f := f) 256 0 x hx).2.1; omega)
end Go.Proofs.YtkkdpafkafjfgaaDoor
