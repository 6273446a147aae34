/- math/bits.OnesCount64 and TrailingZeros64; sets.Has, sets.Size. Conditions: words of 64 bits; the library's table of de Bruijn. -/
import Derived.Test.YtkkdpafkafjfgaaDoorWwPStArr
import Derived.Test.YtkkdpafkafjfgaaDoorWwScPat
namespace Go.Proofs.YtkkdpafkafjfgaaDoor
open Go.RowKit
set_option linter.unusedVariables false
theorem and_one (x k : Nat) (hx : x < 18446744073709551616) : (bits .and .u64 ((x : Int) / ((2 ^ k : Nat) : Int)) 1 == 1) = ((x / 2 ^ k) % 2 == 1) := by
  have hd : x / 2 ^ k < 18446744073709551616 := Nat.lt_of_le_of_lt (Nat.div_le_self _ _) hx
  have a1 := bits_and_u64_nat (x / 2 ^ k) 1 hd (by omega)
  rw [show ((x : Int) / ((2 ^ k : Nat) : Int)) = ((x / 2 ^ k : Nat) : Int) by simp]
  erw [a1]
  have h := Nat.and_two_pow_sub_one_eq_mod (x / 2 ^ k) 1
  simp only [Nat.pow_one, Nat.add_one_sub_one] at h
  rw [h]
  rcases Nat.mod_two_eq_zero_or_one (x / 2 ^ k) with h | h <;> rw [h] <;> rfl
theorem Has_any (f : Nat → Bool) (b : Nat) (w : World) (hb : b < 256) : Calls Tryd.prog 29 #[setV f, .int .u8 b] w fun e w' => e = .returned (.bool (f b)) ∧ Grew w w' := by
  obtain ⟨q, hq0⟩ : ∃ q, q = b / 64 := ⟨_, rfl⟩
  obtain ⟨r, hr0⟩ : ∃ r, r = b % 64 := ⟨_, rfl⟩
  have hq : ((b : Int) / 64) = (q : Int) := by omega
  have hr : ((b : Int) % 64) = (r : Int) := by omega
  have hlt : q < 4 := by omega
  have hrl : r < 64 := by omega
  have HX : Hid (ArrAt (w.alloc (.cells (wordsB fun j => word f (64 * j) 64) 77)) w.heap.size 0 4 (fun j => .int .u64 (word f (64 * j) 64))) := words_at w _
  have cw := HX.out.at0 q hlt
  have HW := hidd (has_word f (64 * q) r hrl)
  have HB := hidd (show 64 * q + r = b by omega)
  have HL := hidd (word_lt64 f (64 * q))
  have HO : Hid ((bits .and .u64 ((word f (64 * q) 64 : Nat) / 2 ^ r : Int) 1 == 1) = f b) := by
    have := and_one (word f (64 * q) 64) r (word_lt64 f _)
    rw [has_word f (64 * q) r hrl, show 64 * q + r = b by omega] at this
    rw [Hid, ← this]
    simp
  obtain ⟨x, hx⟩ : ∃ x, word f (64 * q) 64 = x := ⟨_, rfl⟩
  rw [hx] at cw HW HL HO
  unfold wordsB at cw HX
  simp only [Nat.mul_zero, Nat.mul_one, Nat.reduceMul] at cw HX
  unfold setV
  clear hq0 hr0 hx
  go_enter Tryd.func29, Tryd.ntmps29
  go_wp2_with fail
  go_ret
  exact ⟨congrArg (fun v => Ending.returned (.bool v)) HO.out, (Grew.refl w).alloc _⟩
end Go.Proofs.YtkkdpafkafjfgaaDoor
namespace Go.Proofs.YtkkdpafkafjfgaaDoor
open Go.RowKit
set_option linter.unusedVariables false
def upd (f : Nat → Bool) (c : Nat) : Nat → Bool := fun b => f b || b == c
theorem word_upd (f : Nat → Bool) (q r : Nat) (hr : r < 64) : word (upd f (64 * q + r)) (64 * q) 64 = word f (64 * q) 64 ||| 2 ^ r := by
  symm
  refine word_eq (Nat.or_lt_two_pow (word_lt f 64 _) (Nat.pow_lt_pow_right (by decide) hr)) fun j hj => ?_
  rw [Nat.testBit_or, testBit_word, Nat.testBit_two_pow]
  simp only [hj, decide_true, Bool.true_and, upd]
  congr 1
  by_cases e : r = j
  · subst e; simp
  · have h1 : ¬ j = r := fun x => e x.symm
    simp [e, h1]
theorem word_upd_other (f : Nat → Bool) (q r k : Nat) (hr : r < 64) (hk : k ≠ q) : word (upd f (64 * q + r)) (64 * k) 64 = word f (64 * k) 64 :=
  word_congr fun j hj => by
    have h1 : ¬ (64 * k + j = 64 * q + r) := by omega
    simp [upd, h1]
theorem upd_row (f : Nat → Bool) (q r : Nat) (hr : r < 64) (j : Nat) : (if j = q then Value.int .u64 ((word f (64 * q) 64 ||| 2 ^ r : Nat) : Int) else .int .u64 (word f (64 * j) 64)) = .int .u64 (word (upd f (64 * q + r)) (64 * j) 64) := by
  by_cases e : j = q
  · subst e; rw [if_pos rfl, word_upd f j r hr]
  · rw [if_neg e, word_upd_other f q r j hr e]
theorem or_bit (x r : Nat) (hx : x < 18446744073709551616) (hr : r < 64) : bits .or .u64 (x : Int) (IntKind.u64.wrap (2 ^ r : Int)) = ((x ||| 2 ^ r : Nat) : Int) := by
  have h1 : 2 ^ r < 2 ^ 64 := Nat.pow_lt_pow_right (by decide) hr
  have e : IntKind.u64.wrap (2 ^ r : Int) = ((2 ^ r : Nat) : Int) := by
    rw [IntKind.wrap_u64, show ((2 : Int) ^ r) = ((2 ^ r : Nat) : Int) by simp]
    generalize 2 ^ r = y at h1 ⊢
    omega
  rw [e]
  exact bits_or_u64_nat x (2 ^ r) hx h1
def emptyS : Nat → Bool := fun _ => false
theorem word_empty : ∀ n b, word emptyS b n = 0
  | 0, b => rfl
  | n + 1, b => by rw [word, word_empty n]; rfl
def setOf (l : List UInt8) : Nat → Bool := l.foldl (fun f c => upd f c.toNat) emptyS
theorem setOf_snoc (l : List UInt8) (c : UInt8) : setOf (l ++ [c]) = upd (setOf l) c.toNat := by simp [setOf]
theorem setOf_mem (l : List UInt8) (b : Nat) : setOf l b = l.any (fun c => b == c.toNat) := by
  have key : ∀ (l : List UInt8) (f : Nat → Bool), l.foldl (fun f c => upd f c.toNat) f b = (f b || l.any (fun c => b == c.toNat)) := by
    intro l
    induction l with
    | nil => intro f; simp
    | cons c l ih => intro f; rw [List.foldl_cons, ih]; simp [upd, Bool.or_assoc]
  rw [setOf, key]; simp [emptyS]
theorem take_next (t : ByteArray) (i : Nat) (h : i < t.size) : setOf (t.data.toList.take (i + 1)) = upd (setOf (t.data.toList.take i)) (t[i].toNat) := by
  have h' : i < t.data.toList.length := h
  rw [List.take_succ_eq_append_getElem h', setOf_snoc]
  rfl
theorem zeros_at (w : World) : ArrAt (w.alloc (.cells (wordsB fun _ => 0) 77)) w.heap.size 0 4 (fun j => .int .u64 (word emptyS (64 * j) 64)) :=
  (words_at w fun _ => 0).congr fun j hj => by rw [word_empty]
set_option maxHeartbeats 1000000 in
theorem Of_any (t : ByteArray) (w : World) (ht : t.size ≤ maxLen) : Calls Tryd.prog 58 #[.string t] w fun e w' => e = .returned (setV (setOf t.data.toList)) ∧ Grew w w' := by
  have HX : Hid (ArrAt (w.alloc (.cells (wordsB fun _ => 0) 77)) w.heap.size 0 4 (fun j => .int .u64 (word emptyS (64 * j) 64))) := zeros_at w
  have HG : Hid (Grew w (w.alloc (.cells (wordsB fun _ => 0) 77))) := (Grew.refl w).alloc _
  have HN : Hid (∀ i (h : i < t.size), setOf (t.data.toList.take (i + 1)) = upd (setOf (t.data.toList.take i)) (t[i].toNat)) := fun i h => take_next t i h
  have HE : Hid (setOf (t.data.toList.take t.size) = setOf t.data.toList) := by
    rw [Hid, List.take_of_length_le (show t.data.toList.length ≤ t.size from Nat.le_refl _)]
  unfold wordsB at HX HG
  have htt : t.size ≤ 9223372036854775807 := by unfold maxLen at ht; omega
  clear ht
  go_enter Tryd.func58, Tryd.ntmps58
  go_wp2_with fail
  go_loopw [3, 6] (fun u3 u6 wr => ∃ (i : Nat), u6 = .int .i64 i ∧ i ≤ t.size ∧ Hid (ArrAt wr w.heap.size 0 4 (fun j => .int .u64 (word (setOf (t.data.toList.take i)) (64 * j) 64))) ∧ Hid (Grew w wr)) (fun _ u6 _ => t.size - (intOf u6).toNat)
  case atStart => exact ⟨0, rfl, Nat.zero_le _, HX, HG⟩
  case round =>
    obtain ⟨i, rfl, hi, KX, KW⟩ := hrel
    clear HX HG
    by_cases h : i < t.size
    · obtain ⟨b, hb0⟩ : ∃ b, b = t[i].toNat := ⟨_, rfl⟩
      have hb := t[i].toNat_lt
      obtain ⟨q, hq0⟩ : ∃ q, q = b / 64 := ⟨_, rfl⟩
      obtain ⟨r, hr0⟩ : ∃ r, r = b % 64 := ⟨_, rfl⟩
      have hq : ((t[i].toNat : Int) / 64) = (q : Int) := by omega
      have hr : ((t[i].toNat : Int) % 64) = (r : Int) := by omega
      have hlt : q < 4 := by omega
      have hrl : r < 64 := by omega
      have HI : Hid (64 * q + r = t[i].toNat) := by rw [Hid]; omega
      have cw := KX.out.at0 q hlt
      have cf := KX.out.free0 q hlt
      have HL := hidd (word_lt64 (setOf (t.data.toList.take i)) (64 * q))
      clear hq0 hr0 hb0
      go_wp2_with fail
      go_region
      have ho := hidd (or_bit (word (setOf (t.data.toList.take i)) (64 * q) 64) r HL.out hrl)
      have KX' := hidd (((KX.out.set0 q hlt (.int .u64 (bits .or .u64 (word (setOf (t.data.toList.take i)) (64 * q) 64 : Nat) (IntKind.u64.wrap (2 ^ r : Int))))).drew).congr fun j hj => by rw [ho.out, upd_row _ q r hrl j, HI.out, ← HN.out i h])
      have KW' := hidd ((KW.out.setCell (p := ⟨w.heap.size, q, none⟩) (by simp) (.int .u64 (bits .or .u64 (word (setOf (t.data.toList.take i)) (64 * q) 64 : Nat) (IntKind.u64.wrap (2 ^ r : Int))))).drew)
      go_wp2_with fail
      exact ⟨⟨i + 1, (by simp), (by omega), KX', KW'⟩, (by simp [intOf]; omega)⟩
    · obtain rfl : i = t.size := by omega
      go_wp2_with (first | (refine wpList_load_arr rfl rfl rfl KX.out Tryd.underlying77 rfl info_set ?_) | (refine wpList_store_arr rfl rfl rfl rfl KX.out info_set (fun j _ => rfl) ?_; intro w5 hS hb))
      refine bodyPost_arr rfl rfl hS Tryd.underlying77 rfl info_set rfl ⟨?_, KW.out.below hb (by omega)⟩
      rw [HE.out]
      rfl
end Go.Proofs.YtkkdpafkafjfgaaDoor
namespace Go.Proofs.YtkkdpafkafjfgaaDoor
open Go.RowKit
set_option linter.unusedVariables false
end Go.Proofs.YtkkdpafkafjfgaaDoor

namespace Go.Proofs.YtkkdpafkafjfgaaDoor
open Go.RowKit
set_option linter.unusedVariables false
set_option maxRecDepth 100000 in
set_option maxHeartbeats 4000000 in
theorem wrong_set_more {w : World} {b o : Nat} {k : Int} {t : ByteArray} {n : Int} {m : ByteArray} {L : Nat} (h : Seen w b o k t n m L) (hk : k = 3 ∨ k = 4 ∨ k = 5 ∨ k = 6 ∨ k = 7) (hs : t.size ≤ 65536) (hs0 : 0 < t.size) (hl : 0 < L) : Told w b o 5 := by
  obtain ⟨c0, c1, c2, c3, ⟨a, c, c4⟩, hL, hk2, hn2, ht, hm⟩ := h
  have e1 : decide (65536 < (t.size : Int)) = false := decide_eq_false (by omega)
  have e2 : t.toList.isEmpty = false := by
    rw [Lib.toList_data, ← Bool.not_eq_true, List.isEmpty_iff]
    intro e; have := size_data t; rw [e, List.length_nil] at this; omega
  clear hs hs0
  have e8 : decide ((L : Int) < 0) = false := decide_eq_false (by omega)
  have e9 : decide ((0 : Int) < (L : Int)) = true := decide_eq_true (by omega)
  have e7 : decide (0 < L) = true := decide_eq_true hl
  rcases hk with rfl | rfl | rfl | rfl | rfl
  all_goals
    unfold Told
    go_enter Tryd.func56, Tryd.ntmps56
    go_wp2_with fail
    go_ret
    exact ⟨rfl, rfl⟩
set_option maxRecDepth 100000 in
set_option maxHeartbeats 4000000 in
theorem wrong_set_ok {w : World} {b o : Nat} {k : Int} {t : ByteArray} {n : Int} {m : ByteArray} {L : Nat} (h : Seen w b o k t n m L) (hk : k = 3 ∨ k = 4 ∨ k = 5 ∨ k = 6 ∨ k = 7) (hs : t.size ≤ 65536) (hs0 : 0 < t.size) (hl : 0 ≤ L) (hl2 : L ≤ 0) : Told w b o 0 := by
  obtain ⟨c0, c1, c2, c3, ⟨a, c, c4⟩, hL, hk2, hn2, ht, hm⟩ := h
  have e1 : decide (65536 < (t.size : Int)) = false := decide_eq_false (by omega)
  have e2 : t.toList.isEmpty = false := by
    rw [Lib.toList_data, ← Bool.not_eq_true, List.isEmpty_iff]
    intro e; have := size_data t; rw [e, List.length_nil] at this; omega
  clear hs hs0
  obtain rfl : L = 0 := by omega
  clear hl hl2 hL
  rcases hk with rfl | rfl | rfl | rfl | rfl
  all_goals
    unfold Told
    go_enter Tryd.func56, Tryd.ntmps56
    go_wp2_with fail
    go_ret
    exact ⟨rfl, rfl⟩
end Go.Proofs.YtkkdpafkafjfgaaDoor
namespace Go.Proofs.YtkkdpafkafjfgaaDoor
open Go.RowKit
set_option linter.unusedVariables false
set_option maxRecDepth 100000 in
set_option maxHeartbeats 4000000 in
theorem wrong_name {w : World} {b o : Nat} {k : Int} {t : ByteArray} {n : Int} {m : ByteArray} {L : Nat} (h : Seen w b o k t n m L) (hk : k = 21 ∨ k = 22 ∨ k = 23 ∨ k = 24) (hs : named m = false) : Told w b o 7 := by
  obtain ⟨c0, c1, c2, c3, ⟨a, c, c4⟩, hL, hk2, hn2, ht, hm⟩ := h
  have HN := hidd hs
  clear hs
  rcases hk with rfl | rfl | rfl | rfl
  all_goals
    unfold Told
    go_enter Tryd.func56, Tryd.ntmps56
    go_wp2_with fail
    refine (Named_any m w hm).mono ?_; rintro e w2 ⟨rfl, rfl⟩
    rw [HN.out]
    go_wp2_with fail
    go_ret
    exact ⟨rfl, rfl⟩
set_option maxRecDepth 100000 in
set_option maxHeartbeats 4000000 in
theorem wrong_give_few {w : World} {b o : Nat} {k : Int} {t : ByteArray} {n : Int} {m : ByteArray} {L : Nat} (h : Seen w b o k t n m L) (hk : k = 21 ∨ k = 22) (hs : named m = true) (hl : L < 1) : Told w b o 5 := by
  obtain ⟨c0, c1, c2, c3, ⟨a, c, c4⟩, hL, hk2, hn2, ht, hm⟩ := h
  have HN := hidd hs
  clear hs
  have e8 : decide ((L : Int) < 1) = true := decide_eq_true (by omega)
  clear hl
  rcases hk with rfl | rfl
  all_goals
    unfold Told
    go_enter Tryd.func56, Tryd.ntmps56
    go_wp2_with fail
    refine (Named_any m w hm).mono ?_; rintro e w2 ⟨rfl, rfl⟩
    rw [HN.out]
    go_wp2_with fail
    go_ret
    exact ⟨rfl, rfl⟩
set_option maxRecDepth 100000 in
set_option maxHeartbeats 4000000 in
theorem wrong_give_more {w : World} {b o : Nat} {k : Int} {t : ByteArray} {n : Int} {m : ByteArray} {L : Nat} (h : Seen w b o k t n m L) (hk : k = 21 ∨ k = 22) (hs : named m = true) (hl : 1 < L) : Told w b o 5 := by
  obtain ⟨c0, c1, c2, c3, ⟨a, c, c4⟩, hL, hk2, hn2, ht, hm⟩ := h
  have HN := hidd hs
  clear hs
  have e8 : decide ((L : Int) < 1) = false := decide_eq_false (by omega)
  have e9 : decide ((1 : Int) < (L : Int)) = true := decide_eq_true (by omega)
  clear hl
  rcases hk with rfl | rfl
  all_goals
    unfold Told
    go_enter Tryd.func56, Tryd.ntmps56
    go_wp2_with fail
    refine (Named_any m w hm).mono ?_; rintro e w2 ⟨rfl, rfl⟩
    rw [HN.out]
    go_wp2_with fail
    go_ret
    exact ⟨rfl, rfl⟩
set_option maxRecDepth 100000 in
set_option maxHeartbeats 4000000 in
theorem wrong_give_ok {w : World} {b o : Nat} {k : Int} {t : ByteArray} {n : Int} {m : ByteArray} {L : Nat} (h : Seen w b o k t n m L) (hk : k = 21 ∨ k = 22) (hs : named m = true) (hl : 1 ≤ L) (hl2 : L ≤ 1) : Told w b o 0 := by
  obtain ⟨c0, c1, c2, c3, ⟨a, c, c4⟩, hL, hk2, hn2, ht, hm⟩ := h
  have HN := hidd hs
  clear hs
  have e8 : decide ((L : Int) < 1) = false := decide_eq_false (by omega)
  have e9 : decide ((1 : Int) < (L : Int)) = false := decide_eq_false (by omega)
  clear hl hl2
  rcases hk with rfl | rfl
  all_goals
    unfold Told
    go_enter Tryd.func56, Tryd.ntmps56
    go_wp2_with fail
    refine (Named_any m w hm).mono ?_; rintro e w2 ⟨rfl, rfl⟩
    rw [HN.out]
    go_wp2_with fail
    go_ret
    exact ⟨rfl, rfl⟩
set_option maxRecDepth 100000 in
set_option maxHeartbeats 4000000 in
theorem wrong_call_more {w : World} {b o : Nat} {k : Int} {t : ByteArray} {n : Int} {m : ByteArray} {L : Nat} (h : Seen w b o k t n m L) (hk : k = 23 ∨ k = 24) (hs : named m = true) (hl : 0 < L) : Told w b o 5 := by
  obtain ⟨c0, c1, c2, c3, ⟨a, c, c4⟩, hL, hk2, hn2, ht, hm⟩ := h
  have HN := hidd hs
  clear hs
  have e8 : decide ((L : Int) < 0) = false := decide_eq_false (by omega)
  have e9 : decide ((0 : Int) < (L : Int)) = true := decide_eq_true (by omega)
  have e7 : decide (0 < L) = true := decide_eq_true hl
  rcases hk with rfl | rfl
  all_goals
    unfold Told
    go_enter Tryd.func56, Tryd.ntmps56
    go_wp2_with fail
    refine (Named_any m w hm).mono ?_; rintro e w2 ⟨rfl, rfl⟩
    rw [HN.out]
    go_wp2_with fail
    go_ret
    exact ⟨rfl, rfl⟩
set_option maxRecDepth 100000 in
set_option maxHeartbeats 4000000 in
theorem wrong_call_ok {w : World} {b o : Nat} {k : Int} {t : ByteArray} {n : Int} {m : ByteArray} {L : Nat} (h : Seen w b o k t n m L) (hk : k = 23 ∨ k = 24) (hs : named m = true) (hl : 0 ≤ L) (hl2 : L ≤ 0) : Told w b o 0 := by
  obtain ⟨c0, c1, c2, c3, ⟨a, c, c4⟩, hL, hk2, hn2, ht, hm⟩ := h
  have HN := hidd hs
  clear hs
  obtain rfl : L = 0 := by omega
  clear hl hl2 hL
  rcases hk with rfl | rfl
  all_goals
    unfold Told
    go_enter Tryd.func56, Tryd.ntmps56
    go_wp2_with fail
    refine (Named_any m w hm).mono ?_; rintro e w2 ⟨rfl, rfl⟩
    rw [HN.out]
    go_wp2_with fail
    go_ret
    exact ⟨rfl, rfl⟩
set_option maxRecDepth 100000 in
set_option maxHeartbeats 4000000 in
theorem wrong_plain_more {w : World} {b o : Nat} {k : Int} {t : ByteArray} {n : Int} {m : ByteArray} {L : Nat} (h : Seen w b o k t n m L) (hk : k = 12 ∨ k = 13 ∨ k = 14 ∨ k = 15 ∨ k = 16 ∨ k = 17) (hl : 0 < L) : Told w b o 5 := by
  obtain ⟨c0, c1, c2, c3, ⟨a, c, c4⟩, hL, hk2, hn2, ht, hm⟩ := h
  have e8 : decide ((L : Int) < 0) = false := decide_eq_false (by omega)
  have e9 : decide ((0 : Int) < (L : Int)) = true := decide_eq_true (by omega)
  have e7 : decide (0 < L) = true := decide_eq_true hl
  rcases hk with rfl | rfl | rfl | rfl | rfl | rfl
  all_goals
    unfold Told
    go_enter Tryd.func56, Tryd.ntmps56
    go_wp2_with fail
    go_ret
    exact ⟨rfl, rfl⟩
set_option maxRecDepth 100000 in
set_option maxHeartbeats 4000000 in
theorem wrong_plain_ok {w : World} {b o : Nat} {k : Int} {t : ByteArray} {n : Int} {m : ByteArray} {L : Nat} (h : Seen w b o k t n m L) (hk : k = 12 ∨ k = 13 ∨ k = 14 ∨ k = 15 ∨ k = 16 ∨ k = 17) (hl : 0 ≤ L) (hl2 : L ≤ 0) : Told w b o 0 := by
  obtain ⟨c0, c1, c2, c3, ⟨a, c, c4⟩, hL, hk2, hn2, ht, hm⟩ := h
  obtain rfl : L = 0 := by omega
  clear hl hl2 hL
  rcases hk with rfl | rfl | rfl | rfl | rfl | rfl
  all_goals
    unfold Told
    go_enter Tryd.func56, Tryd.ntmps56
    go_wp2_with fail
    go_ret
    exact ⟨rfl, rfl⟩
end Go.Proofs.YtkkdpafkafjfgaaDoor
