/- Sets of bytes in plain words: words of 64 bits as functions of the place. No program. No condition. -/
import Derived.Test.YtkkdpafkafjfgaaDoorAsPBase
import Derived.Lib.TrailingZeros
import Derived.Test.YtkkdpafkafjfgaaDoorAsPOwn
import Derived.Laws.Rows
import Derived.Deep.LoopGhost
import Derived.StillTailTactics
import Derived.Deep.RegionWith
import Derived.Laws.Bits64b
namespace Go.Proofs.YtkkdpafkafjfgaaDoor
open Go.RowKit
set_option linter.unusedVariables false
def word (f : Nat → Bool) : Nat → Nat → Nat
  | _, 0 => 0
  | b, n + 1 => (f b).toNat + 2 * word f (b + 1) n
theorem testBit_word (f : Nat → Bool) : ∀ (n b j : Nat), (word f b n).testBit j = (decide (j < n) && f (b + j))
  | 0, b, j => by simp [word]
  | n + 1, b, 0 => by
    simp only [word, Nat.testBit_zero, Nat.add_zero]
    cases f b <;> simp [Bool.toNat] <;> omega
  | n + 1, b, j + 1 => by
    have e : ((f b).toNat + 2 * word f (b + 1) n) / 2 = word f (b + 1) n := by cases f b <;> simp only [Bool.toNat, cond_false, cond_true] <;> omega
    rw [word, Nat.testBit_succ, e, testBit_word f n (b + 1) j, show b + 1 + j = b + (j + 1) by omega]
    congr 1
    simp
theorem word_lt (f : Nat → Bool) : ∀ (n b : Nat), word f b n < 2 ^ n
  | 0, b => by simp [word]
  | n + 1, b => by
    have := word_lt f n (b + 1)
    rw [word, Nat.pow_succ]
    cases f b <;> simp only [Bool.toNat, cond_false, cond_true] <;> omega
theorem word_lt64 (f : Nat → Bool) (b : Nat) : word f b 64 < 18446744073709551616 := word_lt f 64 b
theorem word_eq {f : Nat → Bool} {b n a : Nat} (ha : a < 2 ^ n) (h : ∀ j, j < n → a.testBit j = f (b + j)) : a = word f b n := by
  apply Nat.eq_of_testBit_eq
  intro j
  rw [testBit_word]
  by_cases hj : j < n
  · simp [hj, h j hj]
  · have := Nat.testBit_lt_two_pow (Nat.lt_of_lt_of_le ha (Nat.pow_le_pow_right (by decide) (by omega : n ≤ j)))
    simp [hj, this]
theorem word_congr {f g : Nat → Bool} {b n : Nat} (h : ∀ j, j < n → f (b + j) = g (b + j)) : word f b n = word g b n :=
  word_eq (word_lt f n b) (fun j hj => by rw [testBit_word, h j hj]; simp [hj])
theorem word_or (f g : Nat → Bool) (b n : Nat) : word f b n ||| word g b n = word (fun i => f i || g i) b n :=
  word_eq (Nat.or_lt_two_pow (word_lt f n b) (word_lt g n b)) (fun j hj => by simp [Nat.testBit_or, testBit_word, hj])
theorem word_and (f g : Nat → Bool) (b n : Nat) : word f b n &&& word g b n = word (fun i => f i && g i) b n :=
  word_eq (Nat.and_lt_two_pow _ (word_lt g n b)) (fun j hj => by simp [Nat.testBit_and, testBit_word, hj])
def setV (f : Nat → Bool) : Value := .agg #[.int .u64 (word f 0 64), .int .u64 (word f 64 64), .int .u64 (word f 128 64), .int .u64 (word f 192 64)]
theorem setV_congr {f g : Nat → Bool} (h : ∀ b, b < 256 → f b = g b) : setV f = setV g := by
  unfold setV
  rw [word_congr (fun j hj => h (0 + j) (by omega)), word_congr (fun j hj => h (64 + j) (by omega)), word_congr (fun j hj => h (128 + j) (by omega)), word_congr (fun j hj => h (192 + j) (by omega))]
def bl (f : Nat → Bool) : Nat → Nat → List Nat
  | _, 0 => []
  | k, n + 1 => if f k then k :: bl f (k + 1) n else bl f (k + 1) n
theorem bl_congr {f g : Nat → Bool} : ∀ (n k : Nat), (∀ j, k ≤ j → j < k + n → f j = g j) → bl f k n = bl g k n
  | 0, k, h => rfl
  | n + 1, k, h => by
    rw [bl, bl, h k (Nat.le_refl _) (by omega), bl_congr n (k + 1) (fun j h1 h2 => h j (by omega) (by omega))]
theorem bl_add (f : Nat → Bool) : ∀ (n m k : Nat), bl f k (n + m) = bl f k n ++ bl f (k + n) m
  | 0, m, k => by simp [bl]
  | n + 1, m, k => by
    rw [show n + 1 + m = n + m + 1 by omega, bl, bl, bl_add f n m (k + 1), show k + 1 + n = k + (n + 1) by omega]
    split <;> simp
theorem bl_length (f : Nat → Bool) : ∀ (n k : Nat), (bl f k n).length ≤ n
  | 0, k => by simp [bl]
  | n + 1, k => by
    have := bl_length f n (k + 1)
    rw [bl]; split <;> simp <;> omega
theorem bl_mem {f : Nat → Bool} : ∀ (n k x : Nat), x ∈ bl f k n → k ≤ x ∧ x < k + n ∧ f x = true
  | 0, k, x, h => by simp [bl] at h
  | n + 1, k, x, h => by
    rw [bl] at h
    split at h
    · next hf =>
      rcases List.mem_cons.1 h with rfl | h
      · exact ⟨Nat.le_refl _, by omega, hf⟩
      · have := bl_mem n (k + 1) x h; exact ⟨by omega, by omega, this.2.2⟩
    · have := bl_mem n (k + 1) x h; exact ⟨by omega, by omega, this.2.2⟩
theorem mem_bl {f : Nat → Bool} : ∀ (n k x : Nat), k ≤ x → x < k + n → f x = true → x ∈ bl f k n
  | 0, k, x, h1, h2, h3 => by omega
  | n + 1, k, x, h1, h2, h3 => by
    rw [bl]
    by_cases e : x = k
    · subst e; simp [h3]
    · have := mem_bl n (k + 1) x (by omega) (by omega) h3
      split <;> simp [this]
theorem bl_shift (f : Nat → Bool) (d : Nat) : ∀ (n k : Nat), (bl (fun j => f (d + j)) k n).map (d + ·) = bl f (d + k) n
  | 0, k => rfl
  | n + 1, k => by
    rw [bl, bl, show d + k + 1 = d + (k + 1) by omega, ← bl_shift f d n (k + 1)]
    by_cases h : f (d + k) = true
    · rw [if_pos h, if_pos h]; rfl
    · rw [if_neg h, if_neg h]
theorem bl_first {f g : Nat → Bool} {t : Nat} : ∀ (n k : Nat), k ≤ t → t < k + n → f t = true → (∀ j, k ≤ j → j < t → f j = false) → g t = false → (∀ j, j ≠ t → g j = f j) → bl f k n = t :: bl g k n
  | 0, k, h1, h2, h3, h4, h5, h6 => by omega
  | n + 1, k, h1, h2, h3, h4, h5, h6 => by
    rw [bl, bl]
    by_cases e : k = t
    · subst e
      rw [if_pos h3, if_neg (by simp [h5]), bl_congr n (k + 1) (fun j a b => (h6 j (by omega)).symm)]
    · have hk := h4 k (Nat.le_refl _) (by omega)
      rw [if_neg (by simp [hk]), if_neg (by rw [h6 k e]; simp [hk])]
      exact bl_first n (k + 1) (by omega) (by omega) h3 (fun j a b => h4 j (by omega) b) h5 h6
def bcnt (x : Nat) : Nat := (bl x.testBit 0 64).length
theorem cnt_le (x : Nat) : bcnt x ≤ 64 := bl_length _ _ _
theorem low_bit (x : Nat) (h0 : x ≠ 0) (hx : x < 18446744073709551616) :
    Lib.ctz 64 x < 64 ∧ bl x.testBit 0 64 = Lib.ctz 64 x :: bl (x &&& (x - 1)).testBit 0 64 := by
  obtain ⟨m, hm, hk⟩ := Lib.ctzFrom_spec 64 x (by omega) hx
  have hc : Lib.ctz 64 x = Lib.ctzFrom 64 x := if_neg h0
  rw [hc]
  generalize Lib.ctzFrom 64 x = k at hm hk
  have hp := Nat.two_pow_pos k
  have tx : ∀ j, x.testBit j = if j < k then false else (2 * m + 1).testBit (j - k) := by
    intro j
    have := Nat.testBit_two_pow_mul_add (2 * m + 1) (b := 0) hp j
    rw [Nat.add_zero, ← hm] at this
    rw [this]; simp
  have ty : ∀ j, k ≤ j → (x - 1).testBit j = (2 * m).testBit (j - k) := by
    intro j hj
    have e : x - 1 = 2 ^ k * (2 * m) + (2 ^ k - 1) := by
      rw [Nat.mul_add, Nat.mul_one] at hm
      omega
    rw [e, Nat.testBit_two_pow_mul_add _ (by omega) j, if_neg (by omega)]
  refine ⟨hk, bl_first 64 0 (Nat.zero_le _) (by omega) ?_ ?_ ?_ ?_⟩
  · rw [tx, if_neg (by omega), Nat.sub_self]; simp
  · intro j _ hj; rw [tx, if_pos hj]
  · rw [Nat.testBit_and, ty k (Nat.le_refl _), Nat.sub_self]; simp
  · intro j hj
    rw [Nat.testBit_and]
    by_cases h : j < k
    · rw [tx, if_pos h]; rfl
    · rw [ty j (by omega), tx, if_neg h]
      obtain ⟨d, hd⟩ : ∃ d, j - k = d + 1 := ⟨j - k - 1, by omega⟩
      rw [hd, Nat.testBit_succ, Nat.testBit_succ, show (2 * m + 1) / 2 = m by omega, show 2 * m / 2 = m by omega]
      simp
theorem has_word (f : Nat → Bool) (b j : Nat) (hj : j < 64) : (((word f b 64) / 2 ^ j) % 2 == 1) = f (b + j) := by
  have h := testBit_word f 64 b j
  rw [Nat.testBit_eq_decide_div_mod_eq] at h
  simp only [hj, decide_true, Bool.true_and] at h
  rw [← h]
  rfl
theorem bl_words (f : Nat → Bool) : bl f 0 256 = bl f 0 64 ++ (bl f 64 64 ++ (bl f 128 64 ++ bl f 192 64)) := by
  rw [show 256 = 64 + (64 + (64 + 64)) from rfl, bl_add, bl_add, bl_add]
theorem bl_word (f : Nat → Bool) (b : Nat) : (bl (word f b 64).testBit 0 64).map (b + ·) = bl f b 64 := by
  rw [bl_congr (f := (word f b 64).testBit) (g := fun j => f (b + j)) 64 0 (fun j _ hj => by rw [testBit_word]; simp; omega), bl_shift]; rfl
theorem cnt_word (f : Nat → Bool) (b : Nat) : bcnt (word f b 64) = (bl f b 64).length := by
  rw [← bl_word f b, List.length_map]; rfl
end Go.Proofs.YtkkdpafkafjfgaaDoor
namespace Go.Proofs.YtkkdpafkafjfgaaDoor
open Go.RowKit
set_option linter.unusedVariables false
theorem and_split (a b c d : Nat) (ha : a < 256) (hc : c < 256) : (a + 256 * b) &&& (c + 256 * d) = (a &&& c) + 256 * (b &&& d) := by
  have hac : a &&& c < 256 := Nat.and_lt_two_pow (n := 8) _ hc
  apply Nat.eq_of_testBit_eq
  intro j
  rw [Nat.testBit_and]
  have e : ∀ x y : Nat, x + 256 * y = 2 ^ 8 * y + x := fun x y => by omega
  rw [e, e, e, Nat.testBit_two_pow_mul_add _ (i := 8) ha, Nat.testBit_two_pow_mul_add _ (i := 8) hc, Nat.testBit_two_pow_mul_add _ (i := 8) hac]
  split <;> rw [Nat.testBit_and]
def rep (c : Nat) : Nat → Nat
  | 0 => 0
  | n + 1 => c + 256 * rep c n
def f1 (a : Nat) : Nat := ((a / 2) &&& 85) + (a &&& 85)
def f2 (a : Nat) : Nat := ((a / 4) &&& 51) + (a &&& 51)
def f3 (a : Nat) : Nat := (a / 16 + a) &&& 15
def q1 (n x : Nat) : Nat := ((x / 2) &&& rep 85 n) + (x &&& rep 85 n)
def q2 (n x : Nat) : Nat := ((x / 4) &&& rep 51 n) + (x &&& rep 51 n)
def q3 (n x : Nat) : Nat := (x / 16 + x) &&& rep 15 n
theorem sh1 : ∀ (a : Fin 256) (b : Fin 2), (a.val / 2 + 128 * b.val) &&& 85 = (a.val / 2) &&& 85 := by decide +kernel
theorem sh2 : ∀ (a : Fin 256) (b : Fin 4), (a.val / 4 + 64 * b.val) &&& 51 = (a.val / 4) &&& 51 := by decide +kernel
theorem f1_lt : ∀ a : Fin 256, f1 a.val < 256 := by decide +kernel
theorem f21 : ∀ a : Fin 256, f2 (f1 a.val) / 16 ≤ 4 ∧ f2 (f1 a.val) % 16 ≤ 4 := by decide +kernel
theorem f321 : ∀ a : Fin 256, f3 (f2 (f1 a.val)) = (bl a.val.testBit 0 8).length := by decide +kernel
theorem q1_step (n a b : Nat) (ha : a < 256) : q1 (n + 1) (a + 256 * b) = f1 a + 256 * q1 n b := by
  have e : (a + 256 * b) / 2 = (a / 2 + 128 * (b % 2)) + 256 * (b / 2) := by omega
  have h := sh1 ⟨a, ha⟩ ⟨b % 2, by omega⟩
  simp only at h
  unfold q1 f1
  rw [show rep 85 (n + 1) = 85 + 256 * rep 85 n from rfl]
  rw [e, and_split _ _ _ _ (by omega) (by decide), and_split _ _ _ _ ha (by decide), h]
  omega
theorem q2_step (n a b : Nat) (ha : a < 256) : q2 (n + 1) (a + 256 * b) = f2 a + 256 * q2 n b := by
  have e : (a + 256 * b) / 4 = (a / 4 + 64 * (b % 4)) + 256 * (b / 4) := by omega
  have h := sh2 ⟨a, ha⟩ ⟨b % 4, by omega⟩
  simp only at h
  unfold q2 f2
  rw [show rep 51 (n + 1) = 51 + 256 * rep 51 n from rfl]
  rw [e, and_split _ _ _ _ (by omega) (by decide), and_split _ _ _ _ ha (by decide), h]
  omega
theorem q3_step (n a b : Nat) (h1 : a / 16 ≤ 4) (h2 : a % 16 ≤ 4) (h3 : b % 16 ≤ 4) : q3 (n + 1) (a + 256 * b) = f3 a + 256 * q3 n b := by
  have e : (a + 256 * b) / 16 + (a + 256 * b) = (a / 16 + 16 * (b % 16) + a) + 256 * (b / 16 + b) := by omega
  unfold q3 f3
  rw [show rep 15 (n + 1) = 15 + 256 * rep 15 n from rfl, e, and_split _ _ _ _ (by omega) (by decide)]
  have h := Nat.and_two_pow_sub_one_eq_mod (a / 16 + 16 * (b % 16) + a) 4
  have h' := Nat.and_two_pow_sub_one_eq_mod (a / 16 + a) 4
  simp only [Nat.reducePow, Nat.add_one_sub_one] at h h'
  rw [h, h']
  omega
theorem q_small (n b : Nat) (hb : b < 256 ^ n) : q2 n (q1 n b) % 16 ≤ 4 := by
  cases n with
  | zero => have : b = 0 := by simpa using hb
            subst this; decide
  | succ n =>
    have e : b = b % 256 + 256 * (b / 256) := by omega
    have hl : b % 256 < 256 := Nat.mod_lt _ (by decide)
    have := (f21 ⟨b % 256, hl⟩).2
    have h1 := f1_lt ⟨b % 256, hl⟩
    simp only at this h1
    rw [e, q1_step _ _ _ hl, q2_step _ _ _ h1]
    omega
def pop (n x : Nat) : Nat := q3 n (q2 n (q1 n x))
theorem pop_step (n a b : Nat) (ha : a < 256) (hb : b < 256 ^ n) : pop (n + 1) (a + 256 * b) = (bl a.testBit 0 8).length + 256 * pop n b := by
  have h1 := f1_lt ⟨a, ha⟩
  have h2 := f21 ⟨a, ha⟩
  have h3 := f321 ⟨a, ha⟩
  simp only at h1 h2 h3
  unfold pop
  rw [q1_step _ _ _ ha, q2_step _ _ _ h1, q3_step _ _ _ h2.1 h2.2 (q_small n b hb), h3]
theorem bl_split (n a b : Nat) (ha : a < 256) : (bl (a + 256 * b).testBit 0 (8 + n)).length = (bl a.testBit 0 8).length + (bl b.testBit 0 n).length := by
  have e : a + 256 * b = 2 ^ 8 * b + a := by omega
  have h1 : bl (a + 256 * b).testBit 0 8 = bl a.testBit 0 8 := bl_congr 8 0 (fun j _ hj => by
    rw [e, Nat.testBit_two_pow_mul_add _ (i := 8) ha, if_pos (by omega)])
  have h2 : bl (a + 256 * b).testBit 8 n = (bl b.testBit 0 n).map (8 + ·) := by
    rw [← bl_congr (f := fun j => (a + 256 * b).testBit (8 + j)) n 0 (fun j _ hj => by
      show (a + 256 * b).testBit (8 + j) = _
      rw [e, Nat.testBit_two_pow_mul_add _ (i := 8) ha, if_neg (by omega), Nat.add_sub_cancel_left]), bl_shift]
  rw [bl_add, List.length_append, h1, Nat.zero_add, h2, List.length_map]
def fold1 (y : Nat) : Nat := y + y / 256
def fold2 (y : Nat) : Nat := y + y / 65536
def fold3 (y : Nat) : Nat := y + y / 4294967296
theorem sum1 (c0 c1 c2 c3 c4 c5 c6 c7 y : Nat) (hY : c0 + 256 * (c1 + 256 * (c2 + 256 * (c3 + 256 * (c4 + 256 * (c5 + 256 * (c6 + 256 * c7)))))) = y) (k0 : c0 ≤ 8) (k1 : c1 ≤ 8) (k2 : c2 ≤ 8) (k3 : c3 ≤ 8) (k4 : c4 ≤ 8) (k5 : c5 ≤ 8) (k6 : c6 ≤ 8) (k7 : c7 ≤ 8) :
    y < 18446744073709551616 ∧ fold1 y = (c0 + c1) + 256 * ((c1 + c2) + 256 * ((c2 + c3) + 256 * ((c3 + c4) + 256 * ((c4 + c5) + 256 * ((c5 + c6) + 256 * ((c6 + c7) + 256 * c7)))))) := by
  unfold fold1
  have e : y / 256 = c1 + 256 * (c2 + 256 * (c3 + 256 * (c4 + 256 * (c5 + 256 * (c6 + 256 * c7))))) := by omega
  rw [e]
  constructor <;> omega
theorem sum2 (c0 c1 c2 c3 c4 c5 c6 c7 y : Nat) (hY : c0 + 256 * (c1 + 256 * (c2 + 256 * (c3 + 256 * (c4 + 256 * (c5 + 256 * (c6 + 256 * c7)))))) = y) (k0 : c0 ≤ 16) (k1 : c1 ≤ 16) (k2 : c2 ≤ 16) (k3 : c3 ≤ 16) (k4 : c4 ≤ 16) (k5 : c5 ≤ 16) (k6 : c6 ≤ 16) (k7 : c7 ≤ 16) :
    y < 18446744073709551616 ∧ fold2 y = (c0 + c2) + 256 * ((c1 + c3) + 256 * ((c2 + c4) + 256 * ((c3 + c5) + 256 * ((c4 + c6) + 256 * ((c5 + c7) + 256 * (c6 + 256 * c7)))))) := by
  unfold fold2
  have e : y / 65536 = c2 + 256 * (c3 + 256 * (c4 + 256 * (c5 + 256 * (c6 + 256 * c7)))) := by omega
  rw [e]
  constructor <;> omega
theorem sum3 (c0 c1 c2 c3 c4 c5 c6 c7 y : Nat) (hY : c0 + 256 * (c1 + 256 * (c2 + 256 * (c3 + 256 * (c4 + 256 * (c5 + 256 * (c6 + 256 * c7)))))) = y) (k0 : c0 ≤ 32) (k1 : c1 ≤ 32) (k2 : c2 ≤ 32) (k3 : c3 ≤ 32) (k4 : c4 ≤ 32) (k5 : c5 ≤ 32) (k6 : c6 ≤ 32) (k7 : c7 ≤ 8) :
    y < 9223372036854775808 ∧ fold3 y < 9223372036854775808 ∧ fold3 y % 128 = (c0 + c4) % 128 := by
  unfold fold3
  have e : y / 4294967296 = c4 + 256 * (c5 + 256 * (c6 + 256 * c7)) := by omega
  rw [e]
  refine ⟨by omega, by omega, by omega⟩
theorem pop_sum (c0 c1 c2 c3 c4 c5 c6 c7 y : Nat) (hY : c0 + 256 * (c1 + 256 * (c2 + 256 * (c3 + 256 * (c4 + 256 * (c5 + 256 * (c6 + 256 * c7)))))) = y) (k0 : c0 ≤ 8) (k1 : c1 ≤ 8) (k2 : c2 ≤ 8) (k3 : c3 ≤ 8) (k4 : c4 ≤ 8) (k5 : c5 ≤ 8) (k6 : c6 ≤ 8) (k7 : c7 ≤ 8) :
    y < 18446744073709551616 ∧ fold1 y < 18446744073709551616 ∧ fold2 (fold1 y) < 9223372036854775808 ∧ fold3 (fold2 (fold1 y)) < 9223372036854775808 ∧
      fold3 (fold2 (fold1 y)) % 128 = c0 + (c1 + (c2 + (c3 + (c4 + (c5 + (c6 + c7)))))) := by
  obtain ⟨a0, a1⟩ := sum1 c0 c1 c2 c3 c4 c5 c6 c7 y hY k0 k1 k2 k3 k4 k5 k6 k7
  generalize fold1 y = y1 at a1 ⊢
  obtain ⟨b0, b1⟩ := sum2 _ _ _ _ _ _ _ _ y1 a1.symm (by omega) (by omega) (by omega) (by omega) (by omega) (by omega) (by omega) (by omega)
  generalize fold2 y1 = y2 at b1 ⊢
  obtain ⟨d0, d1, d2⟩ := sum3 _ _ _ _ _ _ _ _ y2 b1.symm (by omega) (by omega) (by omega) (by omega) (by omega) (by omega) (by omega) k7
  generalize fold3 y2 = y3 at d1 d2 ⊢
  refine ⟨a0, b0, d0, d1, ?_⟩
  rw [d2]
  clear a0 a1 b0 b1 d0 d1 d2 hY
  omega
theorem pop_more (n m x : Nat) (hx : x < 256 ^ (n + 1)) : ∃ c b, c ≤ 8 ∧ b < 256 ^ n ∧ pop (n + 1) x = c + 256 * pop n b ∧ (bl x.testBit 0 (8 + m)).length = c + (bl b.testBit 0 m).length := by
  have hl : x % 256 < 256 := Nat.mod_lt _ (by decide)
  have hb : x / 256 < 256 ^ n := by rw [Nat.pow_succ] at hx; omega
  refine ⟨(bl (x % 256).testBit 0 8).length, x / 256, bl_length _ _ _, hb, ?_, ?_⟩
  · rw [← pop_step _ _ _ hl hb]; congr 1; omega
  · rw [← bl_split _ _ _ hl, show x % 256 + 256 * (x / 256) = x by omega]
theorem pop_zero (x : Nat) : pop 0 x = 0 := by unfold pop q3 rep; simp
theorem pop_eq (x : Nat) (hx : x < 18446744073709551616) :
    pop 8 x < 18446744073709551616 ∧ fold1 (pop 8 x) < 18446744073709551616 ∧ fold2 (fold1 (pop 8 x)) < 9223372036854775808 ∧ fold3 (fold2 (fold1 (pop 8 x))) < 9223372036854775808 ∧
      fold3 (fold2 (fold1 (pop 8 x))) % 128 = bcnt x := by
  obtain ⟨c0, x1, k0, l0, e0, d0⟩ := pop_more 7 56 x (by simpa using hx)
  obtain ⟨c1, x2, k1, l1, e1, d1⟩ := pop_more 6 48 x1 l0
  obtain ⟨c2, x3, k2, l2, e2, d2⟩ := pop_more 5 40 x2 l1
  obtain ⟨c3, x4, k3, l3, e3, d3⟩ := pop_more 4 32 x3 l2
  obtain ⟨c4, x5, k4, l4, e4, d4⟩ := pop_more 3 24 x4 l3
  obtain ⟨c5, x6, k5, l5, e5, d5⟩ := pop_more 2 16 x5 l4
  obtain ⟨c6, x7, k6, l6, e6, d6⟩ := pop_more 1 8 x6 l5
  obtain ⟨c7, x8, k7, l7, e7, d7⟩ := pop_more 0 0 x7 l6
  have hc : bcnt x = c0 + (c1 + (c2 + (c3 + (c4 + (c5 + (c6 + c7)))))) := by
    show (bl x.testBit 0 (8 + 56)).length = _
    rw [d0, d1, d2, d3, d4, d5, d6, d7]
    rfl
  have hy : c0 + 256 * (c1 + 256 * (c2 + 256 * (c3 + 256 * (c4 + 256 * (c5 + 256 * (c6 + 256 * c7)))))) = pop 8 x := by
    rw [e0, e1, e2, e3, e4, e5, e6, e7, pop_zero, Nat.mul_zero, Nat.add_zero]
  rw [hc]
  exact pop_sum _ _ _ _ _ _ _ _ _ hy k0 k1 k2 k3 k4 k5 k6 k7
end Go.Proofs.YtkkdpafkafjfgaaDoor
namespace Go.Proofs.YtkkdpafkafjfgaaDoor
open Go.RowKit
set_option linter.unusedVariables false
theorem plain_addr_add (b o i : Nat) : (⟨b, o, none⟩ : Addr).add i = ⟨b, o + i, none⟩ := by
  unfold Addr.add; split
  · next h0 => subst h0; rfl
  · rfl
def rowB (n : Nat) (f : Nat → Value) : Array Value := ((List.range n).map f).toArray
theorem rowB_congr {n : Nat} {f g : Nat → Value} (h : ∀ j, j < n → f j = g j) : rowB n f = rowB n g := by
  unfold rowB; congr 1; exact List.map_congr_left fun j hj => h j (List.mem_range.1 hj)
def aggB (d : TypeDesc) : Bool := match d with | .struct _ | .array _ _ => true | _ => false
theorem run_loadVar_arr {w : World} {b n : Nat} {f : Nat → Value} (h : ArrAt w b 0 n f) {ty : TypeId} {d : TypeDesc} (hu : Tryd.prog.underlying ty = some d) (hd : aggB d = true) (hi : (Tryd.prog.info? ty).map (·.size) = some n) :
    (loadVar ty ⟨b, 0, none⟩).run Tryd.prog w = .ok (.agg (rowB n f)) w := by
  have hl := run_loadCells (P := Tryd.prog) w ⟨b, 0, none⟩ n f (fun j hj => by rw [plain_addr_add]; exact h.at j hj)
  cases hq : Tryd.prog.info? ty with
  | none => rw [hq] at hi; cases hi
  | some i =>
    have hs : i.size = n := by simpa [hq] using hi
    have hagg : (isAgg ty).run Tryd.prog w = .ok true w := by
      unfold isAgg
      rw [Sem.run_bind, run_underlying hu w]
      unfold aggB at hd
      cases d <;> simp_all
    simp [loadVar, Sem.run_bind, hagg, sizeOf, typeInfo, hq, hs, hl, rowB]
theorem run_storeCells_arr (b : Nat) : ∀ (l : List Value) (i : Nat) (w : World), (∀ j, j < l.length → (w.cell? ⟨b, i + j, none⟩).isSome ∧ w.frozen? ⟨b, i + j, none⟩ = false) → (∀ v ∈ l, v.oneCell' = true) →
    ∃ w', (storeCells ⟨b, 0, none⟩ l i).run Tryd.prog w = .ok () w' ∧ (∀ j, j < l.length → w'.cell? ⟨b, i + j, none⟩ = l[j]?) ∧ (∀ q, w'.frozen? q = w.frozen? q) ∧ (∀ o, o < i → w'.cell? ⟨b, o, none⟩ = w.cell? ⟨b, o, none⟩) ∧ Below b w w'
  | [], i, w, _, _ => ⟨w, rfl, fun j hj => by simp at hj, fun _ => rfl, fun _ _ => rfl, Below.refl _ _⟩
  | v :: l, i, w, h, hv => by
    obtain ⟨h0, h1⟩ := h 0 (by simp)
    rw [Nat.add_zero] at h0 h1
    obtain ⟨u, hu⟩ := Option.isSome_iff_exists.1 h0
    obtain ⟨w', k1, k2, k3, k4, k5⟩ := run_storeCells_arr b l (i + 1) (w.setCell ⟨b, i, none⟩ v) (fun j hj => by
      obtain ⟨c1, c2⟩ := h (j + 1) (by simpa using hj)
      rw [show i + (j + 1) = i + 1 + j by omega] at c1 c2
      refine ⟨by rw [setCell_cell_other _ _ _ _ (.inr (by simp; omega))]; exact c1, by rw [setCell_frozen]; exact c2⟩) (fun x hx => hv x (by simp [hx]))
    refine ⟨w', ?_, fun j hj => ?_, fun q => by rw [k3, setCell_frozen], fun o ho => by rw [k4 o (by omega), setCell_cell_other _ _ _ _ (.inr (by simp; omega))], Below.trans (Below.setCell' (by simp) v) k5⟩
    · unfold storeCells
      rw [plain_addr_add, Nat.zero_add, Sem.run_bind, run_store _ _ _ _ _ (hv v (by simp)), hu]
      simp only [h1, Bool.false_eq_true, if_false, Result.andThen]
      exact k1
    · cases j with
      | zero => rw [Nat.add_zero, k4 i (by omega), setCell_cell_same rfl hu]; rfl
      | succ j => rw [show i + (j + 1) = i + 1 + j by omega, k2 j (by simpa using hj)]; rfl
theorem run_storeVar_arr {w : World} {b n : Nat} {f0 f : Nat → Value} (h : ArrAt w b 0 n f0) {ty : TypeId} (hi : (Tryd.prog.info? ty).map (·.size) = some n) (h1 : ∀ j, j < n → (f j).oneCell' = true) :
    ∃ w', (storeVar ty ⟨b, 0, none⟩ (.agg (rowB n f))).run Tryd.prog w = .ok () w' ∧ ArrAt w' b 0 n f ∧ Below b w w' := by
  obtain ⟨w', k1, k2, k3, _, k5⟩ := run_storeCells_arr b ((List.range n).map f) 0 w (fun j hj => by
    have := h j (by simpa using hj)
    rw [this.1]; exact ⟨rfl, this.2⟩) (fun v hv => by
    obtain ⟨j, hj, rfl⟩ := List.mem_map.1 hv
    exact h1 j (List.mem_range.1 hj))
  refine ⟨w', ?_, fun j hj => ⟨?_, by rw [k3]; exact (h j hj).2⟩, k5⟩
  · cases hq : Tryd.prog.info? ty with
    | none => rw [hq] at hi; cases hi
    | some i =>
      have hs : i.size = n := by simpa [hq] using hi
      simp [storeVar, Sem.run_bind, sizeOf, typeInfo, hq, hs, Value.cells, rowB, k1]
  · rw [k2 j (by simpa using hj)]; simp [hj]
section
variable {ops : Array Oper} {rest : List Oper} {o : Oper} {a : Act} {w : World} {Q : Exit → Act → World → Prop}
theorem wpList_load_arr (hgd : o.guard = none) {ty : TypeId} {x : Operand} (ho : o.op = .load ty x) {b n : Nat} {f : Nat → Value} (hx : a.eval x = .pointer (some ⟨b, 0, none⟩)) (hA : ArrAt w b 0 n f) {d : TypeDesc} (hu : Tryd.prog.underlying ty = some d) (hd : aggB d = true)
    (hi : (Tryd.prog.info? ty).map (·.size) = some n) (h : wpList Tryd.prog ops Q rest (a.put o.dst (.agg (rowB n f))) w) : wpList Tryd.prog ops Q (o :: rest) a w := by
  refine wpList_plain hgd fun _ hK => ?_
  unfold Oper.wp execOp
  simp only [ho, hx, Instr.loadAt, Instr.sureAddr, Sem.run_bind, Sem.run_pure, Result.andThen_ok, run_loadVar_arr hA hu hd hi]
  exact hK _ _ h
theorem wpList_store_arr (hgd : o.guard = none) {ty : TypeId} {x y : Operand} (ho : o.op = .store ty x y) {b n : Nat} {f0 f : Nat → Value} (hx : a.eval x = .pointer (some ⟨b, 0, none⟩)) (hy : a.eval y = .agg (rowB n f)) (hA : ArrAt w b 0 n f0)
    (hi : (Tryd.prog.info? ty).map (·.size) = some n) (h1 : ∀ j, j < n → (f j).oneCell' = true) (h : ∀ w', ArrAt w' b 0 n f → Below b w w' → wpList Tryd.prog ops Q rest (a.put o.dst undef) w') : wpList Tryd.prog ops Q (o :: rest) a w := by
  refine wpList_plain hgd fun _ hK => ?_
  obtain ⟨w', k1, k2, k3⟩ := run_storeVar_arr (f := f) hA hi h1
  unfold Oper.wp execOp
  simp only [ho, hx, hy, Instr.storeAt, Instr.sureAddr, Sem.run_bind, Sem.run_pure, Result.andThen_ok, k1]
  exact hK _ _ (h w' k2 k3)
theorem bodyPost_arr {fn : Func} {R : Ending → World → Prop} {p : Tmp} {ty : TypeId} (h : fn.results = #[.cell p ty]) {b n : Nat} {f : Nat → Value} (hp : a.tmps.getD p undef = .pointer (some ⟨b, 0, none⟩)) (hA : ArrAt w b 0 n f) {d : TypeDesc} (hu : Tryd.prog.underlying ty = some d) (hd : aggB d = true)
    (hi : (Tryd.prog.info? ty).map (·.size) = some n) (hdf : a.defers = []) (hR : R (.returned (.agg (rowB n f))) w) : bodyPost Tryd.prog fn R .ret a w := by
  refine bodyPost_ret ?_ hdf hR
  have hp' : a.tmps[p]?.getD undef = .pointer (some ⟨b, 0, none⟩) := by simpa using hp
  simp [results, h, hp', asAddr, run_loadVar_arr hA hu hd hi]
end
theorem info_set : (Tryd.prog.info? 77).map (·.size) = some 4 := by kernel_rfl
theorem run_index_arr {t e : TypeId} {n : Nat} (hu : Tryd.prog.underlying t = some (.array n e)) (hs : (Tryd.prog.info? e).map (·.size) = some 1) {d : TypeDesc} (he : Tryd.prog.underlying e = some d) (hd : aggB d = false)
    {cs : Array Value} {i : Nat} {v : Value} (hi : i < n) (hc : cs[i]? = some v) (w : World) : (Instr.index t (.agg cs) (.int .i64 i)).run Tryd.prog w = .ok v w := by
  have hagg : (isAgg e).run Tryd.prog w = .ok false w := by
    unfold isAgg
    rw [Sem.run_bind, run_underlying he w]
    unfold aggB at hd
    cases d <;> simp_all
  cases hq : Tryd.prog.info? e with
  | none => rw [hq] at hs; cases hs
  | some ie =>
    have hs' : ie.size = 1 := by simpa [hq] using hs
    have h1 : (0 : Int) ≤ (i : Int) ∧ (i : Int) < (n : Int) := by omega
    simp [Instr.index, asIntOf, Sem.run_bind, run_underlying hu, h1, part, hagg, sizeOf, typeInfo, hq, hs', hc]
    exact fun h => absurd hi (by omega)
theorem info_u64 : (Tryd.prog.info? 75).map (·.size) = some 1 := by kernel_rfl
def setW (A : Nat → Nat) : Value := .agg #[.int .u64 (A 0), .int .u64 (A 1), .int .u64 (A 2), .int .u64 (A 3)]
def W64 (A : Nat → Nat) : Prop := ∀ j, A j < 18446744073709551616
def wordsB (A : Nat → Nat) : Array Value := #[.int .u64 (A 0), .int .u64 (A 1), .int .u64 (A 2), .int .u64 (A 3)]
theorem run_index_set (A : Nat → Nat) (i : Nat) (hi : i < 4) (w : World) : (Instr.index 77 (.agg #[.int .u64 (A 0), .int .u64 (A 1), .int .u64 (A 2), .int .u64 (A 3)]) (.int .i64 i)).run Tryd.prog w = .ok (.int .u64 (A i)) w :=
  run_index_arr Tryd.underlying77 info_u64 Tryd.underlying75 rfl hi (by
    match i, hi with
    | 0, _ => rfl
    | 1, _ => rfl
    | 2, _ => rfl
    | 3, _ => rfl) w
theorem words_at (w : World) (A : Nat → Nat) : ArrAt (w.alloc (.cells (wordsB A) 77)) w.heap.size 0 4 (fun j => .int .u64 (A j)) :=
  ArrAt.new w _ _ 4 _ (fun j hj => by
    match j, hj with
    | 0, _ => rfl
    | 1, _ => rfl
    | 2, _ => rfl
    | 3, _ => rfl)
end Go.Proofs.YtkkdpafkafjfgaaDoor
