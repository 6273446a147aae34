/- Sets of bytes in plain words: words of 64 bits as functions of the place. No program. No condition. -/
import Derived.Test.YtolfdcbebjfjiaaDoorBase
import Derived.Lib.TrailingZeros
namespace Go.Proofs.YtolfdcbebjfjiaaDoor
open Go.RowKit
set_option linter.unusedVariables false

/-- The word of n bits whose bit j is f (b + j). -/
def word (f : Nat → Bool) : Nat → Nat → Nat
  | _, 0 => 0
  | b, n + 1 => (f b).toNat + 2 * word f (b + 1) n
theorem testBit_word (f : Nat → Bool) : ∀ (n b j : Nat), (word f b n).testBit j = (decide (j < n) && f (b + j))
  | 0, b, j => by simp [word]
  | n + 1, b, 0 => by
    simp only [word, Nat.testBit_zero, Nat.add_zero]
    cases f b <;> simp [Bool.toNat] <;> omega
  | n + 1, b, j + 1 => by
    have e : ((f b).toNat + 2 * word f (b + 1) n) / 2 = word f (b + 1) n := by cases f b <;> simp only [Bool.toNat, cond_false, cond_true] <;> omega
    rw [word, Nat.testBit_succ, e, testBit_word f n (b + 1) j, show b + 1 + j = b + (j + 1) by omega]
    congr 1
    simp
theorem word_lt (f : Nat → Bool) : ∀ (n b : Nat), word f b n < 2 ^ n
  | 0, b => by simp [word]
  | n + 1, b => by
    have := word_lt f n (b + 1)
    rw [word, Nat.pow_succ]
    cases f b <;> simp only [Bool.toNat, cond_false, cond_true] <;> omega
theorem word_lt64 (f : Nat → Bool) (b : Nat) : word f b 64 < 18446744073709551616 := word_lt f 64 b
theorem word_eq {f : Nat → Bool} {b n a : Nat} (ha : a < 2 ^ n) (h : ∀ j, j < n → a.testBit j = f (b + j)) : a = word f b n := by
  apply Nat.eq_of_testBit_eq
  intro j
  rw [testBit_word]
  by_cases hj : j < n
  · simp [hj, h j hj]
  · have := Nat.testBit_lt_two_pow (Nat.lt_of_lt_of_le ha (Nat.pow_le_pow_right (by decide) (by omega : n ≤ j)))
    simp [hj, this]
theorem word_congr {f g : Nat → Bool} {b n : Nat} (h : ∀ j, j < n → f (b + j) = g (b + j)) : word f b n = word g b n :=
  word_eq (word_lt f n b) (fun j hj => by rw [testBit_word, h j hj]; simp [hj])
theorem word_or (f g : Nat → Bool) (b n : Nat) : word f b n ||| word g b n = word (fun i => f i || g i) b n :=
  word_eq (Nat.or_lt_two_pow (word_lt f n b) (word_lt g n b)) (fun j hj => by simp [Nat.testBit_or, testBit_word, hj])
theorem word_and (f g : Nat → Bool) (b n : Nat) : word f b n &&& word g b n = word (fun i => f i && g i) b n :=
  word_eq (Nat.and_lt_two_pow _ (word_lt g n b)) (fun j hj => by simp [Nat.testBit_and, testBit_word, hj])

/-- The set whose bytes f tells, as a value. -/
def setV (f : Nat → Bool) : Value := .agg #[.int .u64 (word f 0 64), .int .u64 (word f 64 64), .int .u64 (word f 128 64), .int .u64 (word f 192 64)]
theorem setV_congr {f g : Nat → Bool} (h : ∀ b, b < 256 → f b = g b) : setV f = setV g := by
  unfold setV
  rw [word_congr (fun j hj => h (0 + j) (by omega)), word_congr (fun j hj => h (64 + j) (by omega)), word_congr (fun j hj => h (128 + j) (by omega)), word_congr (fun j hj => h (192 + j) (by omega))]
/-- Any four words are some set. -/
theorem set_of (a b c d : Nat) (ha : a < 18446744073709551616) (hb : b < 18446744073709551616) (hc : c < 18446744073709551616) (hd : d < 18446744073709551616) :
    ∃ f : Nat → Bool, a = word f 0 64 ∧ b = word f 64 64 ∧ c = word f 128 64 ∧ d = word f 192 64 := by
  refine ⟨fun i => if i < 64 then a.testBit i else if i < 128 then b.testBit (i - 64) else if i < 192 then c.testBit (i - 128) else d.testBit (i - 192), word_eq ha ?_, word_eq hb ?_, word_eq hc ?_, word_eq hd ?_⟩
  · intro j hj; simp [hj]
  · intro j hj; rw [if_neg (by omega), if_pos (by omega), Nat.add_sub_cancel_left]
  · intro j hj; rw [if_neg (by omega), if_neg (by omega), if_pos (by omega), Nat.add_sub_cancel_left]
  · intro j hj; rw [if_neg (by omega), if_neg (by omega), if_neg (by omega), Nat.add_sub_cancel_left]

/-- The places from k on, n of them, that f has. -/
def bl (f : Nat → Bool) : Nat → Nat → List Nat
  | _, 0 => []
  | k, n + 1 => if f k then k :: bl f (k + 1) n else bl f (k + 1) n
theorem bl_congr {f g : Nat → Bool} : ∀ (n k : Nat), (∀ j, k ≤ j → j < k + n → f j = g j) → bl f k n = bl g k n
  | 0, k, h => rfl
  | n + 1, k, h => by
    rw [bl, bl, h k (Nat.le_refl _) (by omega), bl_congr n (k + 1) (fun j h1 h2 => h j (by omega) (by omega))]
theorem bl_add (f : Nat → Bool) : ∀ (n m k : Nat), bl f k (n + m) = bl f k n ++ bl f (k + n) m
  | 0, m, k => by simp [bl]
  | n + 1, m, k => by
    rw [show n + 1 + m = n + m + 1 by omega, bl, bl, bl_add f n m (k + 1), show k + 1 + n = k + (n + 1) by omega]
    split <;> simp
theorem bl_last (f : Nat → Bool) (k n : Nat) : bl f k (n + 1) = bl f k n ++ if f (k + n) then [k + n] else [] := by
  rw [bl_add f n 1 k]; rfl
theorem bl_length (f : Nat → Bool) : ∀ (n k : Nat), (bl f k n).length ≤ n
  | 0, k => by simp [bl]
  | n + 1, k => by
    have := bl_length f n (k + 1)
    rw [bl]; split <;> simp <;> omega
theorem bl_mem {f : Nat → Bool} : ∀ (n k x : Nat), x ∈ bl f k n → k ≤ x ∧ x < k + n ∧ f x = true
  | 0, k, x, h => by simp [bl] at h
  | n + 1, k, x, h => by
    rw [bl] at h
    split at h
    · next hf =>
      rcases List.mem_cons.1 h with rfl | h
      · exact ⟨Nat.le_refl _, by omega, hf⟩
      · have := bl_mem n (k + 1) x h; exact ⟨by omega, by omega, this.2.2⟩
    · have := bl_mem n (k + 1) x h; exact ⟨by omega, by omega, this.2.2⟩
theorem mem_bl {f : Nat → Bool} : ∀ (n k x : Nat), k ≤ x → x < k + n → f x = true → x ∈ bl f k n
  | 0, k, x, h1, h2, h3 => by omega
  | n + 1, k, x, h1, h2, h3 => by
    rw [bl]
    by_cases e : x = k
    · subst e; simp [h3]
    · have := mem_bl n (k + 1) x (by omega) (by omega) h3
      split <;> simp [this]
theorem bl_shift (f : Nat → Bool) (d : Nat) : ∀ (n k : Nat), (bl (fun j => f (d + j)) k n).map (d + ·) = bl f (d + k) n
  | 0, k => rfl
  | n + 1, k => by
    rw [bl, bl, show d + k + 1 = d + (k + 1) by omega, ← bl_shift f d n (k + 1)]
    by_cases h : f (d + k) = true
    · rw [if_pos h, if_pos h]; rfl
    · rw [if_neg h, if_neg h]
/-- The first one is taken away. -/
theorem bl_first {f g : Nat → Bool} {t : Nat} : ∀ (n k : Nat), k ≤ t → t < k + n → f t = true → (∀ j, k ≤ j → j < t → f j = false) → g t = false → (∀ j, j ≠ t → g j = f j) → bl f k n = t :: bl g k n
  | 0, k, h1, h2, h3, h4, h5, h6 => by omega
  | n + 1, k, h1, h2, h3, h4, h5, h6 => by
    rw [bl, bl]
    by_cases e : k = t
    · subst e
      rw [if_pos h3, if_neg (by simp [h5]), bl_congr n (k + 1) (fun j a b => (h6 j (by omega)).symm)]
    · have hk := h4 k (Nat.le_refl _) (by omega)
      rw [if_neg (by simp [hk]), if_neg (by rw [h6 k e]; simp [hk])]
      exact bl_first n (k + 1) (by omega) (by omega) h3 (fun j a b => h4 j (by omega) b) h5 h6
theorem bl_none {f : Nat → Bool} : ∀ (n k : Nat), (∀ j, k ≤ j → j < k + n → f j = false) → bl f k n = []
  | 0, k, h => rfl
  | n + 1, k, h => by
    rw [bl, if_neg (by simp [h k (Nat.le_refl _) (by omega)])]
    exact bl_none n (k + 1) (fun j a b => h j (by omega) (by omega))

/-- How many of a word's 64 bits are set. -/
def cnt (x : Nat) : Nat := (bl x.testBit 0 64).length
theorem cnt_le (x : Nat) : cnt x ≤ 64 := bl_length _ _ _
/-- The bits of a word, the lowest one taken away. -/
theorem low_bit (x : Nat) (h0 : x ≠ 0) (hx : x < 18446744073709551616) :
    Lib.ctz 64 x < 64 ∧ bl x.testBit 0 64 = Lib.ctz 64 x :: bl (x &&& (x - 1)).testBit 0 64 := by
  obtain ⟨m, hm, hk⟩ := Lib.ctzFrom_spec 64 x (by omega) hx
  have hc : Lib.ctz 64 x = Lib.ctzFrom 64 x := if_neg h0
  rw [hc]
  generalize Lib.ctzFrom 64 x = k at hm hk
  have hp := Nat.two_pow_pos k
  have tx : ∀ j, x.testBit j = if j < k then false else (2 * m + 1).testBit (j - k) := by
    intro j
    have := Nat.testBit_two_pow_mul_add (2 * m + 1) (b := 0) hp j
    rw [Nat.add_zero, ← hm] at this
    rw [this]; simp
  have ty : ∀ j, k ≤ j → (x - 1).testBit j = (2 * m).testBit (j - k) := by
    intro j hj
    have e : x - 1 = 2 ^ k * (2 * m) + (2 ^ k - 1) := by
      rw [Nat.mul_add, Nat.mul_one] at hm
      omega
    rw [e, Nat.testBit_two_pow_mul_add _ (by omega) j, if_neg (by omega)]
  refine ⟨hk, bl_first 64 0 (Nat.zero_le _) (by omega) ?_ ?_ ?_ ?_⟩
  · rw [tx, if_neg (by omega), Nat.sub_self]; simp
  · intro j _ hj; rw [tx, if_pos hj]
  · rw [Nat.testBit_and, ty k (Nat.le_refl _), Nat.sub_self]; simp
  · intro j hj
    rw [Nat.testBit_and]
    by_cases h : j < k
    · rw [tx, if_pos h]; rfl
    · rw [ty j (by omega), tx, if_neg h]
      obtain ⟨d, hd⟩ : ∃ d, j - k = d + 1 := ⟨j - k - 1, by omega⟩
      rw [hd, Nat.testBit_succ, Nat.testBit_succ, show (2 * m + 1) / 2 = m by omega, show 2 * m / 2 = m by omega]
      simp
/-- A place that a set's words have. -/
theorem has_word (f : Nat → Bool) (b j : Nat) (hj : j < 64) : (((word f b 64) / 2 ^ j) % 2 == 1) = f (b + j) := by
  have h := testBit_word f 64 b j
  rw [Nat.testBit_eq_decide_div_mod_eq] at h
  simp only [hj, decide_true, Bool.true_and] at h
  rw [← h]
  rfl
theorem bl_words (f : Nat → Bool) : bl f 0 256 = bl f 0 64 ++ (bl f 64 64 ++ (bl f 128 64 ++ bl f 192 64)) := by
  rw [show 256 = 64 + (64 + (64 + 64)) from rfl, bl_add, bl_add, bl_add]
theorem bl_word (f : Nat → Bool) (b : Nat) : (bl (word f b 64).testBit 0 64).map (b + ·) = bl f b 64 := by
  rw [bl_congr (f := (word f b 64).testBit) (g := fun j => f (b + j)) 64 0 (fun j _ hj => by rw [testBit_word]; simp; omega), bl_shift]; rfl
theorem cnt_word (f : Nat → Bool) (b : Nat) : cnt (word f b 64) = (bl f b 64).length := by
  rw [← bl_word f b, List.length_map]; rfl
end Go.Proofs.YtolfdcbebjfjiaaDoor
