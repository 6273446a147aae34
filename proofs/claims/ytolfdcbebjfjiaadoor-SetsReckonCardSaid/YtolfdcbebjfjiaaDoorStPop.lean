/- How many bits of a word are set: the sum of its bytes' bits by masks and shifts. No program. No condition. -/
import Derived.Test.YtolfdcbebjfjiaaDoorStPlain
namespace Go.Proofs.YtolfdcbebjfjiaaDoor
open Go.RowKit
set_option linter.unusedVariables false

theorem and_split (a b c d : Nat) (ha : a < 256) (hc : c < 256) : (a + 256 * b) &&& (c + 256 * d) = (a &&& c) + 256 * (b &&& d) := by
  have hac : a &&& c < 256 := Nat.and_lt_two_pow (n := 8) _ hc
  apply Nat.eq_of_testBit_eq
  intro j
  rw [Nat.testBit_and]
  have e : ∀ x y : Nat, x + 256 * y = 2 ^ 8 * y + x := fun x y => by omega
  rw [e, e, e, Nat.testBit_two_pow_mul_add _ (i := 8) ha, Nat.testBit_two_pow_mul_add _ (i := 8) hc, Nat.testBit_two_pow_mul_add _ (i := 8) hac]
  split <;> rw [Nat.testBit_and]
/-- A mask of n equal bytes. -/
def rep (c : Nat) : Nat → Nat
  | 0 => 0
  | n + 1 => c + 256 * rep c n
def f1 (a : Nat) : Nat := ((a / 2) &&& 85) + (a &&& 85)
def f2 (a : Nat) : Nat := ((a / 4) &&& 51) + (a &&& 51)
def f3 (a : Nat) : Nat := (a / 16 + a) &&& 15
def q1 (n x : Nat) : Nat := ((x / 2) &&& rep 85 n) + (x &&& rep 85 n)
def q2 (n x : Nat) : Nat := ((x / 4) &&& rep 51 n) + (x &&& rep 51 n)
def q3 (n x : Nat) : Nat := (x / 16 + x) &&& rep 15 n
theorem sh1 : ∀ (a : Fin 256) (b : Fin 2), (a.val / 2 + 128 * b.val) &&& 85 = (a.val / 2) &&& 85 := by decide +kernel
theorem sh2 : ∀ (a : Fin 256) (b : Fin 4), (a.val / 4 + 64 * b.val) &&& 51 = (a.val / 4) &&& 51 := by decide +kernel
theorem f1_lt : ∀ a : Fin 256, f1 a.val < 256 := by decide +kernel
theorem f21 : ∀ a : Fin 256, f2 (f1 a.val) / 16 ≤ 4 ∧ f2 (f1 a.val) % 16 ≤ 4 := by decide +kernel
theorem f321 : ∀ a : Fin 256, f3 (f2 (f1 a.val)) = (bl a.val.testBit 0 8).length := by decide +kernel
theorem q1_step (n a b : Nat) (ha : a < 256) : q1 (n + 1) (a + 256 * b) = f1 a + 256 * q1 n b := by
  have e : (a + 256 * b) / 2 = (a / 2 + 128 * (b % 2)) + 256 * (b / 2) := by omega
  have h := sh1 ⟨a, ha⟩ ⟨b % 2, by omega⟩
  simp only at h
  unfold q1 f1
  rw [show rep 85 (n + 1) = 85 + 256 * rep 85 n from rfl]
  rw [e, and_split _ _ _ _ (by omega) (by decide), and_split _ _ _ _ ha (by decide), h]
  omega
theorem q2_step (n a b : Nat) (ha : a < 256) : q2 (n + 1) (a + 256 * b) = f2 a + 256 * q2 n b := by
  have e : (a + 256 * b) / 4 = (a / 4 + 64 * (b % 4)) + 256 * (b / 4) := by omega
  have h := sh2 ⟨a, ha⟩ ⟨b % 4, by omega⟩
  simp only at h
  unfold q2 f2
  rw [show rep 51 (n + 1) = 51 + 256 * rep 51 n from rfl]
  rw [e, and_split _ _ _ _ (by omega) (by decide), and_split _ _ _ _ ha (by decide), h]
  omega
theorem q3_step (n a b : Nat) (h1 : a / 16 ≤ 4) (h2 : a % 16 ≤ 4) (h3 : b % 16 ≤ 4) : q3 (n + 1) (a + 256 * b) = f3 a + 256 * q3 n b := by
  have e : (a + 256 * b) / 16 + (a + 256 * b) = (a / 16 + 16 * (b % 16) + a) + 256 * (b / 16 + b) := by omega
  unfold q3 f3
  rw [show rep 15 (n + 1) = 15 + 256 * rep 15 n from rfl, e, and_split _ _ _ _ (by omega) (by decide)]
  have h := Nat.and_two_pow_sub_one_eq_mod (a / 16 + 16 * (b % 16) + a) 4
  have h' := Nat.and_two_pow_sub_one_eq_mod (a / 16 + a) 4
  simp only [Nat.reducePow, Nat.add_one_sub_one] at h h'
  rw [h, h']
  omega
theorem q_small (n b : Nat) (hb : b < 256 ^ n) : q2 n (q1 n b) % 16 ≤ 4 := by
  cases n with
  | zero => have : b = 0 := by simpa using hb
            subst this; decide
  | succ n =>
    have e : b = b % 256 + 256 * (b / 256) := by omega
    have hl : b % 256 < 256 := Nat.mod_lt _ (by decide)
    have := (f21 ⟨b % 256, hl⟩).2
    have h1 := f1_lt ⟨b % 256, hl⟩
    simp only at this h1
    rw [e, q1_step _ _ _ hl, q2_step _ _ _ h1]
    omega
def pop (n x : Nat) : Nat := q3 n (q2 n (q1 n x))
theorem pop_step (n a b : Nat) (ha : a < 256) (hb : b < 256 ^ n) : pop (n + 1) (a + 256 * b) = (bl a.testBit 0 8).length + 256 * pop n b := by
  have h1 := f1_lt ⟨a, ha⟩
  have h2 := f21 ⟨a, ha⟩
  have h3 := f321 ⟨a, ha⟩
  simp only at h1 h2 h3
  unfold pop
  rw [q1_step _ _ _ ha, q2_step _ _ _ h1, q3_step _ _ _ h2.1 h2.2 (q_small n b hb), h3]
theorem bl_split (n a b : Nat) (ha : a < 256) : (bl (a + 256 * b).testBit 0 (8 + n)).length = (bl a.testBit 0 8).length + (bl b.testBit 0 n).length := by
  have e : a + 256 * b = 2 ^ 8 * b + a := by omega
  have h1 : bl (a + 256 * b).testBit 0 8 = bl a.testBit 0 8 := bl_congr 8 0 (fun j _ hj => by
    rw [e, Nat.testBit_two_pow_mul_add _ (i := 8) ha, if_pos (by omega)])
  have h2 : bl (a + 256 * b).testBit 8 n = (bl b.testBit 0 n).map (8 + ·) := by
    rw [← bl_congr (f := fun j => (a + 256 * b).testBit (8 + j)) n 0 (fun j _ hj => by
      show (a + 256 * b).testBit (8 + j) = _
      rw [e, Nat.testBit_two_pow_mul_add _ (i := 8) ha, if_neg (by omega), Nat.add_sub_cancel_left]), bl_shift]
  rw [bl_add, List.length_append, h1, Nat.zero_add, h2, List.length_map]
/-- What the sums of a word's bytes come to. -/
def fold1 (y : Nat) : Nat := y + y / 256
def fold2 (y : Nat) : Nat := y + y / 65536
def fold3 (y : Nat) : Nat := y + y / 4294967296
theorem sum1 (c0 c1 c2 c3 c4 c5 c6 c7 y : Nat) (hY : c0 + 256 * (c1 + 256 * (c2 + 256 * (c3 + 256 * (c4 + 256 * (c5 + 256 * (c6 + 256 * c7)))))) = y) (k0 : c0 ≤ 8) (k1 : c1 ≤ 8) (k2 : c2 ≤ 8) (k3 : c3 ≤ 8) (k4 : c4 ≤ 8) (k5 : c5 ≤ 8) (k6 : c6 ≤ 8) (k7 : c7 ≤ 8) :
    y < 18446744073709551616 ∧ fold1 y = (c0 + c1) + 256 * ((c1 + c2) + 256 * ((c2 + c3) + 256 * ((c3 + c4) + 256 * ((c4 + c5) + 256 * ((c5 + c6) + 256 * ((c6 + c7) + 256 * c7)))))) := by
  unfold fold1
  have e : y / 256 = c1 + 256 * (c2 + 256 * (c3 + 256 * (c4 + 256 * (c5 + 256 * (c6 + 256 * c7))))) := by omega
  rw [e]
  constructor <;> omega
theorem sum2 (c0 c1 c2 c3 c4 c5 c6 c7 y : Nat) (hY : c0 + 256 * (c1 + 256 * (c2 + 256 * (c3 + 256 * (c4 + 256 * (c5 + 256 * (c6 + 256 * c7)))))) = y) (k0 : c0 ≤ 16) (k1 : c1 ≤ 16) (k2 : c2 ≤ 16) (k3 : c3 ≤ 16) (k4 : c4 ≤ 16) (k5 : c5 ≤ 16) (k6 : c6 ≤ 16) (k7 : c7 ≤ 16) :
    y < 18446744073709551616 ∧ fold2 y = (c0 + c2) + 256 * ((c1 + c3) + 256 * ((c2 + c4) + 256 * ((c3 + c5) + 256 * ((c4 + c6) + 256 * ((c5 + c7) + 256 * (c6 + 256 * c7)))))) := by
  unfold fold2
  have e : y / 65536 = c2 + 256 * (c3 + 256 * (c4 + 256 * (c5 + 256 * (c6 + 256 * c7)))) := by omega
  rw [e]
  constructor <;> omega
theorem sum3 (c0 c1 c2 c3 c4 c5 c6 c7 y : Nat) (hY : c0 + 256 * (c1 + 256 * (c2 + 256 * (c3 + 256 * (c4 + 256 * (c5 + 256 * (c6 + 256 * c7)))))) = y) (k0 : c0 ≤ 32) (k1 : c1 ≤ 32) (k2 : c2 ≤ 32) (k3 : c3 ≤ 32) (k4 : c4 ≤ 32) (k5 : c5 ≤ 32) (k6 : c6 ≤ 32) (k7 : c7 ≤ 8) :
    y < 9223372036854775808 ∧ fold3 y < 9223372036854775808 ∧ fold3 y % 128 = (c0 + c4) % 128 := by
  unfold fold3
  have e : y / 4294967296 = c4 + 256 * (c5 + 256 * (c6 + 256 * c7)) := by omega
  rw [e]
  refine ⟨by omega, by omega, by omega⟩
theorem pop_sum (c0 c1 c2 c3 c4 c5 c6 c7 y : Nat) (hY : c0 + 256 * (c1 + 256 * (c2 + 256 * (c3 + 256 * (c4 + 256 * (c5 + 256 * (c6 + 256 * c7)))))) = y) (k0 : c0 ≤ 8) (k1 : c1 ≤ 8) (k2 : c2 ≤ 8) (k3 : c3 ≤ 8) (k4 : c4 ≤ 8) (k5 : c5 ≤ 8) (k6 : c6 ≤ 8) (k7 : c7 ≤ 8) :
    y < 18446744073709551616 ∧ fold1 y < 18446744073709551616 ∧ fold2 (fold1 y) < 9223372036854775808 ∧ fold3 (fold2 (fold1 y)) < 9223372036854775808 ∧
      fold3 (fold2 (fold1 y)) % 128 = c0 + (c1 + (c2 + (c3 + (c4 + (c5 + (c6 + c7)))))) := by
  obtain ⟨a0, a1⟩ := sum1 c0 c1 c2 c3 c4 c5 c6 c7 y hY k0 k1 k2 k3 k4 k5 k6 k7
  generalize fold1 y = y1 at a1 ⊢
  obtain ⟨b0, b1⟩ := sum2 _ _ _ _ _ _ _ _ y1 a1.symm (by omega) (by omega) (by omega) (by omega) (by omega) (by omega) (by omega) (by omega)
  generalize fold2 y1 = y2 at b1 ⊢
  obtain ⟨d0, d1, d2⟩ := sum3 _ _ _ _ _ _ _ _ y2 b1.symm (by omega) (by omega) (by omega) (by omega) (by omega) (by omega) (by omega) k7
  generalize fold3 y2 = y3 at d1 d2 ⊢
  refine ⟨a0, b0, d0, d1, ?_⟩
  rw [d2]
  clear a0 a1 b0 b1 d0 d1 d2 hY
  omega
/-- One byte more. -/
theorem pop_more (n m x : Nat) (hx : x < 256 ^ (n + 1)) : ∃ c b, c ≤ 8 ∧ b < 256 ^ n ∧ pop (n + 1) x = c + 256 * pop n b ∧ (bl x.testBit 0 (8 + m)).length = c + (bl b.testBit 0 m).length := by
  have hl : x % 256 < 256 := Nat.mod_lt _ (by decide)
  have hb : x / 256 < 256 ^ n := by rw [Nat.pow_succ] at hx; omega
  refine ⟨(bl (x % 256).testBit 0 8).length, x / 256, bl_length _ _ _, hb, ?_, ?_⟩
  · rw [← pop_step _ _ _ hl hb]; congr 1; omega
  · rw [← bl_split _ _ _ hl, show x % 256 + 256 * (x / 256) = x by omega]
theorem pop_zero (x : Nat) : pop 0 x = 0 := by unfold pop q3 rep; simp
/-- All eight bytes: the sum is in the lowest seven bits. -/
theorem pop_eq (x : Nat) (hx : x < 18446744073709551616) :
    pop 8 x < 18446744073709551616 ∧ fold1 (pop 8 x) < 18446744073709551616 ∧ fold2 (fold1 (pop 8 x)) < 9223372036854775808 ∧ fold3 (fold2 (fold1 (pop 8 x))) < 9223372036854775808 ∧
      fold3 (fold2 (fold1 (pop 8 x))) % 128 = cnt x := by
  obtain ⟨c0, x1, k0, l0, e0, d0⟩ := pop_more 7 56 x (by simpa using hx)
  obtain ⟨c1, x2, k1, l1, e1, d1⟩ := pop_more 6 48 x1 l0
  obtain ⟨c2, x3, k2, l2, e2, d2⟩ := pop_more 5 40 x2 l1
  obtain ⟨c3, x4, k3, l3, e3, d3⟩ := pop_more 4 32 x3 l2
  obtain ⟨c4, x5, k4, l4, e4, d4⟩ := pop_more 3 24 x4 l3
  obtain ⟨c5, x6, k5, l5, e5, d5⟩ := pop_more 2 16 x5 l4
  obtain ⟨c6, x7, k6, l6, e6, d6⟩ := pop_more 1 8 x6 l5
  obtain ⟨c7, x8, k7, l7, e7, d7⟩ := pop_more 0 0 x7 l6
  have hc : cnt x = c0 + (c1 + (c2 + (c3 + (c4 + (c5 + (c6 + c7)))))) := by
    show (bl x.testBit 0 (8 + 56)).length = _
    rw [d0, d1, d2, d3, d4, d5, d6, d7]
    rfl
  have hy : c0 + 256 * (c1 + 256 * (c2 + 256 * (c3 + 256 * (c4 + 256 * (c5 + 256 * (c6 + 256 * c7)))))) = pop 8 x := by
    rw [e0, e1, e2, e3, e4, e5, e6, e7, pop_zero, Nat.mul_zero, Nat.add_zero]
  rw [hc]
  exact pop_sum _ _ _ _ _ _ _ _ _ hy k0 k1 k2 k3 k4 k5 k6 k7
end Go.Proofs.YtolfdcbebjfjiaaDoor
