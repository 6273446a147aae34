/- How often a text stands in another one: cut at one place, the two pieces have it as often, together, or once less. -/
import Derived.Lib.CountLaws
import Derived.Lib.ReplaceLaws
import Derived.Lib.SplitLaws
namespace Go.Proofs.YtgkchdjogfdjaaaDoor
open Go
theorem index_cons (b : UInt8) (l p : List UInt8) : Lib.index (b :: l) p = if p.isPrefixOf (b :: l) then 0 else if Lib.index l p == -1 then -1 else Lib.index l p + 1 := rfl
theorem count_nil (p : List UInt8) (hp : p ≠ []) : Lib.count [] p = 0 := by
  apply Lib.count_miss
  cases p with
  | nil => exact absurd rfl hp
  | cons a l => rfl
theorem count_pre (b : UInt8) (l p : List UInt8) (hp : p ≠ []) (h : p.isPrefixOf (b :: l) = true) : Lib.count (b :: l) p = 1 + Lib.count ((b :: l).drop p.length) p := by
  have := Lib.count_hit (s := b :: l) (sub := p) (i := 0) hp (by rw [index_cons, if_pos h]; rfl)
  rwa [Nat.zero_add] at this
theorem count_tail (b : UInt8) (l p : List UInt8) (hp : p ≠ []) (h : ¬ p.isPrefixOf (b :: l) = true) : Lib.count (b :: l) p = Lib.count l p := by
  by_cases hm : Lib.index l p = -1
  · rw [Lib.count_miss hm, Lib.count_miss]
    rw [index_cons, if_neg h, hm]; rfl
  · have hge := Lib.index_ge l p
    obtain ⟨i, hi⟩ := Int.eq_ofNat_of_zero_le (show 0 ≤ Lib.index l p by omega)
    have h1 : Lib.index (b :: l) p = ((i + 1 : Nat) : Int) := by
      rw [index_cons, if_neg h, if_neg (by simpa using hm), hi]; rfl
    rw [Lib.count_hit hp h1, Lib.count_hit hp hi, show i + 1 + p.length = (i + p.length) + 1 by omega, List.drop_succ_cons]
theorem count_both (p : List UInt8) (hp : p ≠ []) : ∀ (n : Nat) (l : List UInt8), l.length ≤ n → (∀ d, Lib.count (l.drop d) p ≤ Lib.count l p) ∧ (∀ d, d ≤ p.length → Lib.count l p ≤ 1 + Lib.count (l.drop d) p)
  | n, [], _ => by simp [count_nil p hp]
  | 0, b :: l, h => by simp at h
  | n + 1, b :: l, h => by
    have hl : l.length ≤ n := by simpa using h
    obtain ⟨m1, m2⟩ := count_both p hp n l hl
    have hp1 : 1 ≤ p.length := by cases p with | nil => exact absurd rfl hp | cons a q => simp
    have two : ∀ d, d ≤ p.length → Lib.count (b :: l) p ≤ 1 + Lib.count ((b :: l).drop d) p := by
      intro d hd
      match d with
      | 0 => simp
      | d + 1 =>
        rw [List.drop_succ_cons]
        by_cases hb : p.isPrefixOf (b :: l) = true
        · rw [count_pre b l p hp hb]
          obtain ⟨k, hk⟩ : ∃ k, p.length = (d + k) + 1 := ⟨p.length - d - 1, by omega⟩
          rw [hk, List.drop_succ_cons, ← List.drop_drop]
          have := (count_both p hp n (l.drop d) (by simp; omega)).1 k
          omega
        · rw [count_tail b l p hp hb]
          exact m2 d (by omega)
    refine ⟨fun d => ?_, two⟩
    match d with
    | 0 => simp
    | d + 1 =>
      rw [List.drop_succ_cons]
      have h1 := m1 d
      have h2 : Lib.count l p ≤ Lib.count (b :: l) p := by
        by_cases hb : p.isPrefixOf (b :: l) = true
        · rw [count_pre b l p hp hb]
          obtain ⟨k, hk⟩ : ∃ k, p.length = k + 1 := ⟨p.length - 1, by omega⟩
          have := m2 k (by omega)
          rw [hk, List.drop_succ_cons]; exact this
        · rw [count_tail b l p hp hb]; exact Nat.le_refl _
      omega
theorem count_short (p l : List UInt8) (hp : p ≠ []) (h : l.length < p.length) : Lib.count l p = 0 := by
  induction l with
  | nil => exact count_nil p hp
  | cons b l ih =>
    rw [count_tail b l p hp (fun hb => by
      have := (List.isPrefixOf_iff_prefix.1 hb).length_le
      omega)]
    exact ih (by simp at h; omega)
/-- CUT AT ONE PLACE. -/
theorem count_cut (p : List UInt8) (hp : p ≠ []) : ∀ (n : Nat) (l : List UInt8) (c : Nat), l.length ≤ n → c ≤ l.length →
    Lib.count (l.take c) p + Lib.count (l.drop c) p ≤ Lib.count l p ∧ Lib.count l p ≤ Lib.count (l.take c) p + Lib.count (l.drop c) p + 1
  | n, l, 0, _, _ => by simp [count_nil p hp]
  | n, [], c + 1, _, h => by simp at h
  | 0, b :: l, c + 1, h, _ => by simp at h
  | n + 1, b :: l, c + 1, h, hc => by
    have hl : l.length ≤ n := by simpa using h
    have hcl : c ≤ l.length := by simpa using hc
    by_cases hb : p.isPrefixOf (b :: l) = true
    · have hpl := (List.isPrefixOf_iff_prefix.1 hb).length_le
      have hp1 : 1 ≤ p.length := by cases p with | nil => exact absurd rfl hp | cons a q => simp
      obtain ⟨k, hk⟩ : ∃ k, p.length = k + 1 := ⟨p.length - 1, by omega⟩
      by_cases hlong : p.length ≤ c + 1
      · have hb2 : p.isPrefixOf (b :: l.take c) = true := by
          rw [List.isPrefixOf_iff_prefix] at hb ⊢
          have := List.prefix_take_iff.2 ⟨hb, hlong⟩
          simpa using this
        have ih := count_cut p hp n (l.drop k) (c - k) (by simp; omega) (by simp; omega)
        rw [List.take_succ_cons, count_pre b _ p hp hb2, count_pre b l p hp hb, hk, List.drop_succ_cons, List.drop_succ_cons, List.drop_succ_cons]
        rw [List.drop_drop, show k + (c - k) = c by omega, List.take_drop, show k + (c - k) = c by omega] at ih
        omega
      · rw [count_short p ((b :: l).take (c + 1)) hp (by simp; omega), count_pre b l p hp hb, hk, List.drop_succ_cons, List.drop_succ_cons]
        have hB := count_both p hp n (l.drop c) (by simp; omega)
        have e : l.drop k = (l.drop c).drop (k - c) := by rw [List.drop_drop, show c + (k - c) = k by omega]
        rw [e]
        have h1 := hB.1 (k - c)
        have h2 := hB.2 (k - c) (by omega)
        omega
    · have hb2 : ¬ p.isPrefixOf (b :: l.take c) = true := fun h2 => hb (by
        rw [List.isPrefixOf_iff_prefix] at h2 ⊢
        exact h2.trans (by simpa using List.take_prefix (c + 1) (b :: l)))
      have ih := count_cut p hp n l c hl hcl
      rw [List.take_succ_cons, count_tail b _ p hp hb2, count_tail b l p hp hb, List.drop_succ_cons]
      exact ih
end Go.Proofs.YtgkchdjogfdjaaaDoor
