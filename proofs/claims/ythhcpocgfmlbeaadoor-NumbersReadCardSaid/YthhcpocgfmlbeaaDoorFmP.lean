/- Numerals in any base: plain. -/
import Derived.Test.YthhcpocgfmlbeaaDoorNum
namespace Go.Proofs.YthhcpocgfmlbeaaDoor
open Go.RowKit
set_option linter.unusedVariables false
/-- A digit as it is written: 0 .. 9, then a .. z. -/
def digB (k : Nat) : UInt8 := if k < 10 then UInt8.ofNat (48 + k) else UInt8.ofNat (87 + k)
/-- The numeral of u in base b, the high digit first. -/
def radix (b u : Nat) : List UInt8 := if h : u < b ∨ b < 2 then [digB u] else radix b (u / b) ++ [digB (u % b)]
termination_by u
decreasing_by
  have : b ≤ u ∧ 2 ≤ b := by omega
  exact Nat.div_lt_self (by omega) (by omega)
theorem radix_low {b u : Nat} (h : u < b) : radix b u = [digB u] := by rw [radix, dif_pos (Or.inl h)]
theorem radix_high {b u : Nat} (h : b ≤ u) (hb : 2 ≤ b) : radix b u = radix b (u / b) ++ [digB (u % b)] := by rw [radix, dif_neg (by omega)]
/-- The digits as the library has them. -/
def digsT : ByteArray := ⟨#[48, 49, 50, 51, 52, 53, 54, 55, 56, 57, 97, 98, 99, 100, 101, 102, 103, 104, 105, 106, 107, 108, 109, 110, 111, 112, 113, 114, 115, 116, 117, 118, 119, 120, 121, 122]⟩
theorem digsT_get : ∀ k : Nat, k < 36 → digsT.data[k]? = some (digB k) := by decide +kernel
/-- What a row of digits says in base b, if all are digits of it. -/
def digV (c : UInt8) : Nat := if 48 ≤ c ∧ c ≤ 57 then c.toNat - 48 else if 97 ≤ c ∧ c ≤ 122 then c.toNat - 87 else 99
def numV? (b : Nat) (l : List UInt8) : Option Nat := l.foldl (fun o c => o.bind fun n => if digV c < b then some (n * b + digV c) else none) (some 0)
theorem numV?_snoc (b : Nat) (l : List UInt8) (c : UInt8) : numV? b (l ++ [c]) = (numV? b l).bind fun n => if digV c < b then some (n * b + digV c) else none := by
  unfold numV?; rw [List.foldl_append]; rfl
theorem digV_digB : ∀ k : Nat, k < 36 → digV (digB k) = k := by decide +kernel
theorem numV?_radix {b : Nat} (hb : 2 ≤ b) (h36 : b ≤ 36) (u : Nat) : numV? b (radix b u) = some u := by
  induction u using Nat.strongRecOn with
  | ind u ih =>
    by_cases h : u < b
    · rw [radix_low h]
      show (some 0).bind (fun n => if digV (digB u) < b then some (n * b + digV (digB u)) else none) = _
      rw [digV_digB u (by omega), Option.bind_some, if_pos h]; congr 1; omega
    · rw [radix_high (by omega) hb, numV?_snoc, ih (u / b) (Nat.div_lt_self (by omega) (by omega)), digV_digB _ (by have := Nat.mod_lt u (show 0 < b by omega); omega), Option.bind_some, if_pos (Nat.mod_lt u (by omega))]
      congr 1
      rw [Nat.mul_comm]
      exact Nat.div_add_mod u b
/-- How far the numeral has come: u is still to be written ahead of L. -/
structure FmSt (b u0 u : Nat) (L : List UInt8) : Prop where
  text : radix b u ++ L = radix b u0
  len : u * 2 ^ L.length ≤ u0
theorem FmSt.start (b u : Nat) : FmSt b u u [] := ⟨by simp, by simp⟩
theorem FmSt.step {b u0 u : Nat} {L : List UInt8} (h : FmSt b u0 u L) (hb : 2 ≤ b) (hu : b ≤ u) : FmSt b u0 (u / b) (digB (u % b) :: L) := by
  refine ⟨?_, ?_⟩
  · have := h.text
    rw [radix_high hu hb, List.append_assoc] at this
    exact this
  · rw [List.length_cons, Nat.pow_succ]
    have h1 : u / b * 2 ≤ u := Nat.le_trans (Nat.mul_le_mul_left _ hb) (Nat.div_mul_le_self u b)
    have h2 := Nat.mul_le_mul_right (2 ^ L.length) h1
    have h3 : u / b * (2 ^ L.length * 2) = u / b * 2 * 2 ^ L.length := by rw [Nat.mul_comm (2 ^ L.length), Nat.mul_assoc]
    have := h.len
    omega
theorem FmSt.short {b u0 u : Nat} {L : List UInt8} (h : FmSt b u0 u L) (hu : 2 ≤ u) (h0 : u0 < 18446744073709551616) : L.length ≤ 62 := by
  rcases Nat.lt_or_ge 62 L.length with h1 | h1
  · have h2 := Nat.pow_le_pow_right (show 2 > 0 by decide) (show 63 ≤ L.length from h1)
    have h3 := Nat.mul_le_mul hu h2
    have := h.len
    rw [show (2 : Nat) * 2 ^ 63 = 18446744073709551616 by decide] at h3
    omega
  · exact h1
theorem FmSt.short1 {b u0 u : Nat} {L : List UInt8} (h : FmSt b u0 u L) (hL : L = [] ∨ 1 ≤ u) (h0 : u0 < 18446744073709551616) : L.length ≤ 63 := by
  rcases hL with rfl | hu
  · simp
  · rcases Nat.lt_or_ge 63 L.length with h1 | h1
    · have h2 := Nat.pow_le_pow_right (show 2 > 0 by decide) (show 64 ≤ L.length from h1)
      have h3 := Nat.mul_le_mul hu h2
      have := h.len
      rw [show (1 : Nat) * 2 ^ 64 = 18446744073709551616 by decide] at h3
      omega
    · exact h1
theorem FmSt.last {b u0 u : Nat} {L : List UInt8} (h : FmSt b u0 u L) (hu : u < b) : digB u :: L = radix b u0 := by
  have := h.text
  rw [radix_low hu] at this
  exact this
end Go.Proofs.YthhcpocgfmlbeaaDoor
