/- What Print writes, Read reads; what is read is written no longer: plain. -/
import Derived.Test.YthhcpocgfmlbeaaDoorFmL
import Derived.Test.YthhcpocgfmlbeaaDoorFmR
import Derived.Lib.AtoiAllCases
import Derived.Lib.ParseIntBTie
namespace Go.Proofs.YthhcpocgfmlbeaaDoor
open Go.RowKit
set_option linter.unusedVariables false
/-- The step of numV?. -/
def nvF (b : Nat) : Option Nat → UInt8 → Option Nat := fun o c => o.bind fun n => if digV c < b then some (n * b + digV c) else none
theorem nv_none (b : Nat) (l : List UInt8) : l.foldl (nvF b) none = none := numV?_none b l
theorem nv_le {b : Nat} (hb : 1 ≤ b) : ∀ (l : List UInt8) (a V : Nat), l.foldl (nvF b) (some a) = some V → a ≤ V
  | [], a, V, h => by injection h with h; omega
  | c :: r, a, V, h => by
    rw [List.foldl_cons] at h
    by_cases hc : digV c < b
    · have e : nvF b (some a) c = some (a * b + digV c) := by unfold nvF; rw [Option.bind_some, if_pos hc]
      rw [e] at h
      have := nv_le hb r _ _ h
      have := Nat.mul_le_mul_left a hb
      omega
    · have e : nvF b (some a) c = none := by unfold nvF; rw [Option.bind_some, if_neg hc]
      rw [e, nv_none] at h; cases h
theorem digV_ten {c : UInt8} (h : digV c < 10) : 48 ≤ c.toNat ∧ c.toNat ≤ 57 ∧ digV c = c.toNat - 48 := by
  unfold digV at h ⊢
  split at h
  · next hh =>
    rw [if_pos hh]
    obtain ⟨h1, h2⟩ := hh
    exact ⟨UInt8.le_iff_toNat_le.1 h1, UInt8.le_iff_toNat_le.1 h2, rfl⟩
  · split at h
    · next hh =>
      have := UInt8.le_iff_toNat_le.1 hh.1
      simp at this
      omega
    · omega
theorem pu_ok : ∀ (l : List UInt8) (a V : Nat), l.foldl (nvF 10) (some a) = some V → V < 18446744073709551616 → Lib.parseUint10 a l = .ok V
  | [], a, V, h, hV => by injection h with h; rw [h]; rfl
  | c :: r, a, V, h, hV => by
    rw [List.foldl_cons] at h
    by_cases hc : digV c < 10
    · have e : nvF 10 (some a) c = some (a * 10 + digV c) := by unfold nvF; rw [Option.bind_some, if_pos hc]
      rw [e] at h
      obtain ⟨h1, h2, h3⟩ := digV_ten hc
      have hle := nv_le (by omega) r _ _ h
      rw [h3] at h hle
      unfold Lib.parseUint10
      rw [if_pos ⟨h1, h2⟩, if_neg (by omega), if_neg (by omega)]
      exact pu_ok r _ _ h hV
    · have e : nvF 10 (some a) c = none := by unfold nvF; rw [Option.bind_some, if_neg hc]
      rw [e, nv_none] at h; cases h
theorem mag_radix {u : Nat} (hu : u < 18446744073709551616) : Lib.parseMag (radix 10 u) = .ok u := by
  unfold Lib.parseMag
  rw [if_neg radix_ne]
  exact pu_ok _ 0 u (numV?_radix (by omega) (by omega) u) hu
theorem pu_lt : ∀ (l : List UInt8) (a V : Nat), Lib.parseUint10 a l = .ok V → V < (a + 1) * 10 ^ l.length
  | [], a, V, h => by injection h with h; simp; omega
  | c :: r, a, V, h => by
    unfold Lib.parseUint10 at h
    split at h
    · next hc =>
      split at h
      · cases h
      · split at h
        · cases h
        · have := pu_lt r _ _ h
          have h2 : (a * 10 + (c.toNat - 48) + 1) * 10 ^ r.length ≤ ((a + 1) * 10) * 10 ^ r.length := Nat.mul_le_mul_right _ (by omega)
          rw [List.length_cons, Nat.pow_succ, Nat.mul_comm (10 ^ r.length), ← Nat.mul_assoc]
          omega
    · cases h
theorem radix_len : ∀ (k u : Nat), u < 10 ^ (k + 1) → (radix 10 u).length ≤ k + 1
  | 0, u, h => by rw [radix_low (by simpa using h)]; simp
  | k + 1, u, h => by
    by_cases hu : u < 10
    · rw [radix_low hu]; simp
    · rw [radix_high (by omega) (by omega), List.length_append]
      have := radix_len k (u / 10) (by rw [Nat.pow_succ] at h; omega)
      simp; omega
end Go.Proofs.YthhcpocgfmlbeaaDoor
