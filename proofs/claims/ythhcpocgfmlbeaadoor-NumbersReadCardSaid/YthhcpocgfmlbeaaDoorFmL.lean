/- What is written is read: plain. -/
import Derived.Test.YthhcpocgfmlbeaaDoorFmI
import Derived.Test.YthhcpocgfmlbeaaDoorFmU
namespace Go.Proofs.YthhcpocgfmlbeaaDoor
open Go.RowKit
set_option linter.unusedVariables false
theorem radix_ne {b u : Nat} : radix b u ≠ [] := by
  rw [radix]; split
  · simp
  · simp
theorem radix_all {b : Nat} (hb : 2 ≤ b) (u : Nat) : ∀ c ∈ radix b u, ∃ k, k < b ∧ c = digB k := by
  induction u using Nat.strongRecOn with
  | ind u ih =>
    by_cases h : u < b
    · rw [radix_low h]; intro c hc; exact ⟨u, h, by simpa using hc⟩
    · rw [radix_high (by omega) hb]
      intro c hc
      rcases List.mem_append.1 hc with hc | hc
      · exact ih _ (Nat.div_lt_self (by omega) (by omega)) c hc
      · exact ⟨u % b, Nat.mod_lt _ (by omega), by simpa using hc⟩
theorem digB_no : ∀ k : Nat, k < 36 → digB k ≠ 45 := by decide +kernel
theorem numR_64 {n : Int} (hn : In64 n) : numR n = .returned (.tuple #[.int .i64 n, .int .i64 0]) := by rw [numR, numV_in hn, numE_in hn]
theorem unb_back (b : Nat) (hb : 2 ≤ b) (h36 : b ≤ 36) (n : Int) (hn : In64 n) : unbR b (fmN b n) = .returned (.tuple #[.int .i64 n, .int .i64 0]) := by
  unfold fmN
  by_cases h : n < 0
  · rw [if_pos h]
    have hp : Lib.hasPrefix (45 :: radix b n.natAbs) [45] = true := by simp [Lib.hasPrefix]
    have ht : Lib.trimPrefix (45 :: radix b n.natAbs) [45] = radix b n.natAbs := by unfold Lib.trimPrefix; rw [if_pos hp]; rfl
    rw [unbR_val (by rw [ht]; exact radix_ne) (by rw [ht]; exact numV?_radix hb h36 _), hp, show sgn n.natAbs true = n by show -((n.natAbs : Nat) : Int) = n; omega, numR_64 hn]
  · rw [if_neg h]
    have hp : Lib.hasPrefix (radix b n.natAbs) [45] = false := by
      cases hr : radix b n.natAbs with
      | nil => exact absurd hr radix_ne
      | cons c r =>
        obtain ⟨k, hk, rfl⟩ := radix_all hb n.natAbs c (by rw [hr]; simp)
        have := digB_no k (by omega)
        simp [Lib.hasPrefix, List.isPrefixOf]
        exact fun e => this e.symm
    have ht : Lib.trimPrefix (radix b n.natAbs) [45] = radix b n.natAbs := by unfold Lib.trimPrefix; rw [hp]; rfl
    rw [unbR_val (by rw [ht]; exact radix_ne) (by rw [ht]; exact numV?_radix hb h36 _), hp, show sgn n.natAbs false = n by show ((n.natAbs : Nat) : Int) = n; omega, numR_64 hn]
end Go.Proofs.YthhcpocgfmlbeaaDoor
