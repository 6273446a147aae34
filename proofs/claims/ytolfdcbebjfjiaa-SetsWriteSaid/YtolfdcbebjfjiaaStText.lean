/- sets.Text: a set's bytes, rising. Conditions: the library's table of de Bruijn. -/
import Derived.Test.YtolfdcbebjfjiaaStBits
namespace Go.Proofs.Ytolfdcbebjfjiaa
open Go.RowKit
set_option linter.unusedVariables false
/-- Places as bytes, as cells. -/
def bytesL (l : List Nat) : List UInt8 := l.map UInt8.ofNat
def cellsL (l : List Nat) : List Value := l.map fun b : Nat => .int .u8 (b : Int)
theorem cellsL_eq (l : List Nat) (h : ∀ x ∈ l, x < 256) : cellsL l = (bytesL l).map fun b => .int .u8 b.toNat := by
  unfold cellsL bytesL
  rw [List.map_map]
  refine List.map_congr_left fun x hx => ?_
  have := h x hx
  simp only [Function.comp_apply, UInt8.toNat_ofNat']
  rw [Nat.mod_eq_of_lt (by omega)]
theorem cellsL_snoc (l : List Nat) (b : Nat) : cellsL l ++ [.int .u8 (b : Int)] = cellsL (l ++ [b]) := by simp [cellsL]
/-- What is out when the words ahead of w are done. -/
def outs (f : Nat → Bool) (k : Nat) : List Nat := bl f 0 (64 * k)
theorem outs_next (f : Nat → Bool) (k : Nat) : outs f (k + 1) = outs f k ++ (bl (word f (64 * k) 64).testBit 0 64).map (64 * k + ·) := by
  unfold outs
  rw [Nat.mul_add, Nat.mul_one, bl_add, Nat.zero_add, bl_word]
theorem and_pred_lt (x : Nat) (h : x ≠ 0) : x &&& (x - 1) < x := by
  have : x &&& (x - 1) ≤ x - 1 := Nat.and_le_right
  omega
theorem bl_zero : ∀ n k, bl (0 : Nat).testBit k n = []
  | 0, k => rfl
  | n + 1, k => by rw [bl, bl_zero n (k + 1)]; simp
theorem cellsL_length (l : List Nat) : (cellsL l).length = l.length := by simp [cellsL]
/-- What the rest of a word adds. -/
theorem rest_step {x i : Nat} {ys L : List Nat} (h0 : x ≠ 0) (hx : x < 18446744073709551616) (h : ys ++ (bl x.testBit 0 64).map (64 * i + ·) = L) : Lib.ctz 64 x < 64 ∧ (ys ++ [64 * i + Lib.ctz 64 x]) ++ (bl (x &&& (x - 1)).testBit 0 64).map (64 * i + ·) = L := by
  obtain ⟨h1, h2⟩ := low_bit x h0 hx
  refine ⟨h1, ?_⟩
  rw [← h, h2]
  simp
end Go.Proofs.Ytolfdcbebjfjiaa
