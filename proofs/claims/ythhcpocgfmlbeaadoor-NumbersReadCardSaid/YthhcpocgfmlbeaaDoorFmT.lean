/- formatBits: every base but ten. -/
import Derived.Test.YthhcpocgfmlbeaaDoorFmP
import Derived.Test.YthhcpocgfmlbeaaDoorArr
namespace Go.Proofs.YthhcpocgfmlbeaaDoor
open Go.RowKit
set_option linter.unusedVariables false
/-- The row of 65 bytes, written from behind: from place i on it holds L. -/
def RowSt (w wr : World) (i : Nat) (L : List UInt8) : Prop := i + L.length = 65 ∧ ∃ f, ArrAt wr w.heap.size 0 65 f ∧ ∀ j (hj : j < L.length), f (i + j) = .int .u8 (L[j].toNat : Int)
theorem RowSt.start (w : World) : RowSt w (w.alloc (.cells Tryd.zeroCells118 118)) 65 [] :=
  ⟨rfl, fun _ => .int .u8 0, ArrAt.new w _ _ 65 _ (fun j hj => by
    rw [show Tryd.zeroCells118 = Array.replicate 65 (.int .u8 0) by kernel_rfl]
    simp [hj]), fun j hj => absurd hj (Nat.not_lt_zero j)⟩
theorem RowSt.push {w wr : World} {i : Nat} {L : List UInt8} (h : RowSt w wr (i + 1) L) (c : UInt8) : RowSt w (wr.setCell ⟨w.heap.size, i, none⟩ (.int .u8 (c.toNat : Int))) i (c :: L) := by
  obtain ⟨h1, f, h2, h3⟩ := h
  refine ⟨by rw [List.length_cons]; omega, _, h2.set0 i (by omega) _, fun j hj => ?_⟩
  cases j with
  | zero => simp
  | succ j =>
    have := h3 j (by rw [List.length_cons] at hj; omega)
    rw [show i + (j + 1) = i + 1 + j by omega]
    simp only [List.getElem_cons_succ]
    rw [← this]
    simp
    omega
theorem RowSt.cell {w wr : World} {i : Nat} {L : List UInt8} (h : RowSt w wr (i + 1) L) : ∃ v, wr.cell? ⟨w.heap.size, i, none⟩ = some v ∧ wr.frozen? ⟨w.heap.size, i, none⟩ = false := by
  obtain ⟨h1, f, h2, h3⟩ := h
  exact ⟨_, h2.at0 i (by omega), h2.free0 i (by omega)⟩
theorem RowSt.cell0 {w wr : World} {i : Nat} {L : List UInt8} (h : RowSt w wr i L) (j : Nat) (hj : j < 65) : ∃ v, wr.cell? ⟨w.heap.size, j, none⟩ = some v ∧ wr.frozen? ⟨w.heap.size, j, none⟩ = false := by
  obtain ⟨h1, f, h2, h3⟩ := h
  exact ⟨_, h2.at0 j hj, h2.free0 j hj⟩
theorem digsT_at (r : Nat) (h : r < digsT.size) : digsT[r] = digB r := by
  have := digsT_get r h
  exact (Array.getElem?_eq_some_iff.1 this).2
theorem RowSt.text {w wr : World} {i : Nat} {L : List UInt8} (h : RowSt w wr i L) : (convert 72 9 (.slice (some ⟨w.heap.size, i, none⟩) (65 - i) (65 - i))).run Tryd.prog wr = .ok (.string ⟨L.toArray⟩) wr := by
  obtain ⟨h1, f, h2, h3⟩ := h
  have h4 := h2.shift i
  rw [Nat.zero_add] at h4
  exact string_arr L (by omega) _ h4 h3 (65 - i)
theorem slice_row (w W : World) (i : Nat) (hi : i ≤ 64) : (Instr.sliceAt 118 (.pointer (some ⟨w.heap.size, 0, none⟩)) (some (.int .i64 (i : Nat))) none none).run Tryd.prog W = .ok (.slice (some ⟨w.heap.size, i, none⟩) (65 - i) (65 - i)) W := by
  have hl : Tryd.prog.arrayLen 118 = 65 := by kernel_rfl
  have he : Tryd.prog.elem 118 = 5 := by kernel_rfl
  rw [run_sliceAt_array_l W 118 ⟨w.heap.size, 0, none⟩ (by kernel_rfl) .i64 (i : Nat) (by omega) (by rw [hl]; omega), he]
  obtain ⟨i0, hi0, hz0, hz1, hz2⟩ := info_parts info_u8
  have hs : (sizeOf 5).run Tryd.prog W = .ok 1 W := by simp [sizeOf, typeInfo, hi0, hz1]
  rw [hs, hl]
  simp only [Result.andThen, slicedAt, Int.toNat_natCast]
  have ha : (⟨w.heap.size, 0, none⟩ : Addr).add i = ⟨w.heap.size, i, none⟩ := by
    unfold Addr.add; split
    · next h0 => subst h0; rfl
    · simp
  rw [if_neg (by omega), Nat.mul_one, ha]
def fmT (b : Nat) (n : Int) : List UInt8 := (if n < 0 then [45] else []) ++ radix b n.natAbs
end Go.Proofs.YthhcpocgfmlbeaaDoor
