/- Texts put together with a byte between: the plain law. -/
import Derived.Test.YtgkchdjogfdjaaaDoorTxSplitL
namespace Go.Proofs.YtgkchdjogfdjaaaDoor
open Go
set_option linter.unusedVariables false
/-- The texts' bytes. -/
def ld (l : List ByteArray) : List (List UInt8) := l.map (·.data.toList)
/-- The texts' sizes and one more for each. -/
def sumL (l : List ByteArray) : Nat := (l.map fun x => x.size + 1).sum
theorem sumL_nil : sumL [] = 0 := rfl
theorem sumL_cons (x : ByteArray) (l : List ByteArray) : sumL (x :: l) = x.size + 1 + sumL l := by simp [sumL]
theorem sumL_append (a b : List ByteArray) : sumL (a ++ b) = sumL a + sumL b := by simp [sumL]
theorem take_snoc {α : Type} (z : α) {l : List α} {k : Nat} (h : k < l.length) : l.take (k + 1) = l.take k ++ [l.getD k z] := by
  rw [List.take_succ_eq_append_getElem h, List.getD_eq_getElem?_getD, List.getElem?_eq_getElem h]; rfl
theorem sumL_succ {l : List ByteArray} {k : Nat} (h : k < l.length) : sumL (l.take (k + 1)) = sumL (l.take k) + ((l.getD k ByteArray.empty).size + 1) := by
  rw [take_snoc ByteArray.empty h, sumL_append, sumL_cons, sumL_nil]
theorem sumL_take_le (l : List ByteArray) (k : Nat) : sumL (l.take k) ≤ sumL l := by
  have := congrArg sumL (List.take_append_drop k l)
  rw [sumL_append] at this
  omega
theorem sumL_pos {l : List ByteArray} (h : 0 < l.length) : 0 < sumL l := by
  cases l with
  | nil => simp at h
  | cons x r => rw [sumL_cons]; omega
/-- The first k texts, put together. -/
def jn (c : UInt8) (l : List ByteArray) (k : Nat) : List UInt8 := Lib.join (ld (l.take k)) [c]
theorem jn_zero (c : UInt8) (l : List ByteArray) : jn c l 0 = [] := rfl
theorem jn_one (c : UInt8) {l : List ByteArray} (h : 0 < l.length) : jn c l 1 = (l.getD 0 ByteArray.empty).data.toList := by
  cases l with
  | nil => simp at h
  | cons x r => exact Lib.join_one _ _
theorem jn_succ (c : UInt8) {l : List ByteArray} {k : Nat} (h0 : 0 < k) (h : k < l.length) : jn c l (k + 1) = jn c l k ++ [c] ++ (l.getD k ByteArray.empty).data.toList := by
  cases l with
  | nil => simp at h
  | cons x r =>
    obtain ⟨j, rfl⟩ : ∃ j, k = j + 1 := ⟨k - 1, by omega⟩
    have hj : j < r.length := by simpa using h
    have e : ∀ m, jn c (x :: r) (m + 1) = x.data.toList ++ Lib.joinTail [c] ((ld r).take m) := by
      intro m
      unfold jn ld
      rw [List.take_succ_cons, List.map_cons, Lib.join_cons, List.map_take]
    rw [e, e, Lib.joinTail_take_succ [c] (ld r) j ((r.getD j ByteArray.empty).data.toList) (by
      unfold ld
      rw [List.getElem?_map, List.getD_eq_getElem?_getD, List.getElem?_eq_getElem hj]; rfl)]
    simp [List.append_assoc]
theorem jn_len (c : UInt8) {l : List ByteArray} : ∀ k, 0 < k → k ≤ l.length → (jn c l k).length + 1 = sumL (l.take k)
  | 0, h, _ => by omega
  | 1, _, h => by
    rw [jn_one c (show 0 < l.length by omega), sumL_succ (show 0 < l.length by omega), List.take_zero, sumL_nil, Lib.size_eq]; omega
  | k + 2, _, h => by
    rw [jn_succ c (show 0 < k + 1 by omega) (show k + 1 < l.length by omega), sumL_succ (show k + 1 < l.length by omega)]
    have := jn_len c (l := l) (k + 1) (by omega) (by omega)
    rw [List.length_append, List.length_append, Lib.size_eq]
    simp only [List.length_cons, List.length_nil]
    omega
/-- All of them. -/
def joinB (c : UInt8) (l : List ByteArray) : ByteArray := ⟨(Lib.join (ld l) [c]).toArray⟩
theorem jn_all (c : UInt8) (l : List ByteArray) {k : Nat} (h : l.length ≤ k) : jn c l k = Lib.join (ld l) [c] := by unfold jn; rw [List.take_of_length_le h]
theorem join_le (c : UInt8) (l : List ByteArray) : (Lib.join (ld l) [c]).length ≤ sumL l := by
  rcases Nat.eq_zero_or_pos l.length with h | h
  · rw [List.eq_nil_of_length_eq_zero h]; simp [ld, Lib.join_nil]
  · have := jn_len c (l := l) l.length h (Nat.le_refl _)
    rw [jn_all c l (Nat.le_refl _), List.take_length] at this
    omega
theorem length_le_sumL (l : List ByteArray) : l.length ≤ sumL l := by
  induction l with
  | nil => simp [sumL_nil]
  | cons x r ih => rw [sumL_cons, List.length_cons]; omega
end Go.Proofs.YtgkchdjogfdjaaaDoor
