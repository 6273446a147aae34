/- Gifts as cells: set, reversed. Plain. -/
import Derived.Test.YtmkldfjcpmoajabDoorScDen
namespace Go.Proofs.YtmkldfjcpmoajabDoor
set_option linter.unusedVariables false

/-- The first i and the last i are turned already. -/
def RevAt (l d : List Gift) (i : Nat) : Prop := d.length = l.length ∧ ∀ k, k < l.length → d[k]? = if k < i ∨ l.length ≤ k + i then l[l.length - 1 - k]? else l[k]?
theorem RevAt.start (l : List Gift) : RevAt l l 0 := ⟨rfl, fun k hk => by rw [if_neg (by omega)]⟩
theorem RevAt.step {l d : List Gift} {i : Nat} (h : RevAt l d i) (hi : 2 * i + 1 < l.length) (a b : Gift) (ha : d[i]? = some a) (hb : d[l.length - 1 - i]? = some b) : RevAt l ((d.set i b).set (l.length - 1 - i) a) (i + 1) := by
  have ha' := h.2 i (by omega)
  have hb' := h.2 (l.length - 1 - i) (by omega)
  rw [if_neg (by omega), ha] at ha'
  rw [if_neg (by omega), hb] at hb'
  refine ⟨by simp [h.1], fun k hk => ?_⟩
  rw [List.getElem?_set]
  by_cases e1 : l.length - 1 - i = k
  · rw [if_pos e1, if_pos (by simp [h.1]; omega), if_pos (by omega), show l.length - 1 - k = i by omega]
    exact ha'
  · rw [if_neg e1, List.getElem?_set]
    by_cases e2 : i = k
    · rw [if_pos e2, if_pos (by rw [h.1]; omega), if_pos (by omega), show l.length - 1 - k = l.length - 1 - i by omega]
      exact hb'
    · rw [if_neg e2, h.2 k hk]
      by_cases e3 : k < i ∨ l.length ≤ k + i
      · rw [if_pos e3, if_pos (by omega)]
      · rw [if_neg e3, if_neg (by omega)]
theorem RevAt.done {l d : List Gift} {i : Nat} (h : RevAt l d i) (hi : l.length ≤ 2 * i + 1) : d = l.reverse := by
  refine List.ext_getElem? fun k => ?_
  by_cases hk : k < l.length
  · rw [h.2 k hk, List.getElem?_reverse hk]
    by_cases e : k < i ∨ l.length ≤ k + i
    · rw [if_pos e]
    · rw [if_neg e, show l.length - 1 - k = k by omega]
  · rw [List.getElem?_eq_none (by rw [h.1]; omega), List.getElem?_eq_none (by simp; omega)]
end Go.Proofs.YtmkldfjcpmoajabDoor
