/- A list of texts that came in, or that one has: what its slice says. -/
import Derived.Test.YtgkchdjogfdjaaaDoorOwn
import Derived.SliceStrings
import Derived.WideShapes
import Derived.Carry
namespace Go.Proofs.YtgkchdjogfdjaaaDoor
open Go.RowKit
set_option linter.unusedVariables false

/-- The slice v holds the texts of l. -/
def StrsArg (w : World) (v : Value) (l : List ByteArray) : Prop :=
  (∃ a cap, v = .slice a 0 cap ∧ l = []) ∨ ∃ (b o cap : Nat), v = .slice (some ⟨b, o, none⟩) l.length cap ∧ 0 < l.length ∧ l.length ≤ cap ∧ cap ≤ maxLen ∧ ∀ i, i < l.length → w.cell? ⟨b, o + i, none⟩ = some (.string (l.getD i ByteArray.empty))
theorem StrsArg.kept {w w' : World} {v : Value} {l : List ByteArray} (h : StrsArg w v l) (g : Grew w w') : StrsArg w' v l := by
  rcases h with h | ⟨b, o, cap, h1, h2, h3, h4, h5⟩
  · exact Or.inl h
  · exact Or.inr ⟨b, o, cap, h1, h2, h3, h4, fun i hi => g.keeps (h5 i hi)⟩
theorem addr_plain {w : World} {a : Addr} {v : Value} (h : w.cell? a = some v) : a = ⟨a.block, a.off, none⟩ := by
  obtain ⟨b, o, sp⟩ := a
  cases sp with
  | none => rfl
  | some x =>
    unfold World.cell? at h
    split at h
    · simp at h
    · cases h
theorem addr_add (b o i : Nat) : (⟨b, o, none⟩ : Addr).add i = ⟨b, o + i, none⟩ := by
  unfold Addr.add; split
  · next h0 => subst h0; rfl
  · rfl

theorem strsArg_of {H : Type} {enc : TypeId × Value → H} {w : World} {spare : Nat → Bool} {held : Bool} {a : Option Addr} {len cap : Nat} {d : DataW H} {ps : List MemPlace} (hc : Tryd.prog.cellsOf 9 = 1)
    (h : DataW.Trod enc Tryd.prog w 0 spare held 22 (.slice a len cap) d ps) : ∃ l, StrsArg w (.slice a len cap) l ∧ (∀ s ∈ l, s.size ≤ maxLen) ∧
      ((d = .nil ∧ l = []) ∨ ∃ ss, d = .slice (Go.ChangeShapes.strs l) (Go.ChangeShapes.strs ss)) := by
  obtain ⟨n, hf⟩ := h
  rcases Go.ChangeShapes.open_strings Tryd.underlying22 Tryd.underlying9 hc hf with ⟨hcs, hx⟩ | ⟨a', len', cap', ss, hcs, hb, hl, hm, hz, hx, hcell, hws⟩
  · have : Value.slice a len cap = .slice none 0 0 := by simpa [Value.cells] using hcs
    exact ⟨[], Or.inl ⟨_, _, this, rfl⟩, (fun s hs => by cases hs), Or.inl ⟨congrArg Prod.fst hx, rfl⟩⟩
  · have he : Value.slice a len cap = .slice (some a') len' cap' := by simpa [Value.cells] using hcs
    have hle : len' ≤ ss.length := by rw [hz]; split <;> omega
    have hlen : (ss.take len').length = len' := by rw [List.length_take]; omega
    refine ⟨ss.take len', ?_, fun s hs => hws s (List.mem_of_mem_take hs), Or.inr ⟨_, congrArg Prod.fst hx⟩⟩
    rcases Nat.eq_zero_or_pos len' with h0 | h0
    · subst h0
      exact Or.inl ⟨_, _, he, rfl⟩
    · have hp := addr_plain (show w.cell? a' = _ from hcell 0 (by omega))
      refine Or.inr ⟨a'.block, a'.off, cap', by rw [hlen, ← hp]; exact he, by omega, by omega, hm, fun i hi => ?_⟩
      rw [← addr_add, ← hp, hcell i (by omega)]
      rw [List.getD_eq_getElem?_getD, List.getD_eq_getElem?_getD, List.getElem?_take, if_pos (by omega)]
/-- A list that one has made is one. -/
theorem Own.strs {w : World} {B : Nat} {v : Value} {l : List ByteArray} (h : Own 9 w B v (l.map Value.string)) : StrsArg w v l := by
  rcases h.shape with ⟨rfl, h2⟩ | ⟨g, cap, rfl, _, _, h3, h4, hA⟩
  · exact Or.inl ⟨_, _, rfl, by simpa using h2⟩
  · rw [List.length_map] at h3 hA ⊢
    rcases Nat.eq_zero_or_pos l.length with h0 | h0
    · exact Or.inl ⟨_, _, by rw [h0], List.eq_nil_of_length_eq_zero h0⟩
    · refine Or.inr ⟨g, 0, cap, rfl, h0, h3, h4, fun i hi => ?_⟩
      rw [hA.at i hi]
      simp [List.getD_eq_getElem?_getD, List.getElem?_eq_getElem hi]
theorem info_str : (Tryd.prog.info? 9).map (fun i => (i.zero, i.size, i.bytes)) = some (some (.string ByteArray.empty), 1, 16) := by kernel_rfl
/-- 'append(v, t)', texts. -/
theorem own_text {w : World} {B : Nat} {v : Value} {xs : List Value} (h : Own 9 w B v xs) (hB : B ≤ w.heap.size) (s : ByteArray) (hl : (xs.length + 1) * 16 ≤ 140737488355328) (ty t' : TypeId) :
    ∃ v' w', (Builtin.append_ #[22, 22] ty #[v, .slice (some ⟨w.heap.size, 0, none⟩) 1 1]).run Tryd.prog (w.alloc (.cells #[.string s] t')) = .ok v' w' ∧ Own 9 w' B v' (xs ++ [.string s]) ∧ Below B w w' := by
  obtain ⟨i0, hi, hz0, hz1, hz2⟩ := info_parts info_str
  exact h.append Tryd.underlying22 hi hz0 hz1 hz2 rfl hB (.string s) rfl (by omega) (by unfold maxLen; omega) ty t'
end Go.Proofs.YtgkchdjogfdjaaaDoor
