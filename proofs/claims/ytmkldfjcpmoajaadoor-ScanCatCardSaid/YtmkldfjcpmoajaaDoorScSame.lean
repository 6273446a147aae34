/- The document's SameGifts and SameWays: at all lists of gifts and of ways. -/
import Derived.Test.YtmkldfjcpmoajaaDoorScWaysW
namespace Go.Proofs.YtmkldfjcpmoajaaDoor
open Go.RowKit
set_option linter.unusedVariables false

def gift0 : Gift := (ByteArray.empty, ByteArray.empty)
def way0 : Way := (0, [])
/-- The slice v holds these gifts. -/
def GiftsV (w : World) (v : Value) (l : List Gift) : Prop :=
  (∃ a c, v = .slice a 0 c ∧ l = []) ∨ ∃ b o c : Nat, v = .slice (some ⟨b, o, none⟩) l.length c ∧ 0 < l.length ∧ l.length ≤ c ∧ c ≤ maxLen ∧
    ∀ i, i < l.length → w.cell? ⟨b, o + i * 2, none⟩ = some (.string (l.getD i gift0).1) ∧ w.cell? ⟨b, o + i * 2 + 1, none⟩ = some (.string (l.getD i gift0).2)
theorem GiftsV.kept {w w' : World} (g : Grew w w') {v : Value} {l : List Gift} (h : GiftsV w v l) : GiftsV w' v l := by
  rcases h with h | ⟨b, o, c, h1, h2, h3, h4, h5⟩
  · exact Or.inl h
  · exact Or.inr ⟨b, o, c, h1, h2, h3, h4, fun i hi => ⟨g.keeps (h5 i hi).1, g.keeps (h5 i hi).2⟩⟩
theorem GiftsV.len {w : World} {v : Value} {l : List Gift} (h : GiftsV w v l) : ∃ a c, v = .slice a l.length c ∧ l.length ≤ c ∧ l.length ≤ 9223372036854775807 := by
  rcases h with ⟨a, c, h, e⟩ | ⟨b, o, c, h, h0, h1, h2, _⟩
  · exact ⟨a, c, by rw [e]; exact h, by rw [e]; simp, by rw [e]; simp⟩
  · exact ⟨_, c, h, h1, by unfold maxLen at h2; omega⟩
theorem giftsV_nil (w : World) : GiftsV w (.slice none 0 0) [] := Or.inl ⟨_, _, rfl, rfl⟩
theorem GiftsV.of_own {w : World} {B : Nat} {v : Value} {l : List Gift} (h : w.ownsRow B 74 2 v l.length (saidCells l)) : GiftsV w v l := by
  have h0 := h
  rcases h.2 with ⟨h1, h2⟩ | ⟨g, cap, cur, h1, h2, h3, h4, h5, h6, h7⟩
  · exact Or.inl ⟨_, _, h1, List.eq_nil_of_length_eq_zero h2⟩
  · subst h1
    rcases Nat.eq_zero_or_pos l.length with hz | hz
    · exact Or.inl ⟨_, _, by rw [hz], List.eq_nil_of_length_eq_zero hz⟩
    · refine Or.inr ⟨g, 0, cap, rfl, hz, h4, h5, fun i hi => ?_⟩
      obtain ⟨e1, e2⟩ := cells_gift l i (l.getD i gift0) (by rw [List.getD_eq_getElem?_getD, List.getElem?_eq_getElem hi]; rfl)
      have k1 := World.ownsRow.cellAt h0 (i * 2) (by omega)
      have k2 := World.ownsRow.cellAt h0 (i * 2 + 1) (by omega)
      rw [Nat.zero_add, k1, k2]
      rw [List.getD_eq_getElem?_getD, e1, List.getD_eq_getElem?_getD, e2]
      exact ⟨rfl, rfl⟩
/-- The slice v holds these ways. -/
def WaysV (w : World) (v : Value) (l : List Way) : Prop :=
  (∃ a c, v = .slice a 0 c ∧ l = []) ∨ ∃ b o c : Nat, v = .slice (some ⟨b, o, none⟩) l.length c ∧ 0 < l.length ∧ l.length ≤ c ∧ c ≤ maxLen ∧
    ∀ i, i < l.length → w.cell? ⟨b, o + i * 2, none⟩ = some (.int .i64 (l.getD i way0).1) ∧ ∃ gv, w.cell? ⟨b, o + i * 2 + 1, none⟩ = some gv ∧ GiftsV w gv (l.getD i way0).2
theorem WaysV.kept {w w' : World} (g : Grew w w') {v : Value} {l : List Way} (h : WaysV w v l) : WaysV w' v l := by
  rcases h with h | ⟨b, o, c, h1, h2, h3, h4, h5⟩
  · exact Or.inl h
  · refine Or.inr ⟨b, o, c, h1, h2, h3, h4, fun i hi => ⟨g.keeps (h5 i hi).1, ?_⟩⟩
    obtain ⟨gv, k1, k2⟩ := (h5 i hi).2
    exact ⟨gv, g.keeps k1, k2.kept g⟩
theorem WaysV.len {w : World} {v : Value} {l : List Way} (h : WaysV w v l) : ∃ a c, v = .slice a l.length c ∧ l.length ≤ c ∧ l.length ≤ 9223372036854775807 := by
  rcases h with ⟨a, c, h, e⟩ | ⟨b, o, c, h, h0, h1, h2, _⟩
  · exact ⟨a, c, by rw [e]; exact h, by rw [e]; simp, by rw [e]; simp⟩
  · exact ⟨_, c, h, h1, by unfold maxLen at h2; omega⟩
theorem wayCells_at : ∀ (l : List Way) (gs : List Value), gs.length = l.length → ∀ i, i < l.length → (wayCells l gs)[i * 2]? = some (.int .i64 (l.getD i way0).1) ∧ (wayCells l gs)[i * 2 + 1]? = gs[i]?
  | [], gs, _, i, hi => by simp at hi
  | x :: l, [], h, i, hi => by simp at h
  | x :: l, g :: gs, h, 0, hi => ⟨rfl, rfl⟩
  | x :: l, g :: gs, h, i + 1, hi => by
    have := wayCells_at l gs (by simpa using h) i (by simpa using hi)
    have e : wayCells (x :: l) (g :: gs) = .int .i64 x.1 :: g :: wayCells l gs := rfl
    rw [e, show (i + 1) * 2 = i * 2 + 1 + 1 by omega]
    exact ⟨by simpa using this.1, by simpa using this.2⟩
theorem WaysV.of_at {w : World} {B : Nat} {v : Value} {l : List Way} (h : WaysAt w B v l) : WaysV w v l := by
  obtain ⟨gs, hl, h0, hg⟩ := h
  have h := h0
  rcases h.2 with ⟨h1, h2⟩ | ⟨g, cap, cur, h1, h2, h3, h4, h5, h6, h7⟩
  · exact Or.inl ⟨_, _, h1, List.eq_nil_of_length_eq_zero h2⟩
  · subst h1
    rcases Nat.eq_zero_or_pos l.length with hz | hz
    · exact Or.inl ⟨_, _, by rw [hz], List.eq_nil_of_length_eq_zero hz⟩
    · refine Or.inr ⟨g, 0, cap, rfl, hz, h4, h5, fun i hi => ?_⟩
      obtain ⟨e1, e2⟩ := wayCells_at l gs hl i hi
      have k1 := World.ownsRow.cellAt h0 (i * 2) (by omega)
      have k2 := World.ownsRow.cellAt h0 (i * 2 + 1) (by omega)
      have hgi : i < gs.length := by omega
      rw [Nat.zero_add, k1, k2]
      rw [List.getD_eq_getElem?_getD, e1, List.getD_eq_getElem?_getD, e2, List.getElem?_eq_getElem hgi]
      refine ⟨rfl, _, rfl, .of_own (hg (l.getD i way0, gs[i]) ?_)⟩
      rw [List.getD_eq_getElem?_getD, List.getElem?_eq_getElem hi]
      have : (l.zip gs)[i]'(by rw [List.length_zip]; omega) = (l[i], gs[i]) := List.getElem_zip
      show (l[i], gs[i]) ∈ _
      rw [← this]
      exact List.getElem_mem _

/-- Are two lists of gifts the same? -/
def sameG (a b : List Gift) : Bool := decide (a = b)
theorem take_eq_snoc {α : Type} (z : α) {a b : List α} {k : Nat} (h : a.take k = b.take k) (ha : k < a.length) (hb : k < b.length) (e : a.getD k z = b.getD k z) : a.take (k + 1) = b.take (k + 1) := by
  rw [List.getD_eq_getElem?_getD, List.getD_eq_getElem?_getD, List.getElem?_eq_getElem ha, List.getElem?_eq_getElem hb] at e
  rw [List.take_succ_eq_append_getElem ha, List.take_succ_eq_append_getElem hb, h, show a[k] = b[k] from e]
theorem ne_of_getD {α : Type} (z : α) {a b : List α} {k : Nat} (h : a.getD k z ≠ b.getD k z) : a ≠ b := fun e => h (by rw [e])
end Go.Proofs.YtmkldfjcpmoajaaDoor
