/- Words and whole numbers of any size in memory. No condition. -/
import Derived.Test.YthhcpocgfmlbeaaDoorArr
import Derived.Test.YthhcpocgfmlbeaaDoorBgP
namespace Go.Proofs.YthhcpocgfmlbeaaDoor
open Go.RowKit
set_option linter.unusedVariables false
/-- All but one block as they were. -/
structure But (a : Nat) (w w' : World) : Prop where
  os : w'.os = w.os
  tape : w'.tape = w.tape
  output : w'.output = w.output
  size : w.heap.size ≤ w'.heap.size
  block : ∀ k, k < w.heap.size → k ≠ a → w'.heap[k]? = w.heap[k]?
theorem But.of_grew {a : Nat} {w w' : World} (g : Grew w w') : But a w w' := ⟨g.os, g.tape, g.output, g.size, fun k hk _ => g.block k hk⟩
theorem But.refl (a : Nat) (w : World) : But a w w := .of_grew (Grew.refl w)
theorem But.trans {a : Nat} {u v w : World} (h : But a u v) (k : But a v w) : But a u w := ⟨k.os.trans h.os, k.tape.trans h.tape, k.output.trans h.output, Nat.le_trans h.size k.size, fun i hi hn => (k.block i (by have := h.size; omega) hn).trans (h.block i hi hn)⟩
theorem But.grew {a : Nat} {w0 w w' : World} (g : Grew w0 w) (h : But a w w') (ha : w0.heap.size ≤ a) : Grew w0 w' := ⟨h.os.trans g.os, h.tape.trans g.tape, h.output.trans g.output, Nat.le_trans g.size h.size, fun i hi => (h.block i (by have := g.size; omega) (by omega)).trans (g.block i hi)⟩
theorem setCell_block {w : World} {p : Addr} {u : Value} {k : Nat} (h : k ≠ p.block) : (w.setCell p u).heap[k]? = w.heap[k]? := by
  simp only [World.setCell, Array.getElem?_modify]
  rw [if_neg (Ne.symm h)]
theorem But.set {a o : Nat} {w w' : World} (h : But a w w') (u : Value) : But a w (w'.setCell ⟨a, o, none⟩ u) :=
  ⟨h.os, h.tape, h.output, by simpa [World.setCell] using h.size, fun k hk hn => by rw [setCell_block hn]; exact h.block k hk hn⟩
theorem But.cell {a : Nat} {w w' : World} (h : But a w w') {p : Addr} {v : Value} (hp : p.block ≠ a) (hv : w.cell? p = some v) : w'.cell? p = some v := by
  rw [← hv]; unfold World.cell?; rw [h.block _ (lt_of_cell hv) hp]
/-- The slice v holds the n low words of A, all that A has. -/
def WordsAt (w : World) (v : Value) (A n : Nat) : Prop := A < B32 ^ n ∧ ∃ p c, v = .slice p n c ∧ n ≤ c ∧ c ≤ 9223372036854775807 ∧ (0 < n → ∃ b o, p = some ⟨b, o, none⟩ ∧ ∀ j, j < n → w.cell? ⟨b, o + j, none⟩ = some (.int .u32 (dg A j)))
theorem WordsAt.kept {w w' : World} {v : Value} {A n : Nat} (h : WordsAt w v A n) (g : Grew w w') : WordsAt w' v A n := by
  obtain ⟨h1, p, c, h2, h3, h4, h5⟩ := h
  exact ⟨h1, p, c, h2, h3, h4, fun hn => by obtain ⟨b, o, e, hc⟩ := h5 hn; exact ⟨b, o, e, fun j hj => g.keeps (hc j hj)⟩⟩
theorem WordsAt.form {w : World} {v : Value} {A n : Nat} (h : WordsAt w v A n) : ∃ p c, v = .slice p n c ∧ n ≤ c ∧ c ≤ 9223372036854775807 := by
  obtain ⟨_, p, c, h2, h3, h4, _⟩ := h; exact ⟨p, c, h2, h3, h4⟩
theorem WordsAt.words {w : World} {p : Option Addr} {A n m c : Nat} (h : WordsAt w (.slice p m c) A n) (hn : 0 < n) : ∃ b o, p = some ⟨b, o, none⟩ ∧ ∀ j, j < n → w.cell? ⟨b, o + j, none⟩ = some (.int .u32 (dg A j)) := by
  obtain ⟨_, p', c', h2, h3, h4, h5⟩ := h
  cases h2
  exact h5 hn
theorem WordsAt.fits {w : World} {v : Value} {A n : Nat} (h : WordsAt w v A n) : A < B32 ^ n := h.1
theorem wordsAt_nil (w : World) {p : Option Addr} {c : Nat} (hc : c ≤ 9223372036854775807) : WordsAt w (.slice p 0 c) 0 0 := ⟨by decide, p, c, rfl, Nat.zero_le _, hc, fun h => absurd h (Nat.lt_irrefl 0)⟩
/-- Fewer of them, where all above are noughts. -/
theorem WordsAt.cut {w : World} {p : Option Addr} {A n c k : Nat} (h : WordsAt w (.slice p n c) A n) (hk : k ≤ n) (hA : A < B32 ^ k) : WordsAt w (.slice p k c) A k := by
  obtain ⟨h1, p', c', h2, h3, h4, h5⟩ := h
  cases h2
  refine ⟨hA, p, c, rfl, by omega, h4, fun h0 => ?_⟩
  obtain ⟨b, o, e, hc⟩ := h5 (by omega)
  exact ⟨b, o, e, fun j hj => hc j (by omega)⟩
theorem wordsAt_arr {w : World} {b n A c : Nat} {f : Nat → Nat} (hA : A < B32 ^ n) (hf : ∀ j, j < n → f j = dg A j) (h : ArrAt w b 0 n (fun j => .int .u32 (f j : Nat))) (hc : n ≤ c) (hc2 : c ≤ 9223372036854775807) : WordsAt w (.slice (some ⟨b, 0, none⟩) n c) A n :=
  ⟨hA, _, c, rfl, hc, hc2, fun _ => ⟨b, 0, rfl, fun j hj => by have := h.at j hj; rw [this, hf j hj]⟩⟩
/-- A number with a sign. -/
def sgI (b : Bool) (A : Nat) : Int := if b = true then -(A : Int) else A
theorem sgI_abs (b : Bool) (A : Nat) : (sgI b A).natAbs = A := by unfold sgI; split <;> omega
theorem sgI_neg (b : Bool) (A : Nat) : decide (sgI b A < 0) = (b && decide (0 < nw A)) := by
  have h0 : 0 < nw A ↔ 0 < A := by
    constructor
    · intro h
      rcases Nat.eq_zero_or_pos A with e | e
      · rw [e, nw_zero] at h; omega
      · exact e
    · intro h; rw [nw_pos (by omega)]; omega
  unfold sgI
  cases b with
  | false => simp
  | true =>
    simp only [if_true, Bool.true_and]
    by_cases h : 0 < A
    · rw [decide_eq_true (h0.2 h), decide_eq_true (by omega)]
    · rw [decide_eq_false (fun k => h (h0.1 k)), decide_eq_false (by omega)]
theorem sgI_of (z : Int) : sgI (decide (z < 0)) z.natAbs = z := by
  unfold sgI
  by_cases h : z < 0
  · rw [if_pos (decide_eq_true h)]; omega
  · rw [if_neg (by rw [decide_eq_false h]; simp)]; omega
/-- A number's object. -/
def ObjAt (w : World) (b : Nat) : Prop := ∃ n p l c, w.heap[b]? = some (.cells #[.bool n, .slice p l c] 56 (0, 0))
def IntAt (w : World) (b : Nat) (z : Int) : Prop := ∃ p c, w.heap[b]? = some (.cells #[.bool (decide (z < 0)), .slice p (nw z.natAbs) c] 56 (0, 0)) ∧ WordsAt w (.slice p (nw z.natAbs) c) z.natAbs (nw z.natAbs)
theorem IntAt.obj {w : World} {b : Nat} {z : Int} (h : IntAt w b z) : ObjAt w b := by obtain ⟨p, c, h1, _⟩ := h; exact ⟨_, _, _, _, h1⟩
theorem heap_keep {w w' : World} (g : Grew w w') {b : Nat} {o : Obj} (h : w.heap[b]? = some o) : w'.heap[b]? = some o := by rw [g.block b (Array.getElem?_eq_some_iff.1 h).1]; exact h
theorem IntAt.kept {w w' : World} {b : Nat} {z : Int} (h : IntAt w b z) (g : Grew w w') : IntAt w' b z := by
  obtain ⟨p, c, h1, h2⟩ := h; exact ⟨p, c, heap_keep g h1, h2.kept g⟩
theorem ObjAt.kept {w w' : World} {b : Nat} (h : ObjAt w b) (g : Grew w w') : ObjAt w' b := by
  obtain ⟨n, p, l, c, h1⟩ := h; exact ⟨n, p, l, c, heap_keep g h1⟩
/-- Words lie in no number's object. -/
theorem WordsAt.apart {w : World} {a n A b o : Nat} (hO : ObjAt w a) (hn : 0 < n) (h : ∀ j, j < n → w.cell? ⟨b, o + j, none⟩ = some (.int .u32 (dg A j))) : b ≠ a := by
  rintro rfl
  obtain ⟨m, p, l, c, h1⟩ := hO
  have := h 0 hn
  simp only [World.cell?, h1] at this
  match o, this with
  | 0, this => simp at this
  | 1, this => simp at this
  | o + 2, this => simp at this
theorem WordsAt.but {w w' : World} {v : Value} {A n a : Nat} (h : WordsAt w v A n) (hO : ObjAt w a) (g : But a w w') : WordsAt w' v A n := by
  obtain ⟨h1, p, c, h2, h3, h4, h5⟩ := h
  refine ⟨h1, p, c, h2, h3, h4, fun hn => ?_⟩
  obtain ⟨b, o, e, hc⟩ := h5 hn
  have := WordsAt.apart hO hn hc
  exact ⟨b, o, e, fun j hj => g.cell this (hc j hj)⟩
theorem IntAt.but {w w' : World} {b a : Nat} {z : Int} (h : IntAt w b z) (hO : ObjAt w a) (hb : b ≠ a) (g : But a w w') : IntAt w' b z := by
  obtain ⟨p, c, h1, h2⟩ := h
  exact ⟨p, c, by rw [g.block b (Array.getElem?_eq_some_iff.1 h1).1 hb]; exact h1, h2.but hO g⟩
theorem two_cells {w : World} {b : Nat} {v0 v1 : Value} {t : TypeId} (h : w.heap[b]? = some (.cells #[v0, v1] t (0, 0))) :
    (w.cell? ⟨b, 0, none⟩ = some v0 ∧ w.cell? ⟨b, 1, none⟩ = some v1) ∧ ∀ o, w.frozen? ⟨b, o, none⟩ = false := by
  refine ⟨⟨?_, ?_⟩, fun o => by simp [World.frozen?, h]⟩ <;> simp [World.cell?, h]
theorem set_heap {w : World} {b : Nat} {cs : Array Value} {t : TypeId} (h : w.heap[b]? = some (.cells cs t (0, 0))) (i : Nat) (u : Value) : (w.setCell ⟨b, i, none⟩ u).heap[b]? = some (.cells (cs.setIfInBounds i u) t (0, 0)) := by
  simp [World.setCell, Array.getElem?_modify, h]
end Go.Proofs.YthhcpocgfmlbeaaDoor
