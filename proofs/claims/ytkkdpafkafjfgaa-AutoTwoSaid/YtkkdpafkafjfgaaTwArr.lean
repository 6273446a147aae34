/- Rows of cells in memory, as functions of the place: what a store, a new block, a draw and a call leave of them. No condition. -/
import Derived.Test.YtkkdpafkafjfgaaTwBase
import Derived.OwnWalk
namespace Go.Proofs.Ytkkdpafkafjfgaa
open Go.RowKit
set_option linter.unusedVariables false
def ArrAt (w : World) (b off n : Nat) (f : Nat → Value) : Prop := ∀ j, j < n → w.cell? ⟨b, off + j, none⟩ = some (f j) ∧ w.frozen? ⟨b, off + j, none⟩ = false
theorem ArrAt.at {w : World} {b off n : Nat} {f : Nat → Value} (h : ArrAt w b off n f) (j : Nat) (hj : j < n) : w.cell? ⟨b, off + j, none⟩ = some (f j) := (h j hj).1
theorem ArrAt.at0 {w : World} {b n : Nat} {f : Nat → Value} (h : ArrAt w b 0 n f) (j : Nat) (hj : j < n) : w.cell? ⟨b, j, none⟩ = some (f j) := by simpa using (h j hj).1
theorem ArrAt.free0 {w : World} {b n : Nat} {f : Nat → Value} (h : ArrAt w b 0 n f) (j : Nat) (hj : j < n) : w.frozen? ⟨b, j, none⟩ = false := by simpa using (h j hj).2
theorem ArrAt.lt {w : World} {b off n : Nat} {f : Nat → Value} (h : ArrAt w b off n f) (hn : 0 < n) : b < w.heap.size := lt_of_cell (h 0 hn).1
theorem ArrAt.drew {w : World} {b off n : Nat} {f : Nat → Value} (h : ArrAt w b off n f) : ArrAt w.drew b off n f := h
theorem ArrAt.alloc {w : World} {b off n : Nat} {f : Nat → Value} (h : ArrAt w b off n f) (o : Obj) : ArrAt (w.alloc o) b off n f := by
  intro j hj
  have hb : b < w.heap.size := lt_of_cell (h j hj).1
  have g := (Grew.refl w).alloc o
  exact ⟨by rw [g.cell hb]; exact (h j hj).1, by rw [g.frozen hb]; exact (h j hj).2⟩
theorem ArrAt.kept {w w' : World} {b off n : Nat} {f : Nat → Value} (h : ArrAt w b off n f) (g : Grew w w') : ArrAt w' b off n f := by
  intro j hj
  have hb : b < w.heap.size := lt_of_cell (h j hj).1
  exact ⟨by rw [g.cell hb]; exact (h j hj).1, by rw [g.frozen hb]; exact (h j hj).2⟩
theorem ArrAt.below {w w' : World} {b off n B : Nat} {f : Nat → Value} (h : ArrAt w b off n f) (g : Below B w w') (hb : b < B) : ArrAt w' b off n f := by
  intro j hj
  exact ⟨by rw [g.cell (p := ⟨b, off + j, none⟩) hb]; exact (h j hj).1, by rw [g.frozen (p := ⟨b, off + j, none⟩) hb]; exact (h j hj).2⟩
theorem ArrAt.congr {w : World} {b off n : Nat} {f g : Nat → Value} (h : ArrAt w b off n f) (k : ∀ j, j < n → f j = g j) : ArrAt w b off n g :=
  fun j hj => ⟨by rw [← k j hj]; exact (h j hj).1, (h j hj).2⟩
theorem ArrAt.mono {w : World} {b off n m : Nat} {f : Nat → Value} (h : ArrAt w b off n f) (k : m ≤ n) : ArrAt w b off m f := fun j hj => h j (by omega)
theorem setCell_cell_same {w : World} {p : Addr} {v u : Value} (hs : p.spot = none) (h : w.cell? p = some u) : (w.setCell p v).cell? p = some v := by
  obtain ⟨b, o, sp⟩ := p
  simp only at hs; subst hs
  unfold World.cell? at h ⊢
  cases hh : w.heap[b]? with
  | none => simp only [hh] at h; simp at h
  | some ob =>
    simp only [hh] at h
    cases ob <;> simp only at h
    case cells c e fr =>
      have hlt : o < c.size := by
        rcases Nat.lt_or_ge o c.size with hl | hl
        · exact hl
        · simp [Array.getElem?_eq_none hl] at h
      simp [World.setCell, Array.getElem?_modify, hh, hlt]
    all_goals simp at h
theorem setCell_cell_other (w : World) (p q : Addr) (v : Value) (h : p.block ≠ q.block ∨ p.off ≠ q.off) : (w.setCell p v).cell? q = w.cell? q := by
  unfold World.cell?
  by_cases hb : p.block = q.block
  · have ho : p.off ≠ q.off := by
      rcases h with h | h
      · exact absurd hb h
      · exact h
    simp only [World.setCell, Array.getElem?_modify, hb]
    cases hh : w.heap[q.block]? with
    | none => simp
    | some ob =>
      cases ob <;> simp only [if_true, Option.map_some]
      case cells c e fr =>
        by_cases hs : p.spot.isSome = true
        · simp [hs]
        · simp [hs, ho]
  · simp only [World.setCell, Array.getElem?_modify, hb, if_false]
theorem setCell_frozen (w : World) (p q : Addr) (v : Value) : (w.setCell p v).frozen? q = w.frozen? q := by
  unfold World.frozen?
  simp only [World.setCell, Array.getElem?_modify]
  by_cases hb : p.block = q.block
  · simp only [hb, if_true]
    cases hh : w.heap[q.block]? with
    | none => rfl
    | some ob => cases ob <;> rfl
  · simp [hb]
theorem ArrAt.set {w : World} {b off n : Nat} {f : Nat → Value} (h : ArrAt w b off n f) (i : Nat) (hi : i < n) (v : Value) :
    ArrAt (w.setCell ⟨b, off + i, none⟩ v) b off n (fun j => if j = i then v else f j) := by
  intro j hj
  refine ⟨?_, by rw [setCell_frozen]; exact (h j hj).2⟩
  by_cases e : j = i
  · subst e; rw [setCell_cell_same rfl (h j hj).1]; simp
  · rw [setCell_cell_other _ _ _ _ (.inr (by simp; omega))]; simpa [e] using (h j hj).1
theorem ArrAt.set0 {w : World} {b n : Nat} {f : Nat → Value} (h : ArrAt w b 0 n f) (i : Nat) (hi : i < n) (v : Value) :
    ArrAt (w.setCell ⟨b, i, none⟩ v) b 0 n (fun j => if j = i then v else f j) := by
  have := h.set i hi v
  rwa [Nat.zero_add] at this
theorem ArrAt.other {w : World} {b off n : Nat} {f : Nat → Value} (h : ArrAt w b off n f) (p : Addr) (hp : p.block ≠ b) (v : Value) : ArrAt (w.setCell p v) b off n f := by
  intro j hj
  exact ⟨by rw [setCell_cell_other _ _ _ _ (.inl hp)]; exact (h j hj).1, by rw [setCell_frozen]; exact (h j hj).2⟩
theorem ArrAt.new (w : World) (C : Array Value) (t : TypeId) (n : Nat) (f : Nat → Value) (h : ∀ j, j < n → C[j]? = some (f j)) : ArrAt (w.alloc (.cells C t)) w.heap.size 0 n f := by
  intro j hj
  rw [Nat.zero_add, World.cell?_alloc_mark, World.frozen?_alloc_mark]
  exact ⟨h j hj, by simp⟩
theorem Below.setCell' {B : Nat} {w : World} {p : Addr} (hp : B ≤ p.block) (u : Value) : Below B w (w.setCell p u) := Below.setCell (Below.refl _ _) hp u
theorem Grew.of_grownBy {w w' : World} (h : w.grownBy w' none) : Grew w w' := ⟨h.os, h.tape, h.output, h.size, fun k hk => h.block k hk (by simp)⟩
theorem make_row (t e : TypeId) (i : TypeInfo) (z : Value) (ht : Try.prog.underlying t = some (.slice e)) (hi : Try.prog.info? e = some i) (hz : i.zero = some z) (hs : i.size = 1) (hc : z.cells = #[z])
    (n : Nat) (hb : i.bytes * n ≤ 281474976710656) (hn : n ≤ maxLen) (w : World) :
    ∃ w', (Instr.makeSlice t (.int .i64 (n : Int)) (.int .i64 (n : Int))).run Try.prog w = .ok (.slice (some ⟨w.heap.size, 0, none⟩) n n) w' ∧ ArrAt w' w.heap.size 0 n (fun _ => z) ∧ Grew w w' := by
  obtain ⟨w', h1, h2, h3⟩ := run_make_full (P := Try.prog) w w.heap.size t e i z 1 ht hi hz hs .i64 .i64 n hb hn (Nat.le_refl _)
  refine ⟨w', h1, fun j hj => ⟨?_, ?_⟩, Grew.of_grownBy h3⟩
  · rw [Nat.zero_add, h2.cellAt j (by omega), hc]
    simp [madeCells, hj, Nat.mod_one]
  · rw [Nat.zero_add, h2.frozenAt]
end Go.Proofs.Ytkkdpafkafjfgaa
