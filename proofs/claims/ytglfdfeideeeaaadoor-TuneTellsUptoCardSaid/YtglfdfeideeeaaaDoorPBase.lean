/- Small helpers of all texts of this seat: facts kept from the walk, what a call leaves of old memory. No condition. -/
import Derived.Test.YtglfdfeideeeaaaDoorProg
import Derived.WalkKit
import Derived.WalkLawsBesides
import Derived.WalkSpells
import Derived.Outline
import Derived.BigQuiet
import Derived.Deep.QuietTactic
import Derived.Laws.IdiomStrings
import Derived.Lib.Strings
import Derived.Below
import Derived.OwnWalk
namespace Go.Proofs.YtglfdfeideeeaaaDoor
open Go.RowKit
set_option linter.unusedVariables false
theorem hidd {p : Prop} (h : p) : Hid p := h
def Grew (w w' : World) : Prop := Below w.heap.size w w'
theorem Grew.refl (w : World) : Grew w w := Below.refl _ _
theorem Grew.trans {a b c : World} (h : Grew a b) (k : Grew b c) : Grew a c := Below.trans h (Below.mono k h.size)
theorem Grew.alloc {a w : World} (h : Grew a w) (o : Obj) : Grew a (w.alloc o) := Below.alloc h h.size o
theorem Grew.drew {a w : World} (h : Grew a w) : Grew a w.drew := Below.drew h
theorem Grew.drewN {a w : World} (h : Grew a w) (n : Nat) : Grew a (w.drewN n) := below_drewN h n
theorem Grew.lt {a w : World} (h : Grew a w) : a.heap.size ≤ w.heap.size := h.size
theorem Grew.below {a w w' : World} {B : Nat} (h : Grew a w) (k : Below B w w') (hB : a.heap.size ≤ B) : Grew a w' := Below.trans h (Below.mono k hB)
theorem Grew.cell {w w' : World} (h : Grew w w') {p : Addr} (hp : p.block < w.heap.size) : w'.cell? p = w.cell? p := Below.cell h hp
theorem Grew.frozen {w w' : World} (h : Grew w w') {p : Addr} (hp : p.block < w.heap.size) : w'.frozen? p = w.frozen? p := Below.frozen h hp
theorem Grew.setCell {a w : World} (h : Grew a w) {p : Addr} (hp : a.heap.size ≤ p.block) (u : Value) : Grew a (w.setCell p u) := Below.setCell h hp u
theorem lt_of_cell {w : World} {p : Addr} {v : Value} (h : w.cell? p = some v) : p.block < w.heap.size := by
  unfold World.cell? at h
  cases hh : w.heap[p.block]? with
  | none => rw [hh] at h; simp at h
  | some o => exact (Array.getElem?_eq_some_iff.1 hh).1
theorem Grew.keeps {w w' : World} (h : Grew w w') {p : Addr} {v : Value} (hp : w.cell? p = some v) : w'.cell? p = some v := by rw [h.cell (lt_of_cell hp)]; exact hp
theorem data_append (a b : ByteArray) : (a ++ b).data.toList = a.data.toList ++ b.data.toList := by simp
theorem size_data (s : ByteArray) : s.size = s.data.toList.length := Lib.size_eq s
theorem str_ext {s t : ByteArray} (h : s.data.toList = t.data.toList) : s = t := by
  cases s; cases t; simp at h; simpa using h
theorem bd_i64 {n : Int} (h : (Lit.int .i64 n).wf = true) : -9223372036854775808 ≤ n ∧ n ≤ 9223372036854775807 := by
  simpa [Lit.wf, IntKind.min, IntKind.max, IntKind.signed, IntKind.bits] using h
theorem ret_bool {a b : Bool} (h : a = b) : Ending.returned (.bool a) = .returned (.bool b) := by rw [h]
end Go.Proofs.YtglfdfeideeeaaaDoor

namespace Go.Proofs.YtglfdfeideeeaaaDoor
open Go.RowKit
set_option linter.unusedVariables false
def ArrAt (w : World) (b off n : Nat) (f : Nat → Value) : Prop := ∀ j, j < n → w.cell? ⟨b, off + j, none⟩ = some (f j) ∧ w.frozen? ⟨b, off + j, none⟩ = false
theorem ArrAt.at {w : World} {b off n : Nat} {f : Nat → Value} (h : ArrAt w b off n f) (j : Nat) (hj : j < n) : w.cell? ⟨b, off + j, none⟩ = some (f j) := (h j hj).1
theorem ArrAt.free {w : World} {b off n : Nat} {f : Nat → Value} (h : ArrAt w b off n f) (j : Nat) (hj : j < n) : w.frozen? ⟨b, off + j, none⟩ = false := (h j hj).2
theorem ArrAt.at0 {w : World} {b n : Nat} {f : Nat → Value} (h : ArrAt w b 0 n f) (j : Nat) (hj : j < n) : w.cell? ⟨b, j, none⟩ = some (f j) := by simpa using (h j hj).1
theorem ArrAt.free0 {w : World} {b n : Nat} {f : Nat → Value} (h : ArrAt w b 0 n f) (j : Nat) (hj : j < n) : w.frozen? ⟨b, j, none⟩ = false := by simpa using (h j hj).2
theorem ArrAt.lt {w : World} {b off n : Nat} {f : Nat → Value} (h : ArrAt w b off n f) (hn : 0 < n) : b < w.heap.size := lt_of_cell (h 0 hn).1
theorem ArrAt.drew {w : World} {b off n : Nat} {f : Nat → Value} (h : ArrAt w b off n f) : ArrAt w.drew b off n f := h
theorem ArrAt.drewN {w : World} {b off n : Nat} {f : Nat → Value} (h : ArrAt w b off n f) (k : Nat) : ArrAt (w.drewN k) b off n f := h
theorem ArrAt.alloc {w : World} {b off n : Nat} {f : Nat → Value} (h : ArrAt w b off n f) (o : Obj) : ArrAt (w.alloc o) b off n f := by
  intro j hj
  have hb : b < w.heap.size := lt_of_cell (h j hj).1
  have g := (Grew.refl w).alloc o
  exact ⟨by rw [g.cell hb]; exact (h j hj).1, by rw [g.frozen hb]; exact (h j hj).2⟩
theorem ArrAt.kept {w w' : World} {b off n : Nat} {f : Nat → Value} (h : ArrAt w b off n f) (g : Grew w w') : ArrAt w' b off n f := by
  intro j hj
  have hb : b < w.heap.size := lt_of_cell (h j hj).1
  exact ⟨by rw [g.cell hb]; exact (h j hj).1, by rw [g.frozen hb]; exact (h j hj).2⟩
theorem ArrAt.below {w w' : World} {b off n B : Nat} {f : Nat → Value} (h : ArrAt w b off n f) (g : Below B w w') (hb : b < B) : ArrAt w' b off n f := by
  intro j hj
  exact ⟨by rw [g.cell (p := ⟨b, off + j, none⟩) hb]; exact (h j hj).1, by rw [g.frozen (p := ⟨b, off + j, none⟩) hb]; exact (h j hj).2⟩
theorem ArrAt.congr {w : World} {b off n : Nat} {f g : Nat → Value} (h : ArrAt w b off n f) (k : ∀ j, j < n → f j = g j) : ArrAt w b off n g :=
  fun j hj => ⟨by rw [← k j hj]; exact (h j hj).1, (h j hj).2⟩
theorem ArrAt.mono {w : World} {b off n m : Nat} {f : Nat → Value} (h : ArrAt w b off n f) (k : m ≤ n) : ArrAt w b off m f := fun j hj => h j (by omega)
theorem setCell_cell_same {w : World} {p : Addr} {v u : Value} (hs : p.spot = none) (h : w.cell? p = some u) : (w.setCell p v).cell? p = some v := by
  obtain ⟨b, o, sp⟩ := p
  simp only at hs; subst hs
  unfold World.cell? at h ⊢
  cases hh : w.heap[b]? with
  | none => simp only [hh] at h; simp at h
  | some ob =>
    simp only [hh] at h
    cases ob <;> simp only at h
    case cells c e fr =>
      have hlt : o < c.size := by
        rcases Nat.lt_or_ge o c.size with hl | hl
        · exact hl
        · simp [Array.getElem?_eq_none hl] at h
      simp [World.setCell, Array.getElem?_modify, hh, hlt]
    all_goals simp at h
theorem setCell_cell_other (w : World) (p q : Addr) (v : Value) (h : p.block ≠ q.block ∨ p.off ≠ q.off) : (w.setCell p v).cell? q = w.cell? q := by
  unfold World.cell?
  by_cases hb : p.block = q.block
  · have ho : p.off ≠ q.off := by
      rcases h with h | h
      · exact absurd hb h
      · exact h
    simp only [World.setCell, Array.getElem?_modify, hb]
    cases hh : w.heap[q.block]? with
    | none => simp
    | some ob =>
      cases ob <;> simp only [if_true, Option.map_some]
      case cells c e fr =>
        by_cases hs : p.spot.isSome = true
        · simp [hs]
        · simp [hs, ho]
  · simp only [World.setCell, Array.getElem?_modify, hb, if_false]
theorem setCell_frozen (w : World) (p q : Addr) (v : Value) : (w.setCell p v).frozen? q = w.frozen? q := by
  unfold World.frozen?
  simp only [World.setCell, Array.getElem?_modify]
  by_cases hb : p.block = q.block
  · simp only [hb, if_true]
    cases hh : w.heap[q.block]? with
    | none => rfl
    | some ob => cases ob <;> rfl
  · simp [hb]
theorem ArrAt.set {w : World} {b off n : Nat} {f : Nat → Value} (h : ArrAt w b off n f) (i : Nat) (hi : i < n) (v : Value) :
    ArrAt (w.setCell ⟨b, off + i, none⟩ v) b off n (fun j => if j = i then v else f j) := by
  intro j hj
  refine ⟨?_, by rw [setCell_frozen]; exact (h j hj).2⟩
  by_cases e : j = i
  · subst e; rw [setCell_cell_same rfl (h j hj).1]; simp
  · rw [setCell_cell_other _ _ _ _ (.inr (by simp; omega))]; simpa [e] using (h j hj).1
theorem ArrAt.set0 {w : World} {b n : Nat} {f : Nat → Value} (h : ArrAt w b 0 n f) (i : Nat) (hi : i < n) (v : Value) :
    ArrAt (w.setCell ⟨b, i, none⟩ v) b 0 n (fun j => if j = i then v else f j) := by
  have := h.set i hi v
  rwa [Nat.zero_add] at this
theorem ArrAt.other {w : World} {b off n : Nat} {f : Nat → Value} (h : ArrAt w b off n f) (p : Addr) (hp : p.block ≠ b) (v : Value) : ArrAt (w.setCell p v) b off n f := by
  intro j hj
  exact ⟨by rw [setCell_cell_other _ _ _ _ (.inl hp)]; exact (h j hj).1, by rw [setCell_frozen]; exact (h j hj).2⟩
theorem ArrAt.new (w : World) (C : Array Value) (t : TypeId) (n : Nat) (f : Nat → Value) (h : ∀ j, j < n → C[j]? = some (f j)) : ArrAt (w.alloc (.cells C t)) w.heap.size 0 n f := by
  intro j hj
  rw [Nat.zero_add, World.cell?_alloc_mark, World.frozen?_alloc_mark]
  exact ⟨h j hj, by simp⟩
theorem Below.setCell' {B : Nat} {w : World} {p : Addr} (hp : B ≤ p.block) (u : Value) : Below B w (w.setCell p u) := Below.setCell (Below.refl _ _) hp u
theorem Grew.of_grownBy {w w' : World} (h : w.grownBy w' none) : Grew w w' := ⟨h.os, h.tape, h.output, h.size, fun k hk => h.block k hk (by simp)⟩
theorem info_u8 : (Tryd.prog.info? 5).map (fun i => (i.zero, i.size, i.bytes)) = some (some (.int .u8 0), 1, 1) := by kernel_rfl
theorem string_arr {w : World} {b off n : Nat} (l : List UInt8) (hl : l.length = n) (f : Nat → Value) (h : ArrAt w b off n f) (hf : ∀ j (hj : j < l.length), f j = .int .u8 (l[j].toNat : Int)) (cap : Nat) :
    (convert 69 9 (.slice (some ⟨b, off, none⟩) n cap)).run Tryd.prog w = .ok (.string ⟨l.toArray⟩) w := by
  subst hl
  refine run_convert_bytes_back w 69 9 5 ⟨b, off, none⟩ cap l Tryd.underlying69 Tryd.underlying5 Tryd.underlying9 (fun j hj => ?_)
  have e : (⟨b, off, none⟩ : Addr).add j = ⟨b, off + j, none⟩ := by
    unfold Addr.add; split
    · next h0 => subst h0; rfl
    · rfl
  rw [e, (h j hj).1, hf j hj]
end Go.Proofs.YtglfdfeideeeaaaDoor
