/- Small helpers of all texts of this seat: facts kept from the walk, what a call leaves of old memory. No condition. -/
import Derived.Test.YtkkdpafkafjfgaaDoorProg
import Derived.WalkKit
import Derived.WalkLawsBesides
import Derived.WalkSpells
import Derived.Outline
import Derived.BigQuiet
import Derived.Deep.QuietTactic
import Derived.Laws.IdiomStrings
import Derived.Lib.Strings
import Derived.Below
import Derived.Test.YtkkdpafkafjfgaaDoorAlPAuS
import Derived.Deep.Matrix
import Derived.Deep.Grids
import Derived.WideShapes
import Derived.Carry
import Derived.OpenShut
namespace Go.Proofs.YtkkdpafkafjfgaaDoor
open Go.RowKit
set_option linter.unusedVariables false
theorem hidd {p : Prop} (h : p) : Hid p := h
def Grew (w w' : World) : Prop := Below w.heap.size w w'
theorem Grew.refl (w : World) : Grew w w := Below.refl _ _
theorem Grew.trans {a b c : World} (h : Grew a b) (k : Grew b c) : Grew a c := Below.trans h (Below.mono k h.size)
theorem Grew.alloc {a w : World} (h : Grew a w) (o : Obj) : Grew a (w.alloc o) := Below.alloc h h.size o
theorem Grew.drew {a w : World} (h : Grew a w) : Grew a w.drew := Below.drew h
theorem Grew.lt {a w : World} (h : Grew a w) : a.heap.size ≤ w.heap.size := h.size
theorem Grew.below {a w w' : World} {B : Nat} (h : Grew a w) (k : Below B w w') (hB : a.heap.size ≤ B) : Grew a w' := Below.trans h (Below.mono k hB)
theorem Grew.cell {w w' : World} (h : Grew w w') {p : Addr} (hp : p.block < w.heap.size) : w'.cell? p = w.cell? p := Below.cell h hp
theorem Grew.frozen {w w' : World} (h : Grew w w') {p : Addr} (hp : p.block < w.heap.size) : w'.frozen? p = w.frozen? p := Below.frozen h hp
theorem Grew.setCell {a w : World} (h : Grew a w) {p : Addr} (hp : a.heap.size ≤ p.block) (u : Value) : Grew a (w.setCell p u) := Below.setCell h hp u
theorem lt_of_cell {w : World} {p : Addr} {v : Value} (h : w.cell? p = some v) : p.block < w.heap.size := by
  unfold World.cell? at h
  cases hh : w.heap[p.block]? with
  | none => rw [hh] at h; simp at h
  | some o => exact (Array.getElem?_eq_some_iff.1 hh).1
theorem Grew.keeps {w w' : World} (h : Grew w w') {p : Addr} {v : Value} (hp : w.cell? p = some v) : w'.cell? p = some v := by rw [h.cell (lt_of_cell hp)]; exact hp
theorem size_data (s : ByteArray) : s.size = s.data.toList.length := Lib.size_eq s
theorem bd_i64 {n : Int} (h : (Lit.int .i64 n).wf = true) : -9223372036854775808 ≤ n ∧ n ≤ 9223372036854775807 := by
  simpa [Lit.wf, IntKind.min, IntKind.max, IntKind.signed, IntKind.bits] using h
theorem ret_bool {a b : Bool} (h : a = b) : Ending.returned (.bool a) = .returned (.bool b) := by rw [h]
end Go.Proofs.YtkkdpafkafjfgaaDoor

namespace Go.Proofs.YtkkdpafkafjfgaaDoor
open Go.RowKit Go.ChangeShapes
set_option linter.unusedVariables false
theorem addr_plain {w : World} {a : Addr} {v : Value} (h : w.cell? a = some v) : a = ⟨a.block, a.off, none⟩ := by
  obtain ⟨b, o, sp⟩ := a
  cases sp with
  | none => rfl
  | some x =>
    unfold World.cell? at h
    split at h
    · simp at h
    · cases h
theorem addr_addV (b o i : Nat) : (⟨b, o, none⟩ : Addr).add i = ⟨b, o + i, none⟩ := by
  unfold Addr.add; split
  · next h0 => subst h0; rfl
  · rfl
def SlAt (w : World) (a : Option Addr) (n : Nat) (f : Nat → Value) : Prop := n = 0 ∨ ∃ b o, a = some ⟨b, o, none⟩ ∧ ∀ i, i < n → w.cell? ⟨b, o + i, none⟩ = some (f i)
theorem SlAt.kept {w w' : World} {a : Option Addr} {n : Nat} {f : Nat → Value} (h : SlAt w a n f) (g : Grew w w') : SlAt w' a n f := by
  rcases h with h | ⟨b, o, h1, h2⟩
  · exact Or.inl h
  · exact Or.inr ⟨b, o, h1, fun i hi => g.keeps (h2 i hi)⟩
theorem SlAt.get {w : World} {a : Option Addr} {n : Nat} {f : Nat → Value} (h : SlAt w a n f) (hn : 0 < n) : ∃ b o, a = some ⟨b, o, none⟩ ∧ ∀ i, i < n → w.cell? ⟨b, o + i, none⟩ = some (f i) := by
  rcases h with h | h
  · omega
  · exact h
theorem SlAt.of {w : World} {a : Addr} {n : Nat} {f : Nat → Value} (h : ∀ i, i < n → w.cell? (a.add i) = some (f i)) : SlAt w (some a) n f := by
  rcases Nat.eq_zero_or_pos n with h0 | h0
  · exact Or.inl h0
  · have e := addr_plain (show w.cell? a = some (f 0) from h 0 h0)
    exact Or.inr ⟨a.block, a.off, by rw [← e], fun i hi => by rw [← addr_addV, ← e]; exact h i hi⟩
theorem SlAt.congr {w : World} {a : Option Addr} {n : Nat} {f g : Nat → Value} (h : SlAt w a n f) (hf : ∀ i, i < n → f i = g i) : SlAt w a n g := by
  rcases h with h | ⟨b, o, h1, h2⟩
  · exact Or.inl h
  · exact Or.inr ⟨b, o, h1, fun i hi => by rw [h2 i hi, hf i hi]⟩
def RowsAt (w : World) (a : Option Addr) (R : List (List Int)) : Prop := ∃ (ra : Nat → Option Addr) (rc : Nat → Nat), SlAt w a R.length (fun i => .slice (ra i) (R.getD i []).length (rc i)) ∧
  ∀ i, i < R.length → SlAt w (ra i) (R.getD i []).length fun j => .int .i64 ((R.getD i []).getD j 0)
theorem RowsAt.kept {w w' : World} {a : Option Addr} {R : List (List Int)} (h : RowsAt w a R) (g : Grew w w') : RowsAt w' a R := by
  obtain ⟨ra, rc, h1, h2⟩ := h
  exact ⟨ra, rc, h1.kept g, fun i hi => (h2 i hi).kept g⟩
def clsB (l : List Int) : Array Value := ((List.range 256).map fun j => Value.int .i64 (l.getD j 0)).toArray
def autB (A : Aut) (na : Option Addr) (nc : Nat) (ea : Option Addr) (ec : Nat) : Array Value := clsB A.cls ++ #[.slice na A.next.length nc, .slice ea A.ends.length ec]
theorem clsB_size (l : List Int) : (clsB l).size = 256 := by simp [clsB]
theorem clsB_get (l : List Int) {j : Nat} (h : j < 256) : (clsB l)[j]? = some (.int .i64 (l.getD j 0)) := by simp [clsB, h]
def bdI (x : Int) : Prop := -9223372036854775808 ≤ x ∧ x ≤ 9223372036854775807
structure AutAt (w : World) (A : Aut) (na ea : Option Addr) : Prop where
  c256 : A.cls.length = 256
  cbd : ∀ j, j < 256 → bdI (A.cls.getD j 0)
  next : RowsAt w na A.next
  ends : SlAt w ea A.ends.length fun i => .bool (A.ends.getD i false)
  nlen : A.next.length ≤ maxLen
  elen : A.ends.length ≤ maxLen
  rlen : ∀ i, i < A.next.length → (A.next.getD i []).length ≤ maxLen
  rbd : ∀ i, i < A.next.length → ∀ j, j < (A.next.getD i []).length → bdI ((A.next.getD i []).getD j 0)
theorem AutAt.kept {w w' : World} {A : Aut} {na ea : Option Addr} (h : AutAt w A na ea) (g : Grew w w') : AutAt w' A na ea :=
  ⟨h.c256, h.cbd, h.next.kept g, h.ends.kept g, h.nlen, h.elen, h.rlen, h.rbd⟩
theorem autB_next (A : Aut) (na : Option Addr) (nc : Nat) (ea : Option Addr) (ec : Nat) : (autB A na nc ea ec)[256]? = some (.slice na A.next.length nc) := by
  unfold autB; rw [Array.getElem?_append_right (by rw [clsB_size]; exact Nat.le_refl _), clsB_size]; rfl
theorem autB_ends (A : Aut) (na : Option Addr) (nc : Nat) (ea : Option Addr) (ec : Nat) : (autB A na nc ea ec)[257]? = some (.slice ea A.ends.length ec) := by
  unfold autB; rw [Array.getElem?_append_right (by rw [clsB_size]; omega), clsB_size]; rfl
theorem autB_cls (A : Aut) (na : Option Addr) (nc : Nat) (ea : Option Addr) (ec : Nat) {j : Nat} (h : j < 256) : (autB A na nc ea ec)[j]? = some (.int .i64 (A.cls.getD j 0)) := by
  unfold autB; rw [Array.getElem?_append_left (by rw [clsB_size]; exact h), clsB_get _ h]
theorem autB_size (A : Aut) (na : Option Addr) (nc : Nat) (ea : Option Addr) (ec : Nat) : (autB A na nc ea ec).size = 258 := by
  unfold autB; rw [Array.size_append, clsB_size]; rfl
section
variable {H : Type} {enc : TypeId × Value → H} {w : World} {base : Nat} {hd : Bool}
end
end Go.Proofs.YtkkdpafkafjfgaaDoor
