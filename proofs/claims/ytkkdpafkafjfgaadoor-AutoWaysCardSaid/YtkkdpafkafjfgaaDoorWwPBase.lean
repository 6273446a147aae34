/- Small helpers of all texts of this seat: facts kept from the walk, what a call leaves of old memory. No condition. -/
import Derived.Test.YtkkdpafkafjfgaaDoorProg
import Derived.WalkKit
import Derived.WalkLawsBesides
import Derived.WalkSpells
import Derived.Outline
import Derived.BigQuiet
import Derived.Deep.QuietTactic
import Derived.Laws.IdiomStrings
import Derived.Lib.Strings
import Derived.Below
import Derived.Test.YtkkdpafkafjfgaaDoorWwAuU
import Derived.Deep.Matrix
import Derived.Deep.Grids
import Derived.WideShapes
import Derived.Carry
import Derived.OpenShut
namespace Go.Proofs.YtkkdpafkafjfgaaDoor
open Go.RowKit
set_option linter.unusedVariables false
theorem hidd {p : Prop} (h : p) : Hid p := h
def Grew (w w' : World) : Prop := Below w.heap.size w w'
theorem Grew.refl (w : World) : Grew w w := Below.refl _ _
theorem Grew.trans {a b c : World} (h : Grew a b) (k : Grew b c) : Grew a c := Below.trans h (Below.mono k h.size)
theorem Grew.alloc {a w : World} (h : Grew a w) (o : Obj) : Grew a (w.alloc o) := Below.alloc h h.size o
theorem Grew.drew {a w : World} (h : Grew a w) : Grew a w.drew := Below.drew h
theorem Grew.drewN {a w : World} (h : Grew a w) (n : Nat) : Grew a (w.drewN n) := below_drewN h n
theorem Grew.lt {a w : World} (h : Grew a w) : a.heap.size ≤ w.heap.size := h.size
theorem Grew.below {a w w' : World} {B : Nat} (h : Grew a w) (k : Below B w w') (hB : a.heap.size ≤ B) : Grew a w' := Below.trans h (Below.mono k hB)
theorem Grew.cell {w w' : World} (h : Grew w w') {p : Addr} (hp : p.block < w.heap.size) : w'.cell? p = w.cell? p := Below.cell h hp
theorem Grew.frozen {w w' : World} (h : Grew w w') {p : Addr} (hp : p.block < w.heap.size) : w'.frozen? p = w.frozen? p := Below.frozen h hp
theorem Grew.setCell {a w : World} (h : Grew a w) {p : Addr} (hp : a.heap.size ≤ p.block) (u : Value) : Grew a (w.setCell p u) := Below.setCell h hp u
theorem lt_of_cell {w : World} {p : Addr} {v : Value} (h : w.cell? p = some v) : p.block < w.heap.size := by
  unfold World.cell? at h
  cases hh : w.heap[p.block]? with
  | none => rw [hh] at h; simp at h
  | some o => exact (Array.getElem?_eq_some_iff.1 hh).1
theorem Grew.keeps {w w' : World} (h : Grew w w') {p : Addr} {v : Value} (hp : w.cell? p = some v) : w'.cell? p = some v := by rw [h.cell (lt_of_cell hp)]; exact hp
theorem size_data (s : ByteArray) : s.size = s.data.toList.length := Lib.size_eq s
theorem bd_i64 {n : Int} (h : (Lit.int .i64 n).wf = true) : -9223372036854775808 ≤ n ∧ n ≤ 9223372036854775807 := by
  simpa [Lit.wf, IntKind.min, IntKind.max, IntKind.signed, IntKind.bits] using h
theorem ret_int {k : IntKind} {a b : Int} (h : a = b) : Ending.returned (.int k a) = .returned (.int k b) := by rw [h]
theorem ret_bool {a b : Bool} (h : a = b) : Ending.returned (.bool a) = .returned (.bool b) := by rw [h]
end Go.Proofs.YtkkdpafkafjfgaaDoor

namespace Go.Proofs.YtkkdpafkafjfgaaDoor
set_option linter.unusedVariables false
structure Aut where
  cls : List Int
  next : List (List Int)
  ends : List Bool
def rowErr (n k : Nat) (r : List Int) : Int := if r.length ≠ k then 8 else if r.any (fun t => decide (t < 0) || decide ((n : Int) ≤ t)) then 3 else 0
def rowsErr (n k : Nat) : List (List Int) → Int
  | [] => 0
  | r :: l => if rowErr n k r = 0 then rowsErr n k l else rowErr n k r
def clsErr (k : Nat) (l : List Int) : Int := if l.any (fun t => decide (t < 0) || decide ((k : Int) ≤ t)) then 3 else 0
def wrongA (A : Aut) : Int :=
  if A.next.length < 1 ∨ 8192 < A.next.length ∨ A.ends.length ≠ A.next.length then 5
  else if rowsErr A.next.length (A.next.getD 0 []).length A.next = 0 then clsErr (A.next.getD 0 []).length A.cls
  else rowsErr A.next.length (A.next.getD 0 []).length A.next
structure RightA (A : Aut) : Prop where
  n0 : 0 < A.next.length
  n1 : A.next.length ≤ 8192
  ne : A.ends.length = A.next.length
  row : ∀ r ∈ A.next, r.length = (A.next.getD 0 []).length ∧ ∀ t ∈ r, 0 ≤ t ∧ t < A.next.length
  cls : ∀ c ∈ A.cls, 0 ≤ c ∧ c < (A.next.getD 0 []).length
theorem rowErr_zero {n k : Nat} {r : List Int} : rowErr n k r = 0 ↔ r.length = k ∧ ∀ t ∈ r, 0 ≤ t ∧ t < n := by
  unfold rowErr
  by_cases h : r.length = k
  · rw [if_neg (by simp [h])]
    by_cases h2 : r.any (fun t => decide (t < 0) || decide ((n : Int) ≤ t)) = true
    · rw [if_pos h2]
      refine ⟨fun e => by simp at e, fun ⟨_, e⟩ => ?_⟩
      obtain ⟨t, ht, hb⟩ := List.any_eq_true.1 h2
      have := e t ht
      simp at hb
      omega
    · rw [if_neg h2]
      refine ⟨fun _ => ⟨h, fun t ht => ?_⟩, fun _ => rfl⟩
      have : ¬ ((decide (t < 0) || decide ((n : Int) ≤ t)) = true) := fun e => h2 (List.any_eq_true.2 ⟨t, ht, e⟩)
      simp at this
      omega
  · rw [if_pos h]
    exact ⟨fun e => by simp at e, fun e => absurd e.1 h⟩
theorem rowsErr_zero {n k : Nat} : ∀ {l : List (List Int)}, rowsErr n k l = 0 ↔ ∀ r ∈ l, rowErr n k r = 0
  | [] => by simp [rowsErr]
  | r :: l => by
    rw [rowsErr]
    by_cases h : rowErr n k r = 0
    · rw [if_pos h, rowsErr_zero]
      exact ⟨fun e x hx => (List.mem_cons.1 hx).elim (fun k => by rw [k]; exact h) (fun k => e x k), fun e x hx => e x (by simp [hx])⟩
    · rw [if_neg h]
      exact ⟨fun e => absurd e h, fun e => e r (by simp)⟩
theorem clsErr_zero {k : Nat} {l : List Int} : clsErr k l = 0 ↔ ∀ t ∈ l, 0 ≤ t ∧ t < k := by
  have := @rowErr_zero k l.length l
  unfold rowErr at this
  rw [if_neg (by simp)] at this
  unfold clsErr
  rw [this]
  exact ⟨fun e => e.2, fun e => ⟨rfl, e⟩⟩
theorem wrongA_zero {A : Aut} : wrongA A = 0 ↔ RightA A := by
  unfold wrongA
  by_cases h1 : A.next.length < 1 ∨ 8192 < A.next.length ∨ A.ends.length ≠ A.next.length
  · rw [if_pos h1]
    exact ⟨fun e => by simp at e, fun e => by have := e.n0; have := e.n1; have := e.ne; omega⟩
  · rw [if_neg h1]
    by_cases h2 : rowsErr A.next.length (A.next.getD 0 []).length A.next = 0
    · rw [if_pos h2, clsErr_zero]
      exact ⟨fun e => ⟨by omega, by omega, by omega, fun r hr => rowErr_zero.1 (rowsErr_zero.1 h2 r hr), e⟩, fun e => e.cls⟩
    · rw [if_neg h2]
      exact ⟨fun e => absurd e h2, fun e => absurd (rowsErr_zero.2 fun r hr => rowErr_zero.2 (e.row r hr)) h2⟩
def stepA (A : Aut) (s c : Nat) : Nat := ((A.next.getD s []).getD (A.cls.getD c 0).toNat 0).toNat
def raA (A : Aut) : RA := ⟨A.next.length, stepA A, fun s => A.ends.getD s false⟩
theorem getD_memL {α : Type} {l : List α} {k : Nat} {d : α} (h : k < l.length) : l.getD k d ∈ l := by
  rw [List.getD_eq_getElem?_getD, List.getElem?_eq_getElem h]; exact List.getElem_mem h
theorem RightA.cl {A : Aut} (h : RightA A) (hc : A.cls.length = 256) {c : Nat} (hb : c < 256) : 0 ≤ A.cls.getD c 0 ∧ A.cls.getD c 0 < (A.next.getD 0 []).length := h.cls _ (getD_memL (by omega))
theorem RightA.to {A : Aut} (h : RightA A) (hc : A.cls.length = 256) {s c : Nat} (hs : s < A.next.length) (hb : c < 256) : (A.cls.getD c 0).toNat < (A.next.getD s []).length ∧ 0 ≤ (A.next.getD s []).getD (A.cls.getD c 0).toNat 0 ∧ (A.next.getD s []).getD (A.cls.getD c 0).toNat 0 < A.next.length := by
  have h1 := h.cl hc hb
  have h2 := h.row _ (getD_memL (d := []) hs)
  have h3 : (A.cls.getD c 0).toNat < (A.next.getD s []).length := by rw [h2.1]; omega
  exact ⟨h3, h2.2 _ (getD_memL h3)⟩
theorem RightA.ok {A : Aut} (h : RightA A) (hc : A.cls.length = 256) : (raA A).Ok :=
  ⟨h.n0, fun s c hs hb => by have := h.to hc (s := s) hs hb; show stepA A s c < A.next.length; unfold stepA; omega⟩
def addTo (nx : Nat → Nat) (t : List UInt8) (l : List (Nat × List UInt8)) (c : Nat) : List (Nat × List UInt8) := if nx c ∈ l.map (·.1) then l else l ++ [(nx c, t ++ [UInt8.ofNat c])]
def addUp (nx : Nat → Nat) (t : List UInt8) (l : List (Nat × List UInt8)) (m : Nat) : List (Nat × List UInt8) := (List.range m).foldl (addTo nx t) l
def bfs (A : RA) : Nat → List (Nat × List UInt8)
  | 0 => [(0, [])]
  | i + 1 => match (bfs A i)[i]? with
    | some (s, t) => addUp (A.nx s) t (bfs A i) 256
    | none => bfs A i
theorem nodup_lt : ∀ (n : Nat) {l : List Nat}, l.Nodup → (∀ x ∈ l, x < n) → l.length ≤ n
  | 0, l, _, h => by cases l with
    | nil => simp
    | cons x l => exact absurd (h x (by simp)) (by omega)
  | n + 1, l, hd, h => by
    have h1 : (l.filter (· ≠ n)).Nodup := hd.filter _
    have h2 := nodup_lt n h1 (fun x hx => by
      obtain ⟨a, b⟩ := List.mem_filter.1 hx
      have := h x a
      simp at b
      omega)
    by_cases hm : n ∈ l
    · have h3 : l.length = (l.filter (· ≠ n)).length + 1 := by
        have e := hd.erase_eq_filter n
        have e2 := List.length_erase_of_mem hm
        rw [e] at e2
        have : 0 < l.length := List.length_pos_of_mem hm
        have e3 : (l.filter (· ≠ n)) = l.filter (· != n) := by congr 1; funext x; by_cases hx : x = n <;> simp [bne, hx]
        rw [e3]; omega
      omega
    · rw [List.filter_eq_self.2 (fun x hx => by simp; exact fun e => hm (e ▸ hx))] at h2
      omega
end Go.Proofs.YtkkdpafkafjfgaaDoor

namespace Go.Proofs.YtkkdpafkafjfgaaDoor
open Go.RowKit Go.ChangeShapes
set_option linter.unusedVariables false
theorem addr_plain {w : World} {a : Addr} {v : Value} (h : w.cell? a = some v) : a = ⟨a.block, a.off, none⟩ := by
  obtain ⟨b, o, sp⟩ := a
  cases sp with
  | none => rfl
  | some x =>
    unfold World.cell? at h
    split at h
    · simp at h
    · cases h
theorem addr_addV (b o i : Nat) : (⟨b, o, none⟩ : Addr).add i = ⟨b, o + i, none⟩ := by
  unfold Addr.add; split
  · next h0 => subst h0; rfl
  · rfl
def SlAt (w : World) (a : Option Addr) (n : Nat) (f : Nat → Value) : Prop := n = 0 ∨ ∃ b o, a = some ⟨b, o, none⟩ ∧ ∀ i, i < n → w.cell? ⟨b, o + i, none⟩ = some (f i)
theorem SlAt.kept {w w' : World} {a : Option Addr} {n : Nat} {f : Nat → Value} (h : SlAt w a n f) (g : Grew w w') : SlAt w' a n f := by
  rcases h with h | ⟨b, o, h1, h2⟩
  · exact Or.inl h
  · exact Or.inr ⟨b, o, h1, fun i hi => g.keeps (h2 i hi)⟩
theorem SlAt.get {w : World} {a : Option Addr} {n : Nat} {f : Nat → Value} (h : SlAt w a n f) (hn : 0 < n) : ∃ b o, a = some ⟨b, o, none⟩ ∧ ∀ i, i < n → w.cell? ⟨b, o + i, none⟩ = some (f i) := by
  rcases h with h | h
  · omega
  · exact h
theorem SlAt.of {w : World} {a : Addr} {n : Nat} {f : Nat → Value} (h : ∀ i, i < n → w.cell? (a.add i) = some (f i)) : SlAt w (some a) n f := by
  rcases Nat.eq_zero_or_pos n with h0 | h0
  · exact Or.inl h0
  · have e := addr_plain (show w.cell? a = some (f 0) from h 0 h0)
    exact Or.inr ⟨a.block, a.off, by rw [← e], fun i hi => by rw [← addr_addV, ← e]; exact h i hi⟩
theorem SlAt.congr {w : World} {a : Option Addr} {n : Nat} {f g : Nat → Value} (h : SlAt w a n f) (hf : ∀ i, i < n → f i = g i) : SlAt w a n g := by
  rcases h with h | ⟨b, o, h1, h2⟩
  · exact Or.inl h
  · exact Or.inr ⟨b, o, h1, fun i hi => by rw [h2 i hi, hf i hi]⟩
def RowsAt (w : World) (a : Option Addr) (R : List (List Int)) : Prop := ∃ (ra : Nat → Option Addr) (rc : Nat → Nat), SlAt w a R.length (fun i => .slice (ra i) (R.getD i []).length (rc i)) ∧
  ∀ i, i < R.length → SlAt w (ra i) (R.getD i []).length fun j => .int .i64 ((R.getD i []).getD j 0)
theorem RowsAt.kept {w w' : World} {a : Option Addr} {R : List (List Int)} (h : RowsAt w a R) (g : Grew w w') : RowsAt w' a R := by
  obtain ⟨ra, rc, h1, h2⟩ := h
  exact ⟨ra, rc, h1.kept g, fun i hi => (h2 i hi).kept g⟩
def clsB (l : List Int) : Array Value := ((List.range 256).map fun j => Value.int .i64 (l.getD j 0)).toArray
def autB (A : Aut) (na : Option Addr) (nc : Nat) (ea : Option Addr) (ec : Nat) : Array Value := clsB A.cls ++ #[.slice na A.next.length nc, .slice ea A.ends.length ec]
theorem clsB_size (l : List Int) : (clsB l).size = 256 := by simp [clsB]
theorem clsB_get (l : List Int) {j : Nat} (h : j < 256) : (clsB l)[j]? = some (.int .i64 (l.getD j 0)) := by simp [clsB, h]
def bdI (x : Int) : Prop := -9223372036854775808 ≤ x ∧ x ≤ 9223372036854775807
structure AutAt (w : World) (A : Aut) (na ea : Option Addr) : Prop where
  c256 : A.cls.length = 256
  cbd : ∀ j, j < 256 → bdI (A.cls.getD j 0)
  next : RowsAt w na A.next
  ends : SlAt w ea A.ends.length fun i => .bool (A.ends.getD i false)
  nlen : A.next.length ≤ maxLen
  elen : A.ends.length ≤ maxLen
  rlen : ∀ i, i < A.next.length → (A.next.getD i []).length ≤ maxLen
  rbd : ∀ i, i < A.next.length → ∀ j, j < (A.next.getD i []).length → bdI ((A.next.getD i []).getD j 0)
theorem AutAt.kept {w w' : World} {A : Aut} {na ea : Option Addr} (h : AutAt w A na ea) (g : Grew w w') : AutAt w' A na ea :=
  ⟨h.c256, h.cbd, h.next.kept g, h.ends.kept g, h.nlen, h.elen, h.rlen, h.rbd⟩
theorem autB_next (A : Aut) (na : Option Addr) (nc : Nat) (ea : Option Addr) (ec : Nat) : (autB A na nc ea ec)[256]? = some (.slice na A.next.length nc) := by
  unfold autB; rw [Array.getElem?_append_right (by rw [clsB_size]; exact Nat.le_refl _), clsB_size]; rfl
theorem autB_ends (A : Aut) (na : Option Addr) (nc : Nat) (ea : Option Addr) (ec : Nat) : (autB A na nc ea ec)[257]? = some (.slice ea A.ends.length ec) := by
  unfold autB; rw [Array.getElem?_append_right (by rw [clsB_size]; omega), clsB_size]; rfl
theorem autB_cls (A : Aut) (na : Option Addr) (nc : Nat) (ea : Option Addr) (ec : Nat) {j : Nat} (h : j < 256) : (autB A na nc ea ec)[j]? = some (.int .i64 (A.cls.getD j 0)) := by
  unfold autB; rw [Array.getElem?_append_left (by rw [clsB_size]; exact h), clsB_get _ h]
theorem autB_size (A : Aut) (na : Option Addr) (nc : Nat) (ea : Option Addr) (ec : Nat) : (autB A na nc ea ec).size = 258 := by
  unfold autB; rw [Array.size_append, clsB_size]; rfl
section
variable {H : Type} {enc : TypeId × Value → H} {w : World} {base : Nat} {hd : Bool}
end
end Go.Proofs.YtkkdpafkafjfgaaDoor
