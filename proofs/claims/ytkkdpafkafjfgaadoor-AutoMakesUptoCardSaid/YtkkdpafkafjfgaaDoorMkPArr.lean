/- Rows of cells in memory, as functions of the place: what a store, a new block, a draw and a call leave of them. No condition. -/
import Derived.Test.YtkkdpafkafjfgaaDoorMkPBase
import Derived.OwnWalk
import Derived.Deep.DeepAppendWide
import Derived.Deep.Matrix
import Derived.Deep.Grids
import Derived.WideShapes
import Derived.Carry
import Derived.OpenShut
namespace Go.Proofs.YtkkdpafkafjfgaaDoor
open Go.RowKit
set_option linter.unusedVariables false
def ArrAt (w : World) (b off n : Nat) (f : Nat → Value) : Prop := ∀ j, j < n → w.cell? ⟨b, off + j, none⟩ = some (f j) ∧ w.frozen? ⟨b, off + j, none⟩ = false
theorem ArrAt.at {w : World} {b off n : Nat} {f : Nat → Value} (h : ArrAt w b off n f) (j : Nat) (hj : j < n) : w.cell? ⟨b, off + j, none⟩ = some (f j) := (h j hj).1
theorem ArrAt.at0 {w : World} {b n : Nat} {f : Nat → Value} (h : ArrAt w b 0 n f) (j : Nat) (hj : j < n) : w.cell? ⟨b, j, none⟩ = some (f j) := by simpa using (h j hj).1
theorem ArrAt.free0 {w : World} {b n : Nat} {f : Nat → Value} (h : ArrAt w b 0 n f) (j : Nat) (hj : j < n) : w.frozen? ⟨b, j, none⟩ = false := by simpa using (h j hj).2
theorem ArrAt.lt {w : World} {b off n : Nat} {f : Nat → Value} (h : ArrAt w b off n f) (hn : 0 < n) : b < w.heap.size := lt_of_cell (h 0 hn).1
theorem ArrAt.drew {w : World} {b off n : Nat} {f : Nat → Value} (h : ArrAt w b off n f) : ArrAt w.drew b off n f := h
theorem ArrAt.drewN {w : World} {b off n : Nat} {f : Nat → Value} (h : ArrAt w b off n f) (k : Nat) : ArrAt (w.drewN k) b off n f := h
theorem ArrAt.alloc {w : World} {b off n : Nat} {f : Nat → Value} (h : ArrAt w b off n f) (o : Obj) : ArrAt (w.alloc o) b off n f := by
  intro j hj
  have hb : b < w.heap.size := lt_of_cell (h j hj).1
  have g := (Grew.refl w).alloc o
  exact ⟨by rw [g.cell hb]; exact (h j hj).1, by rw [g.frozen hb]; exact (h j hj).2⟩
theorem ArrAt.kept {w w' : World} {b off n : Nat} {f : Nat → Value} (h : ArrAt w b off n f) (g : Grew w w') : ArrAt w' b off n f := by
  intro j hj
  have hb : b < w.heap.size := lt_of_cell (h j hj).1
  exact ⟨by rw [g.cell hb]; exact (h j hj).1, by rw [g.frozen hb]; exact (h j hj).2⟩
theorem ArrAt.below {w w' : World} {b off n B : Nat} {f : Nat → Value} (h : ArrAt w b off n f) (g : Below B w w') (hb : b < B) : ArrAt w' b off n f := by
  intro j hj
  exact ⟨by rw [g.cell (p := ⟨b, off + j, none⟩) hb]; exact (h j hj).1, by rw [g.frozen (p := ⟨b, off + j, none⟩) hb]; exact (h j hj).2⟩
theorem ArrAt.congr {w : World} {b off n : Nat} {f g : Nat → Value} (h : ArrAt w b off n f) (k : ∀ j, j < n → f j = g j) : ArrAt w b off n g :=
  fun j hj => ⟨by rw [← k j hj]; exact (h j hj).1, (h j hj).2⟩
theorem ArrAt.mono {w : World} {b off n m : Nat} {f : Nat → Value} (h : ArrAt w b off n f) (k : m ≤ n) : ArrAt w b off m f := fun j hj => h j (by omega)
theorem setCell_cell_same {w : World} {p : Addr} {v u : Value} (hs : p.spot = none) (h : w.cell? p = some u) : (w.setCell p v).cell? p = some v := by
  obtain ⟨b, o, sp⟩ := p
  simp only at hs; subst hs
  unfold World.cell? at h ⊢
  cases hh : w.heap[b]? with
  | none => simp only [hh] at h; simp at h
  | some ob =>
    simp only [hh] at h
    cases ob <;> simp only at h
    case cells c e fr =>
      have hlt : o < c.size := by
        rcases Nat.lt_or_ge o c.size with hl | hl
        · exact hl
        · simp [Array.getElem?_eq_none hl] at h
      simp [World.setCell, Array.getElem?_modify, hh, hlt]
    all_goals simp at h
theorem setCell_cell_other (w : World) (p q : Addr) (v : Value) (h : p.block ≠ q.block ∨ p.off ≠ q.off) : (w.setCell p v).cell? q = w.cell? q := by
  unfold World.cell?
  by_cases hb : p.block = q.block
  · have ho : p.off ≠ q.off := by
      rcases h with h | h
      · exact absurd hb h
      · exact h
    simp only [World.setCell, Array.getElem?_modify, hb]
    cases hh : w.heap[q.block]? with
    | none => simp
    | some ob =>
      cases ob <;> simp only [if_true, Option.map_some]
      case cells c e fr =>
        by_cases hs : p.spot.isSome = true
        · simp [hs]
        · simp [hs, ho]
  · simp only [World.setCell, Array.getElem?_modify, hb, if_false]
theorem setCell_frozen (w : World) (p q : Addr) (v : Value) : (w.setCell p v).frozen? q = w.frozen? q := by
  unfold World.frozen?
  simp only [World.setCell, Array.getElem?_modify]
  by_cases hb : p.block = q.block
  · simp only [hb, if_true]
    cases hh : w.heap[q.block]? with
    | none => rfl
    | some ob => cases ob <;> rfl
  · simp [hb]
theorem ArrAt.set {w : World} {b off n : Nat} {f : Nat → Value} (h : ArrAt w b off n f) (i : Nat) (hi : i < n) (v : Value) :
    ArrAt (w.setCell ⟨b, off + i, none⟩ v) b off n (fun j => if j = i then v else f j) := by
  intro j hj
  refine ⟨?_, by rw [setCell_frozen]; exact (h j hj).2⟩
  by_cases e : j = i
  · subst e; rw [setCell_cell_same rfl (h j hj).1]; simp
  · rw [setCell_cell_other _ _ _ _ (.inr (by simp; omega))]; simpa [e] using (h j hj).1
theorem ArrAt.set0 {w : World} {b n : Nat} {f : Nat → Value} (h : ArrAt w b 0 n f) (i : Nat) (hi : i < n) (v : Value) :
    ArrAt (w.setCell ⟨b, i, none⟩ v) b 0 n (fun j => if j = i then v else f j) := by
  have := h.set i hi v
  rwa [Nat.zero_add] at this
theorem ArrAt.other {w : World} {b off n : Nat} {f : Nat → Value} (h : ArrAt w b off n f) (p : Addr) (hp : p.block ≠ b) (v : Value) : ArrAt (w.setCell p v) b off n f := by
  intro j hj
  exact ⟨by rw [setCell_cell_other _ _ _ _ (.inl hp)]; exact (h j hj).1, by rw [setCell_frozen]; exact (h j hj).2⟩
theorem ArrAt.new (w : World) (C : Array Value) (t : TypeId) (n : Nat) (f : Nat → Value) (h : ∀ j, j < n → C[j]? = some (f j)) : ArrAt (w.alloc (.cells C t)) w.heap.size 0 n f := by
  intro j hj
  rw [Nat.zero_add, World.cell?_alloc_mark, World.frozen?_alloc_mark]
  exact ⟨h j hj, by simp⟩
theorem Below.setCell' {B : Nat} {w : World} {p : Addr} (hp : B ≤ p.block) (u : Value) : Below B w (w.setCell p u) := Below.setCell (Below.refl _ _) hp u
theorem Grew.of_grownBy {w w' : World} (h : w.grownBy w' none) : Grew w w' := ⟨h.os, h.tape, h.output, h.size, fun k hk => h.block k hk (by simp)⟩
theorem make_row (t e : TypeId) (i : TypeInfo) (z : Value) (ht : Tryd.prog.underlying t = some (.slice e)) (hi : Tryd.prog.info? e = some i) (hz : i.zero = some z) (hs : i.size = 1) (hc : z.cells = #[z])
    (n : Nat) (hb : i.bytes * n ≤ 281474976710656) (hn : n ≤ maxLen) (w : World) :
    ∃ w', (Instr.makeSlice t (.int .i64 (n : Int)) (.int .i64 (n : Int))).run Tryd.prog w = .ok (.slice (some ⟨w.heap.size, 0, none⟩) n n) w' ∧ ArrAt w' w.heap.size 0 n (fun _ => z) ∧ Grew w w' := by
  obtain ⟨w', h1, h2, h3⟩ := run_make_full (P := Tryd.prog) w w.heap.size t e i z 1 ht hi hz hs .i64 .i64 n hb hn (Nat.le_refl _)
  refine ⟨w', h1, fun j hj => ⟨?_, ?_⟩, Grew.of_grownBy h3⟩
  · rw [Nat.zero_add, h2.cellAt j (by omega), hc]
    simp [madeCells, hj, Nat.mod_one]
  · rw [Nat.zero_add, h2.frozenAt]
theorem info_u8 : (Tryd.prog.info? 5).map (fun i => (i.zero, i.size, i.bytes)) = some (some (.int .u8 0), 1, 1) := by kernel_rfl
theorem make_bytes (n : Nat) (hn : n ≤ 140737488355328) (w : World) :
    ∃ w', (Instr.makeSlice 109 (.int .i64 (n : Int)) (.int .i64 (n : Int))).run Tryd.prog w = .ok (.slice (some ⟨w.heap.size, 0, none⟩) n n) w' ∧ ArrAt w' w.heap.size 0 n (fun _ => .int .u8 0) ∧ Grew w w' := by
  obtain ⟨i0, hi, hz0, hz1, hz2⟩ := info_parts info_u8
  exact make_row 109 5 i0 (.int .u8 0) Tryd.underlying109 hi hz0 hz1 rfl n (by rw [hz2]; omega) (by unfold maxLen; omega) w
theorem string_arr {w : World} {b off n : Nat} (l : List UInt8) (hl : l.length = n) (f : Nat → Value) (h : ArrAt w b off n f) (hf : ∀ j (hj : j < l.length), f j = .int .u8 (l[j].toNat : Int)) (cap : Nat) :
    (convert 109 9 (.slice (some ⟨b, off, none⟩) n cap)).run Tryd.prog w = .ok (.string ⟨l.toArray⟩) w := by
  subst hl
  refine run_convert_bytes_back w 109 9 5 ⟨b, off, none⟩ cap l Tryd.underlying109 Tryd.underlying5 Tryd.underlying9 (fun j hj => ?_)
  have e : (⟨b, off, none⟩ : Addr).add j = ⟨b, off + j, none⟩ := by
    unfold Addr.add; split
    · next h0 => subst h0; rfl
    · rfl
  rw [e, (h j hj).1, hf j hj]
end Go.Proofs.YtkkdpafkafjfgaaDoor

namespace Go.Proofs.YtkkdpafkafjfgaaDoor
open Go.RowKit
set_option linter.unusedVariables false
def Own (e : TypeId) (w : World) (B : Nat) (v : Value) (xs : List Value) : Prop := w.ownsRow B e 1 v xs.length xs
theorem Own.nil (e : TypeId) (w : World) (B : Nat) : Own e w B (.slice none 0 0) [] := World.ownsRow_nil w B e 1
theorem Own.alloc {e : TypeId} {w : World} {B : Nat} {v : Value} {xs : List Value} (h : Own e w B v xs) (o : Obj) : Own e (w.alloc o) B v xs := World.ownsRow.alloc h o
theorem Own.drew {e : TypeId} {w : World} {B : Nat} {v : Value} {xs : List Value} (h : Own e w B v xs) : Own e w.drew B v xs := h
theorem Own.drewN {e : TypeId} {w : World} {B : Nat} {v : Value} {xs : List Value} (h : Own e w B v xs) (n : Nat) : Own e (w.drewN n) B v xs := h
theorem Own.kept {e : TypeId} {w w' : World} {B : Nat} {v : Value} {xs : List Value} (h : Own e w B v xs) (g : Grew w w') : Own e w' B v xs :=
  World.ownsRow.kept h ⟨g.os, g.tape, g.output, g.size, fun k hk _ => g.block k hk⟩ (row := none) (by cases v.ownBlock <;> simp)
theorem Own.mono {e : TypeId} {w : World} {B B' : Nat} {v : Value} {xs : List Value} (h : Own e w B v xs) (hB : B' ≤ B) : Own e w B' v xs := by
  refine ⟨h.1, ?_⟩
  rcases h.2 with h | ⟨g, cap, cur, h1, h2, h3⟩
  · exact .inl h
  · exact .inr ⟨g, cap, cur, h1, by omega, h3⟩
theorem Own.shape {e : TypeId} {w : World} {B : Nat} {v : Value} {xs : List Value} (h : Own e w B v xs) :
    (v = .slice none 0 0 ∧ xs = []) ∨ ∃ g cap, v = .slice (some ⟨g, 0, none⟩) xs.length cap ∧ B ≤ g ∧ g < w.heap.size ∧ xs.length ≤ cap ∧ cap ≤ maxLen ∧ ArrAt w g 0 xs.length (fun j => xs.getD j undef) := by
  have h0 := h
  rcases h.2 with ⟨h1, h2⟩ | ⟨g, cap, cur, h1, h2, h3, h4, h5, h6, h7⟩
  · exact .inl ⟨h1, List.eq_nil_of_length_eq_zero h2⟩
  · subst h1
    refine .inr ⟨g, cap, rfl, h2, (Array.getElem?_eq_some_iff.1 h3).1, h4, h5, fun j hj => ⟨?_, ?_⟩⟩
    · rw [Nat.zero_add, World.ownsRow.cellAt h0 j (by omega)]
      simp [List.getD_eq_getElem?_getD, List.getElem?_eq_getElem hj]
    · rw [World.ownsRow.frozenAt h0]
theorem Own.len {e : TypeId} {w : World} {B : Nat} {v : Value} {xs : List Value} (h : Own e w B v xs) : ∃ ad cap, v = .slice ad xs.length cap := by
  rcases h.shape with ⟨h1, h2⟩ | ⟨g, cap, h1, _⟩
  · exact ⟨none, 0, by rw [h1, h2]; rfl⟩
  · exact ⟨_, _, h1⟩
theorem Own.append {t e : TypeId} {i : TypeInfo} {z : Value} {bytes : Nat} (ht : Tryd.prog.underlying t = some (.slice e)) (hi : Tryd.prog.info? e = some i) (hz : i.zero = some z) (hs : i.size = 1) (hb : i.bytes = bytes) (hc : z.cells.size = 1)
    {w : World} {B : Nat} {v : Value} {xs : List Value} (h : Own e w B v xs) (hB : B ≤ w.heap.size) (x : Value) (hx : x.oneCell' = true) (hl : (xs.length + 1) * bytes ≤ 140737488355328) (hm : xs.length + 1 ≤ maxLen) (ty t' : TypeId) :
    ∃ v' w', (Builtin.append_ #[t, t] ty #[v, .slice (some ⟨w.heap.size, 0, none⟩) 1 1]).run Tryd.prog (w.alloc (.cells #[x] t')) = .ok v' w' ∧ Own e w' B v' (xs ++ [x]) ∧ Below B w w' := by
  obtain ⟨v', w', h1, h2, h3, _⟩ := run_append_own (P := Tryd.prog) (w.alloc (.cells #[x] t')) B t ty e i z 1 bytes ht hi hz hs hb hc (by decide) v xs.length xs (World.ownsRow.alloc h _) ⟨w.heap.size, 0, none⟩ 1 1 [x] rfl
    (by
      intro j u hj
      match j, hj with
      | 0, hj =>
        simp at hj; subst hj
        have e0 : (⟨w.heap.size, 0, none⟩ : Addr).add 0 = ⟨w.heap.size, 0, none⟩ := rfl
        rw [e0, World.cell?_alloc_mark]; rfl)
    (by intro u hu; simp at hu; subst hu; exact hx) hm hl (by simp; omega)
  refine ⟨v', w', h1, ?_, ?_⟩
  · unfold Own; rw [List.length_append]; exact h2
  · exact ((Below.refl B w).alloc hB _).grown h3 (by simp; omega) (fun k hk => (World.ownsRow.lt h k hk).1)
section
variable {P : Program} (w : World)
end
theorem wpList_append_eq {ops : Array Oper} {rest : List Oper} {o : Oper} {a : Act} {Q : Exit → Act → World → Prop} {w w' : World} (hgd : o.guard = none) {s x : Operand} {t t2 : TypeId}
    (ho : o.op = .call { callee := .builtin .append, args := #[s, x], argTypes := #[t, t2] }) {v u v' : Value} (hs : a.eval s = v) (hx : a.eval x = u)
    (hr : (Builtin.append_ #[t, t2] o.type #[v, u]).run Tryd.prog w = .ok v' w') (h : wpList Tryd.prog ops Q rest (a.put o.dst v') w') : wpList Tryd.prog ops Q (o :: rest) a w := by
  refine wpList_plain hgd fun _ hK => ?_
  unfold Oper.wp execOp
  simp only [ho, resolve, invoke, builtin, Sem.run_bind, Sem.run_pure, Result.andThen_ok, List.map_toArray, List.map_cons, List.map_nil, hs, hx, hr]
  exact hK _ _ h
end Go.Proofs.YtkkdpafkafjfgaaDoor

namespace Go.Proofs.YtkkdpafkafjfgaaDoor
open Go.RowKit Go.ChangeShapes
set_option linter.unusedVariables false
theorem addr_plain {w : World} {a : Addr} {v : Value} (h : w.cell? a = some v) : a = ⟨a.block, a.off, none⟩ := by
  obtain ⟨b, o, sp⟩ := a
  cases sp with
  | none => rfl
  | some x =>
    unfold World.cell? at h
    split at h
    · simp at h
    · cases h
theorem addr_addV (b o i : Nat) : (⟨b, o, none⟩ : Addr).add i = ⟨b, o + i, none⟩ := by
  unfold Addr.add; split
  · next h0 => subst h0; rfl
  · rfl
def SlAt (w : World) (a : Option Addr) (n : Nat) (f : Nat → Value) : Prop := n = 0 ∨ ∃ b o, a = some ⟨b, o, none⟩ ∧ ∀ i, i < n → w.cell? ⟨b, o + i, none⟩ = some (f i)
theorem SlAt.kept {w w' : World} {a : Option Addr} {n : Nat} {f : Nat → Value} (h : SlAt w a n f) (g : Grew w w') : SlAt w' a n f := by
  rcases h with h | ⟨b, o, h1, h2⟩
  · exact Or.inl h
  · exact Or.inr ⟨b, o, h1, fun i hi => g.keeps (h2 i hi)⟩
theorem SlAt.get {w : World} {a : Option Addr} {n : Nat} {f : Nat → Value} (h : SlAt w a n f) (hn : 0 < n) : ∃ b o, a = some ⟨b, o, none⟩ ∧ ∀ i, i < n → w.cell? ⟨b, o + i, none⟩ = some (f i) := by
  rcases h with h | h
  · omega
  · exact h
theorem SlAt.of {w : World} {a : Addr} {n : Nat} {f : Nat → Value} (h : ∀ i, i < n → w.cell? (a.add i) = some (f i)) : SlAt w (some a) n f := by
  rcases Nat.eq_zero_or_pos n with h0 | h0
  · exact Or.inl h0
  · have e := addr_plain (show w.cell? a = some (f 0) from h 0 h0)
    exact Or.inr ⟨a.block, a.off, by rw [← e], fun i hi => by rw [← addr_addV, ← e]; exact h i hi⟩
theorem SlAt.congr {w : World} {a : Option Addr} {n : Nat} {f g : Nat → Value} (h : SlAt w a n f) (hf : ∀ i, i < n → f i = g i) : SlAt w a n g := by
  rcases h with h | ⟨b, o, h1, h2⟩
  · exact Or.inl h
  · exact Or.inr ⟨b, o, h1, fun i hi => by rw [h2 i hi, hf i hi]⟩
def RowsAt (w : World) (a : Option Addr) (R : List (List Int)) : Prop := ∃ (ra : Nat → Option Addr) (rc : Nat → Nat), SlAt w a R.length (fun i => .slice (ra i) (R.getD i []).length (rc i)) ∧
  ∀ i, i < R.length → SlAt w (ra i) (R.getD i []).length fun j => .int .i64 ((R.getD i []).getD j 0)
theorem RowsAt.kept {w w' : World} {a : Option Addr} {R : List (List Int)} (h : RowsAt w a R) (g : Grew w w') : RowsAt w' a R := by
  obtain ⟨ra, rc, h1, h2⟩ := h
  exact ⟨ra, rc, h1.kept g, fun i hi => (h2 i hi).kept g⟩
def clsB (l : List Int) : Array Value := ((List.range 256).map fun j => Value.int .i64 (l.getD j 0)).toArray
def autB (A : Aut) (na : Option Addr) (nc : Nat) (ea : Option Addr) (ec : Nat) : Array Value := clsB A.cls ++ #[.slice na A.next.length nc, .slice ea A.ends.length ec]
theorem clsB_size (l : List Int) : (clsB l).size = 256 := by simp [clsB]
theorem clsB_get (l : List Int) {j : Nat} (h : j < 256) : (clsB l)[j]? = some (.int .i64 (l.getD j 0)) := by simp [clsB, h]
def bdI (x : Int) : Prop := -9223372036854775808 ≤ x ∧ x ≤ 9223372036854775807
structure AutAt (w : World) (A : Aut) (na ea : Option Addr) : Prop where
  c256 : A.cls.length = 256
  cbd : ∀ j, j < 256 → bdI (A.cls.getD j 0)
  next : RowsAt w na A.next
  ends : SlAt w ea A.ends.length fun i => .bool (A.ends.getD i false)
  nlen : A.next.length ≤ maxLen
  elen : A.ends.length ≤ maxLen
  rlen : ∀ i, i < A.next.length → (A.next.getD i []).length ≤ maxLen
  rbd : ∀ i, i < A.next.length → ∀ j, j < (A.next.getD i []).length → bdI ((A.next.getD i []).getD j 0)
theorem AutAt.kept {w w' : World} {A : Aut} {na ea : Option Addr} (h : AutAt w A na ea) (g : Grew w w') : AutAt w' A na ea :=
  ⟨h.c256, h.cbd, h.next.kept g, h.ends.kept g, h.nlen, h.elen, h.rlen, h.rbd⟩
theorem autB_next (A : Aut) (na : Option Addr) (nc : Nat) (ea : Option Addr) (ec : Nat) : (autB A na nc ea ec)[256]? = some (.slice na A.next.length nc) := by
  unfold autB; rw [Array.getElem?_append_right (by rw [clsB_size]; exact Nat.le_refl _), clsB_size]; rfl
theorem autB_ends (A : Aut) (na : Option Addr) (nc : Nat) (ea : Option Addr) (ec : Nat) : (autB A na nc ea ec)[257]? = some (.slice ea A.ends.length ec) := by
  unfold autB; rw [Array.getElem?_append_right (by rw [clsB_size]; omega), clsB_size]; rfl
theorem autB_cls (A : Aut) (na : Option Addr) (nc : Nat) (ea : Option Addr) (ec : Nat) {j : Nat} (h : j < 256) : (autB A na nc ea ec)[j]? = some (.int .i64 (A.cls.getD j 0)) := by
  unfold autB; rw [Array.getElem?_append_left (by rw [clsB_size]; exact h), clsB_get _ h]
theorem autB_size (A : Aut) (na : Option Addr) (nc : Nat) (ea : Option Addr) (ec : Nat) : (autB A na nc ea ec).size = 258 := by
  unfold autB; rw [Array.size_append, clsB_size]; rfl
section
variable {H : Type} {enc : TypeId × Value → H} {w : World} {base : Nat} {hd : Bool}
end
end Go.Proofs.YtkkdpafkafjfgaaDoor
