/- Small helpers of all texts of this seat: facts kept from the walk, what a call leaves of old memory. No condition. -/
import Derived.Test.YtkkdpafkafjfgaaDoorProg
import Derived.WalkKit
import Derived.WalkLawsBesides
import Derived.WalkSpells
import Derived.Outline
import Derived.BigQuiet
import Derived.Deep.QuietTactic
import Derived.Laws.IdiomStrings
import Derived.Lib.Strings
import Derived.Below
import Derived.OwnWalk
import Derived.Test.YtkkdpafkafjfgaaDoorShAuN
namespace Go.Proofs.YtkkdpafkafjfgaaDoor
open Go.RowKit
set_option linter.unusedVariables false
theorem hidd {p : Prop} (h : p) : Hid p := h
def Grew (w w' : World) : Prop := Below w.heap.size w w'
theorem Grew.refl (w : World) : Grew w w := Below.refl _ _
theorem Grew.trans {a b c : World} (h : Grew a b) (k : Grew b c) : Grew a c := Below.trans h (Below.mono k h.size)
theorem Grew.alloc {a w : World} (h : Grew a w) (o : Obj) : Grew a (w.alloc o) := Below.alloc h h.size o
theorem Grew.drew {a w : World} (h : Grew a w) : Grew a w.drew := Below.drew h
theorem Grew.lt {a w : World} (h : Grew a w) : a.heap.size ≤ w.heap.size := h.size
theorem Grew.below {a w w' : World} {B : Nat} (h : Grew a w) (k : Below B w w') (hB : a.heap.size ≤ B) : Grew a w' := Below.trans h (Below.mono k hB)
theorem Grew.cell {w w' : World} (h : Grew w w') {p : Addr} (hp : p.block < w.heap.size) : w'.cell? p = w.cell? p := Below.cell h hp
theorem Grew.frozen {w w' : World} (h : Grew w w') {p : Addr} (hp : p.block < w.heap.size) : w'.frozen? p = w.frozen? p := Below.frozen h hp
theorem Grew.setCell {a w : World} (h : Grew a w) {p : Addr} (hp : a.heap.size ≤ p.block) (u : Value) : Grew a (w.setCell p u) := Below.setCell h hp u
theorem lt_of_cell {w : World} {p : Addr} {v : Value} (h : w.cell? p = some v) : p.block < w.heap.size := by
  unfold World.cell? at h
  cases hh : w.heap[p.block]? with
  | none => rw [hh] at h; simp at h
  | some o => exact (Array.getElem?_eq_some_iff.1 hh).1
theorem Grew.keeps {w w' : World} (h : Grew w w') {p : Addr} {v : Value} (hp : w.cell? p = some v) : w'.cell? p = some v := by rw [h.cell (lt_of_cell hp)]; exact hp
theorem size_data (s : ByteArray) : s.size = s.data.toList.length := Lib.size_eq s
theorem bd_i64 {n : Int} (h : (Lit.int .i64 n).wf = true) : -9223372036854775808 ≤ n ∧ n ≤ 9223372036854775807 := by
  simpa [Lit.wf, IntKind.min, IntKind.max, IntKind.signed, IntKind.bits] using h
theorem ret_bool {a b : Bool} (h : a = b) : Ending.returned (.bool a) = .returned (.bool b) := by rw [h]
end Go.Proofs.YtkkdpafkafjfgaaDoor

namespace Go.Proofs.YtkkdpafkafjfgaaDoor
open Go.RowKit
set_option linter.unusedVariables false
def ArrAt (w : World) (b off n : Nat) (f : Nat → Value) : Prop := ∀ j, j < n → w.cell? ⟨b, off + j, none⟩ = some (f j) ∧ w.frozen? ⟨b, off + j, none⟩ = false
theorem ArrAt.at {w : World} {b off n : Nat} {f : Nat → Value} (h : ArrAt w b off n f) (j : Nat) (hj : j < n) : w.cell? ⟨b, off + j, none⟩ = some (f j) := (h j hj).1
theorem ArrAt.at0 {w : World} {b n : Nat} {f : Nat → Value} (h : ArrAt w b 0 n f) (j : Nat) (hj : j < n) : w.cell? ⟨b, j, none⟩ = some (f j) := by simpa using (h j hj).1
theorem ArrAt.free0 {w : World} {b n : Nat} {f : Nat → Value} (h : ArrAt w b 0 n f) (j : Nat) (hj : j < n) : w.frozen? ⟨b, j, none⟩ = false := by simpa using (h j hj).2
theorem ArrAt.lt {w : World} {b off n : Nat} {f : Nat → Value} (h : ArrAt w b off n f) (hn : 0 < n) : b < w.heap.size := lt_of_cell (h 0 hn).1
theorem ArrAt.drew {w : World} {b off n : Nat} {f : Nat → Value} (h : ArrAt w b off n f) : ArrAt w.drew b off n f := h
theorem ArrAt.alloc {w : World} {b off n : Nat} {f : Nat → Value} (h : ArrAt w b off n f) (o : Obj) : ArrAt (w.alloc o) b off n f := by
  intro j hj
  have hb : b < w.heap.size := lt_of_cell (h j hj).1
  have g := (Grew.refl w).alloc o
  exact ⟨by rw [g.cell hb]; exact (h j hj).1, by rw [g.frozen hb]; exact (h j hj).2⟩
theorem ArrAt.kept {w w' : World} {b off n : Nat} {f : Nat → Value} (h : ArrAt w b off n f) (g : Grew w w') : ArrAt w' b off n f := by
  intro j hj
  have hb : b < w.heap.size := lt_of_cell (h j hj).1
  exact ⟨by rw [g.cell hb]; exact (h j hj).1, by rw [g.frozen hb]; exact (h j hj).2⟩
theorem ArrAt.below {w w' : World} {b off n B : Nat} {f : Nat → Value} (h : ArrAt w b off n f) (g : Below B w w') (hb : b < B) : ArrAt w' b off n f := by
  intro j hj
  exact ⟨by rw [g.cell (p := ⟨b, off + j, none⟩) hb]; exact (h j hj).1, by rw [g.frozen (p := ⟨b, off + j, none⟩) hb]; exact (h j hj).2⟩
theorem ArrAt.congr {w : World} {b off n : Nat} {f g : Nat → Value} (h : ArrAt w b off n f) (k : ∀ j, j < n → f j = g j) : ArrAt w b off n g :=
  fun j hj => ⟨by rw [← k j hj]; exact (h j hj).1, (h j hj).2⟩
theorem ArrAt.mono {w : World} {b off n m : Nat} {f : Nat → Value} (h : ArrAt w b off n f) (k : m ≤ n) : ArrAt w b off m f := fun j hj => h j (by omega)
theorem setCell_cell_same {w : World} {p : Addr} {v u : Value} (hs : p.spot = none) (h : w.cell? p = some u) : (w.setCell p v).cell? p = some v := by
  obtain ⟨b, o, sp⟩ := p
  simp only at hs; subst hs
  unfold World.cell? at h ⊢
  cases hh : w.heap[b]? with
  | none => simp only [hh] at h; simp at h
  | some ob =>
    simp only [hh] at h
    cases ob <;> simp only at h
    case cells c e fr =>
      have hlt : o < c.size := by
        rcases Nat.lt_or_ge o c.size with hl | hl
        · exact hl
        · simp [Array.getElem?_eq_none hl] at h
      simp [World.setCell, Array.getElem?_modify, hh, hlt]
    all_goals simp at h
theorem setCell_cell_other (w : World) (p q : Addr) (v : Value) (h : p.block ≠ q.block ∨ p.off ≠ q.off) : (w.setCell p v).cell? q = w.cell? q := by
  unfold World.cell?
  by_cases hb : p.block = q.block
  · have ho : p.off ≠ q.off := by
      rcases h with h | h
      · exact absurd hb h
      · exact h
    simp only [World.setCell, Array.getElem?_modify, hb]
    cases hh : w.heap[q.block]? with
    | none => simp
    | some ob =>
      cases ob <;> simp only [if_true, Option.map_some]
      case cells c e fr =>
        by_cases hs : p.spot.isSome = true
        · simp [hs]
        · simp [hs, ho]
  · simp only [World.setCell, Array.getElem?_modify, hb, if_false]
theorem setCell_frozen (w : World) (p q : Addr) (v : Value) : (w.setCell p v).frozen? q = w.frozen? q := by
  unfold World.frozen?
  simp only [World.setCell, Array.getElem?_modify]
  by_cases hb : p.block = q.block
  · simp only [hb, if_true]
    cases hh : w.heap[q.block]? with
    | none => rfl
    | some ob => cases ob <;> rfl
  · simp [hb]
theorem ArrAt.set {w : World} {b off n : Nat} {f : Nat → Value} (h : ArrAt w b off n f) (i : Nat) (hi : i < n) (v : Value) :
    ArrAt (w.setCell ⟨b, off + i, none⟩ v) b off n (fun j => if j = i then v else f j) := by
  intro j hj
  refine ⟨?_, by rw [setCell_frozen]; exact (h j hj).2⟩
  by_cases e : j = i
  · subst e; rw [setCell_cell_same rfl (h j hj).1]; simp
  · rw [setCell_cell_other _ _ _ _ (.inr (by simp; omega))]; simpa [e] using (h j hj).1
theorem ArrAt.set0 {w : World} {b n : Nat} {f : Nat → Value} (h : ArrAt w b 0 n f) (i : Nat) (hi : i < n) (v : Value) :
    ArrAt (w.setCell ⟨b, i, none⟩ v) b 0 n (fun j => if j = i then v else f j) := by
  have := h.set i hi v
  rwa [Nat.zero_add] at this
theorem ArrAt.other {w : World} {b off n : Nat} {f : Nat → Value} (h : ArrAt w b off n f) (p : Addr) (hp : p.block ≠ b) (v : Value) : ArrAt (w.setCell p v) b off n f := by
  intro j hj
  exact ⟨by rw [setCell_cell_other _ _ _ _ (.inl hp)]; exact (h j hj).1, by rw [setCell_frozen]; exact (h j hj).2⟩
theorem ArrAt.new (w : World) (C : Array Value) (t : TypeId) (n : Nat) (f : Nat → Value) (h : ∀ j, j < n → C[j]? = some (f j)) : ArrAt (w.alloc (.cells C t)) w.heap.size 0 n f := by
  intro j hj
  rw [Nat.zero_add, World.cell?_alloc_mark, World.frozen?_alloc_mark]
  exact ⟨h j hj, by simp⟩
theorem Below.setCell' {B : Nat} {w : World} {p : Addr} (hp : B ≤ p.block) (u : Value) : Below B w (w.setCell p u) := Below.setCell (Below.refl _ _) hp u
theorem Grew.of_grownBy {w w' : World} (h : w.grownBy w' none) : Grew w w' := ⟨h.os, h.tape, h.output, h.size, fun k hk => h.block k hk (by simp)⟩
theorem make_row (t e : TypeId) (i : TypeInfo) (z : Value) (ht : Tryd.prog.underlying t = some (.slice e)) (hi : Tryd.prog.info? e = some i) (hz : i.zero = some z) (hs : i.size = 1) (hc : z.cells = #[z])
    (n : Nat) (hb : i.bytes * n ≤ 281474976710656) (hn : n ≤ maxLen) (w : World) :
    ∃ w', (Instr.makeSlice t (.int .i64 (n : Int)) (.int .i64 (n : Int))).run Tryd.prog w = .ok (.slice (some ⟨w.heap.size, 0, none⟩) n n) w' ∧ ArrAt w' w.heap.size 0 n (fun _ => z) ∧ Grew w w' := by
  obtain ⟨w', h1, h2, h3⟩ := run_make_full (P := Tryd.prog) w w.heap.size t e i z 1 ht hi hz hs .i64 .i64 n hb hn (Nat.le_refl _)
  refine ⟨w', h1, fun j hj => ⟨?_, ?_⟩, Grew.of_grownBy h3⟩
  · rw [Nat.zero_add, h2.cellAt j (by omega), hc]
    simp [madeCells, hj, Nat.mod_one]
  · rw [Nat.zero_add, h2.frozenAt]
end Go.Proofs.YtkkdpafkafjfgaaDoor

namespace Go.Proofs.YtkkdpafkafjfgaaDoor
set_option linter.unusedVariables false
set_option linter.unusedSectionVars false
section
variable {α : Type} [DecidableEq α]
structure Exp (first : α) (st : α → Nat → α) (D : α → Prop) (ks : List α) (rows : List (Nat → Nat)) (i c : Nat) (row : Nat → Nat) : Prop where
  head : ks.getD 0 first = first ∧ 0 < ks.length
  dis : ks.Nodup
  dom : ∀ x ∈ ks, D x
  len : rows.length = i
  old : ∀ s, s < i → ∀ d, d < 256 → st (ks.getD s first) d ∈ ks ∧ (rows.getD s fun _ => 0) d = ks.idxOf (st (ks.getD s first) d)
  new : ∀ d, d < c → st (ks.getD i first) d ∈ ks ∧ row d = ks.idxOf (st (ks.getD i first) d)
  le : i ≤ ks.length
variable {first : α} {st : α → Nat → α} {D : α → Prop} {ks : List α} {rows : List (Nat → Nat)} {i c : Nat} {row : Nat → Nat}
theorem Exp.start (h : D first) : Exp first st D [first] [] 0 0 (fun _ => 0) :=
  ⟨⟨rfl, by simp⟩, by simp, fun x hx => by rw [List.mem_singleton] at hx; rw [hx]; exact h, rfl, fun s hs => by omega, fun d hd => by omega, by simp⟩
theorem getD_lt_mem {l : List α} {k : Nat} {d : α} (h : k < l.length) : l.getD k d ∈ l := by
  rw [List.getD_eq_getElem?_getD, List.getElem?_eq_getElem h]; exact List.getElem_mem h
theorem getD_app_lt {l r : List α} {k : Nat} {d : α} (h : k < l.length) : (l ++ r).getD k d = l.getD k d := by
  rw [List.getD_eq_getElem?_getD, List.getD_eq_getElem?_getD, List.getElem?_append_left h]
theorem Exp.seen (h : Exp first st D ks rows i c row) (hm : st (ks.getD i first) c ∈ ks) : Exp first st D ks rows i (c + 1) (fun d => if d = c then ks.idxOf (st (ks.getD i first) c) else row d) := by
  refine ⟨h.head, h.dis, h.dom, h.len, h.old, fun d hd => ?_, h.le⟩
  by_cases e : d = c
  · subst e; rw [if_pos rfl]; exact ⟨hm, rfl⟩
  · rw [if_neg e]; exact h.new d (by omega)
theorem Exp.fresh (h : Exp first st D ks rows i c row) (hi : i < ks.length) (hd : D (st (ks.getD i first) c)) (hm : st (ks.getD i first) c ∉ ks) :
    Exp first st D (ks ++ [st (ks.getD i first) c]) rows i (c + 1) (fun d => if d = c then ks.length else row d) := by
  have hl : ∀ {y : α}, y ∈ ks → y ∈ ks ++ [st (ks.getD i first) c] := fun hy => List.mem_append_left _ hy
  refine ⟨⟨by rw [getD_app_lt h.head.2]; exact h.head.1, by rw [List.length_append]; have := h.head.2; omega⟩, nodup_snoc h.dis hm, fun x hx => ?_, h.len, fun s hs d hd2 => ?_, fun d hd2 => ?_, by rw [List.length_append]; have := h.le; omega⟩
  · rcases List.mem_append.1 hx with hx | hx
    · exact h.dom x hx
    · rw [List.mem_singleton] at hx; rw [hx]; exact hd
  · have := h.old s hs d hd2
    rw [getD_app_lt (by omega), idx_pre this.1]
    exact ⟨hl this.1, this.2⟩
  · rw [getD_app_lt hi]
    by_cases e : d = c
    · subst e; rw [if_pos rfl, idx_new hm]; exact ⟨by simp, rfl⟩
    · have := h.new d (by omega)
      rw [if_neg e, idx_pre this.1]
      exact ⟨hl this.1, this.2⟩
theorem Exp.rowed (h : Exp first st D ks rows i 256 row) (hi : i < ks.length) : Exp first st D ks (rows ++ [row]) (i + 1) 0 (fun _ => 0) := by
  refine ⟨h.head, h.dis, h.dom, by rw [List.length_append, h.len]; rfl, fun s hs d hd => ?_, fun d hd => by omega, by omega⟩
  by_cases e : s < i
  · rw [List.getD_eq_getElem?_getD (l := rows ++ [row]), List.getElem?_append_left (by rw [h.len]; exact e), ← List.getD_eq_getElem?_getD]
    exact h.old s e d hd
  · have : s = i := by omega
    subst this
    rw [List.getD_eq_getElem?_getD (l := rows ++ [row]), List.getElem?_append_right (by rw [h.len]; exact Nat.le_refl _), h.len, Nat.sub_self]
    exact h.new d hd
theorem Exp.congr (h : Exp first st D ks rows i c row) {r : Nat → Nat} (e : ∀ d, d < c → r d = row d) : Exp first st D ks rows i c r := ⟨h.head, h.dis, h.dom, h.len, h.old, fun d hd => by rw [e d hd]; exact h.new d hd, h.le⟩
def expA (en : α → Bool) (first : α) (ks : List α) (rows : List (Nat → Nat)) : RA := ⟨ks.length, fun s c => (rows.getD s fun _ => 0) c, fun s => en (ks.getD s first)⟩
theorem Exp.ok (h : Exp first st D ks rows ks.length c row) (en : α → Bool) : (expA en first ks rows).Ok :=
  ⟨h.head.2, fun s d hs hd => by obtain ⟨h1, h2⟩ := h.old s hs d hd; show (rows.getD s fun _ => 0) d < ks.length; rw [h2]; exact idx_lt h1⟩
def goS (st : α → Nat → α) (x : α) : List UInt8 → α
  | [] => x
  | c :: l => goS st (st x c.toNat) l
theorem Exp.tak (h : Exp first st D ks rows ks.length c row) (en : α → Bool) : ∀ (l : List UInt8) (s : Nat), s < ks.length → (expA en first ks rows).tak s l = en (goS st (ks.getD s first) l)
  | [], s, hs => rfl
  | d :: l, s, hs => by
    obtain ⟨h1, h2⟩ := h.old s hs d.toNat (u8_lt d)
    have h3 := idx_lt h1
    have := h.tak en l ((expA en first ks rows).nx s d.toNat) (by show (rows.getD s fun _ => 0) _ < _; rw [h2]; exact h3)
    unfold RA.tak at this ⊢
    rw [RA.go, this, goS]
    congr 2
    show ks.getD ((rows.getD s fun _ => 0) d.toNat) first = _
    rw [h2, List.getD_eq_getElem?_getD, idx_get h1]
    rfl
theorem Exp.lang (h : Exp first st D ks rows ks.length c row) (en : α → Bool) (l : List UInt8) : (expA en first ks rows).tak 0 l = en (goS st first l) := by rw [h.tak en l 0 h.head.2, h.head.1]
end
end Go.Proofs.YtkkdpafkafjfgaaDoor
