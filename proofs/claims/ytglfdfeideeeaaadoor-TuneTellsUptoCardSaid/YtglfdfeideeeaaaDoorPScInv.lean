/- What is so of the machine at all times: how far it may have come, and how much it may hold. Plain. -/
import Derived.Test.YtglfdfeideeeaaaDoorScWrong
import Derived.Test.YtglfdfeideeeaaaDoorPOwn
import Derived.Test.YtglfdfeideeeaaaDoorPBase
import Derived.WalkMore
import Derived.ScopeJumps
import Derived.Sort.Row
import Derived.Test.YtglfdfeideeeaaaDoorStEach
namespace Go.Proofs.YtglfdfeideeeaaaDoor
set_option linter.unusedVariables false
theorem errL_all : ∀ {l : List Pat}, errL l = 0 → ∀ p ∈ l, errW p = 0
  | [], _, p, hp => by cases hp
  | q :: l, h, p, hp => by
    rw [errL] at h
    by_cases e : errW q = 0
    · rw [if_pos e] at h
      rcases List.mem_cons.1 hp with rfl | hp
      · exact e
      · exact errL_all h p hp
    · rw [if_neg e] at h; exact absurd h e
theorem errW_node {p : Pat} (h : errW p = 0) : nodeErr p = 0 ∧ ∀ q ∈ p.kids, errW q = 0 := by
  obtain ⟨k, t, n, m, l⟩ := p
  rw [errW] at h
  by_cases e : nodeErr (.mk k t n m l) = 0
  · rw [if_pos e] at h; exact ⟨e, errL_all h⟩
  · rw [if_neg e] at h; exact absurd h e
theorem many_none {n lo hi : Nat} (h : manyErr n lo hi = 0) : lo ≤ n ∧ n ≤ hi := by
  unfold manyErr at h
  by_cases e : n < lo ∨ hi < n
  · rw [if_pos e] at h; omega
  · omega
def hd (o : Nat) : Prop := o = 0 ∨ o = 1 ∨ o = 2 ∨ o = 3 ∨ o = 4 ∨ o = 8
def NN : Nat := 100000
section
variable {L fuel ways : Nat} {m : MS}
end
end Go.Proofs.YtglfdfeideeeaaaDoor
namespace Go.Proofs.YtglfdfeideeeaaaDoor
open Go.RowKit
set_option linter.unusedVariables false
theorem exists_least {p : Nat → Prop} (h : ∃ n, p n) : ∃ n, p n ∧ ∀ m, p m → n ≤ m := by
  obtain ⟨n, hn⟩ := h
  induction n using Nat.strongRecOn with
  | _ n ih =>
    by_cases e : ∃ m, m < n ∧ p m
    · obtain ⟨m, h1, h2⟩ := e
      exact ih m h1 h2
    · exact ⟨n, hn, fun m hm => by
        rcases Nat.lt_or_ge m n with h1 | h1
        · exact absurd ⟨m, h1, hm⟩ e
        · exact h1⟩
open Classical in
noncomputable def least (p : Nat → Prop) : Nat := if h : ∃ n, p n then Classical.choose (exists_least h) else 0
end Go.Proofs.YtglfdfeideeeaaaDoor

namespace Go.Proofs.YtglfdfeideeeaaaDoor
open Go.RowKit
open Go.Sort (Holds mapBlock ahead putRow holds_putRow holds_ahead)
set_option linter.unusedVariables false
theorem bytesOf (w : World) (s : ByteArray) : (convert 9 69 (.string s)).run Tryd.prog w = .ok (.slice (some ⟨w.heap.size, 0, none⟩) s.size (grownCap w s.size 0 5))
      (w.drew.alloc (.cells (bytesRow s (grownCap w s.size 0 5)) 5 ((bytesRow s (grownCap w s.size 0 5)).size, (bytesRow s (grownCap w s.size 0 5)).size + 1))) :=
  run_bytes_of_string (P := Tryd.prog) w 9 69 5 s Tryd.underlying9 Tryd.underlying69 Tryd.underlying5
def encB (x : UInt8) : Value := .int .u8 x.toNat
def BytesAt (w : World) (b off : Nat) (l : List UInt8) : Prop := Holds encB w b off l.toArray
theorem size_bytesRow (s : ByteArray) (cap : Nat) : s.size ≤ (bytesRow s cap).size := by
  unfold bytesRow
  rw [Array.size_append, Array.size_map]
  exact Nat.le_add_right _ _
theorem bytesAt_row (w : World) (s : ByteArray) (cap : Nat) (t : TypeId) : BytesAt (w.alloc (.cells (bytesRow s cap) t ((bytesRow s cap).size, (bytesRow s cap).size + 1))) w.heap.size 0 s.data.toList := by
  intro j hj
  have hj' : j < s.data.size := by simpa using hj
  refine ⟨?_, ?_⟩
  · rw [Nat.zero_add, World.cell?_alloc_mark, bytesRow_at s cap j hj']
    simp [encB]
    rw [getElem!_pos s.data j hj']
  · rw [Nat.zero_add, World.frozen?_alloc_mark]
    have h1 : s.data.size = s.size := rfl
    have h2 := size_bytesRow s cap
    simp; omega
theorem BytesAt.at0 {w : World} {b : Nat} {l : List UInt8} (h : BytesAt w b 0 l) (k : Nat) (hk : k < l.length) : w.cell? ⟨b, k, none⟩ = some (.int .u8 (l[k].toNat : Int)) := by
  have := (h k (by simpa using hk)).1
  rw [Nat.zero_add] at this
  rw [this]; simp [encB, hk]
theorem BytesAt.drew {w : World} {b off : Nat} {l : List UInt8} (h : BytesAt w b off l) : BytesAt w.drew b off l := h
end Go.Proofs.YtglfdfeideeeaaaDoor

namespace Go.Proofs.YtglfdfeideeeaaaDoor
open Go.RowKit
set_option linter.unusedVariables false
structure Beside (a : Nat) (w w' : World) : Prop where
  below : Below a w w'
  size : w'.heap.size = w.heap.size
  block : ∀ k, k ≠ a → w'.heap[k]? = w.heap[k]?
theorem Beside.refl (a : Nat) (w : World) : Beside a w w := ⟨Below.refl _ _, rfl, fun _ _ => rfl⟩
theorem Beside.trans {a : Nat} {u v w : World} (h : Beside a u v) (k : Beside a v w) : Beside a u w := ⟨h.below.trans k.below, k.size.trans h.size, fun j hj => (k.block j hj).trans (h.block j hj)⟩
theorem Beside.set {a : Nat} {w w' : World} (h : Beside a w w') (v : Value) : Beside a w (w'.setCell ⟨a, 0, none⟩ v) :=
  ⟨h.below.trans (Below.setCell' (by simp) v), by rw [← h.size]; simp [World.setCell], fun k hk => by rw [← h.block k hk]; simp only [World.setCell, Array.getElem?_modify]; rw [if_neg (fun e => hk e.symm)]⟩
theorem Beside.cell {a : Nat} {w w' : World} (h : Beside a w w') {p : Addr} (hp : p.block ≠ a) : w'.cell? p = w.cell? p := by unfold World.cell?; rw [h.block _ hp]
theorem Beside.frozen {a : Nat} {w w' : World} (h : Beside a w w') {p : Addr} (hp : p.block ≠ a) : w'.frozen? p = w.frozen? p := by unfold World.frozen?; rw [h.block _ hp]
theorem Beside.setAny {a o : Nat} {w w' : World} (h : Beside a w w') (v : Value) : Beside a w (w'.setCell ⟨a, o, none⟩ v) :=
  ⟨h.below.trans (Below.setCell' (by simp) v), by rw [← h.size]; simp [World.setCell], fun k hk => by rw [← h.block k hk]; simp only [World.setCell, Array.getElem?_modify]; rw [if_neg (fun e => hk e.symm)]⟩
theorem storeCells_beside (b : Nat) : ∀ (l : List Value) (i : Nat) (w : World), (∀ j, j < l.length → (w.cell? ⟨b, i + j, none⟩).isSome ∧ w.frozen? ⟨b, i + j, none⟩ = false) → (∀ v ∈ l, v.oneCell' = true) →
    ∃ w', (storeCells ⟨b, 0, none⟩ l i).run Tryd.prog w = .ok () w' ∧ Beside b w w'
  | [], i, w, _, _ => ⟨w, rfl, Beside.refl _ _⟩
  | v :: l, i, w, h, hv => by
    obtain ⟨h0, h1⟩ := h 0 (by simp)
    rw [Nat.add_zero] at h0 h1
    obtain ⟨u, hu⟩ := Option.isSome_iff_exists.1 h0
    obtain ⟨w', k1, k5⟩ := storeCells_beside b l (i + 1) (w.setCell ⟨b, i, none⟩ v) (fun j hj => by
      obtain ⟨c1, c2⟩ := h (j + 1) (by simpa using hj)
      rw [show i + (j + 1) = i + 1 + j by omega] at c1 c2
      refine ⟨by rw [setCell_cell_other _ _ _ _ (.inr (by simp; omega))]; exact c1, by rw [setCell_frozen]; exact c2⟩) (fun x hx => hv x (by simp [hx]))
    refine ⟨w', ?_, Beside.trans ((Beside.refl b w).setAny v) k5⟩
    unfold storeCells
    rw [plain_addr_add, Nat.zero_add, Sem.run_bind, run_store _ _ _ _ _ (hv v (by simp)), hu]
    simp only [h1, Bool.false_eq_true, if_false, Result.andThen]
    exact k1
theorem wpList_store_bes {ops : Array Oper} {rest : List Oper} {o : Oper} {a : Act} {w : World} {Q : Exit → Act → World → Prop} (hgd : o.guard = none) {ty : TypeId} {x y : Operand} (ho : o.op = .store ty x y) {b n : Nat} {f0 f : Nat → Value} (hx : a.eval x = .pointer (some ⟨b, 0, none⟩)) (hy : a.eval y = .agg (rowB n f)) (hA : ArrAt w b 0 n f0)
    (hi : (Tryd.prog.info? ty).map (·.size) = some n) (h1 : ∀ j, j < n → (f j).oneCell' = true) (h : ∀ w', ArrAt w' b 0 n f → Beside b w w' → wpList Tryd.prog ops Q rest (a.put o.dst undef) w') : wpList Tryd.prog ops Q (o :: rest) a w := by
  obtain ⟨w', k1, k2, k3⟩ := run_storeVar_arr (f := f) hA hi h1
  obtain ⟨w1, e1, b1⟩ := storeCells_beside b ((List.range n).map f) 0 w (fun j hj => by
    have := hA j (by simpa using hj)
    rw [this.1]; exact ⟨rfl, this.2⟩) (fun v hv => by
    obtain ⟨j, hj, rfl⟩ := List.mem_map.1 hv
    exact h1 j (List.mem_range.1 hj))
  have e2 : (storeVar ty ⟨b, 0, none⟩ (.agg (rowB n f))).run Tryd.prog w = .ok () w1 := by
    cases hq : Tryd.prog.info? ty with
    | none => rw [hq] at hi; cases hi
    | some i =>
      have hs : i.size = n := by simpa [hq] using hi
      simp [storeVar, Sem.run_bind, sizeOf, typeInfo, hq, hs, Value.cells, rowB, e1]
  have e3 : w' = w1 := by rw [k1] at e2; simpa using e2
  subst e3
  refine wpList_plain hgd fun _ hK => ?_
  unfold Oper.wp execOp
  simp only [ho, hx, hy, Instr.storeAt, Instr.sureAddr, Sem.run_bind, Sem.run_pure, Result.andThen_ok, k1]
  exact hK _ _ (h w' k2 b1)
end Go.Proofs.YtglfdfeideeeaaaDoor
