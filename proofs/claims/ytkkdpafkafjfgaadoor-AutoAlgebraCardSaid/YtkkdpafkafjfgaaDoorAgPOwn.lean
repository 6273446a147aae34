/- Slices that a call itself has made by append, elements of one cell: what an append leaves of them. No condition but the append's own bound on bytes. -/
import Derived.Test.YtkkdpafkafjfgaaDoorAgPBase
import Derived.Deep.DeepAppendWide
import Derived.Test.YtkkdpafkafjfgaaDoorAgAuW
import Derived.Test.YtkkdpafkafjfgaaDoorAgQue
import Derived.Test.YtkkdpafkafjfgaaDoorAgPAuS
namespace Go.Proofs.YtkkdpafkafjfgaaDoor
open Go.RowKit
set_option linter.unusedVariables false
section
variable {P : Program} (w : World)
end
theorem wpList_append_eq {ops : Array Oper} {rest : List Oper} {o : Oper} {a : Act} {Q : Exit → Act → World → Prop} {w w' : World} (hgd : o.guard = none) {s x : Operand} {t t2 : TypeId}
    (ho : o.op = .call { callee := .builtin .append, args := #[s, x], argTypes := #[t, t2] }) {v u v' : Value} (hs : a.eval s = v) (hx : a.eval x = u)
    (hr : (Builtin.append_ #[t, t2] o.type #[v, u]).run Tryd.prog w = .ok v' w') (h : wpList Tryd.prog ops Q rest (a.put o.dst v') w') : wpList Tryd.prog ops Q (o :: rest) a w := by
  refine wpList_plain hgd fun _ hK => ?_
  unfold Oper.wp execOp
  simp only [ho, resolve, invoke, builtin, Sem.run_bind, Sem.run_pure, Result.andThen_ok, List.map_toArray, List.map_cons, List.map_nil, hs, hx, hr]
  exact hK _ _ h
end Go.Proofs.YtkkdpafkafjfgaaDoor

namespace Go.Proofs.YtkkdpafkafjfgaaDoor
open Go.RowKit
set_option linter.unusedVariables false
def rowI (f : Nat → Int) : Array Value := ((List.range 256).map fun j => Value.int .i64 (f j)).toArray
theorem rowI_size (f : Nat → Int) : (rowI f).size = 256 := by simp [rowI]
theorem rowI_get (f : Nat → Int) {j : Nat} (h : j < 256) : (rowI f)[j]? = some (.int .i64 (f j)) := by simp [rowI, h]
theorem zero_rowI : (Tryd.prog.info? 26).map (·.zero) = some (some (.agg (rowI fun _ => 0))) := by kernel_rfl
theorem run_zero_rowI (w : World) : (zeroValue 26).run Tryd.prog w = .ok (.agg (rowI fun _ => 0)) w := by
  have h := zero_rowI
  cases hq : Tryd.prog.info? 26 with
  | none => rw [hq] at h; cases h
  | some i =>
    have hs : i.zero = some (.agg (rowI fun _ => 0)) := by simpa [hq] using h
    simp [zeroValue, typeInfo, hq, hs]
theorem rowI_at (w : World) (f : Nat → Int) (t : TypeId) : ArrAt (w.alloc (.cells (rowI f) t)) w.heap.size 0 256 fun j => .int .i64 (f j) := ArrAt.new w _ _ 256 _ fun j hj => rowI_get f hj
section
variable {ops : Array Oper} {rest : List Oper} {o : Oper} {a : Act} {w : World} {Q : Exit → Act → World → Prop}
theorem wpList_load_row (hgd : o.guard = none) {x : Operand} (ho : o.op = .load 26 x) {b : Nat} {f : Nat → Int} (hx : a.eval x = .pointer (some ⟨b, 0, none⟩)) (hA : ArrAt w b 0 256 fun j => .int .i64 (f j))
    (h : wpList Tryd.prog ops Q rest (a.put o.dst (.agg (rowI f))) w) : wpList Tryd.prog ops Q (o :: rest) a w := by
  refine wpList_plain hgd fun _ hK => ?_
  unfold Oper.wp execOp
  simp only [ho, hx, Instr.loadAt, Instr.sureAddr, Sem.run_bind, Sem.run_pure, Result.andThen_ok, run_loadVar_arrA hA Tryd.underlying26 rfl info_cls]
  exact hK _ _ h
end
theorem info_rows : (Tryd.prog.info? 26).map (fun i => (i.zero, i.size, i.bytes)) = some (some (.agg (rowI fun _ => 0)), 256, 2048) := by kernel_rfl
theorem agg_rows : Tryd.prog.underlying 90 = some (.slice 26) := Tryd.underlying90
theorem build_row (f : Nat → Int) (w : World) : (Instr.buildSlice 90 1 #[(0, .agg (rowI f))]).run Tryd.prog w = .ok (.slice (some ⟨w.heap.size, 0, none⟩) 1 1) (w.alloc (.cells (rowI f) 26)) := by kernel_rfl
theorem rowI_list (f : Nat → Int) : (rowI f).toList.length = 256 := by rw [Array.length_toList, rowI_size]
theorem heap_more {w : World} {b : Nat} {x o : Obj} (h : w.heap[b]? = some x) : (w.alloc o).heap[b]? = some x := by
  rw [heap_alloc_old _ _ (Array.getElem?_eq_some_iff.1 h).1]; exact h
theorem heap_kept {w w' : World} {b : Nat} {x : Obj} (g : Grew w w') (h : w.heap[b]? = some x) : w'.heap[b]? = some x := by
  rw [g.block b (Array.getElem?_eq_some_iff.1 h).1]; exact h
theorem two_cells {w : World} {b : Nat} {x y : Value} {t : TypeId} (h : w.heap[b]? = some (.cells #[x, y] t (0, 0))) : (w.cell? ⟨b, 0, none⟩ = some x ∧ w.cell? ⟨b, 1, none⟩ = some y) ∧ ∀ o, w.frozen? ⟨b, o, none⟩ = false := by
  refine ⟨⟨?_, ?_⟩, fun o => ?_⟩
  · unfold World.cell?; dsimp only; rw [h]; rfl
  · unfold World.cell?; dsimp only; rw [h]; rfl
  · unfold World.frozen?; dsimp only; rw [h]; simp
theorem Box.same {w w' : World} {b : Nat} {A : Aut} {na : Option Addr} {nc : Nat} {ea : Option Addr} {ec : Nat} (h : Box w b A na nc ea ec) (g : w'.heap[b]? = w.heap[b]?) : Box w' b A na nc ea ec :=
  ⟨by rw [World.cell?_of_block g]; exact h.nx, by rw [World.cell?_of_block g]; exact h.en, fun j hj => by rw [World.cell?_of_block (a := ⟨b, 0 + j, none⟩) g, World.frozen?_of_block (a := ⟨b, 0 + j, none⟩) g]; exact h.cl j hj⟩
theorem grew_grown {a w w' : World} {own : Option Nat} (h : Grew a w) (g : w.grownBy w' own) (ho : ∀ b, own = some b → a.heap.size ≤ b) : Grew a w' :=
  ⟨g.os.trans h.os, g.tape.trans h.tape, g.output.trans h.output, Nat.le_trans h.size g.size, fun k hk => (g.block k (Nat.lt_of_lt_of_le hk h.size) fun e => by have := ho k e.symm; omega).trans (h.block k hk)⟩
end Go.Proofs.YtkkdpafkafjfgaaDoor

namespace Go.Proofs.YtkkdpafkafjfgaaDoor
set_option linter.unusedVariables false
structure IsAut (B : Aut) (L : List UInt8 → Bool) : Prop where
  right : RightA B
  cls : B.cls.length = 256
  lang : ∀ l, (raA B).tak 0 l = L l
  can : ∃ C, Can C ∧ B = autOf C
theorem LeastOf.is {S : RA} {B : Aut} {L : List UInt8 → Bool} (h : LeastOf S B) (hn : S.n ≤ 8192) (hl : ∀ l, S.tak 0 l = L l) : IsAut B L := by
  obtain ⟨C, hC, he, rfl, hle⟩ := h
  have hC8 : C.n ≤ 8192 := by omega
  have hr := autOf_ra hC.ok
  refine ⟨autOf_right hC.ok hC8, autOf_c C, fun l => ?_, C, hC, rfl⟩
  rw [(hr.eqv ((autOf_right hC.ok hC8).ok (autOf_c C))) l 0 (autOf_right hC.ok hC8).n0, ← hl l]
  exact he l
theorem IsAut.one {A B : Aut} {L M : List UInt8 → Bool} (h : IsAut A L) (k : IsAut B M) (e : ∀ l, L l = M l) : A = B := by
  obtain ⟨C, hC, rfl⟩ := h.can
  obtain ⟨D, hD, rfl⟩ := k.can
  have hra := autOf_ra hC.ok
  have hrb := autOf_ra hD.ok
  refine autOf_congr (can_one hC hD fun l => ?_)
  have h1 := (hra.eqv (h.right.ok h.cls)) l 0 h.right.n0
  have h2 := (hrb.eqv (k.right.ok k.cls)) l 0 k.right.n0
  rw [← h1, ← h2, h.lang, k.lang, e]
end Go.Proofs.YtkkdpafkafjfgaaDoor
