/- Rows of 256 numbers; appending one. The document's Of: an automaton as a table over bytes. -/
import Derived.Test.YtkkdpafkafjfgaaTwAuW
import Derived.Test.YtkkdpafkafjfgaaTwQue
import Derived.Test.YtkkdpafkafjfgaaTwPOwn
namespace Go.Proofs.Ytkkdpafkafjfgaa
open Go.RowKit
set_option linter.unusedVariables false
def rowI (f : Nat → Int) : Array Value := ((List.range 256).map fun j => Value.int .i64 (f j)).toArray
theorem rowI_size (f : Nat → Int) : (rowI f).size = 256 := by simp [rowI]
theorem rowI_get (f : Nat → Int) {j : Nat} (h : j < 256) : (rowI f)[j]? = some (.int .i64 (f j)) := by simp [rowI, h]
theorem zero_rowI : (Try.prog.info? 22).map (·.zero) = some (some (.agg (rowI fun _ => 0))) := by kernel_rfl
theorem run_zero_rowI (w : World) : (zeroValue 22).run Try.prog w = .ok (.agg (rowI fun _ => 0)) w := by
  have h := zero_rowI
  cases hq : Try.prog.info? 22 with
  | none => rw [hq] at h; cases h
  | some i =>
    have hs : i.zero = some (.agg (rowI fun _ => 0)) := by simpa [hq] using h
    simp [zeroValue, typeInfo, hq, hs]
theorem rowI_at (w : World) (f : Nat → Int) (t : TypeId) : ArrAt (w.alloc (.cells (rowI f) t)) w.heap.size 0 256 fun j => .int .i64 (f j) := ArrAt.new w _ _ 256 _ fun j hj => rowI_get f hj
section
variable {ops : Array Oper} {rest : List Oper} {o : Oper} {a : Act} {w : World} {Q : Exit → Act → World → Prop}
theorem wpList_load_row (hgd : o.guard = none) {x : Operand} (ho : o.op = .load 22 x) {b : Nat} {f : Nat → Int} (hx : a.eval x = .pointer (some ⟨b, 0, none⟩)) (hA : ArrAt w b 0 256 fun j => .int .i64 (f j))
    (h : wpList Try.prog ops Q rest (a.put o.dst (.agg (rowI f))) w) : wpList Try.prog ops Q (o :: rest) a w := by
  refine wpList_plain hgd fun _ hK => ?_
  unfold Oper.wp execOp
  simp only [ho, hx, Instr.loadAt, Instr.sureAddr, Sem.run_bind, Sem.run_pure, Result.andThen_ok, run_loadVar_arrA hA Try.underlying22 rfl info_cls]
  exact hK _ _ h
end
theorem info_tab : (Try.prog.info? 44).map (·.size) = some 2 := by kernel_rfl
theorem info_rows : (Try.prog.info? 22).map (fun i => (i.zero, i.size, i.bytes)) = some (some (.agg (rowI fun _ => 0)), 256, 2048) := by kernel_rfl
theorem agg_rows : Try.prog.underlying 42 = some (.slice 22) := Try.underlying42
theorem build_row (f : Nat → Int) (w : World) : (Instr.buildSlice 42 1 #[(0, .agg (rowI f))]).run Try.prog w = .ok (.slice (some ⟨w.heap.size, 0, none⟩) 1 1) (w.alloc (.cells (rowI f) 22)) := by kernel_rfl
def stepI (A : Aut) (s c : Nat) : Int := (A.next.getD s []).getD (A.cls.getD c 0).toNat 0
def tabC (A : Aut) (i : Nat) : List Value := (List.range i).flatMap fun s => (rowI fun c => stepI A s c).toList
theorem tabC_succ (A : Aut) (i : Nat) : tabC A (i + 1) = tabC A i ++ (rowI fun c => stepI A i c).toList := by
  unfold tabC; rw [List.range_succ, List.flatMap_append]; simp
theorem rowI_list (f : Nat → Int) : (rowI f).toList.length = 256 := by rw [Array.length_toList, rowI_size]
theorem tabC_length (A : Aut) : ∀ i, (tabC A i).length = i * 256
  | 0 => rfl
  | i + 1 => by rw [tabC_succ, List.length_append, tabC_length A i, rowI_list]; omega
structure OfSt (w wr : World) (A : Aut) (na : Option Addr) (nc : Nat) (ea : Option Addr) (ec : Nat) (i : Nat) (qv : Value) : Prop where
  grew : Grew w wr
  box : Box wr w.heap.size A na nc ea ec
  res : wr.heap[w.heap.size + 1]? = some (.cells #[.slice none 0 0, .slice none 0 0] 44 (0, 0))
  tab : wr.heap[w.heap.size + 1 + 1]? = some (.cells #[qv, .slice ea A.ends.length ec] 44 (0, 0))
  row : QRow wr (w.heap.size + 1 + 1 + 1) 22 256 qv i (tabC A i)
  own : ∀ b, qv.ownBlock = some b → w.heap.size + 1 + 1 + 1 ≤ b ∧ b < wr.heap.size
theorem heap_more {w : World} {b : Nat} {x o : Obj} (h : w.heap[b]? = some x) : (w.alloc o).heap[b]? = some x := by
  rw [heap_alloc_old _ _ (Array.getElem?_eq_some_iff.1 h).1]; exact h
theorem heap_kept {w w' : World} {b : Nat} {x : Obj} (g : Grew w w') (h : w.heap[b]? = some x) : w'.heap[b]? = some x := by
  rw [g.block b (Array.getElem?_eq_some_iff.1 h).1]; exact h
theorem OfSt.kept {w wr w' : World} {A : Aut} {na : Option Addr} {nc : Nat} {ea : Option Addr} {ec i : Nat} {qv : Value} (h : OfSt w wr A na nc ea ec i qv) (g : Grew wr w') : OfSt w w' A na nc ea ec i qv :=
  ⟨h.grew.trans g, h.box.kept g, heap_kept g h.res, heap_kept g h.tab, h.row.grew g, fun b hb => ⟨(h.own b hb).1, Nat.lt_of_lt_of_le (h.own b hb).2 g.size⟩⟩
theorem two_cells {w : World} {b : Nat} {x y : Value} {t : TypeId} (h : w.heap[b]? = some (.cells #[x, y] t (0, 0))) : (w.cell? ⟨b, 0, none⟩ = some x ∧ w.cell? ⟨b, 1, none⟩ = some y) ∧ ∀ o, w.frozen? ⟨b, o, none⟩ = false := by
  refine ⟨⟨?_, ?_⟩, fun o => ?_⟩
  · unfold World.cell?; dsimp only; rw [h]; rfl
  · unfold World.cell?; dsimp only; rw [h]; rfl
  · unfold World.frozen?; dsimp only; rw [h]; simp
theorem Box.same {w w' : World} {b : Nat} {A : Aut} {na : Option Addr} {nc : Nat} {ea : Option Addr} {ec : Nat} (h : Box w b A na nc ea ec) (g : w'.heap[b]? = w.heap[b]?) : Box w' b A na nc ea ec :=
  ⟨by rw [World.cell?_of_block g]; exact h.nx, by rw [World.cell?_of_block g]; exact h.en, fun j hj => by rw [World.cell?_of_block (a := ⟨b, 0 + j, none⟩) g, World.frozen?_of_block (a := ⟨b, 0 + j, none⟩) g]; exact h.cl j hj⟩
theorem grew_grown {a w w' : World} {own : Option Nat} (h : Grew a w) (g : w.grownBy w' own) (ho : ∀ b, own = some b → a.heap.size ≤ b) : Grew a w' :=
  ⟨g.os.trans h.os, g.tape.trans h.tape, g.output.trans h.output, Nat.le_trans h.size g.size, fun k hk => (g.block k (Nat.lt_of_lt_of_le hk h.size) fun e => by have := ho k e.symm; omega).trans (h.block k hk)⟩
theorem OfSt.push {w wr w' : World} {A : Aut} {na : Option Addr} {nc : Nat} {ea : Option Addr} {ec i : Nat} {qv v' : Value} (h : OfSt w wr A na nc ea ec i qv) (g : wr.grownBy w' qv.ownBlock) (hq : QRow w' (w.heap.size + 1 + 1 + 1) 22 256 v' (i + 1) (tabC A (i + 1))) :
    OfSt w (w'.setCell ⟨w.heap.size + 1 + 1, 0, none⟩ v') A na nc ea ec (i + 1) v' := by
  obtain ⟨b, off, cap, rfl, hb1, hb2, _⟩ := hq.at (by omega)
  have hlo : ∀ k, k ≤ w.heap.size + 1 + 1 → some k ≠ qv.ownBlock := fun k hk e => by have := (h.own k e.symm).1; omega
  have h2 := (Array.getElem?_eq_some_iff.1 h.tab).1
  have k0 : w'.heap[w.heap.size]? = wr.heap[w.heap.size]? := g.block _ (by omega) (hlo _ (by omega))
  have k1 : w'.heap[w.heap.size + 1]? = wr.heap[w.heap.size + 1]? := g.block _ (by omega) (hlo _ (by omega))
  have k2 : w'.heap[w.heap.size + 1 + 1]? = wr.heap[w.heap.size + 1 + 1]? := g.block _ h2 (hlo _ (Nat.le_refl _))
  refine ⟨(grew_grown h.grew g fun b e => by have := (h.own b e).1; omega).setCell (p := ⟨w.heap.size + 1 + 1, 0, none⟩) (show w.heap.size ≤ w.heap.size + 1 + 1 by omega) _, h.box.same ?_, ?_, ?_, hq.kept fun k hk _ => ?_, fun k hk => ?_⟩
  · rw [q_set_other _ _ (by omega), k0]
  · rw [q_set_other _ _ (by omega), k1]; exact h.res
  · rw [q_set_same (k2.trans h.tab)]; rfl
  · cases hk
    exact q_set_other _ _ (show w.heap.size + 1 + 1 ≠ b by omega)
  · cases hk
    exact ⟨hb1, by simpa [World.setCell] using hb2⟩
end Go.Proofs.Ytkkdpafkafjfgaa
