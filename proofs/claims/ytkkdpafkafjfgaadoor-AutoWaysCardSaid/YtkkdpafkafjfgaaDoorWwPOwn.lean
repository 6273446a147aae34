/- Slices that a call itself has made by append, elements of one cell: what an append leaves of them. No condition but the append's own bound on bytes. -/
import Derived.Test.YtkkdpafkafjfgaaDoorWwPArr
import Derived.Deep.DeepAppendWide
import Derived.Test.YtkkdpafkafjfgaaDoorWwAuW
import Derived.Test.YtkkdpafkafjfgaaDoorWwPBase
namespace Go.Proofs.YtkkdpafkafjfgaaDoor
open Go.RowKit
set_option linter.unusedVariables false
section
variable {P : Program} (w : World)
end
theorem wpList_append_eq {ops : Array Oper} {rest : List Oper} {o : Oper} {a : Act} {Q : Exit → Act → World → Prop} {w w' : World} (hgd : o.guard = none) {s x : Operand} {t t2 : TypeId}
    (ho : o.op = .call { callee := .builtin .append, args := #[s, x], argTypes := #[t, t2] }) {v u v' : Value} (hs : a.eval s = v) (hx : a.eval x = u)
    (hr : (Builtin.append_ #[t, t2] o.type #[v, u]).run Tryd.prog w = .ok v' w') (h : wpList Tryd.prog ops Q rest (a.put o.dst v') w') : wpList Tryd.prog ops Q (o :: rest) a w := by
  refine wpList_plain hgd fun _ hK => ?_
  unfold Oper.wp execOp
  simp only [ho, resolve, invoke, builtin, Sem.run_bind, Sem.run_pure, Result.andThen_ok, List.map_toArray, List.map_cons, List.map_nil, hs, hx, hr]
  exact hK _ _ h
end Go.Proofs.YtkkdpafkafjfgaaDoor

namespace Go.Proofs.YtkkdpafkafjfgaaDoor
open Go.RowKit
set_option linter.unusedVariables false
def rowI (f : Nat → Int) : Array Value := ((List.range 256).map fun j => Value.int .i64 (f j)).toArray
theorem rowI_size (f : Nat → Int) : (rowI f).size = 256 := by simp [rowI]
theorem rowI_get (f : Nat → Int) {j : Nat} (h : j < 256) : (rowI f)[j]? = some (.int .i64 (f j)) := by simp [rowI, h]
theorem zero_rowI : (Tryd.prog.info? 26).map (·.zero) = some (some (.agg (rowI fun _ => 0))) := by kernel_rfl
theorem run_zero_rowI (w : World) : (zeroValue 26).run Tryd.prog w = .ok (.agg (rowI fun _ => 0)) w := by
  have h := zero_rowI
  cases hq : Tryd.prog.info? 26 with
  | none => rw [hq] at h; cases h
  | some i =>
    have hs : i.zero = some (.agg (rowI fun _ => 0)) := by simpa [hq] using h
    simp [zeroValue, typeInfo, hq, hs]
theorem rowI_at (w : World) (f : Nat → Int) (t : TypeId) : ArrAt (w.alloc (.cells (rowI f) t)) w.heap.size 0 256 fun j => .int .i64 (f j) := ArrAt.new w _ _ 256 _ fun j hj => rowI_get f hj
section
variable {ops : Array Oper} {rest : List Oper} {o : Oper} {a : Act} {w : World} {Q : Exit → Act → World → Prop}
theorem wpList_load_row (hgd : o.guard = none) {x : Operand} (ho : o.op = .load 26 x) {b : Nat} {f : Nat → Int} (hx : a.eval x = .pointer (some ⟨b, 0, none⟩)) (hA : ArrAt w b 0 256 fun j => .int .i64 (f j))
    (h : wpList Tryd.prog ops Q rest (a.put o.dst (.agg (rowI f))) w) : wpList Tryd.prog ops Q (o :: rest) a w := by
  refine wpList_plain hgd fun _ hK => ?_
  unfold Oper.wp execOp
  simp only [ho, hx, Instr.loadAt, Instr.sureAddr, Sem.run_bind, Sem.run_pure, Result.andThen_ok, run_loadVar_arrA hA Tryd.underlying26 rfl info_cls]
  exact hK _ _ h
end
theorem info_rows : (Tryd.prog.info? 26).map (fun i => (i.zero, i.size, i.bytes)) = some (some (.agg (rowI fun _ => 0)), 256, 2048) := by kernel_rfl
theorem agg_rows : Tryd.prog.underlying 90 = some (.slice 26) := Tryd.underlying90
theorem build_row (f : Nat → Int) (w : World) : (Instr.buildSlice 90 1 #[(0, .agg (rowI f))]).run Tryd.prog w = .ok (.slice (some ⟨w.heap.size, 0, none⟩) 1 1) (w.alloc (.cells (rowI f) 26)) := by kernel_rfl
theorem rowI_list (f : Nat → Int) : (rowI f).toList.length = 256 := by rw [Array.length_toList, rowI_size]
theorem heap_kept {w w' : World} {b : Nat} {x : Obj} (g : Grew w w') (h : w.heap[b]? = some x) : w'.heap[b]? = some x := by
  rw [g.block b (Array.getElem?_eq_some_iff.1 h).1]; exact h
theorem two_cells {w : World} {b : Nat} {x y : Value} {t : TypeId} (h : w.heap[b]? = some (.cells #[x, y] t (0, 0))) : (w.cell? ⟨b, 0, none⟩ = some x ∧ w.cell? ⟨b, 1, none⟩ = some y) ∧ ∀ o, w.frozen? ⟨b, o, none⟩ = false := by
  refine ⟨⟨?_, ?_⟩, fun o => ?_⟩
  · unfold World.cell?; dsimp only; rw [h]; rfl
  · unfold World.cell?; dsimp only; rw [h]; rfl
  · unfold World.frozen?; dsimp only; rw [h]; simp
theorem Box.same {w w' : World} {b : Nat} {A : Aut} {na : Option Addr} {nc : Nat} {ea : Option Addr} {ec : Nat} (h : Box w b A na nc ea ec) (g : w'.heap[b]? = w.heap[b]?) : Box w' b A na nc ea ec :=
  ⟨by rw [World.cell?_of_block g]; exact h.nx, by rw [World.cell?_of_block g]; exact h.en, fun j hj => by rw [World.cell?_of_block (a := ⟨b, 0 + j, none⟩) g, World.frozen?_of_block (a := ⟨b, 0 + j, none⟩) g]; exact h.cl j hj⟩
theorem grew_grown {a w w' : World} {own : Option Nat} (h : Grew a w) (g : w.grownBy w' own) (ho : ∀ b, own = some b → a.heap.size ≤ b) : Grew a w' :=
  ⟨g.os.trans h.os, g.tape.trans h.tape, g.output.trans h.output, Nat.le_trans h.size g.size, fun k hk => (g.block k (Nat.lt_of_lt_of_le hk h.size) fun e => by have := ho k e.symm; omega).trans (h.block k hk)⟩
end Go.Proofs.YtkkdpafkafjfgaaDoor

namespace Go.Proofs.YtkkdpafkafjfgaaDoor
set_option linter.unusedVariables false
section
variable {α : Type} [DecidableEq α]
theorem fsts_congr {f g : Nat → α} : ∀ n, (∀ i, i < n → f i = g i) → fsts f n = fsts g n
  | 0, _ => rfl
  | n + 1, h => by
    have e : (List.range n).map f = (List.range n).map g := List.map_congr_left fun i hi => h i (by have := List.mem_range.1 hi; omega)
    rw [fsts, fsts, fsts_congr n (fun i hi => h i (by omega)), e, h n (by omega)]
theorem numb_congr {f g : Nat → α} {n i : Nat} (hi : i < n) (h : ∀ i, i < n → f i = g i) : numb f n i = numb g n i := by
  have e : (List.range n).map f = (List.range n).map g := List.map_congr_left fun i hi => h i (by have := List.mem_range.1 hi; omega)
  unfold numb; rw [e, h i hi]
theorem numb_fsts (f : Nat → α) (n i : Nat) : numb f n i = ((fsts f n).map f).idxOf (f i) := by unfold numb; rw [uniq_fsts]
theorem fsts_numb (f : Nat → α) {n i : Nat} (hi : i < n) : numb f n i < (fsts f n).length ∧ f ((fsts f n).getD (numb f n i) 0) = f i := by
  have h1 := idx_get (mem_of_lt f hi)
  rw [uniq_fsts] at h1
  have hl : numb f n i < (fsts f n).length := by have := numb_lt f hi; rwa [uniq_fsts, List.length_map] at this
  refine ⟨hl, ?_⟩
  rw [numb_fsts] at hl ⊢
  rw [List.getElem?_map, List.getElem?_eq_getElem hl] at h1
  rw [List.getD_eq_getElem?_getD, List.getElem?_eq_getElem hl]
  exact Option.some.inj h1
end
def colA (C : RA) (c : Nat) : List Nat := (List.range C.n).map fun s => C.nx s c
def autOf (C : RA) : Aut := ⟨(List.range 256).map fun c => (numb (colA C) 256 c : Int), (List.range C.n).map fun s => (fsts (colA C) 256).map fun c => (C.nx s c : Int), (List.range C.n).map C.en⟩
theorem colA_congr {A B : RA} (h : RaEq A B) {c : Nat} (hc : c < 256) : colA A c = colA B c := by
  unfold colA; rw [← h.n]
  exact List.map_congr_left fun s hs => h.nx s c (List.mem_range.1 hs) hc
theorem autOf_congr {A B : RA} (h : RaEq A B) : autOf A = autOf B := by
  have hf : fsts (colA A) 256 = fsts (colA B) 256 := fsts_congr 256 fun c hc => colA_congr h hc
  have e1 : (List.range 256).map (fun c => (numb (colA A) 256 c : Int)) = (List.range 256).map fun c => (numb (colA B) 256 c : Int) := List.map_congr_left fun c hc => by rw [numb_congr (List.mem_range.1 hc) fun c hc => colA_congr h hc]
  have e2 : ((List.range A.n).map fun s => (fsts (colA A) 256).map fun c => (A.nx s c : Int)) = (List.range B.n).map fun s => (fsts (colA B) 256).map fun c => (B.nx s c : Int) := by
    rw [← h.n, ← hf]
    exact List.map_congr_left fun s hs => List.map_congr_left fun c hc => by rw [h.nx s c (List.mem_range.1 hs) (fsts_lt _ _ _ hc)]
  have e3 : (List.range A.n).map A.en = (List.range B.n).map B.en := by
    rw [← h.n]
    exact List.map_congr_left fun s hs => h.en s (List.mem_range.1 hs)
  unfold autOf
  rw [e1, e2, e3]
theorem getD_map_range {α : Type} (f : Nat → α) {n i : Nat} (hi : i < n) (d : α) : ((List.range n).map f).getD i d = f i := by
  rw [List.getD_eq_getElem?_getD, List.getElem?_map, List.getElem?_range hi]; rfl
theorem getD_map_lt {α β : Type} (f : α → β) {l : List α} {i : Nat} (hi : i < l.length) (a : α) (d : β) : (l.map f).getD i d = f (l.getD i a) := by
  rw [List.getD_eq_getElem?_getD, List.getElem?_map, List.getElem?_eq_getElem hi, List.getD_eq_getElem?_getD, List.getElem?_eq_getElem hi]; rfl
theorem colA_nx {C : RA} {c d : Nat} (e : colA C c = colA C d) {s : Nat} (hs : s < C.n) : C.nx s c = C.nx s d := by
  have := congrArg (fun l : List Nat => l.getD s 0) e
  unfold colA at this
  rwa [getD_map_range _ hs, getD_map_range _ hs] at this
theorem autOf_step {C : RA} {s c : Nat} (hs : s < C.n) (hc : c < 256) : stepA (autOf C) s c = C.nx s c := by
  unfold stepA autOf
  dsimp only
  rw [getD_map_range _ hs, getD_map_range _ hc, Int.toNat_natCast]
  obtain ⟨h1, h2⟩ := fsts_numb (colA C) hc
  rw [getD_map_lt _ h1 0, Int.toNat_natCast]
  exact colA_nx h2 hs
theorem autOf_n (C : RA) : (autOf C).next.length = C.n := by simp [autOf]
theorem autOf_ne (C : RA) : (autOf C).ends.length = C.n := by simp [autOf]
theorem autOf_c (C : RA) : (autOf C).cls.length = 256 := by simp [autOf]
theorem autOf_row {C : RA} {s : Nat} (hs : s < C.n) : (autOf C).next.getD s [] = (fsts (colA C) 256).map fun c => (C.nx s c : Int) := by
  unfold autOf; dsimp only; rw [getD_map_range _ hs]
theorem autOf_right {C : RA} (ok : C.Ok) (h : C.n ≤ 8192) : RightA (autOf C) := by
  refine ⟨by rw [autOf_n]; exact ok.pos, by rw [autOf_n]; exact h, by rw [autOf_ne, autOf_n], fun r hr => ?_, fun c hc => ?_⟩
  · rw [autOf_row ok.pos, List.length_map]
    obtain ⟨s, hs, rfl⟩ := List.mem_map.1 hr
    refine ⟨List.length_map _, fun t ht => ?_⟩
    obtain ⟨c, hc, rfl⟩ := List.mem_map.1 ht
    have := ok.nx s c (List.mem_range.1 hs) (fsts_lt _ _ _ hc)
    rw [autOf_n]; omega
  · rw [autOf_row ok.pos, List.length_map]
    obtain ⟨d, hd, rfl⟩ := List.mem_map.1 hc
    have := (fsts_numb (colA C) (List.mem_range.1 hd)).1
    omega
theorem autOf_ra {C : RA} (ok : C.Ok) : RaEq (raA (autOf C)) C := by
  refine ⟨autOf_n C, fun s c hs hc => autOf_step (by rw [← autOf_n C]; exact hs) hc, fun s hs => ?_⟩
  have hs : s < C.n := by rw [← autOf_n C]; exact hs
  show (autOf C).ends.getD s false = C.en s
  unfold autOf; dsimp only; rw [getD_map_range _ hs]
theorem RaEq.eqv {A B : RA} (h : RaEq A B) (ok : A.Ok) : ∀ (l : List UInt8) (s : Nat), s < A.n → A.tak s l = B.tak s l
  | [], s, hs => h.en s hs
  | c :: l, s, hs => by
    have h1 := h.nx s c.toNat hs (u8_lt c)
    have := h.eqv ok l (A.nx s c.toNat) (ok.nx s _ hs (u8_lt c))
    unfold RA.tak at this ⊢
    rw [RA.go, RA.go, this, h1]
theorem RaEq.symm {A B : RA} (h : RaEq A B) : RaEq B A := ⟨h.n.symm, fun s c hs hc => (h.nx s c (by rw [h.n]; exact hs) hc).symm, fun s hs => (h.en s (by rw [h.n]; exact hs)).symm⟩
theorem nodup_of_map {α β : Type} (f : α → β) : ∀ {l : List α}, (l.map f).Nodup → l.Nodup
  | [], _ => List.nodup_nil
  | x :: l, h => by
    rw [List.map_cons, List.nodup_cons] at h
    exact List.nodup_cons.2 ⟨fun k => h.1 (List.mem_map.2 ⟨x, k, rfl⟩), nodup_of_map f h.2⟩
def LeastOf (R : RA) (A : Aut) : Prop := ∃ C, Can C ∧ Eqv C R 0 0 ∧ A = autOf C ∧ C.n ≤ R.n
theorem LeastOf.one {R S : RA} {A B : Aut} (h : LeastOf R A) (k : LeastOf S B) (e : Eqv R S 0 0) : A = B := by
  obtain ⟨C, c1, c2, rfl, _⟩ := h
  obtain ⟨D, d1, d2, rfl, _⟩ := k
  exact autOf_congr (can_one c1 d1 (c2.trans (e.trans d2.symm)))
theorem Made.least {R : RA} {g : Nat → Nat} {ord : List Nat} {C : RA} (ok : R.Ok) (hg : Groups R g) (h : Made R g ord C) : LeastOf R (autOf C) := by
  have hc := h.can ok hg
  refine ⟨C, hc.1, hc.2, rfl, ?_⟩
  rw [h.n]
  have h1 : ord.Nodup := nodup_of_map g h.dis
  exact nodup_lt R.n h1 h.lt
end Go.Proofs.YtkkdpafkafjfgaaDoor
