/- Slices that a call itself has made by append, elements of one cell: what an append leaves of them. No condition but the append's own bound on bytes. -/
import Derived.Test.YtkkdpafkafjfgaaDoorAlArr
import Derived.Deep.DeepAppendWide
import Derived.Test.YtkkdpafkafjfgaaDoorAlAuW
import Derived.Test.YtkkdpafkafjfgaaDoorAlQue
import Derived.Test.YtkkdpafkafjfgaaDoorAlPAuS
namespace Go.Proofs.YtkkdpafkafjfgaaDoor
open Go.RowKit
set_option linter.unusedVariables false
section
variable {P : Program} (w : World)
end
theorem wpList_append_eq {ops : Array Oper} {rest : List Oper} {o : Oper} {a : Act} {Q : Exit → Act → World → Prop} {w w' : World} (hgd : o.guard = none) {s x : Operand} {t t2 : TypeId}
    (ho : o.op = .call { callee := .builtin .append, args := #[s, x], argTypes := #[t, t2] }) {v u v' : Value} (hs : a.eval s = v) (hx : a.eval x = u)
    (hr : (Builtin.append_ #[t, t2] o.type #[v, u]).run Tryd.prog w = .ok v' w') (h : wpList Tryd.prog ops Q rest (a.put o.dst v') w') : wpList Tryd.prog ops Q (o :: rest) a w := by
  refine wpList_plain hgd fun _ hK => ?_
  unfold Oper.wp execOp
  simp only [ho, resolve, invoke, builtin, Sem.run_bind, Sem.run_pure, Result.andThen_ok, List.map_toArray, List.map_cons, List.map_nil, hs, hx, hr]
  exact hK _ _ h
end Go.Proofs.YtkkdpafkafjfgaaDoor

namespace Go.Proofs.YtkkdpafkafjfgaaDoor
open Go.RowKit
set_option linter.unusedVariables false
def rowI (f : Nat → Int) : Array Value := ((List.range 256).map fun j => Value.int .i64 (f j)).toArray
theorem rowI_size (f : Nat → Int) : (rowI f).size = 256 := by simp [rowI]
theorem rowI_get (f : Nat → Int) {j : Nat} (h : j < 256) : (rowI f)[j]? = some (.int .i64 (f j)) := by simp [rowI, h]
theorem zero_rowI : (Tryd.prog.info? 26).map (·.zero) = some (some (.agg (rowI fun _ => 0))) := by kernel_rfl
theorem run_zero_rowI (w : World) : (zeroValue 26).run Tryd.prog w = .ok (.agg (rowI fun _ => 0)) w := by
  have h := zero_rowI
  cases hq : Tryd.prog.info? 26 with
  | none => rw [hq] at h; cases h
  | some i =>
    have hs : i.zero = some (.agg (rowI fun _ => 0)) := by simpa [hq] using h
    simp [zeroValue, typeInfo, hq, hs]
theorem rowI_at (w : World) (f : Nat → Int) (t : TypeId) : ArrAt (w.alloc (.cells (rowI f) t)) w.heap.size 0 256 fun j => .int .i64 (f j) := ArrAt.new w _ _ 256 _ fun j hj => rowI_get f hj
section
variable {ops : Array Oper} {rest : List Oper} {o : Oper} {a : Act} {w : World} {Q : Exit → Act → World → Prop}
theorem wpList_load_row (hgd : o.guard = none) {x : Operand} (ho : o.op = .load 26 x) {b : Nat} {f : Nat → Int} (hx : a.eval x = .pointer (some ⟨b, 0, none⟩)) (hA : ArrAt w b 0 256 fun j => .int .i64 (f j))
    (h : wpList Tryd.prog ops Q rest (a.put o.dst (.agg (rowI f))) w) : wpList Tryd.prog ops Q (o :: rest) a w := by
  refine wpList_plain hgd fun _ hK => ?_
  unfold Oper.wp execOp
  simp only [ho, hx, Instr.loadAt, Instr.sureAddr, Sem.run_bind, Sem.run_pure, Result.andThen_ok, run_loadVar_arrA hA Tryd.underlying26 rfl info_cls]
  exact hK _ _ h
end
theorem info_rows : (Tryd.prog.info? 26).map (fun i => (i.zero, i.size, i.bytes)) = some (some (.agg (rowI fun _ => 0)), 256, 2048) := by kernel_rfl
theorem agg_rows : Tryd.prog.underlying 90 = some (.slice 26) := Tryd.underlying90
theorem build_row (f : Nat → Int) (w : World) : (Instr.buildSlice 90 1 #[(0, .agg (rowI f))]).run Tryd.prog w = .ok (.slice (some ⟨w.heap.size, 0, none⟩) 1 1) (w.alloc (.cells (rowI f) 26)) := by kernel_rfl
theorem rowI_list (f : Nat → Int) : (rowI f).toList.length = 256 := by rw [Array.length_toList, rowI_size]
theorem heap_kept {w w' : World} {b : Nat} {x : Obj} (g : Grew w w') (h : w.heap[b]? = some x) : w'.heap[b]? = some x := by
  rw [g.block b (Array.getElem?_eq_some_iff.1 h).1]; exact h
theorem two_cells {w : World} {b : Nat} {x y : Value} {t : TypeId} (h : w.heap[b]? = some (.cells #[x, y] t (0, 0))) : (w.cell? ⟨b, 0, none⟩ = some x ∧ w.cell? ⟨b, 1, none⟩ = some y) ∧ ∀ o, w.frozen? ⟨b, o, none⟩ = false := by
  refine ⟨⟨?_, ?_⟩, fun o => ?_⟩
  · unfold World.cell?; dsimp only; rw [h]; rfl
  · unfold World.cell?; dsimp only; rw [h]; rfl
  · unfold World.frozen?; dsimp only; rw [h]; simp
theorem Box.same {w w' : World} {b : Nat} {A : Aut} {na : Option Addr} {nc : Nat} {ea : Option Addr} {ec : Nat} (h : Box w b A na nc ea ec) (g : w'.heap[b]? = w.heap[b]?) : Box w' b A na nc ea ec :=
  ⟨by rw [World.cell?_of_block g]; exact h.nx, by rw [World.cell?_of_block g]; exact h.en, fun j hj => by rw [World.cell?_of_block (a := ⟨b, 0 + j, none⟩) g, World.frozen?_of_block (a := ⟨b, 0 + j, none⟩) g]; exact h.cl j hj⟩
theorem grew_grown {a w w' : World} {own : Option Nat} (h : Grew a w) (g : w.grownBy w' own) (ho : ∀ b, own = some b → a.heap.size ≤ b) : Grew a w' :=
  ⟨g.os.trans h.os, g.tape.trans h.tape, g.output.trans h.output, Nat.le_trans h.size g.size, fun k hk => (g.block k (Nat.lt_of_lt_of_le hk h.size) fun e => by have := ho k e.symm; omega).trans (h.block k hk)⟩
end Go.Proofs.YtkkdpafkafjfgaaDoor

namespace Go.Proofs.YtkkdpafkafjfgaaDoor
set_option linter.unusedVariables false
set_option linter.unusedSectionVars false
section
variable {α : Type} [DecidableEq α]
structure Exp (first : α) (st : α → Nat → α) (D : α → Prop) (ks : List α) (rows : List (Nat → Nat)) (i c : Nat) (row : Nat → Nat) : Prop where
  head : ks.getD 0 first = first ∧ 0 < ks.length
  dis : ks.Nodup
  dom : ∀ x ∈ ks, D x
  len : rows.length = i
  old : ∀ s, s < i → ∀ d, d < 256 → st (ks.getD s first) d ∈ ks ∧ (rows.getD s fun _ => 0) d = ks.idxOf (st (ks.getD s first) d)
  new : ∀ d, d < c → st (ks.getD i first) d ∈ ks ∧ row d = ks.idxOf (st (ks.getD i first) d)
  le : i ≤ ks.length
variable {first : α} {st : α → Nat → α} {D : α → Prop} {ks : List α} {rows : List (Nat → Nat)} {i c : Nat} {row : Nat → Nat}
theorem Exp.start (h : D first) : Exp first st D [first] [] 0 0 (fun _ => 0) :=
  ⟨⟨rfl, by simp⟩, by simp, fun x hx => by rw [List.mem_singleton] at hx; rw [hx]; exact h, rfl, fun s hs => by omega, fun d hd => by omega, by simp⟩
theorem getD_lt_mem {l : List α} {k : Nat} {d : α} (h : k < l.length) : l.getD k d ∈ l := by
  rw [List.getD_eq_getElem?_getD, List.getElem?_eq_getElem h]; exact List.getElem_mem h
theorem getD_app_lt {l r : List α} {k : Nat} {d : α} (h : k < l.length) : (l ++ r).getD k d = l.getD k d := by
  rw [List.getD_eq_getElem?_getD, List.getD_eq_getElem?_getD, List.getElem?_append_left h]
theorem Exp.seen (h : Exp first st D ks rows i c row) (hm : st (ks.getD i first) c ∈ ks) : Exp first st D ks rows i (c + 1) (fun d => if d = c then ks.idxOf (st (ks.getD i first) c) else row d) := by
  refine ⟨h.head, h.dis, h.dom, h.len, h.old, fun d hd => ?_, h.le⟩
  by_cases e : d = c
  · subst e; rw [if_pos rfl]; exact ⟨hm, rfl⟩
  · rw [if_neg e]; exact h.new d (by omega)
theorem Exp.fresh (h : Exp first st D ks rows i c row) (hi : i < ks.length) (hd : D (st (ks.getD i first) c)) (hm : st (ks.getD i first) c ∉ ks) :
    Exp first st D (ks ++ [st (ks.getD i first) c]) rows i (c + 1) (fun d => if d = c then ks.length else row d) := by
  have hl : ∀ {y : α}, y ∈ ks → y ∈ ks ++ [st (ks.getD i first) c] := fun hy => List.mem_append_left _ hy
  refine ⟨⟨by rw [getD_app_lt h.head.2]; exact h.head.1, by rw [List.length_append]; have := h.head.2; omega⟩, nodup_snoc h.dis hm, fun x hx => ?_, h.len, fun s hs d hd2 => ?_, fun d hd2 => ?_, by rw [List.length_append]; have := h.le; omega⟩
  · rcases List.mem_append.1 hx with hx | hx
    · exact h.dom x hx
    · rw [List.mem_singleton] at hx; rw [hx]; exact hd
  · have := h.old s hs d hd2
    rw [getD_app_lt (by omega), idx_pre this.1]
    exact ⟨hl this.1, this.2⟩
  · rw [getD_app_lt hi]
    by_cases e : d = c
    · subst e; rw [if_pos rfl, idx_new hm]; exact ⟨by simp, rfl⟩
    · have := h.new d (by omega)
      rw [if_neg e, idx_pre this.1]
      exact ⟨hl this.1, this.2⟩
theorem Exp.rowed (h : Exp first st D ks rows i 256 row) (hi : i < ks.length) : Exp first st D ks (rows ++ [row]) (i + 1) 0 (fun _ => 0) := by
  refine ⟨h.head, h.dis, h.dom, by rw [List.length_append, h.len]; rfl, fun s hs d hd => ?_, fun d hd => by omega, by omega⟩
  by_cases e : s < i
  · rw [List.getD_eq_getElem?_getD (l := rows ++ [row]), List.getElem?_append_left (by rw [h.len]; exact e), ← List.getD_eq_getElem?_getD]
    exact h.old s e d hd
  · have : s = i := by omega
    subst this
    rw [List.getD_eq_getElem?_getD (l := rows ++ [row]), List.getElem?_append_right (by rw [h.len]; exact Nat.le_refl _), h.len, Nat.sub_self]
    exact h.new d hd
theorem Exp.congr (h : Exp first st D ks rows i c row) {r : Nat → Nat} (e : ∀ d, d < c → r d = row d) : Exp first st D ks rows i c r := ⟨h.head, h.dis, h.dom, h.len, h.old, fun d hd => by rw [e d hd]; exact h.new d hd, h.le⟩
def expA (en : α → Bool) (first : α) (ks : List α) (rows : List (Nat → Nat)) : RA := ⟨ks.length, fun s c => (rows.getD s fun _ => 0) c, fun s => en (ks.getD s first)⟩
theorem Exp.ok (h : Exp first st D ks rows ks.length c row) (en : α → Bool) : (expA en first ks rows).Ok :=
  ⟨h.head.2, fun s d hs hd => by obtain ⟨h1, h2⟩ := h.old s hs d hd; show (rows.getD s fun _ => 0) d < ks.length; rw [h2]; exact idx_lt h1⟩
def goS (st : α → Nat → α) (x : α) : List UInt8 → α
  | [] => x
  | c :: l => goS st (st x c.toNat) l
theorem Exp.tak (h : Exp first st D ks rows ks.length c row) (en : α → Bool) : ∀ (l : List UInt8) (s : Nat), s < ks.length → (expA en first ks rows).tak s l = en (goS st (ks.getD s first) l)
  | [], s, hs => rfl
  | d :: l, s, hs => by
    obtain ⟨h1, h2⟩ := h.old s hs d.toNat (u8_lt d)
    have h3 := idx_lt h1
    have := h.tak en l ((expA en first ks rows).nx s d.toNat) (by show (rows.getD s fun _ => 0) _ < _; rw [h2]; exact h3)
    unfold RA.tak at this ⊢
    rw [RA.go, this, goS]
    congr 2
    show ks.getD ((rows.getD s fun _ => 0) d.toNat) first = _
    rw [h2, List.getD_eq_getElem?_getD, idx_get h1]
    rfl
theorem Exp.lang (h : Exp first st D ks rows ks.length c row) (en : α → Bool) (l : List UInt8) : (expA en first ks rows).tak 0 l = en (goS st first l) := by rw [h.tak en l 0 h.head.2, h.head.1]
end
end Go.Proofs.YtkkdpafkafjfgaaDoor
