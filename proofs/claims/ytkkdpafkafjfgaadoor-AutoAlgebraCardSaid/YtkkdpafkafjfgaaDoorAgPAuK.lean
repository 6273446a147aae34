/- What 'explore' comes to: things in the order of coming, each once, and where each leads. Plain. -/
import Derived.Test.YtkkdpafkafjfgaaDoorAgPAuS
import Derived.Test.YtkkdpafkafjfgaaDoorAgPAuY
namespace Go.Proofs.YtkkdpafkafjfgaaDoor
set_option linter.unusedVariables false
set_option linter.unusedSectionVars false
section
variable {α : Type} [DecidableEq α]
structure Exp (first : α) (st : α → Nat → α) (D : α → Prop) (ks : List α) (rows : List (Nat → Nat)) (i c : Nat) (row : Nat → Nat) : Prop where
  head : ks.getD 0 first = first ∧ 0 < ks.length
  dis : ks.Nodup
  dom : ∀ x ∈ ks, D x
  len : rows.length = i
  old : ∀ s, s < i → ∀ d, d < 256 → st (ks.getD s first) d ∈ ks ∧ (rows.getD s fun _ => 0) d = ks.idxOf (st (ks.getD s first) d)
  new : ∀ d, d < c → st (ks.getD i first) d ∈ ks ∧ row d = ks.idxOf (st (ks.getD i first) d)
  le : i ≤ ks.length
variable {first : α} {st : α → Nat → α} {D : α → Prop} {ks : List α} {rows : List (Nat → Nat)} {i c : Nat} {row : Nat → Nat}
theorem Exp.start (h : D first) : Exp first st D [first] [] 0 0 (fun _ => 0) :=
  ⟨⟨rfl, by simp⟩, by simp, fun x hx => by rw [List.mem_singleton] at hx; rw [hx]; exact h, rfl, fun s hs => by omega, fun d hd => by omega, by simp⟩
theorem getD_lt_mem {l : List α} {k : Nat} {d : α} (h : k < l.length) : l.getD k d ∈ l := by
  rw [List.getD_eq_getElem?_getD, List.getElem?_eq_getElem h]; exact List.getElem_mem h
theorem getD_app_lt {l r : List α} {k : Nat} {d : α} (h : k < l.length) : (l ++ r).getD k d = l.getD k d := by
  rw [List.getD_eq_getElem?_getD, List.getD_eq_getElem?_getD, List.getElem?_append_left h]
theorem Exp.seen (h : Exp first st D ks rows i c row) (hm : st (ks.getD i first) c ∈ ks) : Exp first st D ks rows i (c + 1) (fun d => if d = c then ks.idxOf (st (ks.getD i first) c) else row d) := by
  refine ⟨h.head, h.dis, h.dom, h.len, h.old, fun d hd => ?_, h.le⟩
  by_cases e : d = c
  · subst e; rw [if_pos rfl]; exact ⟨hm, rfl⟩
  · rw [if_neg e]; exact h.new d (by omega)
theorem Exp.fresh (h : Exp first st D ks rows i c row) (hi : i < ks.length) (hd : D (st (ks.getD i first) c)) (hm : st (ks.getD i first) c ∉ ks) :
    Exp first st D (ks ++ [st (ks.getD i first) c]) rows i (c + 1) (fun d => if d = c then ks.length else row d) := by
  have hl : ∀ {y : α}, y ∈ ks → y ∈ ks ++ [st (ks.getD i first) c] := fun hy => List.mem_append_left _ hy
  refine ⟨⟨by rw [getD_app_lt h.head.2]; exact h.head.1, by rw [List.length_append]; have := h.head.2; omega⟩, nodup_snoc h.dis hm, fun x hx => ?_, h.len, fun s hs d hd2 => ?_, fun d hd2 => ?_, by rw [List.length_append]; have := h.le; omega⟩
  · rcases List.mem_append.1 hx with hx | hx
    · exact h.dom x hx
    · rw [List.mem_singleton] at hx; rw [hx]; exact hd
  · have := h.old s hs d hd2
    rw [getD_app_lt (by omega), idx_pre this.1]
    exact ⟨hl this.1, this.2⟩
  · rw [getD_app_lt hi]
    by_cases e : d = c
    · subst e; rw [if_pos rfl, idx_new hm]; exact ⟨by simp, rfl⟩
    · have := h.new d (by omega)
      rw [if_neg e, idx_pre this.1]
      exact ⟨hl this.1, this.2⟩
theorem Exp.rowed (h : Exp first st D ks rows i 256 row) (hi : i < ks.length) : Exp first st D ks (rows ++ [row]) (i + 1) 0 (fun _ => 0) := by
  refine ⟨h.head, h.dis, h.dom, by rw [List.length_append, h.len]; rfl, fun s hs d hd => ?_, fun d hd => by omega, by omega⟩
  by_cases e : s < i
  · rw [List.getD_eq_getElem?_getD (l := rows ++ [row]), List.getElem?_append_left (by rw [h.len]; exact e), ← List.getD_eq_getElem?_getD]
    exact h.old s e d hd
  · have : s = i := by omega
    subst this
    rw [List.getD_eq_getElem?_getD (l := rows ++ [row]), List.getElem?_append_right (by rw [h.len]; exact Nat.le_refl _), h.len, Nat.sub_self]
    exact h.new d hd
theorem Exp.congr (h : Exp first st D ks rows i c row) {r : Nat → Nat} (e : ∀ d, d < c → r d = row d) : Exp first st D ks rows i c r := ⟨h.head, h.dis, h.dom, h.len, h.old, fun d hd => by rw [e d hd]; exact h.new d hd, h.le⟩
def expA (en : α → Bool) (first : α) (ks : List α) (rows : List (Nat → Nat)) : RA := ⟨ks.length, fun s c => (rows.getD s fun _ => 0) c, fun s => en (ks.getD s first)⟩
theorem Exp.ok (h : Exp first st D ks rows ks.length c row) (en : α → Bool) : (expA en first ks rows).Ok :=
  ⟨h.head.2, fun s d hs hd => by obtain ⟨h1, h2⟩ := h.old s hs d hd; show (rows.getD s fun _ => 0) d < ks.length; rw [h2]; exact idx_lt h1⟩
def goS (st : α → Nat → α) (x : α) : List UInt8 → α
  | [] => x
  | c :: l => goS st (st x c.toNat) l
theorem Exp.tak (h : Exp first st D ks rows ks.length c row) (en : α → Bool) : ∀ (l : List UInt8) (s : Nat), s < ks.length → (expA en first ks rows).tak s l = en (goS st (ks.getD s first) l)
  | [], s, hs => rfl
  | d :: l, s, hs => by
    obtain ⟨h1, h2⟩ := h.old s hs d.toNat (u8_lt d)
    have h3 := idx_lt h1
    have := h.tak en l ((expA en first ks rows).nx s d.toNat) (by show (rows.getD s fun _ => 0) _ < _; rw [h2]; exact h3)
    unfold RA.tak at this ⊢
    rw [RA.go, this, goS]
    congr 2
    show ks.getD ((rows.getD s fun _ => 0) d.toNat) first = _
    rw [h2, List.getD_eq_getElem?_getD, idx_get h1]
    rfl
theorem Exp.lang (h : Exp first st D ks rows ks.length c row) (en : α → Bool) (l : List UInt8) : (expA en first ks rows).tak 0 l = en (goS st first l) := by rw [h.tak en l 0 h.head.2, h.head.1]
end
end Go.Proofs.YtkkdpafkafjfgaaDoor

namespace Go.Proofs.YtkkdpafkafjfgaaDoor
open Go.RowKit
set_option linter.unusedVariables false
theorem run_loadVar_off {w : World} {b o n : Nat} {f : Nat → Value} (h : ∀ j, j < n → w.cell? ⟨b, o + j, none⟩ = some (f j)) {ty : TypeId} {d : TypeDesc} (hu : Tryd.prog.underlying ty = some d) (hd : aggAu d = true) (hi : (Tryd.prog.info? ty).map (·.size) = some n) :
    (loadVar ty ⟨b, o, none⟩).run Tryd.prog w = .ok (.agg ((List.range n).map f).toArray) w := by
  have hl := run_loadCells (P := Tryd.prog) w ⟨b, o, none⟩ n f (fun j hj => by rw [addr_addV]; exact h j hj)
  have hagg := run_isAgg hu w
  rw [hd] at hagg
  simp [loadVar, Sem.run_bind, hagg, size_of hi, hl]
theorem run_storeCells_arrA (b : Nat) : ∀ (l : List Value) (i : Nat) (w : World), (∀ j, j < l.length → (w.cell? ⟨b, i + j, none⟩).isSome ∧ w.frozen? ⟨b, i + j, none⟩ = false) → (∀ v ∈ l, v.oneCell' = true) →
    ∃ w', (storeCells ⟨b, 0, none⟩ l i).run Tryd.prog w = .ok () w' ∧ (∀ j, j < l.length → w'.cell? ⟨b, i + j, none⟩ = l[j]?) ∧ (∀ q, w'.frozen? q = w.frozen? q) ∧ (∀ o, o < i → w'.cell? ⟨b, o, none⟩ = w.cell? ⟨b, o, none⟩) ∧ Below b w w'
  | [], i, w, _, _ => ⟨w, rfl, fun j hj => by simp at hj, fun _ => rfl, fun _ _ => rfl, Below.refl _ _⟩
  | v :: l, i, w, h, hv => by
    obtain ⟨h0, h1⟩ := h 0 (by simp)
    rw [Nat.add_zero] at h0 h1
    obtain ⟨u, hu⟩ := Option.isSome_iff_exists.1 h0
    obtain ⟨w', k1, k2, k3, k4, k5⟩ := run_storeCells_arrA b l (i + 1) (w.setCell ⟨b, i, none⟩ v) (fun j hj => by
      obtain ⟨c1, c2⟩ := h (j + 1) (by simpa using hj)
      rw [show i + (j + 1) = i + 1 + j by omega] at c1 c2
      refine ⟨by rw [setCell_cell_other _ _ _ _ (.inr (by simp; omega))]; exact c1, by rw [setCell_frozen]; exact c2⟩) (fun x hx => hv x (by simp [hx]))
    refine ⟨w', ?_, fun j hj => ?_, fun q => by rw [k3, setCell_frozen], fun o ho => by rw [k4 o (by omega), setCell_cell_other _ _ _ _ (.inr (by simp; omega))], Below.trans (Below.setCell' (by simp) v) k5⟩
    · unfold storeCells
      rw [addr_addV, Nat.zero_add, Sem.run_bind, run_store _ _ _ _ _ (hv v (by simp)), hu]
      simp only [h1, Bool.false_eq_true, if_false, Result.andThen]
      exact k1
    · cases j with
      | zero => rw [Nat.add_zero, k4 i (by omega), setCell_cell_same rfl hu]; rfl
      | succ j => rw [show i + (j + 1) = i + 1 + j by omega, k2 j (by simpa using hj)]; rfl
theorem run_storeVar_arrA {w : World} {b n : Nat} {f0 f : Nat → Value} (h : ArrAt w b 0 n f0) {ty : TypeId} (hi : (Tryd.prog.info? ty).map (·.size) = some n) (h1 : ∀ j, j < n → (f j).oneCell' = true) :
    ∃ w', (storeVar ty ⟨b, 0, none⟩ (.agg (((List.range n).map f).toArray))).run Tryd.prog w = .ok () w' ∧ ArrAt w' b 0 n f ∧ Below b w w' := by
  obtain ⟨w', k1, k2, k3, _, k5⟩ := run_storeCells_arrA b ((List.range n).map f) 0 w (fun j hj => by
    have := h j (by simpa using hj)
    rw [this.1]; exact ⟨rfl, this.2⟩) (fun v hv => by
    obtain ⟨j, hj, rfl⟩ := List.mem_map.1 hv
    exact h1 j (List.mem_range.1 hj))
  refine ⟨w', ?_, fun j hj => ⟨?_, by rw [k3]; exact (h j hj).2⟩, k5⟩
  · cases hq : Tryd.prog.info? ty with
    | none => rw [hq] at hi; cases hi
    | some i =>
      have hs : i.size = n := by simpa [hq] using hi
      simp [storeVar, Sem.run_bind, sizeOf, typeInfo, hq, hs, Value.cells, k1]
  · rw [k2 j (by simpa using hj)]; simp [hj]
section
variable {ops : Array Oper} {rest : List Oper} {o : Oper} {a : Act} {w : World} {Q : Exit → Act → World → Prop}
theorem wpList_load_off (hgd : o.guard = none) {x : Operand} (ho : o.op = .load 26 x) {b k : Nat} {f : Nat → Int} (hx : a.eval x = .pointer (some ⟨b, k, none⟩)) (hA : ∀ j, j < 256 → w.cell? ⟨b, k + j, none⟩ = some (.int .i64 (f j)))
    (h : wpList Tryd.prog ops Q rest (a.put o.dst (.agg (rowI f))) w) : wpList Tryd.prog ops Q (o :: rest) a w := by
  refine wpList_plain hgd fun _ hK => ?_
  have hl := run_loadVar_off (f := fun j => .int .i64 (f j)) hA Tryd.underlying26 rfl info_cls
  unfold Oper.wp execOp
  simp only [ho, hx, Instr.loadAt, Instr.sureAddr, Sem.run_bind, Sem.run_pure, Result.andThen_ok, hl]
  exact hK _ _ h
theorem wpList_store_row (hgd : o.guard = none) {x y : Operand} (ho : o.op = .store 26 x y) {b : Nat} {f0 f : Nat → Int} (hx : a.eval x = .pointer (some ⟨b, 0, none⟩)) (hy : a.eval y = .agg (rowI f)) (hA : ArrAt w b 0 256 fun j => .int .i64 (f0 j))
    (h : ∀ w', (ArrAt w' b 0 256 fun j => .int .i64 (f j)) → Below b w w' → wpList Tryd.prog ops Q rest (a.put o.dst undef) w') : wpList Tryd.prog ops Q (o :: rest) a w := by
  refine wpList_plain hgd fun _ hK => ?_
  obtain ⟨w', k1, k2, k3⟩ := run_storeVar_arrA (f := fun j => .int .i64 (f j)) hA info_cls (fun j _ => rfl)
  have k1' : (storeVar 26 ⟨b, 0, none⟩ (.agg (rowI f))).run Tryd.prog w = .ok () w' := k1
  unfold Oper.wp execOp
  simp only [ho, hx, hy, Instr.storeAt, Instr.sureAddr, Sem.run_bind, Sem.run_pure, Result.andThen_ok, k1']
  exact hK _ _ (h w' k2 k3)
end
end Go.Proofs.YtkkdpafkafjfgaaDoor
