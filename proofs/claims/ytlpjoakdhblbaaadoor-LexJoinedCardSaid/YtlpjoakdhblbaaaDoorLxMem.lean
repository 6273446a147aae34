/- Memory of tokens: whole structs out of and into blocks of cells, a result through a cell, rows of tokens. No condition. -/
import Derived.Test.YtlpjoakdhblbaaaDoorLxText
import Derived.Laws.Rows
namespace Go.Proofs.YtlpjoakdhblbaaaDoor
open Go.RowKit
set_option linter.unusedVariables false

structure Beside (a : Nat) (w w' : World) : Prop where
  below : Below a w w'
  size : w'.heap.size = w.heap.size
  block : ∀ k, k ≠ a → w'.heap[k]? = w.heap[k]?
theorem Beside.refl (a : Nat) (w : World) : Beside a w w := ⟨Below.refl _ _, rfl, fun _ _ => rfl⟩
theorem Beside.trans {a : Nat} {u v w : World} (h : Beside a u v) (k : Beside a v w) : Beside a u w := ⟨h.below.trans k.below, k.size.trans h.size, fun j hj => (k.block j hj).trans (h.block j hj)⟩
theorem Beside.set {a : Nat} {w w' : World} (h : Beside a w w') (v : Value) : Beside a w (w'.setCell ⟨a, 0, none⟩ v) :=
  ⟨h.below.trans (Below.setCell' (by simp) v), by rw [← h.size]; simp [World.setCell], fun k hk => by rw [← h.block k hk]; simp only [World.setCell, Array.getElem?_modify]; rw [if_neg (fun e => hk e.symm)]⟩
theorem Beside.cell {a : Nat} {w w' : World} (h : Beside a w w') {p : Addr} (hp : p.block ≠ a) : w'.cell? p = w.cell? p := by unfold World.cell?; rw [h.block _ hp]
theorem Beside.frozen {a : Nat} {w w' : World} (h : Beside a w w') {p : Addr} (hp : p.block ≠ a) : w'.frozen? p = w.frozen? p := by unfold World.frozen?; rw [h.block _ hp]
theorem Beside.arr {a b n : Nat} {w w' : World} {f : Nat → Value} (h : Beside a w w') (hb : b ≠ a) (k : ArrAt w b 0 n f) : ArrAt w' b 0 n f :=
  fun j hj => ⟨by rw [h.cell hb]; exact (k j hj).1, by rw [h.frozen hb]; exact (k j hj).2⟩
theorem plain_addr_add (b o i : Nat) : (⟨b, o, none⟩ : Addr).add i = ⟨b, o + i, none⟩ := by
  unfold Addr.add; split
  · next h0 => subst h0; rfl
  · rfl
/-- n cells. -/
def rowB (n : Nat) (f : Nat → Value) : Array Value := ((List.range n).map f).toArray
theorem rowB_size (n : Nat) (f : Nat → Value) : (rowB n f).size = n := by simp [rowB]
theorem rowB_get {n j : Nat} (f : Nat → Value) (h : j < n) : (rowB n f)[j]? = some (f j) := by simp [rowB, h]
theorem rowB_congr {n : Nat} {f g : Nat → Value} (h : ∀ j, j < n → f j = g j) : rowB n f = rowB n g := by
  unfold rowB; congr 1; exact List.map_congr_left fun j hj => h j (List.mem_range.1 hj)
def aggB (d : TypeDesc) : Bool := match d with | .struct _ | .array _ _ => true | _ => false
theorem run_loadVar_arr {w : World} {b n : Nat} {f : Nat → Value} (h : ArrAt w b 0 n f) {ty : TypeId} {d : TypeDesc} (hu : Tryd.prog.underlying ty = some d) (hd : aggB d = true) (hi : (Tryd.prog.info? ty).map (·.size) = some n) :
    (loadVar ty ⟨b, 0, none⟩).run Tryd.prog w = .ok (.agg (rowB n f)) w := by
  have hl := run_loadCells (P := Tryd.prog) w ⟨b, 0, none⟩ n f (fun j hj => by rw [plain_addr_add]; exact h.at j hj)
  cases hq : Tryd.prog.info? ty with
  | none => rw [hq] at hi; cases hi
  | some i =>
    have hs : i.size = n := by simpa [hq] using hi
    have hagg : (isAgg ty).run Tryd.prog w = .ok true w := by
      unfold isAgg
      rw [Sem.run_bind, run_underlying hu w]
      unfold aggB at hd
      cases d <;> simp_all
    simp [loadVar, Sem.run_bind, hagg, sizeOf, typeInfo, hq, hs, hl, rowB]
theorem run_storeCells_arr (b : Nat) : ∀ (l : List Value) (i : Nat) (w : World), (∀ j, j < l.length → (w.cell? ⟨b, i + j, none⟩).isSome ∧ w.frozen? ⟨b, i + j, none⟩ = false) → (∀ v ∈ l, v.oneCell' = true) →
    ∃ w', (storeCells ⟨b, 0, none⟩ l i).run Tryd.prog w = .ok () w' ∧ (∀ j, j < l.length → w'.cell? ⟨b, i + j, none⟩ = l[j]?) ∧ (∀ q, w'.frozen? q = w.frozen? q) ∧ (∀ o, o < i → w'.cell? ⟨b, o, none⟩ = w.cell? ⟨b, o, none⟩) ∧ Below b w w'
  | [], i, w, _, _ => ⟨w, rfl, fun j hj => by simp at hj, fun _ => rfl, fun _ _ => rfl, Below.refl _ _⟩
  | v :: l, i, w, h, hv => by
    obtain ⟨h0, h1⟩ := h 0 (by simp)
    rw [Nat.add_zero] at h0 h1
    obtain ⟨u, hu⟩ := Option.isSome_iff_exists.1 h0
    obtain ⟨w', k1, k2, k3, k4, k5⟩ := run_storeCells_arr b l (i + 1) (w.setCell ⟨b, i, none⟩ v) (fun j hj => by
      obtain ⟨c1, c2⟩ := h (j + 1) (by simpa using hj)
      rw [show i + (j + 1) = i + 1 + j by omega] at c1 c2
      refine ⟨by rw [setCell_cell_other _ _ _ _ (.inr (by simp; omega))]; exact c1, by rw [setCell_frozen]; exact c2⟩) (fun x hx => hv x (by simp [hx]))
    refine ⟨w', ?_, fun j hj => ?_, fun q => by rw [k3, setCell_frozen], fun o ho => by rw [k4 o (by omega), setCell_cell_other _ _ _ _ (.inr (by simp; omega))], Below.trans (Below.setCell' (by simp) v) k5⟩
    · unfold storeCells
      rw [plain_addr_add, Nat.zero_add, Sem.run_bind, run_store _ _ _ _ _ (hv v (by simp)), hu]
      simp only [h1, Bool.false_eq_true, if_false, Result.andThen]
      exact k1
    · cases j with
      | zero => rw [Nat.add_zero, k4 i (by omega), setCell_cell_same rfl hu]; rfl
      | succ j => rw [show i + (j + 1) = i + 1 + j by omega, k2 j (by simpa using hj)]; rfl
theorem run_storeVar_arr {w : World} {b n : Nat} {f0 f : Nat → Value} (h : ArrAt w b 0 n f0) {ty : TypeId} (hi : (Tryd.prog.info? ty).map (·.size) = some n) (h1 : ∀ j, j < n → (f j).oneCell' = true) :
    ∃ w', (storeVar ty ⟨b, 0, none⟩ (.agg (rowB n f))).run Tryd.prog w = .ok () w' ∧ ArrAt w' b 0 n f ∧ Below b w w' := by
  obtain ⟨w', k1, k2, k3, _, k5⟩ := run_storeCells_arr b ((List.range n).map f) 0 w (fun j hj => by
    have := h j (by simpa using hj)
    rw [this.1]; exact ⟨rfl, this.2⟩) (fun v hv => by
    obtain ⟨j, hj, rfl⟩ := List.mem_map.1 hv
    exact h1 j (List.mem_range.1 hj))
  refine ⟨w', ?_, fun j hj => ⟨?_, by rw [k3]; exact (h j hj).2⟩, k5⟩
  · cases hq : Tryd.prog.info? ty with
    | none => rw [hq] at hi; cases hi
    | some i =>
      have hs : i.size = n := by simpa [hq] using hi
      simp [storeVar, Sem.run_bind, sizeOf, typeInfo, hq, hs, Value.cells, rowB, k1]
  · rw [k2 j (by simpa using hj)]; simp [hj]
section
variable {ops : Array Oper} {rest : List Oper} {o : Oper} {a : Act} {w : World} {Q : Exit → Act → World → Prop}
theorem wpList_load_arr (hgd : o.guard = none) {ty : TypeId} {x : Operand} (ho : o.op = .load ty x) {b n : Nat} {f : Nat → Value} (hx : a.eval x = .pointer (some ⟨b, 0, none⟩)) (hA : ArrAt w b 0 n f) {d : TypeDesc} (hu : Tryd.prog.underlying ty = some d) (hd : aggB d = true)
    (hi : (Tryd.prog.info? ty).map (·.size) = some n) (h : wpList Tryd.prog ops Q rest (a.put o.dst (.agg (rowB n f))) w) : wpList Tryd.prog ops Q (o :: rest) a w := by
  refine wpList_plain hgd fun _ hK => ?_
  unfold Oper.wp execOp
  simp only [ho, hx, Instr.loadAt, Instr.sureAddr, Sem.run_bind, Sem.run_pure, Result.andThen_ok, run_loadVar_arr hA hu hd hi]
  exact hK _ _ h
theorem wpList_store_arr (hgd : o.guard = none) {ty : TypeId} {x y : Operand} (ho : o.op = .store ty x y) {b n : Nat} {f0 f : Nat → Value} (hx : a.eval x = .pointer (some ⟨b, 0, none⟩)) (hy : a.eval y = .agg (rowB n f)) (hA : ArrAt w b 0 n f0)
    (hi : (Tryd.prog.info? ty).map (·.size) = some n) (h1 : ∀ j, j < n → (f j).oneCell' = true) (h : ∀ w', ArrAt w' b 0 n f → Below b w w' → wpList Tryd.prog ops Q rest (a.put o.dst undef) w') : wpList Tryd.prog ops Q (o :: rest) a w := by
  refine wpList_plain hgd fun _ hK => ?_
  obtain ⟨w', k1, k2, k3⟩ := run_storeVar_arr (f := f) hA hi h1
  unfold Oper.wp execOp
  simp only [ho, hx, hy, Instr.storeAt, Instr.sureAddr, Sem.run_bind, Sem.run_pure, Result.andThen_ok, k1]
  exact hK _ _ (h w' k2 k3)
theorem bodyPost_arr {fn : Func} {R : Ending → World → Prop} {p : Tmp} {ty : TypeId} (h : fn.results = #[.cell p ty]) {b n : Nat} {f : Nat → Value} (hp : a.tmps.getD p undef = .pointer (some ⟨b, 0, none⟩)) (hA : ArrAt w b 0 n f) {d : TypeDesc} (hu : Tryd.prog.underlying ty = some d) (hd : aggB d = true)
    (hi : (Tryd.prog.info? ty).map (·.size) = some n) (hdf : a.defers = []) (hR : R (.returned (.agg (rowB n f))) w) : bodyPost Tryd.prog fn R .ret a w := by
  refine bodyPost_ret ?_ hdf hR
  have hp' : a.tmps[p]?.getD undef = .pointer (some ⟨b, 0, none⟩) := by simpa using hp
  simp [results, h, hp', asAddr, run_loadVar_arr hA hu hd hi]
end
def twoF (x y : Value) : Nat → Value := fun j => if j = 0 then x else y
theorem two_at (w : World) (x y : Value) (t : TypeId) : ArrAt (w.alloc (.cells #[x, y] t)) w.heap.size 0 2 (twoF x y) :=
  ArrAt.new w _ _ 2 _ (fun j hj => by
    match j, hj with
    | 0, _ => rfl
    | 1, _ => rfl)
theorem twoF_one (x y : Value) (hx : x.oneCell' = true) (hy : y.oneCell' = true) (j : Nat) : (twoF x y j).oneCell' = true := by unfold twoF; split <;> assumption
theorem Beside.setAny {a o : Nat} {w w' : World} (h : Beside a w w') (v : Value) : Beside a w (w'.setCell ⟨a, o, none⟩ v) :=
  ⟨h.below.trans (Below.setCell' (by simp) v), by rw [← h.size]; simp [World.setCell], fun k hk => by rw [← h.block k hk]; simp only [World.setCell, Array.getElem?_modify]; rw [if_neg (fun e => hk e.symm)]⟩
theorem storeCells_beside (b : Nat) : ∀ (l : List Value) (i : Nat) (w : World), (∀ j, j < l.length → (w.cell? ⟨b, i + j, none⟩).isSome ∧ w.frozen? ⟨b, i + j, none⟩ = false) → (∀ v ∈ l, v.oneCell' = true) →
    ∃ w', (storeCells ⟨b, 0, none⟩ l i).run Tryd.prog w = .ok () w' ∧ Beside b w w'
  | [], i, w, _, _ => ⟨w, rfl, Beside.refl _ _⟩
  | v :: l, i, w, h, hv => by
    obtain ⟨h0, h1⟩ := h 0 (by simp)
    rw [Nat.add_zero] at h0 h1
    obtain ⟨u, hu⟩ := Option.isSome_iff_exists.1 h0
    obtain ⟨w', k1, k5⟩ := storeCells_beside b l (i + 1) (w.setCell ⟨b, i, none⟩ v) (fun j hj => by
      obtain ⟨c1, c2⟩ := h (j + 1) (by simpa using hj)
      rw [show i + (j + 1) = i + 1 + j by omega] at c1 c2
      refine ⟨by rw [setCell_cell_other _ _ _ _ (.inr (by simp; omega))]; exact c1, by rw [setCell_frozen]; exact c2⟩) (fun x hx => hv x (by simp [hx]))
    refine ⟨w', ?_, Beside.trans ((Beside.refl b w).setAny v) k5⟩
    unfold storeCells
    rw [plain_addr_add, Nat.zero_add, Sem.run_bind, run_store _ _ _ _ _ (hv v (by simp)), hu]
    simp only [h1, Bool.false_eq_true, if_false, Result.andThen]
    exact k1
theorem wpList_store_bes {ops : Array Oper} {rest : List Oper} {o : Oper} {a : Act} {w : World} {Q : Exit → Act → World → Prop} (hgd : o.guard = none) {ty : TypeId} {x y : Operand} (ho : o.op = .store ty x y) {b n : Nat} {f0 f : Nat → Value} (hx : a.eval x = .pointer (some ⟨b, 0, none⟩)) (hy : a.eval y = .agg (rowB n f)) (hA : ArrAt w b 0 n f0)
    (hi : (Tryd.prog.info? ty).map (·.size) = some n) (h1 : ∀ j, j < n → (f j).oneCell' = true) (h : ∀ w', ArrAt w' b 0 n f → Beside b w w' → wpList Tryd.prog ops Q rest (a.put o.dst undef) w') : wpList Tryd.prog ops Q (o :: rest) a w := by
  obtain ⟨w', k1, k2, k3⟩ := run_storeVar_arr (f := f) hA hi h1
  obtain ⟨w1, e1, b1⟩ := storeCells_beside b ((List.range n).map f) 0 w (fun j hj => by
    have := hA j (by simpa using hj)
    rw [this.1]; exact ⟨rfl, this.2⟩) (fun v hv => by
    obtain ⟨j, hj, rfl⟩ := List.mem_map.1 hv
    exact h1 j (List.mem_range.1 hj))
  have e2 : (storeVar ty ⟨b, 0, none⟩ (.agg (rowB n f))).run Tryd.prog w = .ok () w1 := by
    cases hq : Tryd.prog.info? ty with
    | none => rw [hq] at hi; cases hi
    | some i =>
      have hs : i.size = n := by simpa [hq] using hi
      simp [storeVar, Sem.run_bind, sizeOf, typeInfo, hq, hs, Value.cells, rowB, e1]
  have e3 : w' = w1 := by rw [k1] at e2; simpa using e2
  subst e3
  refine wpList_plain hgd fun _ hK => ?_
  unfold Oper.wp execOp
  simp only [ho, hx, hy, Instr.storeAt, Instr.sureAddr, Sem.run_bind, Sem.run_pure, Result.andThen_ok, k1]
  exact hK _ _ (h w' k2 b1)

theorem info_fault : (Tryd.prog.info? 25).map (·.size) = some 2 := by kernel_rfl
theorem info_tok : (Tryd.prog.info? 32).map (fun i => (i.zero, i.size, i.bytes)) = some (some (.agg #[.int .i64 0, .string ByteArray.empty, .int .i64 0]), 3, 32) := by kernel_rfl
theorem info_tok3 : (Tryd.prog.info? 32).map (·.size) = some 3 := by kernel_rfl
def faultV (e p : Nat) : Value := .agg #[.int .i64 e, .int .i64 p]
theorem fault_row (e p : Nat) : .agg (rowB 2 (twoF (.int .i64 e) (.int .i64 p))) = faultV e p := rfl
theorem bodyPost_tmp_arr {a : Act} {w : World} {fn : Func} {R : Ending → World → Prop} {p q : Tmp} {ty2 : TypeId} (h : fn.results = #[.tmp p, .cell q ty2]) {v : Value} {b2 n2 : Nat} {f2 : Nat → Value} (hp : a.tmps.getD p undef = v) (hq : a.tmps.getD q undef = .pointer (some ⟨b2, 0, none⟩)) (hA2 : ArrAt w b2 0 n2 f2) {d2 : TypeDesc}
    (hu2 : Tryd.prog.underlying ty2 = some d2) (hd2 : aggB d2 = true) (hi2 : (Tryd.prog.info? ty2).map (·.size) = some n2) (hdf : a.defers = []) (hR : R (.returned (.tuple #[v, .agg (rowB n2 f2)])) w) : bodyPost Tryd.prog fn R .ret a w := by
  refine bodyPost_ret ?_ hdf hR
  have hp' : a.tmps[p]?.getD undef = v := by simpa using hp
  have hq' : a.tmps[q]?.getD undef = .pointer (some ⟨b2, 0, none⟩) := by simpa using hq
  simp [results, h, hp', hq', asAddr, run_loadVar_arr hA2 hu2 hd2 hi2]
/-- A token's three cells. -/
def triF (x y z : Value) : Nat → Value := fun j => if j = 0 then x else if j = 1 then y else z
theorem wpList_load_tok {ops : Array Oper} {rest : List Oper} {o : Oper} {a : Act} {w : World} {Q : Exit → Act → World → Prop} (hgd : o.guard = none) {x : Operand} (ho : o.op = .load 32 x) {b : Nat} {u y z : Value} (hx : a.eval x = .pointer (some ⟨b, 0, none⟩)) (hA : ArrAt w b 0 3 (triF u y z))
    (h : wpList Tryd.prog ops Q rest (a.put o.dst (.agg #[u, y, z])) w) : wpList Tryd.prog ops Q (o :: rest) a w :=
  wpList_load_arr hgd ho hx hA Tryd.underlying32 rfl info_tok3 h
def txt (l : List UInt8) : ByteArray := ⟨l.toArray⟩
theorem txt_data (l : List UInt8) : (txt l).data.toList = l := by simp [txt]
theorem txt_of {s : ByteArray} {l : List UInt8} (h : s.data.toList = l) : s = txt l := str_ext (by rw [h, txt_data])
def tokC (x : Tok) : List Value := [.int .i64 x.1, .string (txt x.2.1), .int .i64 x.2.2]
def toksC : List Tok → List Value
  | [] => []
  | x :: l => tokC x ++ toksC l
theorem toksC_snoc (l : List Tok) (x : Tok) : toksC (l ++ [x]) = toksC l ++ tokC x := by
  induction l with
  | nil => simp [toksC]
  | cons y l ih => rw [List.cons_append, toksC, toksC, ih, List.append_assoc]
theorem toksC_length (l : List Tok) : (toksC l).length = l.length * 3 := by
  induction l with
  | nil => rfl
  | cons y l ih => rw [toksC, List.length_append, ih, List.length_cons]; simp [tokC]; omega
/-- A slice of tokens of the call's own. -/
def OwnT (w : World) (B : Nat) (v : Value) (l : List Tok) : Prop := w.ownsRow B 32 3 v l.length (toksC l)
theorem OwnT.nil (w : World) (B : Nat) : OwnT w B (.slice none 0 0) [] := World.ownsRow_nil w B _ 3
theorem OwnT.kept {w w' : World} {B : Nat} {v : Value} {l : List Tok} (h : OwnT w B v l) (g : Grew w w') : OwnT w' B v l :=
  World.ownsRow.kept h ⟨g.os, g.tape, g.output, g.size, fun k hk _ => g.block k hk⟩ (row := none) (by cases v.ownBlock <;> simp)
theorem OwnT.mono {w : World} {B B' : Nat} {v : Value} {l : List Tok} (h : OwnT w B v l) (hB : B' ≤ B) : OwnT w B' v l := by
  refine ⟨h.1, ?_⟩
  rcases h.2 with h | ⟨g, cap, cur, h1, h2, h3⟩
  · exact .inl h
  · exact .inr ⟨g, cap, cur, h1, by omega, h3⟩
theorem own_tok {w : World} {B : Nat} {v : Value} {l : List Tok} (h : OwnT w B v l) (hB : B ≤ w.heap.size) (x : Tok) {kd : Int} (hk : kd = x.1) {q : ByteArray} (hq : q = txt x.2.1) (hl : l.length ≤ 1000000) (ty : TypeId) {t' : TypeId} :
    ∃ v' w', (Builtin.append_ #[22, 22] ty #[v, .slice (some ⟨w.heap.size, 0, none⟩) 1 1]).run Tryd.prog (w.alloc (.cells #[.int .i64 kd, .string q, .int .i64 x.2.2] t')) = .ok v' w' ∧ OwnT w' B v' (l ++ [x]) ∧ Below B w w' := by
  subst hk; subst hq
  obtain ⟨i0, hi, hz0, hz1, hz2⟩ := info_parts info_tok
  obtain ⟨v', w', h1, h2, h3, _⟩ := run_append_own (P := Tryd.prog) (w.alloc (.cells #[.int .i64 x.1, .string (txt x.2.1), .int .i64 x.2.2] t')) B 22 ty 32 i0 _ 3 32 Tryd.underlying22 hi hz0 hz1 hz2 rfl (by decide) v l.length (toksC l) (World.ownsRow.alloc h _) ⟨w.heap.size, 0, none⟩ 1 1 (tokC x) rfl
    (by
      intro j u hj
      rw [plain_addr_add, Nat.zero_add, World.cell?_alloc_mark]
      match j, hj with
      | 0, hj => simp [tokC] at hj; subst hj; rfl
      | 1, hj => simp [tokC] at hj; subst hj; rfl
      | 2, hj => simp [tokC] at hj; subst hj; rfl)
    (by intro u hu; simp [tokC] at hu; rcases hu with rfl | rfl | rfl <;> rfl) (by unfold maxLen; omega) (by omega) (by simp; omega)
  refine ⟨v', w', h1, ?_, ?_⟩
  · unfold OwnT; rw [List.length_append, toksC_snoc]; exact h2
  · exact ((Below.refl B w).alloc hB _).grown h3 (by simp; omega) (fun k hk => (World.ownsRow.lt h k hk).1)
/-- How the loop of Line stands: its result's block, its slice. -/
structure LS (w wr : World) (v : Value) (l : List Tok) : Prop where
  fault : ArrAt wr w.heap.size 0 2 (twoF (.int .i64 0) (.int .i64 0))
  own : OwnT wr (w.heap.size + 1) v l
  grew : Grew w wr
  size : w.heap.size + 1 ≤ wr.heap.size
theorem LS.kept {w wr w' : World} {v : Value} {l : List Tok} (h : LS w wr v l) (g : Grew wr w') : LS w w' v l :=
  ⟨h.fault.kept g, h.own.kept g, h.grew.trans g, Nat.le_trans h.size g.size⟩
theorem LS.start (w : World) : LS w (w.alloc (.cells #[.int .i64 0, .int .i64 0] 25)) (.slice none 0 0) [] :=
  ⟨two_at w _ _ _, OwnT.nil _ _, (Grew.refl w).alloc _, by simp⟩
theorem LS.more {w wr w' : World} {v v' : Value} {l l' : List Tok} (h : LS w wr v l) (b : Below (w.heap.size + 1) wr w') (k : OwnT w' (w.heap.size + 1) v' l') : LS w w' v' l' :=
  ⟨h.fault.below b (by omega), k, h.grew.below b (by omega), Nat.le_trans h.size b.size⟩
end Go.Proofs.YtlpjoakdhblbaaaDoor
