/- Whole arrays, by value, out of and into blocks of cells; a result through a cell. No condition. -/
import Derived.Test.YtolfdcbebjfjiaaDoorStPop
import Derived.Test.YtolfdcbebjfjiaaDoorOwn
import Derived.Laws.Rows
import Derived.Deep.LoopGhost
import Derived.StillTailTactics
import Derived.Deep.RegionWith
import Derived.Laws.Bits64b
namespace Go.Proofs.YtolfdcbebjfjiaaDoor
open Go.RowKit
set_option linter.unusedVariables false

theorem plain_addr_add (b o i : Nat) : (⟨b, o, none⟩ : Addr).add i = ⟨b, o + i, none⟩ := by
  unfold Addr.add; split
  · next h0 => subst h0; rfl
  · rfl
/-- n cells. -/
def rowB (n : Nat) (f : Nat → Value) : Array Value := ((List.range n).map f).toArray
theorem rowB_size (n : Nat) (f : Nat → Value) : (rowB n f).size = n := by simp [rowB]
theorem rowB_get {n j : Nat} (f : Nat → Value) (h : j < n) : (rowB n f)[j]? = some (f j) := by simp [rowB, h]
theorem rowB_congr {n : Nat} {f g : Nat → Value} (h : ∀ j, j < n → f j = g j) : rowB n f = rowB n g := by
  unfold rowB; congr 1; exact List.map_congr_left fun j hj => h j (List.mem_range.1 hj)
def aggB (d : TypeDesc) : Bool := match d with | .struct _ | .array _ _ => true | _ => false
theorem run_loadVar_arr {w : World} {b n : Nat} {f : Nat → Value} (h : ArrAt w b 0 n f) {ty : TypeId} {d : TypeDesc} (hu : Tryd.prog.underlying ty = some d) (hd : aggB d = true) (hi : (Tryd.prog.info? ty).map (·.size) = some n) :
    (loadVar ty ⟨b, 0, none⟩).run Tryd.prog w = .ok (.agg (rowB n f)) w := by
  have hl := run_loadCells (P := Tryd.prog) w ⟨b, 0, none⟩ n f (fun j hj => by rw [plain_addr_add]; exact h.at j hj)
  cases hq : Tryd.prog.info? ty with
  | none => rw [hq] at hi; cases hi
  | some i =>
    have hs : i.size = n := by simpa [hq] using hi
    have hagg : (isAgg ty).run Tryd.prog w = .ok true w := by
      unfold isAgg
      rw [Sem.run_bind, run_underlying hu w]
      unfold aggB at hd
      cases d <;> simp_all
    simp [loadVar, Sem.run_bind, hagg, sizeOf, typeInfo, hq, hs, hl, rowB]
theorem run_storeCells_arr (b : Nat) : ∀ (l : List Value) (i : Nat) (w : World), (∀ j, j < l.length → (w.cell? ⟨b, i + j, none⟩).isSome ∧ w.frozen? ⟨b, i + j, none⟩ = false) → (∀ v ∈ l, v.oneCell' = true) →
    ∃ w', (storeCells ⟨b, 0, none⟩ l i).run Tryd.prog w = .ok () w' ∧ (∀ j, j < l.length → w'.cell? ⟨b, i + j, none⟩ = l[j]?) ∧ (∀ q, w'.frozen? q = w.frozen? q) ∧ (∀ o, o < i → w'.cell? ⟨b, o, none⟩ = w.cell? ⟨b, o, none⟩) ∧ Below b w w'
  | [], i, w, _, _ => ⟨w, rfl, fun j hj => by simp at hj, fun _ => rfl, fun _ _ => rfl, Below.refl _ _⟩
  | v :: l, i, w, h, hv => by
    obtain ⟨h0, h1⟩ := h 0 (by simp)
    rw [Nat.add_zero] at h0 h1
    obtain ⟨u, hu⟩ := Option.isSome_iff_exists.1 h0
    obtain ⟨w', k1, k2, k3, k4, k5⟩ := run_storeCells_arr b l (i + 1) (w.setCell ⟨b, i, none⟩ v) (fun j hj => by
      obtain ⟨c1, c2⟩ := h (j + 1) (by simpa using hj)
      rw [show i + (j + 1) = i + 1 + j by omega] at c1 c2
      refine ⟨by rw [setCell_cell_other _ _ _ _ (.inr (by simp; omega))]; exact c1, by rw [setCell_frozen]; exact c2⟩) (fun x hx => hv x (by simp [hx]))
    refine ⟨w', ?_, fun j hj => ?_, fun q => by rw [k3, setCell_frozen], fun o ho => by rw [k4 o (by omega), setCell_cell_other _ _ _ _ (.inr (by simp; omega))], Below.trans (Below.setCell' (by simp) v) k5⟩
    · unfold storeCells
      rw [plain_addr_add, Nat.zero_add, Sem.run_bind, run_store _ _ _ _ _ (hv v (by simp)), hu]
      simp only [h1, Bool.false_eq_true, if_false, Result.andThen]
      exact k1
    · cases j with
      | zero => rw [Nat.add_zero, k4 i (by omega), setCell_cell_same rfl hu]; rfl
      | succ j => rw [show i + (j + 1) = i + 1 + j by omega, k2 j (by simpa using hj)]; rfl
theorem run_storeVar_arr {w : World} {b n : Nat} {f0 f : Nat → Value} (h : ArrAt w b 0 n f0) {ty : TypeId} (hi : (Tryd.prog.info? ty).map (·.size) = some n) (h1 : ∀ j, j < n → (f j).oneCell' = true) :
    ∃ w', (storeVar ty ⟨b, 0, none⟩ (.agg (rowB n f))).run Tryd.prog w = .ok () w' ∧ ArrAt w' b 0 n f ∧ Below b w w' := by
  obtain ⟨w', k1, k2, k3, _, k5⟩ := run_storeCells_arr b ((List.range n).map f) 0 w (fun j hj => by
    have := h j (by simpa using hj)
    rw [this.1]; exact ⟨rfl, this.2⟩) (fun v hv => by
    obtain ⟨j, hj, rfl⟩ := List.mem_map.1 hv
    exact h1 j (List.mem_range.1 hj))
  refine ⟨w', ?_, fun j hj => ⟨?_, by rw [k3]; exact (h j hj).2⟩, k5⟩
  · cases hq : Tryd.prog.info? ty with
    | none => rw [hq] at hi; cases hi
    | some i =>
      have hs : i.size = n := by simpa [hq] using hi
      simp [storeVar, Sem.run_bind, sizeOf, typeInfo, hq, hs, Value.cells, rowB, k1]
  · rw [k2 j (by simpa using hj)]; simp [hj]
section
variable {ops : Array Oper} {rest : List Oper} {o : Oper} {a : Act} {w : World} {Q : Exit → Act → World → Prop}
theorem wpList_load_arr (hgd : o.guard = none) {ty : TypeId} {x : Operand} (ho : o.op = .load ty x) {b n : Nat} {f : Nat → Value} (hx : a.eval x = .pointer (some ⟨b, 0, none⟩)) (hA : ArrAt w b 0 n f) {d : TypeDesc} (hu : Tryd.prog.underlying ty = some d) (hd : aggB d = true)
    (hi : (Tryd.prog.info? ty).map (·.size) = some n) (h : wpList Tryd.prog ops Q rest (a.put o.dst (.agg (rowB n f))) w) : wpList Tryd.prog ops Q (o :: rest) a w := by
  refine wpList_plain hgd fun _ hK => ?_
  unfold Oper.wp execOp
  simp only [ho, hx, Instr.loadAt, Instr.sureAddr, Sem.run_bind, Sem.run_pure, Result.andThen_ok, run_loadVar_arr hA hu hd hi]
  exact hK _ _ h
theorem wpList_store_arr (hgd : o.guard = none) {ty : TypeId} {x y : Operand} (ho : o.op = .store ty x y) {b n : Nat} {f0 f : Nat → Value} (hx : a.eval x = .pointer (some ⟨b, 0, none⟩)) (hy : a.eval y = .agg (rowB n f)) (hA : ArrAt w b 0 n f0)
    (hi : (Tryd.prog.info? ty).map (·.size) = some n) (h1 : ∀ j, j < n → (f j).oneCell' = true) (h : ∀ w', ArrAt w' b 0 n f → Below b w w' → wpList Tryd.prog ops Q rest (a.put o.dst undef) w') : wpList Tryd.prog ops Q (o :: rest) a w := by
  refine wpList_plain hgd fun _ hK => ?_
  obtain ⟨w', k1, k2, k3⟩ := run_storeVar_arr (f := f) hA hi h1
  unfold Oper.wp execOp
  simp only [ho, hx, hy, Instr.storeAt, Instr.sureAddr, Sem.run_bind, Sem.run_pure, Result.andThen_ok, k1]
  exact hK _ _ (h w' k2 k3)
theorem bodyPost_arr {fn : Func} {R : Ending → World → Prop} {p : Tmp} {ty : TypeId} (h : fn.results = #[.cell p ty]) {b n : Nat} {f : Nat → Value} (hp : a.tmps.getD p undef = .pointer (some ⟨b, 0, none⟩)) (hA : ArrAt w b 0 n f) {d : TypeDesc} (hu : Tryd.prog.underlying ty = some d) (hd : aggB d = true)
    (hi : (Tryd.prog.info? ty).map (·.size) = some n) (hdf : a.defers = []) (hR : R (.returned (.agg (rowB n f))) w) : bodyPost Tryd.prog fn R .ret a w := by
  refine bodyPost_ret ?_ hdf hR
  have hp' : a.tmps[p]?.getD undef = .pointer (some ⟨b, 0, none⟩) := by simpa using hp
  simp [results, h, hp', asAddr, run_loadVar_arr hA hu hd hi]
end
theorem info_set : (Tryd.prog.info? 24).map (·.size) = some 4 := by kernel_rfl
theorem info_row : (Tryd.prog.info? 25).map (·.size) = some 256 := by kernel_rfl
theorem zero_row : (Tryd.prog.info? 25).map (·.zero) = some (some (.agg (rowB 256 fun _ => .bool false))) := by kernel_rfl
/-- 256 noughts. -/
theorem run_zero_row (w : World) : (zeroValue 25).run Tryd.prog w = .ok (.agg (rowB 256 fun _ => .bool false)) w := by
  have h := zero_row
  cases hq : Tryd.prog.info? 25 with
  | none => rw [hq] at h; cases h
  | some i =>
    have hs : i.zero = some (.agg (rowB 256 fun _ => .bool false)) := by simpa [hq] using h
    simp [zeroValue, typeInfo, hq, hs]
theorem run_index_arr {t e : TypeId} {n : Nat} (hu : Tryd.prog.underlying t = some (.array n e)) (hs : (Tryd.prog.info? e).map (·.size) = some 1) {d : TypeDesc} (he : Tryd.prog.underlying e = some d) (hd : aggB d = false)
    {cs : Array Value} {i : Nat} {v : Value} (hi : i < n) (hc : cs[i]? = some v) (w : World) : (Instr.index t (.agg cs) (.int .i64 i)).run Tryd.prog w = .ok v w := by
  have hagg : (isAgg e).run Tryd.prog w = .ok false w := by
    unfold isAgg
    rw [Sem.run_bind, run_underlying he w]
    unfold aggB at hd
    cases d <;> simp_all
  cases hq : Tryd.prog.info? e with
  | none => rw [hq] at hs; cases hs
  | some ie =>
    have hs' : ie.size = 1 := by simpa [hq] using hs
    have h1 : (0 : Int) ≤ (i : Int) ∧ (i : Int) < (n : Int) := by omega
    simp [Instr.index, asIntOf, Sem.run_bind, run_underlying hu, h1, part, hagg, sizeOf, typeInfo, hq, hs', hc]
    exact fun h => absurd hi (by omega)
theorem info_u64 : (Tryd.prog.info? 22).map (·.size) = some 1 := by kernel_rfl
theorem info_bool : (Tryd.prog.info? 4).map (·.size) = some 1 := by kernel_rfl
/-- A set by its words. -/
def setW (A : Nat → Nat) : Value := .agg #[.int .u64 (A 0), .int .u64 (A 1), .int .u64 (A 2), .int .u64 (A 3)]
def W64 (A : Nat → Nat) : Prop := ∀ j, A j < 18446744073709551616
def wordsB (A : Nat → Nat) : Array Value := #[.int .u64 (A 0), .int .u64 (A 1), .int .u64 (A 2), .int .u64 (A 3)]
theorem setW_row (A : Nat → Nat) : .agg (rowB 4 fun j => .int .u64 (A j)) = setW A := rfl
theorem setV_setW (f : Nat → Bool) : setV f = setW (fun j => word f (64 * j) 64) := rfl
theorem run_index_set (A : Nat → Nat) (i : Nat) (hi : i < 4) (w : World) : (Instr.index 24 (.agg #[.int .u64 (A 0), .int .u64 (A 1), .int .u64 (A 2), .int .u64 (A 3)]) (.int .i64 i)).run Tryd.prog w = .ok (.int .u64 (A i)) w :=
  run_index_arr Tryd.underlying24 info_u64 Tryd.underlying22 rfl hi (by
    match i, hi with
    | 0, _ => rfl
    | 1, _ => rfl
    | 2, _ => rfl
    | 3, _ => rfl) w
theorem run_index_row (f : Nat → Value) (i : Nat) (hi : i < 256) (w : World) : (Instr.index 25 (.agg (rowB 256 f)) (.int .i64 i)).run Tryd.prog w = .ok (f i) w :=
  run_index_arr Tryd.underlying25 info_bool Tryd.underlying4 rfl hi (rowB_get f hi) w
theorem words_at (w : World) (A : Nat → Nat) : ArrAt (w.alloc (.cells (wordsB A) 24)) w.heap.size 0 4 (fun j => .int .u64 (A j)) :=
  ArrAt.new w _ _ 4 _ (fun j hj => by
    match j, hj with
    | 0, _ => rfl
    | 1, _ => rfl
    | 2, _ => rfl
    | 3, _ => rfl)
theorem row_at (w : World) (f : Nat → Value) : ArrAt (w.alloc (.cells (rowB 256 f) 25)) w.heap.size 0 256 f :=
  ArrAt.new w _ _ 256 _ (fun j hj => rowB_get f hj)
end Go.Proofs.YtolfdcbebjfjiaaDoor
