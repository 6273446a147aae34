/- sets.Read: at every text. No condition but the texts' own bound. -/
import Derived.Test.YtolfdcbebjfjiaaDoorStOne
import Derived.Test.YtolfdcbebjfjiaaDoorStEach
namespace Go.Proofs.YtolfdcbebjfjiaaDoor
open Go.RowKit
set_option linter.unusedVariables false
def faultV (e p : Nat) : Value := .agg #[.int .i64 e, .int .i64 p]
theorem info_fault : (Tryd.prog.info? 40).map (·.size) = some 2 := by kernel_rfl
theorem bodyPost_arr2 {a : Act} {w : World} {fn : Func} {R : Ending → World → Prop} {p q : Tmp} {ty ty2 : TypeId} (h : fn.results = #[.cell p ty, .cell q ty2]) {b n b2 n2 : Nat} {f f2 : Nat → Value} (hp : a.tmps.getD p undef = .pointer (some ⟨b, 0, none⟩)) (hq : a.tmps.getD q undef = .pointer (some ⟨b2, 0, none⟩)) (hA : ArrAt w b 0 n f) (hA2 : ArrAt w b2 0 n2 f2) {d d2 : TypeDesc} (hu : Tryd.prog.underlying ty = some d) (hd : aggB d = true)
    (hi : (Tryd.prog.info? ty).map (·.size) = some n) (hu2 : Tryd.prog.underlying ty2 = some d2) (hd2 : aggB d2 = true) (hi2 : (Tryd.prog.info? ty2).map (·.size) = some n2) (hdf : a.defers = []) (hR : R (.returned (.tuple #[.agg (rowB n f), .agg (rowB n2 f2)])) w) : bodyPost Tryd.prog fn R .ret a w := by
  refine bodyPost_ret ?_ hdf hR
  have hp' : a.tmps[p]?.getD undef = .pointer (some ⟨b, 0, none⟩) := by simpa using hp
  have hq' : a.tmps[q]?.getD undef = .pointer (some ⟨b2, 0, none⟩) := by simpa using hq
  simp [results, h, hp', hq', asAddr, run_loadVar_arr hA hu hd hi, run_loadVar_arr hA2 hu2 hd2 hi2]
def twoF (x y : Value) : Nat → Value := fun j => if j = 0 then x else y
theorem fault_row (e p : Nat) : .agg (rowB 2 (twoF (.int .i64 e) (.int .i64 p))) = faultV e p := rfl
theorem two_at (w : World) (x y : Value) (t : TypeId) : ArrAt (w.alloc (.cells #[x, y] t)) w.heap.size 0 2 (twoF x y) :=
  ArrAt.new w _ _ 2 _ (fun j hj => by
    match j, hj with
    | 0, _ => rfl
    | 1, _ => rfl)
theorem setV_empty : setV emptyS = setW fun _ => 0 := by
  rw [setV_setW]; exact words_eq fun j => word_empty 64 _
theorem bad_any (e p : Nat) (w : World) : Calls Tryd.prog 34 #[.int .i64 e, .int .i64 p] w fun v w' => v = .returned (.tuple #[setW fun _ => 0, faultV e p]) ∧ Grew w w' := by
  have HS : Hid (ArrAt ((w.alloc (.cells (wordsB fun _ => 0) 24)).alloc (.cells #[.int .i64 (e : Int), .int .i64 (p : Int)] 40)) w.heap.size 0 4 (fun j => .int .u64 ((0 : Nat) : Int))) := (words_at w _).alloc _
  have HF : Hid (ArrAt ((w.alloc (.cells (wordsB fun _ => 0) 24)).alloc (.cells #[.int .i64 (e : Int), .int .i64 (p : Int)] 40)) (w.heap.size + 1) 0 2 (twoF (.int .i64 e) (.int .i64 p))) := by
    have := two_at (w.alloc (.cells (wordsB fun _ => 0) 24)) (.int .i64 e) (.int .i64 p) 40
    rw [World.size_alloc] at this
    exact this
  have HG : Hid (Grew w ((w.alloc (.cells (wordsB fun _ => 0) 24)).alloc (.cells #[.int .i64 (e : Int), .int .i64 (p : Int)] 40))) := ((Grew.refl w).alloc _).alloc _
  unfold wordsB at HG HS HF
  go_enter Tryd.func34, Tryd.ntmps34
  go_wp2_with fail
  exact bodyPost_arr2 rfl rfl rfl HS.out HF.out Tryd.underlying24 rfl info_set Tryd.underlying40 rfl info_fault rfl ⟨rfl, HG.out⟩
theorem twoF_one (x y : Value) (hx : x.oneCell' = true) (hy : y.oneCell' = true) (j : Nat) : (twoF x y j).oneCell' = true := by unfold twoF; split <;> assumption
theorem Beside.setAny {a o : Nat} {w w' : World} (h : Beside a w w') (v : Value) : Beside a w (w'.setCell ⟨a, o, none⟩ v) :=
  ⟨h.below.trans (Below.setCell' (by simp) v), by rw [← h.size]; simp [World.setCell], fun k hk => by rw [← h.block k hk]; simp only [World.setCell, Array.getElem?_modify]; rw [if_neg (fun e => hk e.symm)]⟩
theorem storeCells_beside (b : Nat) : ∀ (l : List Value) (i : Nat) (w : World), (∀ j, j < l.length → (w.cell? ⟨b, i + j, none⟩).isSome ∧ w.frozen? ⟨b, i + j, none⟩ = false) → (∀ v ∈ l, v.oneCell' = true) →
    ∃ w', (storeCells ⟨b, 0, none⟩ l i).run Tryd.prog w = .ok () w' ∧ Beside b w w'
  | [], i, w, _, _ => ⟨w, rfl, Beside.refl _ _⟩
  | v :: l, i, w, h, hv => by
    obtain ⟨h0, h1⟩ := h 0 (by simp)
    rw [Nat.add_zero] at h0 h1
    obtain ⟨u, hu⟩ := Option.isSome_iff_exists.1 h0
    obtain ⟨w', k1, k5⟩ := storeCells_beside b l (i + 1) (w.setCell ⟨b, i, none⟩ v) (fun j hj => by
      obtain ⟨c1, c2⟩ := h (j + 1) (by simpa using hj)
      rw [show i + (j + 1) = i + 1 + j by omega] at c1 c2
      refine ⟨by rw [setCell_cell_other _ _ _ _ (.inr (by simp; omega))]; exact c1, by rw [setCell_frozen]; exact c2⟩) (fun x hx => hv x (by simp [hx]))
    refine ⟨w', ?_, Beside.trans ((Beside.refl b w).setAny v) k5⟩
    unfold storeCells
    rw [plain_addr_add, Nat.zero_add, Sem.run_bind, run_store _ _ _ _ _ (hv v (by simp)), hu]
    simp only [h1, Bool.false_eq_true, if_false, Result.andThen]
    exact k1
theorem wpList_store_bes {ops : Array Oper} {rest : List Oper} {o : Oper} {a : Act} {w : World} {Q : Exit → Act → World → Prop} (hgd : o.guard = none) {ty : TypeId} {x y : Operand} (ho : o.op = .store ty x y) {b n : Nat} {f0 f : Nat → Value} (hx : a.eval x = .pointer (some ⟨b, 0, none⟩)) (hy : a.eval y = .agg (rowB n f)) (hA : ArrAt w b 0 n f0)
    (hi : (Tryd.prog.info? ty).map (·.size) = some n) (h1 : ∀ j, j < n → (f j).oneCell' = true) (h : ∀ w', ArrAt w' b 0 n f → Beside b w w' → wpList Tryd.prog ops Q rest (a.put o.dst undef) w') : wpList Tryd.prog ops Q (o :: rest) a w := by
  obtain ⟨w', k1, k2, k3⟩ := run_storeVar_arr (f := f) hA hi h1
  obtain ⟨w1, e1, b1⟩ := storeCells_beside b ((List.range n).map f) 0 w (fun j hj => by
    have := hA j (by simpa using hj)
    rw [this.1]; exact ⟨rfl, this.2⟩) (fun v hv => by
    obtain ⟨j, hj, rfl⟩ := List.mem_map.1 hv
    exact h1 j (List.mem_range.1 hj))
  have e2 : (storeVar ty ⟨b, 0, none⟩ (.agg (rowB n f))).run Tryd.prog w = .ok () w1 := by
    cases hq : Tryd.prog.info? ty with
    | none => rw [hq] at hi; cases hi
    | some i =>
      have hs : i.size = n := by simpa [hq] using hi
      simp [storeVar, Sem.run_bind, sizeOf, typeInfo, hq, hs, Value.cells, rowB, e1]
  have e3 : w' = w1 := by rw [k1] at e2; simpa using e2
  subst e3
  refine wpList_plain hgd fun _ hK => ?_
  unfold Oper.wp execOp
  simp only [ho, hx, hy, Instr.storeAt, Instr.sureAddr, Sem.run_bind, Sem.run_pure, Result.andThen_ok, k1]
  exact hK _ _ (h w' k2 b1)
/-- The four blocks of a call of Read. -/
structure RS (w : World) (t : ByteArray) (wr : World) (i : Nat) (f : Nat → Bool) : Prop where
  text : AtText wr (w.heap.size + 1 + 1 + 1) w.heap.size t i
  set : ArrAt wr (w.heap.size + 1) 0 4 (fun j => .int .u64 (word f (64 * j) 64))
  fault : ArrAt wr (w.heap.size + 1 + 1) 0 2 (twoF (.int .i64 0) (.int .i64 0))
  grew : Grew w wr
theorem RS.kept {w wr w' : World} {t : ByteArray} {i : Nat} {f : Nat → Bool} (h : RS w t wr i f) (g : Grew wr w') : RS w t w' i f :=
  ⟨h.text.kept g, h.set.kept g, h.fault.kept g, h.grew.trans g⟩
theorem RS.beside {w wr w' : World} {t : ByteArray} {i j : Nat} {f : Nat → Bool} (h : RS w t wr i f) (b : Beside (w.heap.size + 1 + 1 + 1) wr w') (k : AtText w' (w.heap.size + 1 + 1 + 1) w.heap.size t j) : RS w t w' j f :=
  ⟨k, b.arr (by omega) h.set, b.arr (by omega) h.fault, h.grew.below b.below (by omega)⟩
theorem RS.start (w : World) (t : ByteArray) : RS w t ((((w.alloc (.cells #[.string t] 9)).alloc (.cells (wordsB fun _ => 0) 24)).alloc (.cells #[.int .i64 0, .int .i64 0] 40)).alloc (.cells #[.int .i64 0] 3)) 0 emptyS := by
  refine ⟨⟨?_, ?_, ?_, by omega⟩, ?_, ?_, ((((Grew.refl w).alloc _).alloc _).alloc _).alloc _⟩
  · have := World.cell?_alloc_mark ((((w.alloc (.cells #[.string t] 9)).alloc (.cells (wordsB fun _ => 0) 24)).alloc (.cells #[.int .i64 0, .int .i64 0] 40))) #[.int .i64 0] 3 (0, 0) 0
    rw [World.size_alloc, World.size_alloc, World.size_alloc] at this
    exact this
  · have := World.frozen?_alloc_mark ((((w.alloc (.cells #[.string t] 9)).alloc (.cells (wordsB fun _ => 0) 24)).alloc (.cells #[.int .i64 0, .int .i64 0] 40))) #[.int .i64 0] 3 0 0 0
    rw [World.size_alloc, World.size_alloc, World.size_alloc] at this
    rw [this]; rfl
  · have h : (w.alloc (.cells #[.string t] 9)).cell? ⟨w.heap.size, 0, none⟩ = some (.string t) := by rw [World.cell?_alloc_mark]; rfl
    exact ((((Grew.refl _).alloc _).alloc _).alloc _).keeps h
  · have := zeros_at (w.alloc (.cells #[.string t] 9))
    rw [World.size_alloc] at this
    exact (this.alloc _).alloc _
  · have := two_at ((w.alloc (.cells #[.string t] 9)).alloc (.cells (wordsB fun _ => 0) 24)) (.int .i64 0) (.int .i64 0) 40
    rw [World.size_alloc, World.size_alloc] at this
    exact this.alloc _
set_option maxRecDepth 20000 in
set_option maxHeartbeats 2000000 in
theorem Read_much (t : ByteArray) (w : World) (ht : t.size ≤ maxLen) (h : 65536 < t.size) : Calls Tryd.prog 24 #[.string t] w fun v w' => v = .returned (.tuple #[setW fun _ => 0, faultV 4 0]) ∧ Grew w w' := by
  have HR := hidd (RS.start w t)
  unfold wordsB at HR
  have htt : t.size ≤ 9223372036854775807 := by unfold maxLen at ht; omega
  clear ht
  go_enter Tryd.func24, Tryd.ntmps24
  go_wp2_with fail
  refine (bad_any 4 0 _).mono ?_; rintro v wb ⟨rfl, G⟩
  have KR := hidd (HR.out.kept G)
  unfold setW faultV
  go_wp2_with (first | (refine wpList_store_bes (f := fun _ => .int .u64 ((0 : Nat) : Int)) rfl rfl rfl rfl KR.out.set info_set (fun j _ => rfl) ?_; intro w5 hS hb5) | (refine wpList_store_bes (f := twoF (.int .i64 ((4 : Nat) : Int)) (.int .i64 ((0 : Nat) : Int))) rfl rfl rfl rfl (hb5.arr (by omega) KR.out.fault) info_fault (fun j _ => twoF_one _ _ rfl rfl j) ?_; intro w6 hF hb6))
  refine bodyPost_arr2 rfl rfl rfl (hb6.arr (by omega) hS) hF Tryd.underlying24 rfl info_set Tryd.underlying40 rfl info_fault rfl ⟨rfl, (KR.out.grew.below hb5.below (by omega)).below hb6.below (by omega)⟩
end Go.Proofs.YtolfdcbebjfjiaaDoor
