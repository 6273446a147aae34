/- Rows of 256 numbers: loaded from anywhere in a block, stored whole. -/
import Derived.Test.YtkkdpafkafjfgaaDoorAsPAuY
namespace Go.Proofs.YtkkdpafkafjfgaaDoor
open Go.RowKit
set_option linter.unusedVariables false
theorem run_loadVar_off {w : World} {b o n : Nat} {f : Nat → Value} (h : ∀ j, j < n → w.cell? ⟨b, o + j, none⟩ = some (f j)) {ty : TypeId} {d : TypeDesc} (hu : Tryd.prog.underlying ty = some d) (hd : aggAu d = true) (hi : (Tryd.prog.info? ty).map (·.size) = some n) :
    (loadVar ty ⟨b, o, none⟩).run Tryd.prog w = .ok (.agg ((List.range n).map f).toArray) w := by
  have hl := run_loadCells (P := Tryd.prog) w ⟨b, o, none⟩ n f (fun j hj => by rw [addr_addV]; exact h j hj)
  have hagg := run_isAgg hu w
  rw [hd] at hagg
  simp [loadVar, Sem.run_bind, hagg, size_of hi, hl]
theorem run_storeCells_arrA (b : Nat) : ∀ (l : List Value) (i : Nat) (w : World), (∀ j, j < l.length → (w.cell? ⟨b, i + j, none⟩).isSome ∧ w.frozen? ⟨b, i + j, none⟩ = false) → (∀ v ∈ l, v.oneCell' = true) →
    ∃ w', (storeCells ⟨b, 0, none⟩ l i).run Tryd.prog w = .ok () w' ∧ (∀ j, j < l.length → w'.cell? ⟨b, i + j, none⟩ = l[j]?) ∧ (∀ q, w'.frozen? q = w.frozen? q) ∧ (∀ o, o < i → w'.cell? ⟨b, o, none⟩ = w.cell? ⟨b, o, none⟩) ∧ Below b w w'
  | [], i, w, _, _ => ⟨w, rfl, fun j hj => by simp at hj, fun _ => rfl, fun _ _ => rfl, Below.refl _ _⟩
  | v :: l, i, w, h, hv => by
    obtain ⟨h0, h1⟩ := h 0 (by simp)
    rw [Nat.add_zero] at h0 h1
    obtain ⟨u, hu⟩ := Option.isSome_iff_exists.1 h0
    obtain ⟨w', k1, k2, k3, k4, k5⟩ := run_storeCells_arrA b l (i + 1) (w.setCell ⟨b, i, none⟩ v) (fun j hj => by
      obtain ⟨c1, c2⟩ := h (j + 1) (by simpa using hj)
      rw [show i + (j + 1) = i + 1 + j by omega] at c1 c2
      refine ⟨by rw [setCell_cell_other _ _ _ _ (.inr (by simp; omega))]; exact c1, by rw [setCell_frozen]; exact c2⟩) (fun x hx => hv x (by simp [hx]))
    refine ⟨w', ?_, fun j hj => ?_, fun q => by rw [k3, setCell_frozen], fun o ho => by rw [k4 o (by omega), setCell_cell_other _ _ _ _ (.inr (by simp; omega))], Below.trans (Below.setCell' (by simp) v) k5⟩
    · unfold storeCells
      rw [addr_addV, Nat.zero_add, Sem.run_bind, run_store _ _ _ _ _ (hv v (by simp)), hu]
      simp only [h1, Bool.false_eq_true, if_false, Result.andThen]
      exact k1
    · cases j with
      | zero => rw [Nat.add_zero, k4 i (by omega), setCell_cell_same rfl hu]; rfl
      | succ j => rw [show i + (j + 1) = i + 1 + j by omega, k2 j (by simpa using hj)]; rfl
theorem run_storeVar_arrA {w : World} {b n : Nat} {f0 f : Nat → Value} (h : ArrAt w b 0 n f0) {ty : TypeId} (hi : (Tryd.prog.info? ty).map (·.size) = some n) (h1 : ∀ j, j < n → (f j).oneCell' = true) :
    ∃ w', (storeVar ty ⟨b, 0, none⟩ (.agg (((List.range n).map f).toArray))).run Tryd.prog w = .ok () w' ∧ ArrAt w' b 0 n f ∧ Below b w w' := by
  obtain ⟨w', k1, k2, k3, _, k5⟩ := run_storeCells_arrA b ((List.range n).map f) 0 w (fun j hj => by
    have := h j (by simpa using hj)
    rw [this.1]; exact ⟨rfl, this.2⟩) (fun v hv => by
    obtain ⟨j, hj, rfl⟩ := List.mem_map.1 hv
    exact h1 j (List.mem_range.1 hj))
  refine ⟨w', ?_, fun j hj => ⟨?_, by rw [k3]; exact (h j hj).2⟩, k5⟩
  · cases hq : Tryd.prog.info? ty with
    | none => rw [hq] at hi; cases hi
    | some i =>
      have hs : i.size = n := by simpa [hq] using hi
      simp [storeVar, Sem.run_bind, sizeOf, typeInfo, hq, hs, Value.cells, k1]
  · rw [k2 j (by simpa using hj)]; simp [hj]
section
variable {ops : Array Oper} {rest : List Oper} {o : Oper} {a : Act} {w : World} {Q : Exit → Act → World → Prop}
theorem wpList_load_off (hgd : o.guard = none) {x : Operand} (ho : o.op = .load 26 x) {b k : Nat} {f : Nat → Int} (hx : a.eval x = .pointer (some ⟨b, k, none⟩)) (hA : ∀ j, j < 256 → w.cell? ⟨b, k + j, none⟩ = some (.int .i64 (f j)))
    (h : wpList Tryd.prog ops Q rest (a.put o.dst (.agg (rowI f))) w) : wpList Tryd.prog ops Q (o :: rest) a w := by
  refine wpList_plain hgd fun _ hK => ?_
  have hl := run_loadVar_off (f := fun j => .int .i64 (f j)) hA Tryd.underlying26 rfl info_cls
  unfold Oper.wp execOp
  simp only [ho, hx, Instr.loadAt, Instr.sureAddr, Sem.run_bind, Sem.run_pure, Result.andThen_ok, hl]
  exact hK _ _ h
theorem wpList_store_row (hgd : o.guard = none) {x y : Operand} (ho : o.op = .store 26 x y) {b : Nat} {f0 f : Nat → Int} (hx : a.eval x = .pointer (some ⟨b, 0, none⟩)) (hy : a.eval y = .agg (rowI f)) (hA : ArrAt w b 0 256 fun j => .int .i64 (f0 j))
    (h : ∀ w', (ArrAt w' b 0 256 fun j => .int .i64 (f j)) → Below b w w' → wpList Tryd.prog ops Q rest (a.put o.dst undef) w') : wpList Tryd.prog ops Q (o :: rest) a w := by
  refine wpList_plain hgd fun _ hK => ?_
  obtain ⟨w', k1, k2, k3⟩ := run_storeVar_arrA (f := fun j => .int .i64 (f j)) hA info_cls (fun j _ => rfl)
  have k1' : (storeVar 26 ⟨b, 0, none⟩ (.agg (rowI f))).run Tryd.prog w = .ok () w' := k1
  unfold Oper.wp execOp
  simp only [ho, hx, hy, Instr.storeAt, Instr.sureAddr, Sem.run_bind, Sem.run_pure, Result.andThen_ok, k1']
  exact hK _ _ (h w' k2 k3)
end
end Go.Proofs.YtkkdpafkafjfgaaDoor

namespace Go.Proofs.YtkkdpafkafjfgaaDoor
set_option linter.unusedVariables false
def InF (g : Gl) : Prop := ∀ q, g.fo.getD q 0 < 2 ^ g.sets.length
theorem InF.join {g : Gl} (h : InF g) {a b : Nat} (hb : b < 2 ^ g.sets.length) : InF (g.join a b) := fun q => by
  rw [join_getD]
  show _ < 2 ^ g.sets.length
  split
  · split
    · exact Nat.or_lt_two_pow (h q) hb
    · exact h q
  · exact Nat.two_pow_pos _
theorem InF.one {g : Gl} (h : InF g) (s : Nat → Bool) : InF (g.one s).2 := by
  unfold Gl.one
  split
  · exact h
  · intro q
    show (g.fo ++ [0]).getD q 0 < 2 ^ (g.sets ++ [s]).length
    rw [getD_snoc0]
    exact Nat.lt_of_lt_of_le (h q) (Nat.pow_le_pow_right (n := 2) (by decide) (by simp))
theorem InF.op2 {c : Bool} {o k : Part} {g : Gl} (h : InF g) (hk : InG g k) : InF (op2 c o k g).2 := by
  cases c
  · exact h
  · exact h.join hk.first
def InC (b : Builder) : Prop := ∀ g, Fits g → InF g → InF (b g).2
theorem lit_inF : ∀ (l : List (Nat → Bool)) (o : Part) (g : Gl), Fits g → InG g o → InF g → InF (litG l o g).2
  | [], o, g, hf, ho, h => h
  | s :: l, o, g, hf, ho, h => by
    rw [litG]
    split
    · exact h
    · have h1 := one_in g s
      have h2 := one_fits hf s
      have h3 := op2_fits (c := true) h2.1 (ho.small hf) h2.2
      exact lit_inF l _ _ h3.1 (op2_in (c := true) (ho.mono h1.1) h1.2) ((h.one s).op2 (c := true) h1.2)
theorem kids_inF (c : Bool) : ∀ (l : List Builder), (∀ b ∈ l, InB b ∧ InC b) → ∀ (o : Part) (g : Gl), Fits g → InG g o → InF g → InF (kidsG c l o g).2
  | [], _, o, g, hf, ho, h => h
  | b :: l, hb, o, g, hf, ho, h => by
    obtain ⟨h1, h2, h3⟩ := (hb b (by simp)).1 g hf
    have hF := (hb b (by simp)).2 g hf h
    rw [kidsG]
    cases e : (b g).1 with
    | none => exact hF
    | some k =>
      have hk := h3 k e
      have h4 := op2_fits (c := c) h1 (ho.small hf) (hk.small h1)
      exact kids_inF c l (fun b hb' => hb b (by simp [hb'])) _ _ h4.1 (op2_in (c := c) (ho.mono h2) hk) (hF.op2 hk)
theorem head_inF (c : Bool) {l : List Builder} (h : ∀ b ∈ l, InB b ∧ InC b) : InC (headG c l) := fun g hf hg => by
  cases l with
  | nil => exact hg
  | cons b l =>
    obtain ⟨h1, h2, h3⟩ := (h b (by simp)).1 g hf
    have hF := (h b (by simp)).2 g hf hg
    rw [headG]
    cases e : (b g).1 with
    | none => exact hF
    | some k => exact kids_inF c l (fun b hb' => h b (by simp [hb'])) k _ h1 (h3 k e) hF
theorem star_inF {b : Builder} (h : InB b) (hc : InC b) : InC (fun g => starG (b g)) := fun g hf hg => by
  obtain ⟨h1, h2, h3⟩ := h g hf
  have hF := hc g hf hg
  cases e : (b g).1 with
  | none =>
    have : starG (b g) = (none, (b g).2) := by unfold starG; rw [e]
    dsimp only; rw [this]; exact hF
  | some k =>
    have : starG (b g) = (some (againP k), (b g).2.join k.last k.first) := by unfold starG; rw [e]
    dsimp only; rw [this]
    exact hF.join (h3 k e).first
theorem buildK_inF {k : Int} {t : ByteArray} {n : Int} {bs : List Builder} (h : ∀ b ∈ bs, InB b ∧ InC b) : InC (buildK k t n bs) := fun g hf hg => by
  unfold buildK
  split
  · exact lit_inF _ _ g hf (in0 g true) hg
  split
  · exact hg.one _
  split
  · exact hg.one _
  split
  · exact star_inF (b := fun g => someG (g.one allB)) (fun g hf => ⟨(one_fits hf _).1, (one_in g _).1, fun o e => by cases e; exact (one_in g _).2⟩) (fun g hf hg => hg.one _) g hf hg
  split
  · exact hg
  split
  · exact head_inF true h g hf hg
  split
  · exact head_inF false h g hf hg
  split
  · exact star_inF (head_in false fun b hb => (h b hb).1) (head_inF false h) g hf hg
  · exact hg
mutual
theorem build_inF : ∀ p : Pat, InC (buildP p)
  | .mk k t n m l => by rw [buildP]; exact buildK_inF fun b hb => ⟨buildL_in l b hb, buildL_inF l b hb⟩
theorem buildL_inF : ∀ (l : List Pat), ∀ b ∈ buildL l, InC b
  | [], b, h => by rw [buildL] at h; cases h
  | p :: l, b, h => by
    rw [buildL] at h
    cases h with
    | head => exact build_inF p
    | tail _ h => exact buildL_inF l b h
end
theorem inF0 : InF gl0 := fun q => by simp [gl0]
theorem may_lt {g : Gl} (h : InF g) {o : Part} (ho : InG g o) (s : Nat) : mayG g o s < 2 ^ g.sets.length := by
  unfold mayG
  split
  · exact ho.first
  · refine Nat.lt_pow_two_of_testBit _ fun i hi => ?_
    rw [Bool.eq_false_iff]
    intro hb
    rw [fold_or, Nat.zero_testBit] at hb
    rcases hb with hb | ⟨q, _, _, h3⟩
    · cases hb
    · rw [Nat.testBit_lt_two_pow (Nat.lt_of_lt_of_le (h q) (Nat.pow_le_pow_right (n := 2) (by decide) hi))] at h3; cases h3
theorem st_lt2 {g : Gl} (h : InF g) {o : Part} (ho : InG g o) (s c : Nat) : stG g o s c < 2 ^ g.sets.length := by
  refine Nat.lt_pow_two_of_testBit _ fun i hi => ?_
  rw [Bool.eq_false_iff]
  intro hb
  have h2 := ((st_bit g o s c i).1 hb).2.1
  unfold bit at h2
  rw [Nat.testBit_lt_two_pow (Nat.lt_of_lt_of_le (may_lt h ho s) (Nat.pow_le_pow_right (n := 2) (by decide) hi))] at h2; cases h2
end Go.Proofs.YtkkdpafkafjfgaaDoor
