/- math/bits.TrailingZeros32, by the library's own text, under its table; masks of 32 bits. -/
import Derived.Test.YtkkdpafkafjfgaaDoorWwPStBits
import Derived.Test.YtkkdpafkafjfgaaDoorWwPAuY
namespace Go.Proofs.YtkkdpafkafjfgaaDoor
open Go.RowKit
set_option linter.unusedVariables false
theorem wrap32 (n : Int) : IntKind.u32.wrap n = n % 4294967296 := by simp [IntKind.wrap, IntKind.signed, IntKind.bits]
theorem bits32 {op : BinOp} {f : Nat → Nat → Nat} (hf : ∀ a b : Nat, a < 4294967296 → b < 4294967296 → f a b < 4294967296)
    (hop : ∀ x y : Int, bits op .u32 x y = IntKind.u32.wrap ((f (BitVec.ofInt 32 x).toNat (BitVec.ofInt 32 y).toNat : Nat) : Int)) (a b : Nat) (ha : a < 4294967296) (hb : b < 4294967296) : bits op .u32 (a : Int) (b : Int) = ((f a b : Nat) : Int) := by
  have e : ∀ x : Nat, x < 4294967296 → (BitVec.ofInt 32 (x : Int)).toNat = x := fun x hx => by
    rw [BitVec.ofInt_natCast, BitVec.toNat_ofNat]; exact Nat.mod_eq_of_lt hx
  have := hf a b ha hb
  rw [hop, e a ha, e b hb, wrap32]; omega
theorem and32 (a b : Nat) (ha : a < 4294967296) (hb : b < 4294967296) : bits .and .u32 (a : Int) (b : Int) = ((a &&& b : Nat) : Int) :=
  bits32 (f := fun a b => a &&& b) (fun a b h _ => Nat.lt_of_le_of_lt Nat.and_le_left h) (fun x y => by
    show IntKind.u32.wrap ((BitVec.ofInt 32 x &&& BitVec.ofInt 32 y).toNat : Int) = _
    rw [BitVec.toNat_and]) a b ha hb
theorem or32 (a b : Nat) (ha : a < 4294967296) (hb : b < 4294967296) : bits .or .u32 (a : Int) (b : Int) = ((a ||| b : Nat) : Int) :=
  bits32 (f := fun a b => a ||| b) (fun a b h k => Nat.or_lt_two_pow (n := 32) h k) (fun x y => by
    show IntKind.u32.wrap ((BitVec.ofInt 32 x ||| BitVec.ofInt 32 y).toNat : Int) = _
    rw [BitVec.toNat_or]) a b ha hb
theorem not32 (b : Nat) (hb : b < 4294967296) (i : Nat) : (4294967295 - b).testBit i = (decide (i < 32) && !b.testBit i) := by
  have := Nat.testBit_two_pow_sub_succ (n := 32) hb i
  rwa [show 2 ^ 32 - (b + 1) = 4294967295 - b by omega] at this
theorem andNot32 (a b : Nat) (ha : a < 4294967296) (hb : b < 4294967296) : bits .andNot .u32 (a : Int) (b : Int) = ((a &&& (4294967295 - b) : Nat) : Int) := by
  have e : ∀ x : Nat, x < 4294967296 → (BitVec.ofInt 32 (x : Int)).toNat = x := fun x hx => by
    rw [BitVec.ofInt_natCast, BitVec.toNat_ofNat]; exact Nat.mod_eq_of_lt hx
  have h : a &&& (4294967295 - b) < 4294967296 := Nat.lt_of_le_of_lt Nat.and_le_left ha
  show IntKind.u32.wrap ((BitVec.ofInt 32 (a : Int) &&& ~~~ BitVec.ofInt 32 (b : Int)).toNat : Int) = _
  rw [BitVec.toNat_and, BitVec.toNat_not, e a ha, e b hb, wrap32]
  rw [show (2 ^ 32 - 1 - b : Nat) = 4294967295 - b from rfl]
  omega
def TabZ32 (w : World) : Prop := ∀ j, j < 32 → w.cell? ⟨0, j, none⟩ = some (.int .u8 (Lib.deBruijn32tab.getD j 0))
theorem TabZ32.kept {w w' : World} (h : TabZ32 w) (g : Grew w w') : TabZ32 w' := fun j hj => g.keeps (h j hj)
theorem tz32 (x a : Nat) (hx : x < 4294967296) (hx0 : x ≠ 0) (hlow : x &&& (4294967296 - x) = a) :
    bits BinOp.and IntKind.u32 (x : Int) (-(x : Int) % 4294967296) * 125613361 % 4294967296 / 134217728 = ((a * 125613361 % 4294967296 / 134217728 : Nat) : Int) := by
  have e1 : -(x : Int) % 4294967296 = ((4294967296 - x : Nat) : Int) := by omega
  rw [e1, and32 x _ hx (by omega), hlow]
  omega
theorem zeros32 (x : Nat) (w : World) (hx : x < 4294967296) (hx0 : x ≠ 0) (hT : TabZ32 w) : Calls Tryd.prog 28 #[.int .u32 x] w fun e w' => e = .returned (.int .i64 (Lib.ctz 32 x)) ∧ w' = w := by
  obtain ⟨hlow, hk⟩ := Lib.lowest_bit 32 x hx0 hx
  obtain ⟨hi, htab⟩ := Lib.deBruijn32_at _ hk
  have hcell := hT _ hi
  rw [htab] at hcell
  have key := tz32 x _ hx hx0 hlow
  obtain ⟨idx, he⟩ : ∃ idx, 2 ^ Lib.ctz 32 x * 125613361 % 4294967296 / 134217728 = idx := ⟨_, rfl⟩
  rw [he] at key hi hcell
  generalize Lib.ctz 32 x = k at hk hcell ⊢
  have hx1 : ((x : Int) == 0) = false := by simp; omega
  clear he htab hlow hT
  go_enter Tryd.func28, Tryd.ntmps28
  go_wp2_with (simp only [key])
  go_ret
  exact ⟨rfl, rfl⟩
theorem low32 {x : Nat} (hx : x < 4294967296) (h0 : x ≠ 0) : x.testBit (Lib.ctz 32 x) = true ∧ ∀ i, (x &&& (x - 1)).testBit i = (x.testBit i && decide (i ≠ Lib.ctz 32 x)) := by
  obtain ⟨m, hm, hk⟩ := Lib.ctzFrom_spec 32 x (by omega) hx
  have hc : Lib.ctz 32 x = Lib.ctzFrom 32 x := if_neg h0
  rw [hc]
  generalize Lib.ctzFrom 32 x = k at hm hk
  have hp : 0 < 2 ^ k := Nat.two_pow_pos k
  have e1 : x - 1 = 2 ^ k * (2 * m) + (2 ^ k - 1) := by rw [hm, Nat.mul_add, Nat.mul_one]; omega
  have hb : ∀ i, x.testBit i = if i < k then false else (2 * m + 1).testBit (i - k) := fun i => by
    rw [hm, Nat.mul_comm, Nat.testBit_mul_two_pow]
    by_cases h : i < k
    · rw [if_pos h]; simp; omega
    · rw [if_neg h]; simp [show k ≤ i by omega]
  have hb1 : ∀ i, k ≤ i → (x - 1).testBit i = (2 * m).testBit (i - k) := fun i hi => by
    rw [e1, Nat.testBit_two_pow_mul_add _ (by omega), if_neg (by omega)]
  refine ⟨by rw [hb, if_neg (Nat.lt_irrefl k), Nat.sub_self, Nat.testBit_zero]; simp, fun i => ?_⟩
  rw [Nat.testBit_and]
  by_cases h : i < k
  · rw [hb, if_pos h]; rfl
  · rw [hb1 i (by omega), hb i, if_neg h]
    by_cases e : i = k
    · subst e; simp
    · obtain ⟨j, hj⟩ : ∃ j, i - k = j + 1 := ⟨i - k - 1, by omega⟩
      rw [hj, Nat.testBit_succ, Nat.testBit_succ, show (2 * m + 1) / 2 = m by omega, show 2 * m / 2 = m by omega]
      simp [e]
theorem low32_lt {x n : Nat} (hx : x < 2 ^ n) (hn : n ≤ 32) (h0 : x ≠ 0) : Lib.ctz 32 x < n := by
  have h := (low32 (Nat.lt_of_lt_of_le hx (Nat.pow_le_pow_right (n := 2) (by decide) hn)) h0).1
  apply Classical.byContradiction; intro hc
  have : x < 2 ^ Lib.ctz 32 x := Nat.lt_of_lt_of_le hx (Nat.pow_le_pow_right (n := 2) (by decide) (by omega))
  rw [Nat.testBit_lt_two_pow this] at h
  cases h
end Go.Proofs.YtkkdpafkafjfgaaDoor

namespace Go.Proofs.YtkkdpafkafjfgaaDoor
open Go.RowKit
set_option linter.unusedVariables false
theorem run_loadVar_off {w : World} {b o n : Nat} {f : Nat → Value} (h : ∀ j, j < n → w.cell? ⟨b, o + j, none⟩ = some (f j)) {ty : TypeId} {d : TypeDesc} (hu : Tryd.prog.underlying ty = some d) (hd : aggAu d = true) (hi : (Tryd.prog.info? ty).map (·.size) = some n) :
    (loadVar ty ⟨b, o, none⟩).run Tryd.prog w = .ok (.agg ((List.range n).map f).toArray) w := by
  have hl := run_loadCells (P := Tryd.prog) w ⟨b, o, none⟩ n f (fun j hj => by rw [addr_addV]; exact h j hj)
  have hagg := run_isAgg hu w
  rw [hd] at hagg
  simp [loadVar, Sem.run_bind, hagg, size_of hi, hl]
theorem run_storeCells_arrA (b : Nat) : ∀ (l : List Value) (i : Nat) (w : World), (∀ j, j < l.length → (w.cell? ⟨b, i + j, none⟩).isSome ∧ w.frozen? ⟨b, i + j, none⟩ = false) → (∀ v ∈ l, v.oneCell' = true) →
    ∃ w', (storeCells ⟨b, 0, none⟩ l i).run Tryd.prog w = .ok () w' ∧ (∀ j, j < l.length → w'.cell? ⟨b, i + j, none⟩ = l[j]?) ∧ (∀ q, w'.frozen? q = w.frozen? q) ∧ (∀ o, o < i → w'.cell? ⟨b, o, none⟩ = w.cell? ⟨b, o, none⟩) ∧ Below b w w'
  | [], i, w, _, _ => ⟨w, rfl, fun j hj => by simp at hj, fun _ => rfl, fun _ _ => rfl, Below.refl _ _⟩
  | v :: l, i, w, h, hv => by
    obtain ⟨h0, h1⟩ := h 0 (by simp)
    rw [Nat.add_zero] at h0 h1
    obtain ⟨u, hu⟩ := Option.isSome_iff_exists.1 h0
    obtain ⟨w', k1, k2, k3, k4, k5⟩ := run_storeCells_arrA b l (i + 1) (w.setCell ⟨b, i, none⟩ v) (fun j hj => by
      obtain ⟨c1, c2⟩ := h (j + 1) (by simpa using hj)
      rw [show i + (j + 1) = i + 1 + j by omega] at c1 c2
      refine ⟨by rw [setCell_cell_other _ _ _ _ (.inr (by simp; omega))]; exact c1, by rw [setCell_frozen]; exact c2⟩) (fun x hx => hv x (by simp [hx]))
    refine ⟨w', ?_, fun j hj => ?_, fun q => by rw [k3, setCell_frozen], fun o ho => by rw [k4 o (by omega), setCell_cell_other _ _ _ _ (.inr (by simp; omega))], Below.trans (Below.setCell' (by simp) v) k5⟩
    · unfold storeCells
      rw [addr_addV, Nat.zero_add, Sem.run_bind, run_store _ _ _ _ _ (hv v (by simp)), hu]
      simp only [h1, Bool.false_eq_true, if_false, Result.andThen]
      exact k1
    · cases j with
      | zero => rw [Nat.add_zero, k4 i (by omega), setCell_cell_same rfl hu]; rfl
      | succ j => rw [show i + (j + 1) = i + 1 + j by omega, k2 j (by simpa using hj)]; rfl
theorem run_storeVar_arrA {w : World} {b n : Nat} {f0 f : Nat → Value} (h : ArrAt w b 0 n f0) {ty : TypeId} (hi : (Tryd.prog.info? ty).map (·.size) = some n) (h1 : ∀ j, j < n → (f j).oneCell' = true) :
    ∃ w', (storeVar ty ⟨b, 0, none⟩ (.agg (((List.range n).map f).toArray))).run Tryd.prog w = .ok () w' ∧ ArrAt w' b 0 n f ∧ Below b w w' := by
  obtain ⟨w', k1, k2, k3, _, k5⟩ := run_storeCells_arrA b ((List.range n).map f) 0 w (fun j hj => by
    have := h j (by simpa using hj)
    rw [this.1]; exact ⟨rfl, this.2⟩) (fun v hv => by
    obtain ⟨j, hj, rfl⟩ := List.mem_map.1 hv
    exact h1 j (List.mem_range.1 hj))
  refine ⟨w', ?_, fun j hj => ⟨?_, by rw [k3]; exact (h j hj).2⟩, k5⟩
  · cases hq : Tryd.prog.info? ty with
    | none => rw [hq] at hi; cases hi
    | some i =>
      have hs : i.size = n := by simpa [hq] using hi
      simp [storeVar, Sem.run_bind, sizeOf, typeInfo, hq, hs, Value.cells, k1]
  · rw [k2 j (by simpa using hj)]; simp [hj]
section
variable {ops : Array Oper} {rest : List Oper} {o : Oper} {a : Act} {w : World} {Q : Exit → Act → World → Prop}
theorem wpList_load_off (hgd : o.guard = none) {x : Operand} (ho : o.op = .load 26 x) {b k : Nat} {f : Nat → Int} (hx : a.eval x = .pointer (some ⟨b, k, none⟩)) (hA : ∀ j, j < 256 → w.cell? ⟨b, k + j, none⟩ = some (.int .i64 (f j)))
    (h : wpList Tryd.prog ops Q rest (a.put o.dst (.agg (rowI f))) w) : wpList Tryd.prog ops Q (o :: rest) a w := by
  refine wpList_plain hgd fun _ hK => ?_
  have hl := run_loadVar_off (f := fun j => .int .i64 (f j)) hA Tryd.underlying26 rfl info_cls
  unfold Oper.wp execOp
  simp only [ho, hx, Instr.loadAt, Instr.sureAddr, Sem.run_bind, Sem.run_pure, Result.andThen_ok, hl]
  exact hK _ _ h
theorem wpList_store_row (hgd : o.guard = none) {x y : Operand} (ho : o.op = .store 26 x y) {b : Nat} {f0 f : Nat → Int} (hx : a.eval x = .pointer (some ⟨b, 0, none⟩)) (hy : a.eval y = .agg (rowI f)) (hA : ArrAt w b 0 256 fun j => .int .i64 (f0 j))
    (h : ∀ w', (ArrAt w' b 0 256 fun j => .int .i64 (f j)) → Below b w w' → wpList Tryd.prog ops Q rest (a.put o.dst undef) w') : wpList Tryd.prog ops Q (o :: rest) a w := by
  refine wpList_plain hgd fun _ hK => ?_
  obtain ⟨w', k1, k2, k3⟩ := run_storeVar_arrA (f := fun j => .int .i64 (f j)) hA info_cls (fun j _ => rfl)
  have k1' : (storeVar 26 ⟨b, 0, none⟩ (.agg (rowI f))).run Tryd.prog w = .ok () w' := k1
  unfold Oper.wp execOp
  simp only [ho, hx, hy, Instr.storeAt, Instr.sureAddr, Sem.run_bind, Sem.run_pure, Result.andThen_ok, k1']
  exact hK _ _ (h w' k2 k3)
end
end Go.Proofs.YtkkdpafkafjfgaaDoor
