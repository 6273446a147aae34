/- What is wrong with an automaton: the document's. Printed. -/
import Derived.Test.YtkkdpafkafjfgaaDoorWwAuW
import Derived.Test.YtkkdpafkafjfgaaDoorWwPOwn
import Derived.Laws.Rows
import Derived.Shelf.SlGeneric
import Derived.Shelf.SlicesE.Reverse
import Derived.Test.YtkkdpafkafjfgaaDoorProg
import Derived.Test.YtkkdpafkafjfgaaDoorWwPBase
import Derived.Sort.Row
import Derived.Test.YtkkdpafkafjfgaaDoorWwGlR
import Derived.Test.YtkkdpafkafjfgaaDoorWwScPat
import Derived.Test.YtkkdpafkafjfgaaDoorWwPAuK
namespace Go.Proofs.YtkkdpafkafjfgaaDoor
open Go.RowKit
set_option linter.unusedVariables false
end Go.Proofs.YtkkdpafkafjfgaaDoor

namespace Go.Proofs.YtkkdpafkafjfgaaDoor
open Go.RowKit
set_option linter.unusedVariables false
theorem results_cellA {fn : Func} {p : Tmp} {ty : TypeId} (h : fn.results = #[.cell p ty]) (tmps : Array Value) (P : Program) (w : World) :
    (results fn tmps).run P w = ((asAddr (tmps.getD p undef)).run P w).andThen fun a w₁ => (loadVar ty a).run P w₁ := by
  simp only [results, h]
  simp [Sem.run_bind, Result.andThen]
theorem wpList_build_row {ops : Array Oper} {rest : List Oper} {o : Oper} {a : Act} {w : World} {Q : Exit → Act → World → Prop} (hgd : o.guard = none) {x : Operand} (ho : o.op = .buildSlice 90 1 #[(0, x)]) {f : Nat → Int} (hx : a.eval x = .agg (rowI f))
    (h : wpList Tryd.prog ops Q rest (a.put o.dst (.slice (some ⟨w.heap.size, 0, none⟩) 1 1)) (w.alloc (.cells (rowI f) 26))) : wpList Tryd.prog ops Q (o :: rest) a w := by
  refine wpList_plain hgd fun _ hK => ?_
  unfold Oper.wp execOp
  simp only [ho, List.map_toArray, List.map_cons, List.map_nil, hx, Sem.run_bind, build_row, Result.andThen_ok, Sem.run_pure]
  exact hK _ _ h
end Go.Proofs.YtkkdpafkafjfgaaDoor

namespace Go.Proofs
open Go.Shelf
end Go.Proofs

namespace Go.Proofs.YtkkdpafkafjfgaaDoor
open Go.RowKit
open Go.Sort (Holds mapBlock ahead putRow holds_putRow holds_ahead)
set_option linter.unusedVariables false
end Go.Proofs.YtkkdpafkafjfgaaDoor

namespace Go.Proofs.YtkkdpafkafjfgaaDoor
set_option linter.unusedVariables false
structure InG (g : Gl) (o : Part) : Prop where
  first : o.first < 2 ^ g.sets.length
  last : o.last < 2 ^ g.sets.length
theorem pow_le12 {n : Nat} (h : n ≤ 12) : 2 ^ n ≤ 4096 := Nat.pow_le_pow_right (n := 2) (by decide) h
theorem InG.small {g : Gl} {o : Part} (h : InG g o) (hf : Fits g) : SmallG o := ⟨Nat.lt_of_lt_of_le h.first (pow_le12 hf.le), Nat.lt_of_lt_of_le h.last (pow_le12 hf.le)⟩
theorem InG.mono {g g' : Gl} {o : Part} (h : InG g o) (hl : g.sets.length ≤ g'.sets.length) : InG g' o :=
  ⟨Nat.lt_of_lt_of_le h.first (Nat.pow_le_pow_right (n := 2) (by decide) hl), Nat.lt_of_lt_of_le h.last (Nat.pow_le_pow_right (n := 2) (by decide) hl)⟩
theorem in0 (g : Gl) (z : Bool) : InG g ⟨0, 0, z⟩ := ⟨Nat.two_pow_pos _, Nat.two_pow_pos _⟩
theorem one_in (g : Gl) (s : Nat → Bool) : g.sets.length ≤ (g.one s).2.sets.length ∧ InG (g.one s).2 (g.one s).1 := by
  unfold Gl.one
  split
  · exact ⟨Nat.le_refl _, in0 _ _⟩
  · refine ⟨by simp, ?_, ?_⟩ <;> simp <;> exact Nat.pow_lt_pow_right (a := 2) (by decide) (by omega)
theorem op2_in {c : Bool} {o k : Part} {g : Gl} (h : InG g o) (h2 : InG g k) : InG (op2 c o k g).2 (op2 c o k g).1 := by
  cases c
  · exact ⟨Nat.or_lt_two_pow h.first h2.first, Nat.or_lt_two_pow h.last h2.last⟩
  · refine ⟨?_, ?_⟩
    · show (thenP o k).first < 2 ^ g.sets.length
      unfold thenP; dsimp only; split
      · exact Nat.or_lt_two_pow h.first h2.first
      · exact h.first
    · show (thenP o k).last < 2 ^ g.sets.length
      unfold thenP; dsimp only; split
      · exact Nat.or_lt_two_pow h2.last h.last
      · exact h2.last
def InB (b : Builder) : Prop := ∀ g, Fits g → Fits (b g).2 ∧ g.sets.length ≤ (b g).2.sets.length ∧ ∀ o, (b g).1 = some o → InG (b g).2 o
theorem lit_in : ∀ (l : List (Nat → Bool)) (o : Part) (g : Gl), Fits g → InG g o → Fits (litG l o g).2 ∧ g.sets.length ≤ (litG l o g).2.sets.length ∧ InG (litG l o g).2 (litG l o g).1
  | [], o, g, hf, ho => ⟨hf, Nat.le_refl _, ho⟩
  | s :: l, o, g, hf, ho => by
    rw [litG]
    split
    · exact ⟨hf, Nat.le_refl _, ho⟩
    · have h1 := one_in g s
      have h2 := one_fits hf s
      have h3 := op2_fits (c := true) h2.1 (ho.small hf) h2.2
      have h4 := op2_in (c := true) (ho.mono h1.1) h1.2
      obtain ⟨k1, k2, k3⟩ := lit_in l _ _ h3.1 h4
      rw [op2_sets] at k2
      exact ⟨k1, Nat.le_trans h1.1 k2, k3⟩
theorem kids_in (c : Bool) : ∀ (l : List Builder), (∀ b ∈ l, InB b) → ∀ (o : Part) (g : Gl), Fits g → InG g o → Fits (kidsG c l o g).2 ∧ g.sets.length ≤ (kidsG c l o g).2.sets.length ∧ ∀ o', (kidsG c l o g).1 = some o' → InG (kidsG c l o g).2 o'
  | [], _, o, g, hf, ho => ⟨hf, Nat.le_refl _, fun o' h => by cases h; exact ho⟩
  | b :: l, hb, o, g, hf, ho => by
    obtain ⟨h1, h2, h3⟩ := hb b (by simp) g hf
    rw [kidsG]
    cases e : (b g).1 with
    | none => exact ⟨h1, h2, fun o' h => by cases h⟩
    | some k =>
      have hk := h3 k e
      have h4 := op2_fits (c := c) h1 (ho.small hf) (hk.small h1)
      have h5 := op2_in (c := c) (ho.mono h2) hk
      obtain ⟨k1, k2, k3⟩ := kids_in c l (fun b hb' => hb b (by simp [hb'])) _ _ h4.1 h5
      rw [op2_sets] at k2
      exact ⟨k1, Nat.le_trans h2 k2, k3⟩
theorem head_in (c : Bool) {l : List Builder} (h : ∀ b ∈ l, InB b) : InB (headG c l) := fun g hf => by
  cases l with
  | nil => exact ⟨hf, Nat.le_refl _, fun o h => by cases h; exact in0 _ _⟩
  | cons b l =>
    obtain ⟨h1, h2, h3⟩ := h b (by simp) g hf
    rw [headG]
    cases e : (b g).1 with
    | none => exact ⟨h1, h2, fun o' h => by cases h⟩
    | some k =>
      obtain ⟨k1, k2, k3⟩ := kids_in c l (fun b hb' => h b (by simp [hb'])) k _ h1 (h3 k e)
      exact ⟨k1, Nat.le_trans h2 k2, k3⟩
theorem star_in {b : Builder} (h : InB b) : InB (fun g => starG (b g)) := fun g hf => by
  obtain ⟨h1, h2, h3⟩ := h g hf
  cases e : (b g).1 with
  | none =>
    have : starG (b g) = (none, (b g).2) := by unfold starG; rw [e]
    dsimp only; rw [this]; exact ⟨h1, h2, fun o' h => by cases h⟩
  | some k =>
    have : starG (b g) = (some (againP k), (b g).2.join k.last k.first) := by unfold starG; rw [e]
    dsimp only; rw [this]
    have hk := h3 k e
    exact ⟨h1.join (hk.small h1).first, h2, fun o' h => by cases h; exact ⟨hk.first, hk.last⟩⟩
theorem buildK_in {k : Int} {t : ByteArray} {n : Int} {bs : List Builder} (h : ∀ b ∈ bs, InB b) : InB (buildK k t n bs) := fun g hf => by
  unfold buildK
  split
  · exact ⟨(lit_in _ _ g hf (in0 g true)).1, (lit_in _ _ g hf (in0 g true)).2.1, fun o e => by cases e; exact (lit_in _ _ g hf (in0 g true)).2.2⟩
  split
  · exact ⟨(one_fits hf _).1, (one_in g _).1, fun o e => by cases e; exact (one_in g _).2⟩
  split
  · exact ⟨(one_fits hf _).1, (one_in g _).1, fun o e => by cases e; exact (one_in g _).2⟩
  split
  · exact star_in (b := fun g => someG (g.one allB)) (fun g hf => ⟨(one_fits hf _).1, (one_in g _).1, fun o e => by cases e; exact (one_in g _).2⟩) g hf
  split
  · exact ⟨hf, Nat.le_refl _, fun o e => by cases e; exact in0 _ _⟩
  split
  · exact head_in true h g hf
  split
  · exact head_in false h g hf
  split
  · exact star_in (head_in false h) g hf
  · exact ⟨hf, Nat.le_refl _, fun o e => by cases e⟩
mutual
theorem build_in : ∀ p : Pat, InB (buildP p)
  | .mk k t n m l => by rw [buildP]; exact buildK_in (buildL_in l)
theorem buildL_in : ∀ (l : List Pat), ∀ b ∈ buildL l, InB b
  | [], b, h => by rw [buildL] at h; cases h
  | p :: l, b, h => by
    rw [buildL] at h
    cases h with
    | head => exact build_in p
    | tail _ h => exact buildL_in l b h
end
mutual
def fitP : Pat → Prop
  | .mk k t n m l => (k = 1 → t.size ≤ 65536) ∧ (k = 2 → 0 ≤ n ∧ n ≤ 65536) ∧ ((k = 18 ∨ k = 19 ∨ k = 20) → 0 < l.length) ∧ l.length ≤ 4096 ∧ fitL l
def fitL : List Pat → Prop
  | [] => True
  | p :: l => fitP p ∧ fitL l
end
theorem fitL_get : ∀ {l : List Pat}, fitL l → ∀ {i : Nat}, i < l.length → fitP (l.getD i Pat.zero)
  | [], _, i, h => absurd h (Nat.not_lt_zero i)
  | p :: l, h, 0, _ => by rw [fitL] at h; exact h.1
  | p :: l, h, i + 1, hi => by rw [fitL] at h; exact fitL_get h.2 (by simpa using hi)
mutual
theorem fit_full : ∀ p : Pat, fitP p → fullP p
  | .mk k t n m l, h => by rw [fitP] at h; rw [fullP]; exact ⟨h.2.2.1, fitL_full l h.2.2.2.2⟩
theorem fitL_full : ∀ l : List Pat, fitL l → fullL l
  | [], _ => by rw [fullL]; trivial
  | p :: l, h => by rw [fitL] at h; rw [fullL]; exact ⟨fit_full p h.1, fitL_full l h.2⟩
end
end Go.Proofs.YtkkdpafkafjfgaaDoor

namespace Go.Proofs.YtkkdpafkafjfgaaDoor
set_option linter.unusedVariables false
def InF (g : Gl) : Prop := ∀ q, g.fo.getD q 0 < 2 ^ g.sets.length
theorem InF.join {g : Gl} (h : InF g) {a b : Nat} (hb : b < 2 ^ g.sets.length) : InF (g.join a b) := fun q => by
  rw [join_getD]
  show _ < 2 ^ g.sets.length
  split
  · split
    · exact Nat.or_lt_two_pow (h q) hb
    · exact h q
  · exact Nat.two_pow_pos _
theorem InF.one {g : Gl} (h : InF g) (s : Nat → Bool) : InF (g.one s).2 := by
  unfold Gl.one
  split
  · exact h
  · intro q
    show (g.fo ++ [0]).getD q 0 < 2 ^ (g.sets ++ [s]).length
    rw [getD_snoc0]
    exact Nat.lt_of_lt_of_le (h q) (Nat.pow_le_pow_right (n := 2) (by decide) (by simp))
theorem InF.op2 {c : Bool} {o k : Part} {g : Gl} (h : InF g) (hk : InG g k) : InF (op2 c o k g).2 := by
  cases c
  · exact h
  · exact h.join hk.first
def InC (b : Builder) : Prop := ∀ g, Fits g → InF g → InF (b g).2
theorem lit_inF : ∀ (l : List (Nat → Bool)) (o : Part) (g : Gl), Fits g → InG g o → InF g → InF (litG l o g).2
  | [], o, g, hf, ho, h => h
  | s :: l, o, g, hf, ho, h => by
    rw [litG]
    split
    · exact h
    · have h1 := one_in g s
      have h2 := one_fits hf s
      have h3 := op2_fits (c := true) h2.1 (ho.small hf) h2.2
      exact lit_inF l _ _ h3.1 (op2_in (c := true) (ho.mono h1.1) h1.2) ((h.one s).op2 (c := true) h1.2)
theorem kids_inF (c : Bool) : ∀ (l : List Builder), (∀ b ∈ l, InB b ∧ InC b) → ∀ (o : Part) (g : Gl), Fits g → InG g o → InF g → InF (kidsG c l o g).2
  | [], _, o, g, hf, ho, h => h
  | b :: l, hb, o, g, hf, ho, h => by
    obtain ⟨h1, h2, h3⟩ := (hb b (by simp)).1 g hf
    have hF := (hb b (by simp)).2 g hf h
    rw [kidsG]
    cases e : (b g).1 with
    | none => exact hF
    | some k =>
      have hk := h3 k e
      have h4 := op2_fits (c := c) h1 (ho.small hf) (hk.small h1)
      exact kids_inF c l (fun b hb' => hb b (by simp [hb'])) _ _ h4.1 (op2_in (c := c) (ho.mono h2) hk) (hF.op2 hk)
theorem head_inF (c : Bool) {l : List Builder} (h : ∀ b ∈ l, InB b ∧ InC b) : InC (headG c l) := fun g hf hg => by
  cases l with
  | nil => exact hg
  | cons b l =>
    obtain ⟨h1, h2, h3⟩ := (h b (by simp)).1 g hf
    have hF := (h b (by simp)).2 g hf hg
    rw [headG]
    cases e : (b g).1 with
    | none => exact hF
    | some k => exact kids_inF c l (fun b hb' => h b (by simp [hb'])) k _ h1 (h3 k e) hF
theorem star_inF {b : Builder} (h : InB b) (hc : InC b) : InC (fun g => starG (b g)) := fun g hf hg => by
  obtain ⟨h1, h2, h3⟩ := h g hf
  have hF := hc g hf hg
  cases e : (b g).1 with
  | none =>
    have : starG (b g) = (none, (b g).2) := by unfold starG; rw [e]
    dsimp only; rw [this]; exact hF
  | some k =>
    have : starG (b g) = (some (againP k), (b g).2.join k.last k.first) := by unfold starG; rw [e]
    dsimp only; rw [this]
    exact hF.join (h3 k e).first
theorem buildK_inF {k : Int} {t : ByteArray} {n : Int} {bs : List Builder} (h : ∀ b ∈ bs, InB b ∧ InC b) : InC (buildK k t n bs) := fun g hf hg => by
  unfold buildK
  split
  · exact lit_inF _ _ g hf (in0 g true) hg
  split
  · exact hg.one _
  split
  · exact hg.one _
  split
  · exact star_inF (b := fun g => someG (g.one allB)) (fun g hf => ⟨(one_fits hf _).1, (one_in g _).1, fun o e => by cases e; exact (one_in g _).2⟩) (fun g hf hg => hg.one _) g hf hg
  split
  · exact hg
  split
  · exact head_inF true h g hf hg
  split
  · exact head_inF false h g hf hg
  split
  · exact star_inF (head_in false fun b hb => (h b hb).1) (head_inF false h) g hf hg
  · exact hg
mutual
theorem build_inF : ∀ p : Pat, InC (buildP p)
  | .mk k t n m l => by rw [buildP]; exact buildK_inF fun b hb => ⟨buildL_in l b hb, buildL_inF l b hb⟩
theorem buildL_inF : ∀ (l : List Pat), ∀ b ∈ buildL l, InC b
  | [], b, h => by rw [buildL] at h; cases h
  | p :: l, b, h => by
    rw [buildL] at h
    cases h with
    | head => exact build_inF p
    | tail _ h => exact buildL_inF l b h
end
theorem inF0 : InF gl0 := fun q => by simp [gl0]
theorem may_lt {g : Gl} (h : InF g) {o : Part} (ho : InG g o) (s : Nat) : mayG g o s < 2 ^ g.sets.length := by
  unfold mayG
  split
  · exact ho.first
  · refine Nat.lt_pow_two_of_testBit _ fun i hi => ?_
    rw [Bool.eq_false_iff]
    intro hb
    rw [fold_or, Nat.zero_testBit] at hb
    rcases hb with hb | ⟨q, _, _, h3⟩
    · cases hb
    · rw [Nat.testBit_lt_two_pow (Nat.lt_of_lt_of_le (h q) (Nat.pow_le_pow_right (n := 2) (by decide) hi))] at h3; cases h3
theorem st_lt2 {g : Gl} (h : InF g) {o : Part} (ho : InG g o) (s c : Nat) : stG g o s c < 2 ^ g.sets.length := by
  refine Nat.lt_pow_two_of_testBit _ fun i hi => ?_
  rw [Bool.eq_false_iff]
  intro hb
  have h2 := ((st_bit g o s c i).1 hb).2.1
  unfold bit at h2
  rw [Nat.testBit_lt_two_pow (Nat.lt_of_lt_of_le (may_lt h ho s) (Nat.pow_le_pow_right (n := 2) (by decide) hi))] at h2; cases h2
end Go.Proofs.YtkkdpafkafjfgaaDoor

namespace Go.Proofs.YtkkdpafkafjfgaaDoor
set_option linter.unusedVariables false
end Go.Proofs.YtkkdpafkafjfgaaDoor
