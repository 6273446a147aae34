/- A region whose order is open, told by what each operation leaves in its slot: one obligation for each operation, whichever order is drawn. Over any program. -/
import Derived.Test.YtolfdcbebjfjiaaDoorBase
import Derived.Orders
namespace Go.Proofs.YtolfdcbebjfjiaaDoor
open Go.RowKit
set_option linter.unusedVariables false
section
variable {P : Program} {ops : Array Oper} {Q : Exit → Act → World → Prop} {F : Nat → Value → World → Prop} {a0 : Act} {w0 : World}

/-- What operations that have come up have left; all else is as it was. -/
structure RTold (ops : Array Oper) (F : Nat → Value → World → Prop) (a0 : Act) (w0 : World) (listed : Array Bool) (a : Act) (w : World) : Prop where
  grew : Grew w0 w
  defers : a.defers = a0.defers
  size : a.tmps.size = a0.tmps.size
  same : ∀ d, (∀ (i : Nat) o, ops[i]? = some o → o.dst ≠ some d) → a.tmps.getD d undef = a0.tmps.getD d undef
  told : ∀ (i : Nat) o d, ops[i]? = some o → listed.getD i false = true → o.dst = some d → F i (a.tmps.getD d undef) w
/-- Each writes a slot of its own, and waits for earlier ones alone. -/
def regionOk (ops : Array Oper) (n : Nat) : Bool :=
  (List.range ops.size).all fun i => match ops[i]? with
    | none => true
    | some o => (o.after.all fun e => !(Region.binds .any e) || decide (e.on < i)) && (match o.dst with
      | none => true
      | some d => decide (d < n) && (List.range i).all fun j => match ops[j]? with
        | none => true
        | some o' => o'.dst != some d)
theorem regionOk_at {n i : Nat} {o : Oper} (h : regionOk ops n = true) (ho : ops[i]? = some o) : (∀ e ∈ o.after, Region.binds .any e = true → e.on < i) ∧ ∀ d, o.dst = some d → d < n ∧ ∀ j, j < i → ∀ o', ops[j]? = some o' → o'.dst ≠ some d := by
  unfold regionOk at h
  rw [List.all_eq_true] at h
  have hi : i < ops.size := (Array.getElem?_eq_some_iff.1 ho).1
  have h := h i (List.mem_range.2 hi)
  rw [ho] at h
  dsimp only at h
  rw [Bool.and_eq_true] at h
  refine ⟨fun e he hb => by
    have := Array.all_eq_true_iff_forall_mem.1 h.1 e he
    rw [hb] at this
    simpa using this, fun d hd => ?_⟩
  have h2 := h.2
  rw [hd] at h2
  dsimp only at h2
  rw [Bool.and_eq_true, List.all_eq_true] at h2
  refine ⟨of_decide_eq_true h2.1, fun j hj o' ho' e => ?_⟩
  have h3 := h2.2 j (List.mem_range.2 hj)
  rw [ho'] at h3
  dsimp only at h3
  rw [e] at h3
  simp at h3
/-- What an operation owes: run where all that it waits for has come up, it leaves what is told of it. -/
def StepOk (P : Program) (ops : Array Oper) (Q : Exit → Act → World → Prop) (F : Nat → Value → World → Prop) (a0 : Act) (w0 : World) (i : Nat) (o : Oper) : Prop :=
  ∀ a w, Grew w0 w → (∀ d, (∀ (i : Nat) o, ops[i]? = some o → o.dst ≠ some d) → a.tmps.getD d undef = a0.tmps.getD d undef) →
    (∀ e ∈ o.after, Region.binds .any e = true → ∀ oe d, ops[e.on]? = some oe → oe.dst = some d → F e.on (a.tmps.getD d undef) w ∧ d < a.tmps.size) →
    ∀ K : Act → World → Prop, (∀ v w', Grew w w' → F i v w' → K (a.put o.dst v) w') → if Region.wanted o (yielded ops a.tmps) = true then o.wp P a w K Q else K (a.put o.dst undef) w
theorem getD_put {t : Array Value} {d k : Nat} {v : Value} (h : d ≠ k) : (t.setIfInBounds d v).getD k undef = t.getD k undef := by
  simp only [Array.getD_eq_getD_getElem?, Array.getElem?_setIfInBounds_ne h]
theorem getD_put_same {t : Array Value} {d : Nat} {v : Value} (h : d < t.size) : (t.setIfInBounds d v).getD d undef = v := by
  simp only [Array.getD_eq_getD_getElem?, Array.getElem?_setIfInBounds_self_of_lt h, Option.getD_some]
theorem rtold_put (hmono : ∀ i v w w', Grew w w' → F i v w → F i v w') (hok : regionOk ops a0.tmps.size = true) {listed : Array Bool} {a : Act} {w w' : World} (h : RTold ops F a0 w0 listed a w)
    {i : Nat} {o : Oper} (ho : ops[i]? = some o) {v : Value} (hw : Grew w w') (hF : F i v w') : RTold ops F a0 w0 (listed.setIfInBounds i true) (a.put o.dst v) w' := by
  obtain ⟨_, hb⟩ := regionOk_at hok ho
  have apart : ∀ (j : Nat) o' d, ops[j]? = some o' → j ≠ i → o.dst = some d → o'.dst ≠ some d := fun j o' d hj hne hd e => by
    rcases Nat.lt_or_gt_of_ne hne with hl | hl
    · exact (hb d hd).2 j hl o' hj e
    · exact ((regionOk_at hok hj).2 d e).2 i hl o ho hd
  refine ⟨h.grew.trans hw, ?_, ?_, fun d hd => ?_, fun j o' d' hj hl hd' => ?_⟩
  · cases o.dst <;> exact h.defers
  · cases o.dst with
    | none => exact h.size
    | some d => show (a.tmps.setIfInBounds d v).size = _; rw [Array.size_setIfInBounds]; exact h.size
  · cases hd0 : o.dst with
    | none => exact h.same d hd
    | some d0 =>
      show (a.tmps.setIfInBounds d0 v).getD d undef = _
      rw [getD_put (fun e => hd i o ho (by rw [hd0, e]))]
      exact h.same d hd
  · by_cases hji : j = i
    · subst hji
      rw [ho] at hj; cases hj
      rw [hd']
      show F j ((a.tmps.setIfInBounds d' v).getD d' undef) w'
      rw [getD_put_same (by rw [h.size]; exact (hb d' hd').1)]
      exact hF
    · have hl' : listed.getD j false = true := by rw [getD_set_ne false (Ne.symm hji)] at hl; exact hl
      have h1 := hmono j _ w w' hw (h.told j o' d' hj hl' hd')
      cases hd0 : o.dst with
      | none => exact h1
      | some d0 =>
        show F j ((a.tmps.setIfInBounds d0 v).getD d' undef) w'
        rw [getD_put (fun e => apart j o' d0 hj hji hd0 (by rw [hd', e]))]
        exact h1
theorem countP_lt {α : Type} {p q : α → Bool} : ∀ {l : List α} {a : α}, (∀ x ∈ l, p x = true → q x = true) → a ∈ l → p a = false → q a = true → l.countP p < l.countP q
  | [], a, _, ha, _, _ => by cases ha
  | x :: l, a, h, ha, h1, h2 => by
    have hle : l.countP p ≤ l.countP q := List.countP_mono_left fun y hy => h y (by simp [hy])
    rw [List.countP_cons, List.countP_cons]
    rcases List.mem_cons.1 ha with rfl | ha
    · rw [h1, h2]; simp; omega
    · have := countP_lt (fun y hy => h y (by simp [hy])) ha h1 h2
      have hx := h x (by simp)
      cases hp : p x with
      | false => cases q x <;> simp <;> omega
      | true => rw [hx hp]; simp; omega
def rtodo (n : Nat) (listed : Array Bool) : Nat := (List.range n).countP fun i => !listed.getD i false
theorem none_ready (hok : regionOk ops a0.tmps.size = true) {listed : Array Bool} (hs : listed.size = ops.size) (h : Region.ready .any ops listed = []) : ∀ i, i < ops.size → listed.getD i false = true := by
  intro i
  induction i using Nat.strongRecOn with
  | _ i ih =>
    intro hi
    cases hl : listed.getD i false with
    | true => rfl
    | false =>
      exfalso
      have ho : ops[i]? = some ops[i] := by simp [hi]
      have : i ∈ Region.ready .any ops listed := mem_ready.2 ⟨by
        have hi2 : i < listed.size := by omega
        simp only [Array.getD_eq_getD_getElem?, Array.getElem?_eq_getElem hi2, Option.getD_some] at hl ⊢
        exact hl, ops[i], ho, fun e he hb => ih e.on ((regionOk_at hok ho).1 e he hb) (by have := (regionOk_at hok ho).1 e he hb; omega)⟩
      rw [h] at this
      cases this
theorem rtold_any (hmono : ∀ i v w w', Grew w w' → F i v w → F i v w') (hok : regionOk ops a0.tmps.size = true) (hstep : ∀ (i : Nat) o, ops[i]? = some o → StepOk P ops Q F a0 w0 i o)
    (hend : ∀ listed a w, (∀ i, i < ops.size → listed.getD i false = true) → RTold ops F a0 w0 listed a w → Q .normal a w) :
    ∀ (fuel : Nat) (listed : Array Bool) (a : Act) (w : World), listed.size = ops.size → rtodo ops.size listed ≤ fuel → RTold ops F a0 w0 listed a w → wpAny P .any ops Q fuel listed a w := by
  intro fuel
  induction fuel with
  | zero =>
    intro listed a w hs hn h
    have hall : ∀ i, i < ops.size → listed.getD i false = true := fun i hi => by
      have : rtodo ops.size listed = 0 := by omega
      unfold rtodo at this
      rw [List.countP_eq_zero] at this
      simpa using this i (List.mem_range.2 hi)
    refine ⟨?_, hend listed a w hall h⟩
    cases hr : Region.ready .any ops listed with
    | nil => rfl
    | cons x l =>
      exfalso
      have hx : x ∈ Region.ready .any ops listed := by rw [hr]; simp
      obtain ⟨h1, o, ho, _⟩ := mem_ready.1 hx
      have hi : x < ops.size := (Array.getElem?_eq_some_iff.1 ho).1
      have h2 := hall x hi
      have hi2 : x < listed.size := by omega
      simp only [Array.getD_eq_getD_getElem?, Array.getElem?_eq_getElem hi2, Option.getD_some] at h1 h2
      rw [h2] at h1; cases h1
  | succ fuel ih =>
    intro listed a w hs hn h
    refine ⟨fun hr => hend listed a w (none_ready hok hs hr) h, fun i hi => ?_⟩
    obtain ⟨h1, o, ho, hall⟩ := mem_ready.1 hi
    have hil : i < ops.size := (Array.getElem?_eq_some_iff.1 ho).1
    have hK : ∀ v w', Grew w w' → F i v w' → wpAny P .any ops Q fuel (listed.setIfInBounds i true) (a.put o.dst v) w' := fun v w' hw hF => by
      refine ih _ _ _ (by rw [Array.size_setIfInBounds]; exact hs) ?_ (rtold_put hmono hok h ho hw hF)
      have hlt : rtodo ops.size (listed.setIfInBounds i true) < rtodo ops.size listed := by
        unfold rtodo
        have hi2 : i < listed.size := by omega
        refine countP_lt (a := i) (fun j hj => ?_) (List.mem_range.2 hil) ?_ ?_
        · by_cases hji : j = i
          · subst hji
            intro hx
            simp [Array.getD_eq_getD_getElem?, hi2] at hx
          · rw [getD_set_ne false (Ne.symm hji)]; exact id
        · simp [Array.getD_eq_getD_getElem?, hi2]
        · simp only [Array.getD_eq_getD_getElem?, Array.getElem?_eq_getElem hi2, Option.getD_some] at h1 ⊢
          simp [h1]
      omega
    have := hstep i o ho a w h.grew h.same (fun e he hb oe d hoe hd => ⟨h.told e.on oe d hoe (hall e he hb) hd, by rw [h.size]; exact ((regionOk_at hok hoe).2 d hd).1⟩) _ hK
    unfold wpOp
    rw [ho]
    dsimp only
    split
    · rename_i hw; rw [if_pos hw] at this; exact .inl this
    · rename_i hw; rw [if_neg hw] at this; exact this
/-- **The law.** -/
theorem wp_region_told {id : Nat} (hm : P.follows .mixedOrders = true) (F : Nat → Value → World → Prop) (hmono : ∀ i v w w', Grew w w' → F i v w → F i v w') (hok : regionOk ops a0.tmps.size = true)
    (hstep : ∀ (i : Nat) o, ops[i]? = some o → StepOk P ops Q F a0 w0 i o)
    (hend : ∀ a w, Grew w0 w → a.defers = a0.defers → a.tmps.size = a0.tmps.size → (∀ d, (∀ (i : Nat) o, ops[i]? = some o → o.dst ≠ some d) → a.tmps.getD d undef = a0.tmps.getD d undef) →
      (∀ (i : Nat) o d, ops[i]? = some o → o.dst = some d → F i (a.tmps.getD d undef) w) → Q .normal a w) :
    (Code.region id ops true).wp P Q a0 w0 := by
  refine wp_region_any hm (rtold_any hmono hok hstep (fun listed a w hall h => hend a w h.grew h.defers h.size h.same fun i o d ho hd => h.told i o d ho (hall i (Array.getElem?_eq_some_iff.1 ho).1) hd) ops.size _ a0 _ (by simp) ?_ ⟨(Grew.refl w0).drew, rfl, rfl, fun d _ => rfl, fun i o d ho hl _ => ?_⟩)
  · unfold rtodo
    have := List.countP_le_length (p := fun i => !(Array.replicate ops.size false).getD i false) (l := List.range ops.size)
    simpa using this
  · exfalso
    have hi : i < ops.size := (Array.getElem?_eq_some_iff.1 ho).1
    simp [Array.getD_eq_getD_getElem?, hi] at hl
end
end Go.Proofs.YtolfdcbebjfjiaaDoor
