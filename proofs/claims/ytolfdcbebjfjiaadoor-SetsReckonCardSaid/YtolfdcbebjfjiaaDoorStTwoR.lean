/- The region of open order that asks for the bytes of two sets: by what holds after each operation, whichever order is drawn. -/
import Derived.Test.YtolfdcbebjfjiaaDoorStShape
import Derived.Test.YtolfdcbebjfjiaaDoorStRef
namespace Go.Proofs.YtolfdcbebjfjiaaDoor
open Go.RowKit
set_option linter.unusedVariables false
section
variable {P : Program} {ops : Array Oper} {Q : Exit → Act → World → Prop} {a0 : Act} {w0 : World} {I : Array Bool → Act → World → Prop}
theorem rinv_any (hok : regionOk ops a0.tmps.size = true)
    (hstep : ∀ (listed : Array Bool) (a : Act) (w : World) (i : Nat) (o : Oper), listed.size = ops.size → I listed a w → ops[i]? = some o → (∀ e ∈ o.after, Region.binds .any e = true → listed.getD e.on false = true) → listed.getD i false = false →
      ∀ K : Act → World → Prop, (∀ v w', I (listed.setIfInBounds i true) (a.put o.dst v) w' → K (a.put o.dst v) w') → if Region.wanted o (yielded ops a.tmps) = true then o.wp P a w K Q else K (a.put o.dst undef) w)
    (hend : ∀ listed a w, (∀ i, i < ops.size → listed.getD i false = true) → I listed a w → Q .normal a w) :
    ∀ (fuel : Nat) (listed : Array Bool) (a : Act) (w : World), listed.size = ops.size → rtodo ops.size listed ≤ fuel → I listed a w → wpAny P .any ops Q fuel listed a w := by
  intro fuel
  induction fuel with
  | zero =>
    intro listed a w hs hn h
    have hall : ∀ i, i < ops.size → listed.getD i false = true := fun i hi => by
      have : rtodo ops.size listed = 0 := by omega
      unfold rtodo at this
      rw [List.countP_eq_zero] at this
      simpa using this i (List.mem_range.2 hi)
    refine ⟨?_, hend listed a w hall h⟩
    cases hr : Region.ready .any ops listed with
    | nil => rfl
    | cons x l =>
      exfalso
      have hx : x ∈ Region.ready .any ops listed := by rw [hr]; simp
      obtain ⟨h1, o, ho, _⟩ := mem_ready.1 hx
      have hi : x < ops.size := (Array.getElem?_eq_some_iff.1 ho).1
      have h2 := hall x hi
      have hi2 : x < listed.size := by omega
      simp only [Array.getD_eq_getD_getElem?, Array.getElem?_eq_getElem hi2, Option.getD_some] at h1 h2
      rw [h2] at h1; cases h1
  | succ fuel ih =>
    intro listed a w hs hn h
    refine ⟨fun hr => hend listed a w (none_ready hok hs hr) h, fun i hi => ?_⟩
    obtain ⟨h1, o, ho, hall⟩ := mem_ready.1 hi
    have hil : i < ops.size := (Array.getElem?_eq_some_iff.1 ho).1
    have hi2 : i < listed.size := by omega
    have hlf : listed.getD i false = false := by
      simp only [Array.getD_eq_getD_getElem?, Array.getElem?_eq_getElem hi2, Option.getD_some] at h1 ⊢
      simpa using h1
    have hK : ∀ v w', I (listed.setIfInBounds i true) (a.put o.dst v) w' → wpAny P .any ops Q fuel (listed.setIfInBounds i true) (a.put o.dst v) w' := fun v w' hI => by
      refine ih _ _ _ (by rw [Array.size_setIfInBounds]; exact hs) ?_ hI
      have hlt : rtodo ops.size (listed.setIfInBounds i true) < rtodo ops.size listed := by
        unfold rtodo
        refine countP_lt (a := i) (fun j hj => ?_) (List.mem_range.2 hil) ?_ ?_
        · by_cases hji : j = i
          · subst hji
            intro hx
            simp [Array.getD_eq_getD_getElem?, hi2] at hx
          · rw [getD_set_ne false (Ne.symm hji)]; exact id
        · simp [Array.getD_eq_getD_getElem?, hi2]
        · rw [hlf]; rfl
      omega
    have := hstep listed a w i o hs h ho (fun e he hb => hall e he hb) hlf _ hK
    unfold wpOp
    rw [ho]
    dsimp only
    split
    · rename_i hw; rw [if_pos hw] at this; exact .inl this
    · rename_i hw; rw [if_neg hw] at this; exact this
theorem wp_region_inv {id : Nat} (hm : P.follows .mixedOrders = true) (hok : regionOk ops a0.tmps.size = true) (h0 : I (Array.replicate ops.size false) a0 w0.drew)
    (hstep : ∀ (listed : Array Bool) (a : Act) (w : World) (i : Nat) (o : Oper), listed.size = ops.size → I listed a w → ops[i]? = some o → (∀ e ∈ o.after, Region.binds .any e = true → listed.getD e.on false = true) → listed.getD i false = false →
      ∀ K : Act → World → Prop, (∀ v w', I (listed.setIfInBounds i true) (a.put o.dst v) w' → K (a.put o.dst v) w') → if Region.wanted o (yielded ops a.tmps) = true then o.wp P a w K Q else K (a.put o.dst undef) w)
    (hend : ∀ listed a w, (∀ i, i < ops.size → listed.getD i false = true) → I listed a w → Q .normal a w) : (Code.region id ops true).wp P Q a0 w0 := by
  refine wp_region_any hm (rinv_any hok hstep hend ops.size _ a0 _ (by simp) ?_ h0)
  unfold rtodo
  have := List.countP_le_length (p := fun i => !(Array.replicate ops.size false).getD i false) (l := List.range ops.size)
  simpa using this
end
/-- What one operation owes. -/
def StepI (P : Program) (ops : Array Oper) (Q : Exit → Act → World → Prop) (I : Array Bool → Act → World → Prop) (i : Nat) (o : Oper) : Prop :=
  ∀ (listed : Array Bool) (a : Act) (w : World), listed.size = ops.size → I listed a w → (∀ e ∈ o.after, Region.binds .any e = true → listed.getD e.on false = true) → listed.getD i false = false →
    ∀ K : Act → World → Prop, (∀ v w', I (listed.setIfInBounds i true) (a.put o.dst v) w' → K (a.put o.dst v) w') → if Region.wanted o (yielded ops a.tmps) = true then o.wp P a w K Q else K (a.put o.dst undef) w
def AllI (S : Nat → Oper → Prop) : Nat → List Oper → Prop
  | _, [] => True
  | k, o :: l => S k o ∧ AllI S (k + 1) l
theorem AllI.at {S : Nat → Oper → Prop} : ∀ {l : List Oper} {k : Nat}, AllI S k l → ∀ (i : Nat) o, l[i]? = some o → S (k + i) o
  | [], k, _, i, o, h => by simp at h
  | x :: l, k, ⟨h1, h2⟩, 0, o, h => by
    simp at h; subst h; exact h1
  | x :: l, k, ⟨h1, h2⟩, i + 1, o, h => by
    have := AllI.at h2 i o (by simpa using h)
    rwa [show k + 1 + i = k + (i + 1) by omega] at this
theorem wp_region_steps {P : Program} {ops : List Oper} {Q : Exit → Act → World → Prop} {a0 : Act} {w0 : World} {id : Nat} (I : Array Bool → Act → World → Prop) (hm : P.follows .mixedOrders = true) (hok : regionOk ops.toArray a0.tmps.size = true) (h0 : I (Array.replicate ops.toArray.size false) a0 w0.drew)
    (hstep : AllI (StepI P ops.toArray Q I) 0 ops) (hend : ∀ listed a w, (∀ i, i < ops.toArray.size → listed.getD i false = true) → I listed a w → Q .normal a w) : (Code.region id ops.toArray true).wp P Q a0 w0 :=
  wp_region_inv hm hok h0 (fun listed a w i o hs hI ho hd hl K hK => by
    have := AllI.at hstep i o (by simpa using ho)
    rw [Nat.zero_add] at this
    exact this listed a w hs hI hd hl K hK) hend
/-- The flag of an operation. -/
def fl (listed : Array Bool) (i : Nat) : Bool := listed.getD i false
theorem fl_same {l : Array Bool} {i : Nat} (h : i < l.size) : fl (l.setIfInBounds i true) i = true := by simp [fl, Array.getD_eq_getD_getElem?, h]
theorem fl_ne {l : Array Bool} {i j : Nat} (h : i ≠ j) : fl (l.setIfInBounds i true) j = fl l j := getD_set_ne false h
def ptrV (b : Nat) : Value := .pointer (some ⟨b, 0, none⟩)
/-- What holds when some of the eight have come up. -/
structure TwoI (f g : Nat → Bool) (a0 : Act) (w0 : World) (l : Array Bool) (a : Act) (w : World) : Prop where
  defers : a.defers = a0.defers
  size : a.tmps.size = a0.tmps.size
  same : ∀ d, d ∉ [11, 12, 13, 14, 7, 8] → a.tmps.getD d undef = a0.tmps.getD d undef
  grew : Grew w0 w
  l0 : fl l 0 = true → a.tmps.getD 11 undef = setV f
  l1 : fl l 1 = true → a.tmps.getD 12 undef = rowF f
  l2 : fl l 2 = true → a.tmps.getD 13 undef = setV g
  l3 : fl l 3 = true → a.tmps.getD 14 undef = rowF g
  l4 : fl l 4 = true → ∃ b, a.tmps.getD 7 undef = ptrV b ∧ w0.heap.size ≤ b ∧ b < w.heap.size ∧ ArrAt w b 0 256 (fun j => .bool (fl l 6 && f j))
  l5 : fl l 5 = true → ∃ b, a.tmps.getD 8 undef = ptrV b ∧ w0.heap.size ≤ b ∧ b < w.heap.size ∧ ArrAt w b 0 256 (fun j => .bool (fl l 7 && g j))
  l45 : fl l 4 = true → fl l 5 = true → a.tmps.getD 7 undef ≠ a.tmps.getD 8 undef
  l64 : fl l 6 = true → fl l 4 = true
  l75 : fl l 7 = true → fl l 5 = true
section
variable {f g : Nat → Bool} {a0 a : Act} {w0 w w' : World} {l : Array Bool}
theorem put_get {d k : Nat} {v : Value} (h : d ≠ k) : (a.put (some d) v).tmps.getD k undef = a.tmps.getD k undef := getD_put h
theorem put_same {d : Nat} {v : Value} (h : d < a.tmps.size) : (a.put (some d) v).tmps.getD d undef = v := getD_put_same h
/-- One of the first four: a value into a slot of its own. -/
theorem TwoI.val (h : TwoI f g a0 w0 l a w) (hs : l.size = 8) (ht : a0.tmps.size = 31) {i : Nat} (hi : i < 4) {v : Value} (hv : v = [setV f, rowF f, setV g, rowF g].getD i undef) (hw : Grew w w') : TwoI f g a0 w0 (l.setIfInBounds i true) (a.put (some (11 + i)) v) w' := by
  have hsz := h.size
  refine ⟨h.defers, ?_, fun d hd => ?_, h.grew.trans hw, fun hl => ?_, fun hl => ?_, fun hl => ?_, fun hl => ?_, fun hl => ?_, fun hl => ?_, fun hl hl2 => ?_, fun hl => ?_, fun hl => ?_⟩
  · show (a.tmps.setIfInBounds _ _).size = _; rw [Array.size_setIfInBounds]; exact h.size
  · rw [put_get (by intro e; subst e; apply hd; simp; omega)]; exact h.same d hd
  · by_cases e : i = 0
    · subst e; rw [put_same (by omega), hv]; rfl
    · rw [fl_ne e] at hl; rw [put_get (by omega)]; exact h.l0 hl
  · by_cases e : i = 1
    · subst e; rw [put_same (by omega), hv]; rfl
    · rw [fl_ne e] at hl; rw [put_get (by omega)]; exact h.l1 hl
  · by_cases e : i = 2
    · subst e; rw [put_same (by omega), hv]; rfl
    · rw [fl_ne e] at hl; rw [put_get (by omega)]; exact h.l2 hl
  · by_cases e : i = 3
    · subst e; rw [put_same (by omega), hv]; rfl
    · rw [fl_ne e] at hl; rw [put_get (by omega)]; exact h.l3 hl
  · rw [fl_ne (by omega)] at hl
    rw [fl_ne (by omega), put_get (by omega)]
    obtain ⟨b, h1, h2, h3, h4⟩ := h.l4 hl
    exact ⟨b, h1, h2, Nat.lt_of_lt_of_le h3 hw.lt, h4.kept hw⟩
  · rw [fl_ne (by omega)] at hl
    rw [fl_ne (by omega), put_get (by omega)]
    obtain ⟨b, h1, h2, h3, h4⟩ := h.l5 hl
    exact ⟨b, h1, h2, Nat.lt_of_lt_of_le h3 hw.lt, h4.kept hw⟩
  · rw [fl_ne (by omega)] at hl hl2
    rw [put_get (by omega), put_get (by omega)]
    exact h.l45 hl hl2
  · rw [fl_ne (by omega)] at hl ⊢; exact h.l64 hl
  · rw [fl_ne (by omega)] at hl ⊢; exact h.l75 hl
theorem ptr_ne {b c : Nat} (h : b ≠ c) : ptrV b ≠ ptrV c := by
  unfold ptrV
  simp <;> exact h
/-- A new row. -/
theorem TwoI.new4 (h : TwoI f g a0 w0 l a w) (hs : l.size = 8) (ht : a0.tmps.size = 31) (h6 : fl l 6 = false) : TwoI f g a0 w0 (l.setIfInBounds 4 true) (a.put (some 7) (ptrV w.heap.size)) (w.alloc (.cells (rowB 256 fun _ => .bool false) 25)) := by
  have hsz := h.size
  have hw : Grew w (w.alloc (.cells (rowB 256 fun _ => .bool false) 25)) := (Grew.refl w).alloc _
  refine ⟨h.defers, ?_, fun d hd => ?_, h.grew.trans hw, fun hl => ?_, fun hl => ?_, fun hl => ?_, fun hl => ?_, fun hl => ?_, fun hl => ?_, fun hl hl2 => ?_, fun hl => ?_, fun hl => ?_⟩
  · show (a.tmps.setIfInBounds _ _).size = _; rw [Array.size_setIfInBounds]; exact h.size
  · rw [put_get (by intro e; subst e; apply hd; simp)]; exact h.same d hd
  · rw [fl_ne (by omega)] at hl; rw [put_get (by omega)]; exact h.l0 hl
  · rw [fl_ne (by omega)] at hl; rw [put_get (by omega)]; exact h.l1 hl
  · rw [fl_ne (by omega)] at hl; rw [put_get (by omega)]; exact h.l2 hl
  · rw [fl_ne (by omega)] at hl; rw [put_get (by omega)]; exact h.l3 hl
  · refine ⟨w.heap.size, put_same (by omega), h.grew.lt, by rw [World.size_alloc]; omega, ?_⟩
    rw [fl_ne (by omega), h6]
    exact (row_at w _).congr fun j hj => rfl
  · rw [fl_ne (by omega)] at hl
    rw [fl_ne (by omega), put_get (by omega)]
    obtain ⟨b, h1, h2, h3, h4⟩ := h.l5 hl
    exact ⟨b, h1, h2, Nat.lt_of_lt_of_le h3 hw.lt, h4.kept hw⟩
  · rw [fl_ne (by omega)] at hl2
    rw [put_same (by omega), put_get (by omega)]
    obtain ⟨b, h1, h2, h3, h4⟩ := h.l5 hl2
    rw [h1]
    exact ptr_ne (by omega)
  · exact fl_same (by omega)
  · rw [fl_ne (by omega)] at hl ⊢; exact h.l75 hl
theorem TwoI.new5 (h : TwoI f g a0 w0 l a w) (hs : l.size = 8) (ht : a0.tmps.size = 31) (h7 : fl l 7 = false) : TwoI f g a0 w0 (l.setIfInBounds 5 true) (a.put (some 8) (ptrV w.heap.size)) (w.alloc (.cells (rowB 256 fun _ => .bool false) 25)) := by
  have hsz := h.size
  have hw : Grew w (w.alloc (.cells (rowB 256 fun _ => .bool false) 25)) := (Grew.refl w).alloc _
  refine ⟨h.defers, ?_, fun d hd => ?_, h.grew.trans hw, fun hl => ?_, fun hl => ?_, fun hl => ?_, fun hl => ?_, fun hl => ?_, fun hl => ?_, fun hl hl2 => ?_, fun hl => ?_, fun hl => ?_⟩
  · show (a.tmps.setIfInBounds _ _).size = _; rw [Array.size_setIfInBounds]; exact h.size
  · rw [put_get (by intro e; subst e; apply hd; simp)]; exact h.same d hd
  · rw [fl_ne (by omega)] at hl; rw [put_get (by omega)]; exact h.l0 hl
  · rw [fl_ne (by omega)] at hl; rw [put_get (by omega)]; exact h.l1 hl
  · rw [fl_ne (by omega)] at hl; rw [put_get (by omega)]; exact h.l2 hl
  · rw [fl_ne (by omega)] at hl; rw [put_get (by omega)]; exact h.l3 hl
  · rw [fl_ne (by omega)] at hl
    rw [fl_ne (by omega), put_get (by omega)]
    obtain ⟨b, h1, h2, h3, h4⟩ := h.l4 hl
    exact ⟨b, h1, h2, Nat.lt_of_lt_of_le h3 hw.lt, h4.kept hw⟩
  · refine ⟨w.heap.size, put_same (by omega), h.grew.lt, by rw [World.size_alloc]; omega, ?_⟩
    rw [fl_ne (by omega), h7]
    exact (row_at w _).congr fun j hj => rfl
  · rw [fl_ne (by omega)] at hl
    rw [put_same (by omega), put_get (by omega)]
    obtain ⟨b, h1, h2, h3, h4⟩ := h.l4 hl
    rw [h1]
    exact ptr_ne (by omega)
  · rw [fl_ne (by omega)] at hl ⊢; exact h.l64 hl
  · exact fl_same (by omega)
/-- A whole row stored. -/
theorem TwoI.put6 (h : TwoI f g a0 w0 l a w) (hs : l.size = 8) (h4 : fl l 4 = true) {b : Nat} (hb : a.tmps.getD 7 undef = ptrV b) (hb0 : w0.heap.size ≤ b) (hA : ArrAt w' b 0 256 (fun j => .bool (f j))) (hB : Beside b w w') : TwoI f g a0 w0 (l.setIfInBounds 6 true) (a.put none undef) w' := by
  refine ⟨h.defers, h.size, h.same, h.grew.below hB.below hb0, fun hl => ?_, fun hl => ?_, fun hl => ?_, fun hl => ?_, fun hl => ?_, fun hl => ?_, fun hl hl2 => ?_, fun hl => ?_, fun hl => ?_⟩
  · rw [fl_ne (by omega)] at hl; exact h.l0 hl
  · rw [fl_ne (by omega)] at hl; exact h.l1 hl
  · rw [fl_ne (by omega)] at hl; exact h.l2 hl
  · rw [fl_ne (by omega)] at hl; exact h.l3 hl
  · obtain ⟨c, h1, h2, h3, _⟩ := h.l4 h4
    have e : c = b := by rw [hb] at h1; unfold ptrV at h1; simp at h1; exact h1.symm
    subst e
    refine ⟨c, hb, h2, by rw [hB.size]; exact h3, ?_⟩
    rw [fl_same (by omega)]
    exact hA.congr fun j hj => by simp
  · rw [fl_ne (by omega)] at hl
    rw [fl_ne (by omega)]
    obtain ⟨c, h1, h2, h3, h5⟩ := h.l5 hl
    have hne : c ≠ b := by
      intro e
      have := h.l45 h4 hl
      rw [hb, h1, e] at this
      exact this rfl
    exact ⟨c, h1, h2, by rw [hB.size]; exact h3, hB.arr hne h5⟩
  · rw [fl_ne (by omega)] at hl hl2; exact h.l45 hl hl2
  · rw [fl_ne (by omega)]; exact h4
  · rw [fl_ne (by omega)] at hl ⊢; exact h.l75 hl
theorem TwoI.put7 (h : TwoI f g a0 w0 l a w) (hs : l.size = 8) (h5 : fl l 5 = true) {b : Nat} (hb : a.tmps.getD 8 undef = ptrV b) (hb0 : w0.heap.size ≤ b) (hA : ArrAt w' b 0 256 (fun j => .bool (g j))) (hB : Beside b w w') : TwoI f g a0 w0 (l.setIfInBounds 7 true) (a.put none undef) w' := by
  refine ⟨h.defers, h.size, h.same, h.grew.below hB.below hb0, fun hl => ?_, fun hl => ?_, fun hl => ?_, fun hl => ?_, fun hl => ?_, fun hl => ?_, fun hl hl2 => ?_, fun hl => ?_, fun hl => ?_⟩
  · rw [fl_ne (by omega)] at hl; exact h.l0 hl
  · rw [fl_ne (by omega)] at hl; exact h.l1 hl
  · rw [fl_ne (by omega)] at hl; exact h.l2 hl
  · rw [fl_ne (by omega)] at hl; exact h.l3 hl
  · rw [fl_ne (by omega)] at hl
    rw [fl_ne (by omega)]
    obtain ⟨c, h1, h2, h3, h4⟩ := h.l4 hl
    have hne : c ≠ b := by
      intro e
      have := h.l45 hl h5
      rw [hb, h1, e] at this
      exact this rfl
    exact ⟨c, h1, h2, by rw [hB.size]; exact h3, hB.arr hne h4⟩
  · obtain ⟨c, h1, h2, h3, _⟩ := h.l5 h5
    have e : c = b := by rw [hb] at h1; unfold ptrV at h1; simp at h1; exact h1.symm
    subst e
    refine ⟨c, hb, h2, by rw [hB.size]; exact h3, ?_⟩
    rw [fl_same (by omega)]
    exact hA.congr fun j hj => by simp
  · rw [fl_ne (by omega)] at hl hl2; exact h.l45 hl hl2
  · rw [fl_ne (by omega)] at hl ⊢; exact h.l64 hl
  · rw [fl_ne (by omega)]; exact h5
theorem TwoI.start (w1 : World) (h : Grew w0 w1) : TwoI f g a0 w0 (Array.replicate 8 false) a0 w1 := by
  have hf : ∀ i, fl (Array.replicate 8 false) i = false := fun i => by
    unfold fl
    rw [Array.getD_eq_getD_getElem?, Array.getElem?_replicate]
    split <;> rfl
  refine ⟨rfl, rfl, fun d _ => rfl, h, fun hl => ?_, fun hl => ?_, fun hl => ?_, fun hl => ?_, fun hl => ?_, fun hl => ?_, fun hl _ => ?_, fun hl => ?_, fun hl => ?_⟩ <;> (rw [hf] at hl; cases hl)
end
theorem wp_store_bes {o : Oper} {a : Act} {w : World} {K : Act → World → Prop} {Q : Exit → Act → World → Prop} {ty : TypeId} {x y : Operand} (ho : o.op = .store ty x y) {b n : Nat} {f0 f : Nat → Value} (hx : a.eval x = .pointer (some ⟨b, 0, none⟩)) (hy : a.eval y = .agg (rowB n f)) (hA : ArrAt w b 0 n f0)
    (hi : (Tryd.prog.info? ty).map (·.size) = some n) (h1 : ∀ j, j < n → (f j).oneCell' = true) (h : ∀ w', ArrAt w' b 0 n f → Beside b w w' → K (a.put o.dst undef) w') : o.wp Tryd.prog a w K Q := by
  obtain ⟨w', k1, k2, k3⟩ := run_storeVar_arr (f := f) hA hi h1
  obtain ⟨w1, e1, b1⟩ := storeCells_beside b ((List.range n).map f) 0 w (fun j hj => by
    have := hA j (by simpa using hj)
    rw [this.1]; exact ⟨rfl, this.2⟩) (fun v hv => by
    obtain ⟨j, hj, rfl⟩ := List.mem_map.1 hv
    exact h1 j (List.mem_range.1 hj))
  have e2 : (storeVar ty ⟨b, 0, none⟩ (.agg (rowB n f))).run Tryd.prog w = .ok () w1 := by
    cases hq : Tryd.prog.info? ty with
    | none => rw [hq] at hi; cases hi
    | some i =>
      have hs : i.size = n := by simpa [hq] using hi
      simp [storeVar, Sem.run_bind, sizeOf, typeInfo, hq, hs, Value.cells, rowB, e1]
  have e3 : w' = w1 := by rw [k1] at e2; simpa using e2
  subst e3
  unfold Oper.wp execOp
  simp only [ho, hx, hy, Instr.storeAt, Instr.sureAddr, Sem.run_bind, Sem.run_pure, Result.andThen_ok, k1]
  exact h w' k2 b1
theorem want {o : Oper} {y : Array Value} (hg : o.guard = none) {ops : Array Oper} : Region.wanted o (yielded ops y) = true := by simp [Region.wanted, hg]
theorem wp_alloc_row {o : Oper} {a : Act} {w : World} {K : Act → World → Prop} {Q : Exit → Act → World → Prop} (ho : o.op = .alloc 25) (h : K (a.put o.dst (ptrV w.heap.size)) (w.alloc (.cells (rowB 256 fun _ => .bool false) 25))) : o.wp Tryd.prog a w K Q := by
  unfold Oper.wp execOp
  simp only [ho, Sem.run_bind, run_zero_row, Result.andThen_ok, Instr.alloc, newVar, newRow]
  exact h
theorem go_bytes : isGo Tryd.prog 6 = true := by kernel_rfl
end Go.Proofs.YtolfdcbebjfjiaaDoor
