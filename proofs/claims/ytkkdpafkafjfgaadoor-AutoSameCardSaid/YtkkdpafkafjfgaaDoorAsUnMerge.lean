/- A region whose order is open, told by what each operation leaves in its slot: one obligation for each operation, whichever order is drawn. Over any program, and any relation of worlds. -/
import Derived.Test.YtkkdpafkafjfgaaDoorAsPBase
import Derived.Orders
import Derived.Test.YtkkdpafkafjfgaaDoorAsUnTwo
import Derived.Test.YtkkdpafkafjfgaaDoorAsStEach
import Derived.Test.YtkkdpafkafjfgaaDoorAsStBits
import Derived.Deep.MidRow
namespace Go.Proofs.YtkkdpafkafjfgaaDoor.RR
open Go.RowKit Go.Proofs.YtkkdpafkafjfgaaDoor
set_option linter.unusedVariables false
section
variable {J : Array Bool → Act → World → Prop} {Rl : World → World → Prop} {P : Program} {ops : Array Oper} {Q : Exit → Act → World → Prop} {F : Nat → Value → World → Prop} {a0 : Act} {w0 : World}
structure RToldT (J : Array Bool → Act → World → Prop) (Rl : World → World → Prop) (ops : Array Oper) (F : Nat → Value → World → Prop) (a0 : Act) (w0 : World) (listed : Array Bool) (a : Act) (w : World) : Prop where
  grew : Rl w0 w
  defers : a.defers = a0.defers
  size : a.tmps.size = a0.tmps.size
  same : ∀ d, (∀ (i : Nat) o, ops[i]? = some o → o.dst ≠ some d) → a.tmps.getD d undef = a0.tmps.getD d undef
  inv : J listed a w
  told : ∀ (i : Nat) o, ops[i]? = some o → listed.getD i false = true → ∃ v, F i v w ∧ ∀ d, o.dst = some d → a.tmps.getD d undef = v
def regionOkT (ops : Array Oper) (n : Nat) : Bool :=
  (List.range ops.size).all fun i => match ops[i]? with
    | none => true
    | some o => (o.after.all fun e => !(Region.binds .any e) || decide (e.on < i)) && (match o.dst with
      | none => true
      | some d => decide (d < n) && (List.range i).all fun j => match ops[j]? with
        | none => true
        | some o' => o'.dst != some d)
theorem regionOk_atT {n i : Nat} {o : Oper} (h : regionOkT ops n = true) (ho : ops[i]? = some o) : (∀ e ∈ o.after, Region.binds .any e = true → e.on < i) ∧ ∀ d, o.dst = some d → d < n ∧ ∀ j, j < i → ∀ o', ops[j]? = some o' → o'.dst ≠ some d := by
  unfold regionOkT at h
  rw [List.all_eq_true] at h
  have hi : i < ops.size := (Array.getElem?_eq_some_iff.1 ho).1
  have h := h i (List.mem_range.2 hi)
  rw [ho] at h
  dsimp only at h
  rw [Bool.and_eq_true] at h
  refine ⟨fun e he hb => by
    have := Array.all_eq_true_iff_forall_mem.1 h.1 e he
    rw [hb] at this
    simpa using this, fun d hd => ?_⟩
  have h2 := h.2
  rw [hd] at h2
  dsimp only at h2
  rw [Bool.and_eq_true, List.all_eq_true] at h2
  refine ⟨of_decide_eq_true h2.1, fun j hj o' ho' e => ?_⟩
  have h3 := h2.2 j (List.mem_range.2 hj)
  rw [ho'] at h3
  dsimp only at h3
  rw [e] at h3
  simp at h3
def StepOkT (Rl : World → World → Prop) (P : Program) (ops : Array Oper) (Q : Exit → Act → World → Prop) (F : Nat → Value → World → Prop) (a0 : Act) (w0 : World) (i : Nat) (o : Oper) : Prop :=
  ∀ a w, Rl w0 w → (∀ d, (∀ (i : Nat) o, ops[i]? = some o → o.dst ≠ some d) → a.tmps.getD d undef = a0.tmps.getD d undef) →
    (∀ e ∈ o.after, Region.binds .any e = true → ∀ oe, ops[e.on]? = some oe → ∃ v, F e.on v w ∧ ∀ d, oe.dst = some d → a.tmps.getD d undef = v ∧ d < a.tmps.size) →
    ∀ K : Act → World → Prop, (∀ v w', Rl w w' → F i v w' → K (a.put o.dst v) w') → if Region.wanted o (yielded ops a.tmps) = true then o.wp P a w K Q else K (a.put o.dst undef) w
def StepJT (J : Array Bool → Act → World → Prop) (Rl : World → World → Prop) (P : Program) (ops : Array Oper) (Q : Exit → Act → World → Prop) (F : Nat → Value → World → Prop) (a0 : Act) (w0 : World) (i : Nat) (o : Oper) : Prop :=
  ∀ listed a w, listed.size = ops.size → listed.getD i false = false → (∀ e ∈ o.after, Region.binds .any e = true → listed.getD e.on false = true) → a.tmps.size = a0.tmps.size → J listed a w → Rl w0 w → (∀ d, (∀ (i : Nat) o, ops[i]? = some o → o.dst ≠ some d) → a.tmps.getD d undef = a0.tmps.getD d undef) →
    (∀ e ∈ o.after, Region.binds .any e = true → ∀ oe, ops[e.on]? = some oe → ∃ v, F e.on v w ∧ ∀ d, oe.dst = some d → a.tmps.getD d undef = v ∧ d < a.tmps.size) →
    ∀ K : Act → World → Prop, (∀ v w', Rl w w' → F i v w' → J (listed.setIfInBounds i true) (a.put o.dst v) w' → K (a.put o.dst v) w') → if Region.wanted o (yielded ops a.tmps) = true then o.wp P a w K Q else K (a.put o.dst undef) w
theorem StepOkT.keeps {i : Nat} {o : Oper} (h : StepOkT Rl P ops Q F a0 w0 i o) (hJ : ∀ listed a w v w', listed.size = ops.size → listed.getD i false = false → J listed a w → Rl w w' → J (listed.setIfInBounds i true) (a.put o.dst v) w') : StepJT J Rl P ops Q F a0 w0 i o :=
  fun listed a w hs hlf _ _ hj hw hsm hd K hK => h a w hw hsm hd K fun v w' h1 h2 => hK v w' h1 h2 (hJ listed a w v w' hs hlf hj h1)
theorem getD_putT {t : Array Value} {d k : Nat} {v : Value} (h : d ≠ k) : (t.setIfInBounds d v).getD k undef = t.getD k undef := by
  simp only [Array.getD_eq_getD_getElem?, Array.getElem?_setIfInBounds_ne h]
theorem getD_put_sameT {t : Array Value} {d : Nat} {v : Value} (h : d < t.size) : (t.setIfInBounds d v).getD d undef = v := by
  simp only [Array.getD_eq_getD_getElem?, Array.getElem?_setIfInBounds_self_of_lt h, Option.getD_some]
theorem rtold_putT (hRt : ∀ a b c : World, Rl a b → Rl b c → Rl a c) (hmono : ∀ i v w w', Rl w w' → F i v w → F i v w') (hok : regionOkT ops a0.tmps.size = true) {listed : Array Bool} {a : Act} {w w' : World} (h : RToldT J Rl ops F a0 w0 listed a w)
    {i : Nat} {o : Oper} (ho : ops[i]? = some o) {v : Value} (hw : Rl w w') (hF : F i v w') (hJ : J (listed.setIfInBounds i true) (a.put o.dst v) w') : RToldT J Rl ops F a0 w0 (listed.setIfInBounds i true) (a.put o.dst v) w' := by
  obtain ⟨_, hb⟩ := regionOk_atT hok ho
  have apart : ∀ (j : Nat) o' d, ops[j]? = some o' → j ≠ i → o.dst = some d → o'.dst ≠ some d := fun j o' d hj hne hd e => by
    rcases Nat.lt_or_gt_of_ne hne with hl | hl
    · exact (hb d hd).2 j hl o' hj e
    · exact ((regionOk_atT hok hj).2 d e).2 i hl o ho hd
  refine ⟨hRt _ _ _ h.grew hw, ?_, ?_, fun d hd => ?_, hJ, fun j o' hj hl => ?_⟩
  · cases o.dst <;> exact h.defers
  · cases o.dst with
    | none => exact h.size
    | some d => show (a.tmps.setIfInBounds d v).size = _; rw [Array.size_setIfInBounds]; exact h.size
  · cases hd0 : o.dst with
    | none => exact h.same d hd
    | some d0 =>
      show (a.tmps.setIfInBounds d0 v).getD d undef = _
      rw [getD_putT (fun e => hd i o ho (by rw [hd0, e]))]
      exact h.same d hd
  · by_cases hji : j = i
    · subst hji
      rw [ho] at hj; cases hj
      refine ⟨v, hF, fun d' hd' => ?_⟩
      rw [hd']
      show (a.tmps.setIfInBounds d' v).getD d' undef = v
      rw [getD_put_sameT (by rw [h.size]; exact (hb d' hd').1)]
    · have hl' : listed.getD j false = true := by rw [getD_set_ne false (Ne.symm hji)] at hl; exact hl
      obtain ⟨u, h1, h2⟩ := h.told j o' hj hl'
      refine ⟨u, hmono j _ w w' hw h1, fun d' hd' => ?_⟩
      rw [← h2 d' hd']
      cases hd0 : o.dst with
      | none => rfl
      | some d0 =>
        show (a.tmps.setIfInBounds d0 v).getD d' undef = _
        rw [getD_putT (fun e => apart j o' d0 hj hji hd0 (by rw [hd', e]))]
theorem countP_ltT {α : Type} {p q : α → Bool} : ∀ {l : List α} {a : α}, (∀ x ∈ l, p x = true → q x = true) → a ∈ l → p a = false → q a = true → l.countP p < l.countP q
  | [], a, _, ha, _, _ => by cases ha
  | x :: l, a, h, ha, h1, h2 => by
    have hle : l.countP p ≤ l.countP q := List.countP_mono_left fun y hy => h y (by simp [hy])
    rw [List.countP_cons, List.countP_cons]
    rcases List.mem_cons.1 ha with rfl | ha
    · rw [h1, h2]; simp; omega
    · have := countP_ltT (fun y hy => h y (by simp [hy])) ha h1 h2
      have hx := h x (by simp)
      cases hp : p x with
      | false => cases q x <;> simp <;> omega
      | true => rw [hx hp]; simp; omega
def rtodoT (n : Nat) (listed : Array Bool) : Nat := (List.range n).countP fun i => !listed.getD i false
theorem none_readyT (hok : regionOkT ops a0.tmps.size = true) {listed : Array Bool} (hs : listed.size = ops.size) (h : Region.ready .any ops listed = []) : ∀ i, i < ops.size → listed.getD i false = true := by
  intro i
  induction i using Nat.strongRecOn with
  | _ i ih =>
    intro hi
    cases hl : listed.getD i false with
    | true => rfl
    | false =>
      exfalso
      have ho : ops[i]? = some ops[i] := by simp [hi]
      have : i ∈ Region.ready .any ops listed := mem_ready.2 ⟨by
        have hi2 : i < listed.size := by omega
        simp only [Array.getD_eq_getD_getElem?, Array.getElem?_eq_getElem hi2, Option.getD_some] at hl ⊢
        exact hl, ops[i], ho, fun e he hb => ih e.on ((regionOk_atT hok ho).1 e he hb) (by have := (regionOk_atT hok ho).1 e he hb; omega)⟩
      rw [h] at this
      cases this
theorem rtold_anyT (hRt : ∀ a b c : World, Rl a b → Rl b c → Rl a c) (hmono : ∀ i v w w', Rl w w' → F i v w → F i v w') (hok : regionOkT ops a0.tmps.size = true) (hstep : ∀ (i : Nat) o, ops[i]? = some o → StepJT J Rl P ops Q F a0 w0 i o)
    (hend : ∀ listed a w, (∀ i, i < ops.size → listed.getD i false = true) → RToldT J Rl ops F a0 w0 listed a w → Q .normal a w) :
    ∀ (fuel : Nat) (listed : Array Bool) (a : Act) (w : World), listed.size = ops.size → rtodoT ops.size listed ≤ fuel → RToldT J Rl ops F a0 w0 listed a w → wpAny P .any ops Q fuel listed a w := by
  intro fuel
  induction fuel with
  | zero =>
    intro listed a w hs hn h
    have hall : ∀ i, i < ops.size → listed.getD i false = true := fun i hi => by
      have : rtodoT ops.size listed = 0 := by omega
      unfold rtodoT at this
      rw [List.countP_eq_zero] at this
      simpa using this i (List.mem_range.2 hi)
    refine ⟨?_, hend listed a w hall h⟩
    cases hr : Region.ready .any ops listed with
    | nil => rfl
    | cons x l =>
      exfalso
      have hx : x ∈ Region.ready .any ops listed := by rw [hr]; simp
      obtain ⟨h1, o, ho, _⟩ := mem_ready.1 hx
      have hi : x < ops.size := (Array.getElem?_eq_some_iff.1 ho).1
      have h2 := hall x hi
      have hi2 : x < listed.size := by omega
      simp only [Array.getD_eq_getD_getElem?, Array.getElem?_eq_getElem hi2, Option.getD_some] at h1 h2
      rw [h2] at h1; cases h1
  | succ fuel ih =>
    intro listed a w hs hn h
    refine ⟨fun hr => hend listed a w (none_readyT hok hs hr) h, fun i hi => ?_⟩
    obtain ⟨h1, o, ho, hall⟩ := mem_ready.1 hi
    have hil : i < ops.size := (Array.getElem?_eq_some_iff.1 ho).1
    have hK : ∀ v w', Rl w w' → F i v w' → J (listed.setIfInBounds i true) (a.put o.dst v) w' → wpAny P .any ops Q fuel (listed.setIfInBounds i true) (a.put o.dst v) w' := fun v w' hw hF hJ => by
      refine ih _ _ _ (by rw [Array.size_setIfInBounds]; exact hs) ?_ (rtold_putT hRt hmono hok h ho hw hF hJ)
      have hlt : rtodoT ops.size (listed.setIfInBounds i true) < rtodoT ops.size listed := by
        unfold rtodoT
        have hi2 : i < listed.size := by omega
        refine countP_ltT (a := i) (fun j hj => ?_) (List.mem_range.2 hil) ?_ ?_
        · by_cases hji : j = i
          · subst hji
            intro hx
            simp [Array.getD_eq_getD_getElem?, hi2] at hx
          · rw [getD_set_ne false (Ne.symm hji)]; exact id
        · simp [Array.getD_eq_getD_getElem?, hi2]
        · simp only [Array.getD_eq_getD_getElem?, Array.getElem?_eq_getElem hi2, Option.getD_some] at h1 ⊢
          simp [h1]
      omega
    have hlf : listed.getD i false = false := by
      have hi2 : i < listed.size := by omega
      simp only [Array.getD_eq_getD_getElem?, Array.getElem?_eq_getElem hi2, Option.getD_some] at h1 ⊢
      simpa using h1
    have := hstep i o ho listed a w hs hlf (fun e he hb => hall e he hb) h.size h.inv h.grew h.same (fun e he hb oe hoe => by
      obtain ⟨u, h1, h2⟩ := h.told e.on oe hoe (hall e he hb)
      exact ⟨u, h1, fun d hd => ⟨h2 d hd, by rw [h.size]; exact ((regionOk_atT hok hoe).2 d hd).1⟩⟩) _ hK
    unfold wpOp
    rw [ho]
    dsimp only
    split
    · rename_i hw; rw [if_pos hw] at this; exact .inl this
    · rename_i hw; rw [if_neg hw] at this; exact this
theorem wp_region_toldT {id : Nat} (hJ0 : J (Array.replicate ops.size false) a0 w0.drew) (hRd : ∀ w : World, Rl w w.drew) (hRt : ∀ a b c : World, Rl a b → Rl b c → Rl a c) (hm : P.follows .mixedOrders = true) (F : Nat → Value → World → Prop) (hmono : ∀ i v w w', Rl w w' → F i v w → F i v w') (hok : regionOkT ops a0.tmps.size = true)
    (hstep : ∀ (i : Nat) o, ops[i]? = some o → StepJT J Rl P ops Q F a0 w0 i o)
    (hend : ∀ listed a w, (∀ i, i < ops.size → listed.getD i false = true) → J listed a w → Rl w0 w → a.defers = a0.defers → a.tmps.size = a0.tmps.size → (∀ d, (∀ (i : Nat) o, ops[i]? = some o → o.dst ≠ some d) → a.tmps.getD d undef = a0.tmps.getD d undef) →
      (∀ (i : Nat) o, ops[i]? = some o → ∃ v, F i v w ∧ ∀ d, o.dst = some d → a.tmps.getD d undef = v) → Q .normal a w) :
    (Code.region id ops true).wp P Q a0 w0 := by
  refine wp_region_any hm (rtold_anyT hRt hmono hok hstep (fun listed a w hall h => hend listed a w hall h.inv h.grew h.defers h.size h.same fun i o ho => h.told i o ho (hall i (Array.getElem?_eq_some_iff.1 ho).1)) ops.size _ a0 _ (by simp) ?_ ⟨hRd w0, rfl, rfl, fun d _ => rfl, hJ0, fun i o ho hl => ?_⟩)
  · unfold rtodoT
    have := List.countP_le_length (p := fun i => !(Array.replicate ops.size false).getD i false) (l := List.range ops.size)
    simpa using this
  · exfalso
    have hi : i < ops.size := (Array.getElem?_eq_some_iff.1 ho).1
    simp [Array.getD_eq_getD_getElem?, hi] at hl
end
inductive ShT where
  | val (v : Value)
  | fact (P : Value → World → Prop)
def ShT.At : ShT → Value → World → Prop
  | .val u, v, _ => v = u
  | .fact P, v, w => P v w
def shFT (shs : List ShT) (i : Nat) (v : Value) (w : World) : Prop := (shs.getD i (.fact fun _ _ => True)).At v w
section
variable {Rl : World → World → Prop} {P : Program} {ops : Array Oper} {Q : Exit → Act → World → Prop} {shs : List ShT} {a0 : Act} {w0 : World} {A : Array Edge}
def edgeToT (ops : Array Oper) (A : Array Edge) (j : Nat) : Option Edge := A.toList.find? fun e => Region.binds .any e && ((ops[e.on]?).bind (·.dst) == some j)
def srcOfT (ops : Array Oper) (shs : List ShT) (A : Array Edge) (a0 : Act) (j : Nat) : ShT :=
  match edgeToT ops A j with
  | some e => shs.getD e.on (.fact fun _ _ => True)
  | none => if ops.toList.all (fun o => o.dst != some j) then .val (a0.tmps.getD j undef) else .fact fun _ _ => True
def opShT (ops : Array Oper) (shs : List ShT) (A : Array Edge) (a0 : Act) : Operand → ShT
  | .tmp j => srcOfT ops shs A a0 j
  | .const v => .val v
  | .global g => .val (.pointer (some ⟨g, 0, none⟩))
  | .func f => .val (.func (.func f) #[] #[])
def guardIsT (ops : Array Oper) (shs : List ShT) (A : Array Edge) : Option (Nat × Bool) → Option Bool
  | none => some true
  | some (g, b) => if (A.toList.any fun e => Region.binds .any e && e.on == g) && ((ops[g]?).bind (·.dst)).isSome then (match shs.getD g (.fact fun _ _ => True) with | .val (.bool b') => some (b' == b) | .val _ => some false | .fact _ => none) else none
structure EnvT (Rl : World → World → Prop) (ops : Array Oper) (shs : List ShT) (a0 : Act) (w0 : World) (A : Array Edge) (a : Act) (w : World) : Prop where
  grew : Rl w0 w
  same : ∀ d, (∀ (i : Nat) o, ops[i]? = some o → o.dst ≠ some d) → a.tmps.getD d undef = a0.tmps.getD d undef
  dep : ∀ e ∈ A, Region.binds .any e = true → ∀ oe, ops[e.on]? = some oe → ∃ v, shFT shs e.on v w ∧ ∀ d, oe.dst = some d → a.tmps.getD d undef = v ∧ d < a.tmps.size
theorem EnvT.src {a : Act} {w : World} (h : EnvT Rl ops shs a0 w0 A a w) (j : Nat) : (srcOfT ops shs A a0 j).At (a.tmps.getD j undef) w := by
  unfold srcOfT
  cases he : edgeToT ops A j with
  | some e =>
    have h1 := List.find?_some he
    have h2 := List.mem_of_find?_eq_some he
    rw [Bool.and_eq_true, beq_iff_eq] at h1
    obtain ⟨oe, ho, hd⟩ := Option.bind_eq_some_iff.1 h1.2
    obtain ⟨v, k1, k2⟩ := h.dep e (by simpa using h2) h1.1 oe ho
    rw [(k2 j hd).1]; exact k1
  | none =>
    dsimp only
    split
    · rename_i hall
      rw [List.all_eq_true] at hall
      refine h.same j fun i o ho e => ?_
      have := hall o (by simpa using Array.mem_of_getElem? ho)
      rw [e] at this
      simp at this
    · trivial
theorem EnvT.op {a : Act} {w : World} (h : EnvT Rl ops shs a0 w0 A a w) (x : Operand) : (opShT ops shs A a0 x).At (a.eval x) w := by
  cases x with
  | tmp j => exact h.src j
  | const v => rfl
  | global g => rfl
  | func f => rfl
theorem EnvT.opv {a : Act} {w : World} (h : EnvT Rl ops shs a0 w0 A a w) {x : Operand} {v : Value} (hx : opShT ops shs A a0 x = .val v) : a.eval x = v := by
  have := h.op x
  rw [hx] at this
  exact this
theorem EnvT.guard {a : Act} {w : World} (h : EnvT Rl ops shs a0 w0 A a w) {d : Option Tmp} {op : Op} {ty : TypeId} {pos : String} {G : Option (Nat × Bool)} {c : Bool} (hg : guardIsT ops shs A G = some c) :
    Region.wanted ⟨d, op, ty, pos, A, G⟩ (yielded ops a.tmps) = c := by
  unfold Region.wanted
  cases G with
  | none => simpa [guardIsT] using hg
  | some gb =>
    obtain ⟨g, b⟩ := gb
    unfold guardIsT at hg
    dsimp only at hg
    by_cases hh : ((A.toList.any fun e => Region.binds .any e && e.on == g) && ((ops[g]?).bind (·.dst)).isSome) = true
    · rw [if_pos hh] at hg
      rw [Bool.and_eq_true] at hh
      obtain ⟨h1, h2⟩ := hh
      obtain ⟨e, he, hb⟩ := List.any_eq_true.1 h1
      rw [Bool.and_eq_true, beq_iff_eq] at hb
      obtain ⟨hb, rfl⟩ := hb
      obtain ⟨dd, hdd⟩ := Option.isSome_iff_exists.1 h2
      obtain ⟨oe, ho, hd⟩ := Option.bind_eq_some_iff.1 hdd
      obtain ⟨v0, k1, k3⟩ := h.dep e (by simpa using he) hb oe ho
      obtain ⟨k3, k2⟩ := k3 dd hd
      rw [← k3] at k1
      unfold shFT at k1
      dsimp only
      have k0 : a.tmps[dd]? = some (a.tmps.getD dd undef) := by
        rw [Array.getD_eq_getD_getElem?, Array.getElem?_eq_getElem k2, Option.getD_some]
      generalize shs.getD e.on (.fact fun _ _ => True) = S at hg k1
      cases S with
      | fact _ => cases hg
      | val v =>
        have k1 : a.tmps.getD dd undef = v := k1
        rw [k1] at k0
        unfold yielded
        rw [hdd]
        simp only [Option.bind_some, k0]
        clear k1 k0 hdd hd ho he h2 h1 k3 k2
        cases v
        case bool b' =>
          have hg : some (b' == b) = some c := hg
          cases hg
          cases b' <;> cases b <;> rfl
        all_goals
          have hg : some false = some c := hg
          cases hg
          cases b <;> rfl
    · rw [if_neg hh] at hg; cases hg
variable {i : Nat} {d : Option Tmp} {op : Op} {ty : TypeId} {pos : String} {G : Option (Nat × Bool)}
theorem st_runT (hg : guardIsT ops shs A G = some true) (h : ∀ a w, EnvT Rl ops shs a0 w0 A a w → ∀ K : Act → World → Prop, (∀ v w', Rl w w' → shFT shs i v w' → K (a.put d v) w') → Oper.wp P ⟨d, op, ty, pos, A, G⟩ a w K Q) :
    StepOkT Rl P ops Q (shFT shs) a0 w0 i ⟨d, op, ty, pos, A, G⟩ := by
  intro a w hw hs hd K hK
  have E : EnvT Rl ops shs a0 w0 A a w := ⟨hw, hs, hd⟩
  rw [if_pos (E.guard hg)]
  exact h a w E K hK
theorem st_skipT (hg : guardIsT ops shs A G = some false) (hr : ∀ w : World, Rl w w) (hs : shs.getD i (.fact fun _ _ => True) = .val undef) : StepOkT Rl P ops Q (shFT shs) a0 w0 i ⟨d, op, ty, pos, A, G⟩ := by
  intro a w hw hsm hd K hK
  have E : EnvT Rl ops shs a0 w0 A a w := ⟨hw, hsm, hd⟩
  rw [if_neg (by rw [E.guard hg]; exact Bool.false_ne_true)]
  exact hK undef w (hr w) (by unfold shFT; rw [hs]; rfl)
variable (hr : ∀ w : World, Rl w w)
include hr
theorem st_moveT {x : Operand} (hg : guardIsT ops shs A G = some true) (hx : opShT ops shs A a0 x = shs.getD i (.fact fun _ _ => True)) : StepOkT Rl P ops Q (shFT shs) a0 w0 i ⟨d, .move x, ty, pos, A, G⟩ :=
  st_runT hg fun a w E K hK => hK _ _ (hr w) (by unfold shFT; rw [← hx]; exact E.op x)
theorem st_assignT {x : Operand} (hg : guardIsT ops shs A G = some true) (hx : opShT ops shs A a0 x = shs.getD i (.fact fun _ _ => True)) : StepOkT Rl P ops Q (shFT shs) a0 w0 i ⟨d, .assign x, ty, pos, A, G⟩ :=
  st_runT hg fun a w E K hK => hK _ _ (hr w) (by unfold shFT; rw [← hx]; exact E.op x)
theorem st_pickT {c x y : Operand} (hg : guardIsT ops shs A G = some true) (hc : opShT ops shs A a0 c = .val (.bool true)) (hx : opShT ops shs A a0 x = shs.getD i (.fact fun _ _ => True)) : StepOkT Rl P ops Q (shFT shs) a0 w0 i ⟨d, .pick c x y, ty, pos, A, G⟩ :=
  st_runT hg fun a w E K hK => by
    have hcv : a.eval c = .bool true := E.opv hc
    have := hK (a.eval x) w (hr w) (by unfold shFT; rw [← hx]; exact E.op x)
    unfold Oper.wp execOp
    simpa [hcv, asBool, Oper.upon] using this
theorem st_pickFT {c x y : Operand} (hg : guardIsT ops shs A G = some true) (hc : opShT ops shs A a0 c = .val (.bool false)) (hx : opShT ops shs A a0 y = shs.getD i (.fact fun _ _ => True)) : StepOkT Rl P ops Q (shFT shs) a0 w0 i ⟨d, .pick c x y, ty, pos, A, G⟩ :=
  st_runT hg fun a w E K hK => by
    have hcv : a.eval c = .bool false := E.opv hc
    have := hK (a.eval y) w (hr w) (by unfold shFT; rw [← hx]; exact E.op y)
    unfold Oper.wp execOp
    simpa [hcv, asBool, Oper.upon] using this
theorem st_numT {x y : Operand} {u v : Value} {op : BinOp} {xt t2 : TypeId} {z : Value} (hb : ∀ w, (do eqGuard op xt x y u v; binOp op xt u v : Sem Value).run P w = .ok z w) (hg : guardIsT ops shs A G = some true) (hx : opShT ops shs A a0 x = .val u) (hy : opShT ops shs A a0 y = .val v) (hs : shs.getD i (.fact fun _ _ => True) = .val z) : StepOkT Rl P ops Q (shFT shs) a0 w0 i ⟨d, .binOp op xt x y t2, ty, pos, A, G⟩ :=
  st_runT hg fun a w E K hK => by
    have hv : a.eval x = u := E.opv hx
    have hw : a.eval y = v := E.opv hy
    have := hK z w (hr w) (by unfold shFT; rw [hs]; rfl)
    have h := hb w
    unfold Oper.wp execOp
    simp only [hv, hw, Sem.run_bind] at h ⊢
    simpa [h, Oper.upon] using this
omit hr
def isGoT (P : Program) (f : FuncId) : Bool := match P.funcs[f]? with | some fn => !(fn.name == "runtime.NumGoroutine") && !fn.body.isNone | none => false
theorem run_goT {P : Program} {f : FuncId} (h : isGoT P f = true) (args : Array Value) (w : World) : (callFunc f args).run P w = .ok (.enter f args) w := by
  unfold isGoT at h
  cases hf : P.funcs[f]? with
  | none => rw [hf] at h; cases h
  | some fn =>
    rw [hf] at h
    dsimp only at h
    rw [Bool.and_eq_true] at h
    obtain ⟨h1, h2⟩ := h
    unfold callFunc
    simp only [Sem.run_bind, run_program, Result.andThen_ok, hf]
    rw [if_neg (by simpa using h1), if_neg (by intro e; rw [e] at h2; cases h2)]
    rfl
theorem st_callT {f : FuncId} {xs : Array Operand} {ats : Array TypeId} (hf : isGoT P f = true) (hg : guardIsT ops shs A G = some true)
    (hc : ∀ a w, EnvT Rl ops shs a0 w0 A a w → Calls P f (xs.map a.eval) w fun e w' => ∃ v, e = .returned v ∧ Rl w w' ∧ shFT shs i v w') :
    StepOkT Rl P ops Q (shFT shs) a0 w0 i ⟨d, .call { callee := .value (.func f), args := xs, argTypes := ats }, ty, pos, A, G⟩ :=
  st_runT hg fun a w E K hK => by
    unfold Oper.wp
    rw [execOp_call_go, run_goT hf, Array.append_empty, Array.empty_append]
    show Calls _ _ _ _ _
    refine (hc a w E).mono fun e w' ⟨v, he, hg', hF⟩ => ?_
    subst he
    exact hK v w' hg' hF
end
def AllStepsT (Rl : World → World → Prop) (P : Program) (ops : Array Oper) (Q : Exit → Act → World → Prop) (F : Nat → Value → World → Prop) (a0 : Act) (w0 : World) : Nat → List Oper → Prop
  | _, [] => True
  | k, o :: l => StepOkT Rl P ops Q F a0 w0 k o ∧ AllStepsT Rl P ops Q F a0 w0 (k + 1) l
theorem AllStepsT.at {Rl : World → World → Prop} {P : Program} {ops : Array Oper} {Q : Exit → Act → World → Prop} {F : Nat → Value → World → Prop} {a0 : Act} {w0 : World} : ∀ {l : List Oper} {k : Nat}, AllStepsT Rl P ops Q F a0 w0 k l → ∀ (i : Nat) o, l[i]? = some o → StepOkT Rl P ops Q F a0 w0 (k + i) o
  | [], k, _, i, o, h => by simp at h
  | x :: l, k, ⟨h1, h2⟩, 0, o, h => by
    simp at h; subst h; exact h1
  | x :: l, k, ⟨h1, h2⟩, i + 1, o, h => by
    have := AllStepsT.at h2 i o (by simpa using h)
    rwa [show k + 1 + i = k + (i + 1) by omega] at this
theorem region_toldT {Rl : World → World → Prop} {P : Program} {ops : List Oper} {Q : Exit → Act → World → Prop} {a0 : Act} {w0 : World} {id : Nat} (hm : P.follows .mixedOrders = true) (hRd : ∀ w : World, Rl w w.drew) (hRt : ∀ a b c : World, Rl a b → Rl b c → Rl a c) (shs : List ShT)
    (hmono : ∀ i v w w', Rl w w' → shFT shs i v w → shFT shs i v w') (hok : regionOkT ops.toArray a0.tmps.size = true) (hstep : AllStepsT Rl P ops.toArray Q (shFT shs) a0 w0 0 ops)
    (hend : ∀ a w, Rl w0 w → a.defers = a0.defers → a.tmps.size = a0.tmps.size → (∀ d, (∀ (i : Nat) o, ops.toArray[i]? = some o → o.dst ≠ some d) → a.tmps.getD d undef = a0.tmps.getD d undef) →
      (∀ (i : Nat) o, ops.toArray[i]? = some o → ∃ v, shFT shs i v w ∧ ∀ d, o.dst = some d → a.tmps.getD d undef = v) → Q .normal a w) :
    (Code.region id ops.toArray true).wp P Q a0 w0 :=
  wp_region_toldT (J := fun _ _ _ => True) trivial hRd hRt hm (shFT shs) hmono hok (fun i o ho => by
    have := AllStepsT.at hstep i o (by simpa using ho)
    rw [Nat.zero_add] at this
    exact this.keeps fun _ _ _ _ _ _ _ _ _ => trivial) (fun _ a w _ _ => hend a w)
def AllJT (J : Array Bool → Act → World → Prop) (Rl : World → World → Prop) (P : Program) (ops : Array Oper) (Q : Exit → Act → World → Prop) (F : Nat → Value → World → Prop) (a0 : Act) (w0 : World) : Nat → List Oper → Prop
  | _, [] => True
  | k, o :: l => StepJT J Rl P ops Q F a0 w0 k o ∧ AllJT J Rl P ops Q F a0 w0 (k + 1) l
theorem AllJT.at {J : Array Bool → Act → World → Prop} {Rl : World → World → Prop} {P : Program} {ops : Array Oper} {Q : Exit → Act → World → Prop} {F : Nat → Value → World → Prop} {a0 : Act} {w0 : World} : ∀ {l : List Oper} {k : Nat}, AllJT J Rl P ops Q F a0 w0 k l → ∀ (i : Nat) o, l[i]? = some o → StepJT J Rl P ops Q F a0 w0 (k + i) o
  | [], k, _, i, o, h => by simp at h
  | x :: l, k, ⟨h1, h2⟩, 0, o, h => by
    simp at h; subst h; exact h1
  | x :: l, k, ⟨h1, h2⟩, i + 1, o, h => by
    have := AllJT.at h2 i o (by simpa using h)
    rwa [show k + 1 + i = k + (i + 1) by omega] at this
theorem frame_ofT {D : List Nat} {t0 t1 : Array Value} (hsz : t1.size = t0.size) (h : ∀ d, d ∉ D → t1.getD d undef = t0.getD d undef) : t1 = D.foldl (fun t d => t.setIfInBounds d (t1.getD d undef)) t0 := by
  have key : ∀ (D : List Nat) (t : Array Value), t1.size = t.size → (D.foldl (fun t d => t.setIfInBounds d (t1.getD d undef)) t).size = t.size ∧ ∀ j, (D.foldl (fun t d => t.setIfInBounds d (t1.getD d undef)) t).getD j undef = if j ∈ D ∧ j < t.size then t1.getD j undef else t.getD j undef := by
    intro D
    induction D with
    | nil => intro t _; exact ⟨rfl, fun j => by simp⟩
    | cons d D ih =>
      intro t ht
      obtain ⟨h1, h2⟩ := ih (t.setIfInBounds d (t1.getD d undef)) (by rw [Array.size_setIfInBounds]; exact ht)
      refine ⟨by rw [List.foldl_cons, h1, Array.size_setIfInBounds], fun j => ?_⟩
      rw [List.foldl_cons, h2, Array.size_setIfInBounds]
      by_cases hj : j ∈ D ∧ j < t.size
      · rw [if_pos hj, if_pos ⟨List.mem_cons_of_mem _ hj.1, hj.2⟩]
      · rw [if_neg hj]
        by_cases hjd : j = d
        · subst hjd
          by_cases hlt : j < t.size
          · rw [if_pos ⟨by simp, hlt⟩, getD_put_sameT hlt]
          · rw [if_neg (fun h => hlt h.2)]
            simp only [Array.getD_eq_getD_getElem?]
            rw [Array.getElem?_eq_none (by rw [Array.size_setIfInBounds]; omega), Array.getElem?_eq_none (by omega)]
        · rw [getD_putT (Ne.symm hjd), if_neg (fun h => hj ⟨by rcases List.mem_cons.1 h.1 with e | e; exact absurd e hjd; exact e, h.2⟩)]
  obtain ⟨h1, h2⟩ := key D t0 hsz
  apply Array.ext
  · rw [h1, hsz]
  · intro j hj hj2
    have h3 := h2 j
    have e1 : t1.getD j undef = t1[j] := by rw [Array.getD_eq_getD_getElem?, Array.getElem?_eq_getElem hj]; rfl
    have e2 : (D.foldl (fun t d => t.setIfInBounds d (t1.getD d undef)) t0).getD j undef = (D.foldl (fun t d => t.setIfInBounds d (t1.getD d undef)) t0)[j] := by rw [Array.getD_eq_getD_getElem?, Array.getElem?_eq_getElem hj2]; rfl
    rw [← e1, ← e2, h3]
    clear e1 e2 h3
    by_cases hn : j ∈ D ∧ j < t0.size
    · rw [if_pos hn]
    · rw [if_neg hn]
      by_cases hjD : j ∈ D
      · exact absurd ⟨hjD, by omega⟩ hn
      · rw [h j hjD]
theorem region_frameT {J : Array Bool → Act → World → Prop} {Rl : World → World → Prop} {P : Program} {ops : List Oper} {Q : Exit → Act → World → Prop} {a0 : Act} {w0 : World} {id : Nat} (D : List Nat) (hm : P.follows .mixedOrders = true) (hRd : ∀ w : World, Rl w w.drew) (hRt : ∀ a b c : World, Rl a b → Rl b c → Rl a c) (shs : List ShT)
    (hJ0 : J (Array.replicate ops.toArray.size false) a0 w0.drew) (hmono : ∀ i v w w', Rl w w' → shFT shs i v w → shFT shs i v w') (hD : ops.filterMap (·.dst) = D) (hok : regionOkT ops.toArray a0.tmps.size = true) (hstep : AllJT J Rl P ops.toArray Q (shFT shs) a0 w0 0 ops)
    (hend : ∀ (xs : Nat → Value) listed a w, (∀ i, i < ops.toArray.size → listed.getD i false = true) → (∀ d, a.tmps.getD d undef = xs d) → J listed a w → Rl w0 w → (∀ (i : Nat) o, ops.toArray[i]? = some o → ∃ v, shFT shs i v w ∧ ∀ d, o.dst = some d → xs d = v) → Q .normal ⟨D.foldl (fun t d => t.setIfInBounds d (xs d)) a0.tmps, a0.defers⟩ w) :
    (Code.region id ops.toArray true).wp P Q a0 w0 :=
  wp_region_toldT hJ0 hRd hRt hm (shFT shs) hmono hok (fun i o ho => by
    have := AllJT.at hstep i o (by simpa using ho)
    rwa [Nat.zero_add] at this) (fun listed a w hall hJ hR hdf hsz hsm ht => by
    have hf := frame_ofT (D := D) hsz fun d hd => hsm d fun i o ho e => hd (by
      rw [← hD, List.mem_filterMap]
      exact ⟨o, by have := Array.mem_of_getElem? ho; simpa using this, e⟩)
    have ha : a = ⟨D.foldl (fun t d => t.setIfInBounds d (a.tmps.getD d undef)) a0.tmps, a0.defers⟩ := by
      rw [← hf, ← hdf]
    have := hend (fun d => a.tmps.getD d undef) listed a w hall (fun _ => rfl) hJ hR ht
    rw [← ha] at this
    exact this)
end Go.Proofs.YtkkdpafkafjfgaaDoor.RR
namespace Go.Proofs.YtkkdpafkafjfgaaDoor
open Go.RowKit
set_option linter.unusedVariables false
def wordsV (f : Nat → Bool) : Array Value := #[.int .u64 (word f 0 64 : Nat), .int .u64 (word f 64 64 : Nat), .int .u64 (word f 128 64 : Nat), .int .u64 (word f 192 64 : Nat)]
def OneRl (bs : Nat) (D : Obj) (w w' : World) : Prop := bs < w.heap.size → w.grownBy w' (some bs) ∧ (w'.heap[bs]? = w.heap[bs]? ∨ w'.heap[bs]? = some D)
theorem OneRl.refl (bs : Nat) (D : Obj) (w : World) : OneRl bs D w w := fun _ => ⟨grownBy_refl w _, Or.inl rfl⟩
theorem OneRl.drew (bs : Nat) (D : Obj) (w : World) : OneRl bs D w w.drew := fun _ => ⟨⟨rfl, rfl, rfl, Nat.le_refl _, fun _ _ _ => rfl⟩, Or.inl rfl⟩
theorem OneRl.trans {bs : Nat} {D : Obj} (a b c : World) (h : OneRl bs D a b) (k : OneRl bs D b c) : OneRl bs D a c := fun hb => by
  obtain ⟨h1, h2⟩ := h hb
  obtain ⟨k1, k2⟩ := k (Nat.lt_of_lt_of_le hb h1.size)
  refine ⟨grownBy_tr h1 k1, ?_⟩
  rcases k2 with k2 | k2
  · rw [k2]; exact h2
  · exact Or.inr k2
theorem OneRl.of_grew {bs : Nat} {D : Obj} {w w' : World} (g : Grew w w') : OneRl bs D w w' := fun hb => ⟨⟨g.os, g.tape, g.output, g.size, fun k hk _ => g.block k hk⟩, Or.inl (g.block bs hb)⟩
theorem words_one (f : Nat → Bool) : ∀ v ∈ (wordsV f).toList, v.oneCell' = true := by
  intro v hv
  unfold wordsV at hv
  simp only [List.mem_cons, List.not_mem_nil, or_false] at hv
  rcases hv with rfl | rfl | rfl | rfl <;> rfl
section
open RR
variable {b bs : Nat} {D : Obj} {p : Pat} {kv : Value} {ops : Array Oper} {Q : Exit → Act → World → Prop} {shs : List ShT} {a0 : Act} {w0 : World} {A : Array Edge} {i : Nat} {d : Option Tmp} {op : Op} {ty : TypeId} {pos : String} {G : Option (Nat × Bool)}
theorem pat_field (b : Nat) (w : World) : (Instr.fieldAt 24 (.pointer (some ⟨b, 0, none⟩)) 1).run Tryd.prog w = .ok (.pointer (some ⟨b, 1, none⟩)) w := by
  have hi2 : (Tryd.prog.info? 9).map (·.size) = some 1 := by kernel_rfl
  cases hq2 : Tryd.prog.info? 9 with
  | none => rw [hq2] at hi2; cases hi2
  | some ie2 =>
    have hs2 : ie2.size = 1 := by simpa [hq2] using hi2
    simp [Instr.fieldAt, Instr.sureAddr, Sem.run_bind, run_underlying Tryd.underlying24, fieldPlace, sizeOf, typeInfo, hq2, hs2, Addr.add]
structure OneIn (w : World) (b bs : Nat) (p : Pat) (kv : Value) : Prop where
  box : w.heap[b]? = some (.cells #[.int .i64 p.kind, .string p.text, .int .i64 p.n, .string p.name, kv] 24 (0, 0))
  ne : b ≠ bs
  set : w.heap[bs]? = some (.cells #[.int .u64 0, .int .u64 0, .int .u64 0, .int .u64 0] 77 (0, 0))
theorem OneIn.lt {w : World} (h : OneIn w b bs p kv) : bs < w.heap.size := lt_of_block h.set
theorem OneIn.boxAt {w w' : World} (h : OneIn w b bs p kv) (g : OneRl bs D w w') : w'.heap[b]? = some (.cells #[.int .i64 p.kind, .string p.text, .int .i64 p.n, .string p.name, kv] 24 (0, 0)) := by
  rw [(g h.lt).1.block b (lt_of_block h.box) (fun e => h.ne (Option.some.inj e))]; exact h.box
theorem OneIn.lt2 {w w' : World} (h : OneIn w b bs p kv) (g : OneRl bs D w w') : bs < w'.heap.size := Nat.lt_of_lt_of_le h.lt (g h.lt).1.size
theorem so_field {x : Operand} (hg : guardIsT ops shs A G = some true) (hx : opShT ops shs A a0 x = .val (.pointer (some ⟨b, 0, none⟩))) (hs : shs.getD i (.fact fun _ _ => True) = .val (.pointer (some ⟨b, 1, none⟩))) : StepOkT (OneRl bs D) Tryd.prog ops Q (shFT shs) a0 w0 i ⟨d, .fieldAddr 24 x 1, ty, pos, A, G⟩ :=
  st_runT hg fun a w E K hK => by
    have hv : a.eval x = .pointer (some ⟨b, 0, none⟩) := E.opv hx
    have := hK (.pointer (some ⟨b, 1, none⟩)) w (OneRl.refl _ _ w) (by unfold shFT; rw [hs]; rfl)
    unfold Oper.wp execOp
    simpa [hv, pat_field, Oper.upon] using this
theorem so_loadS (h : OneIn w0 b bs p kv) {x : Operand} (hg : guardIsT ops shs A G = some true) (hx : opShT ops shs A a0 x = .val (.pointer (some ⟨b, 1, none⟩))) (hs : shs.getD i (.fact fun _ _ => True) = .val (.string p.text)) : StepOkT (OneRl bs D) Tryd.prog ops Q (shFT shs) a0 w0 i ⟨d, .load 9 x, ty, pos, A, G⟩ :=
  st_runT hg fun a w E K hK => by
    have hv : a.eval x = .pointer (some ⟨b, 1, none⟩) := E.opv hx
    have := hK (.string p.text) w (OneRl.refl _ _ w) (by unfold shFT; rw [hs]; rfl)
    have hc : w.cell? ⟨b, 1, none⟩ = some (.string p.text) := by unfold World.cell?; simp [h.boxAt E.grew]
    have hagg : (isAgg 9).run Tryd.prog w = .ok false w := by
      unfold isAgg
      rw [Sem.run_bind, run_underlying Tryd.underlying9 w]; rfl
    unfold Oper.wp execOp
    simpa [hv, Instr.loadAt, Instr.sureAddr, loadVar, Sem.run_bind, hagg, hc, Oper.upon] using this
theorem so_loadP (h : OneIn w0 b bs p kv) {x : Operand} (hg : guardIsT ops shs A G = some true) (hx : opShT ops shs A a0 x = .val (.pointer (some ⟨b, 0, none⟩))) (hs : shs.getD i (.fact fun _ _ => True) = .val (.agg #[.int .i64 p.kind, .string p.text, .int .i64 p.n, .string p.name, kv])) : StepOkT (OneRl bs D) Tryd.prog ops Q (shFT shs) a0 w0 i ⟨d, .load 24 x, ty, pos, A, G⟩ :=
  st_runT hg fun a w E K hK => by
    refine wp_load_row 24 x rfl b (E.opv hx) 24 #[.int .i64 p.kind, .string p.text, .int .i64 p.n, .string p.name, kv] (0, 0) _ (h.boxAt E.grew) Tryd.underlying24 rfl info_pat5 ?_
    exact hK _ _ (OneRl.refl _ _ w) (by unfold shFT; rw [hs]; rfl)
theorem so_len {x : Operand} {t : ByteArray} {ats : Array TypeId} (hat : ats = #[9]) (hg : guardIsT ops shs A G = some true) (hx : opShT ops shs A a0 x = .val (.string t)) (hs : shs.getD i (.fact fun _ _ => True) = .val (.int .i64 t.size)) : StepOkT (OneRl bs D) Tryd.prog ops Q (shFT shs) a0 w0 i ⟨d, .call { callee := .builtin .len, args := #[x], argTypes := ats }, ty, pos, A, G⟩ :=
  st_runT hg fun a w E K hK => by
    subst hat
    have hv : a.eval x = .string t := E.opv hx
    have := hK (.int .i64 t.size) w (OneRl.refl _ _ w) (by unfold shFT; rw [hs]; rfl)
    unfold Oper.wp execOp
    simpa [hv, resolve, invoke, builtin, Builtin.len_, goInt, Sem.run_bind, Oper.upon] using this
theorem so_of (h : OneIn w0 b bs p kv) (ht : p.text.size ≤ maxLen) {x : Operand} {ats : Array TypeId} (hg : guardIsT ops shs A G = some true) (hx : opShT ops shs A a0 x = .val (.string p.text)) (hs : shs.getD i (.fact fun _ _ => True) = .val (.agg (wordsV (setOf p.text.data.toList)))) : StepOkT (OneRl bs D) Tryd.prog ops Q (shFT shs) a0 w0 i ⟨d, .call { callee := .value (.func 58), args := #[x], argTypes := ats }, ty, pos, A, G⟩ :=
  st_callT (by kernel_rfl) hg fun a w E => by
    simp only [List.map_toArray, List.map_cons, List.map_nil]
    rw [E.opv hx]
    exact (Of_any p.text w ht).mono fun e w' ⟨he, hg⟩ => ⟨_, he, OneRl.of_grew hg, by unfold shFT; rw [hs]; rfl⟩
theorem so_is (k : Int) {c : Bool} (hc : (p.kind == k) = c) {x y : Operand} {ats : Array TypeId} (hg : guardIsT ops shs A G = some true) (hx : opShT ops shs A a0 x = .val (.agg #[.int .i64 p.kind, .string p.text, .int .i64 p.n, .string p.name, kv])) (hy : opShT ops shs A a0 y = .val (.int .i64 k)) (hs : shs.getD i (.fact fun _ _ => True) = .val (.bool c)) : StepOkT (OneRl bs D) Tryd.prog ops Q (shFT shs) a0 w0 i ⟨d, .call { callee := .value (.func 78), args := #[x, y], argTypes := ats }, ty, pos, A, G⟩ :=
  st_callT (by kernel_rfl) hg fun a w E => by
    simp only [List.map_toArray, List.map_cons, List.map_nil]
    rw [E.opv hx, E.opv hy]
    exact (is_any p kv k w).mono fun e w' ⟨he, hg⟩ => ⟨_, he, OneRl.of_grew hg, by unfold shFT; rw [hs, ← hc]; rfl⟩
theorem so_store (h : OneIn w0 b bs p kv) {f : Nat → Bool} {x y : Operand} (hg : guardIsT ops shs A G = some true) (hx : opShT ops shs A a0 x = .val (.pointer (some ⟨bs, 0, none⟩))) (hy : opShT ops shs A a0 y = .val (.agg (wordsV f))) (hs : shs.getD i (.fact fun _ _ => True) = .fact fun _ w => w.heap[bs]? = some (.cells (wordsV f) 77 (0, 0))) : StepOkT (OneRl bs (.cells (wordsV f) 77 (0, 0))) Tryd.prog ops Q (shFT shs) a0 w0 i ⟨d, .store 77 x y, ty, pos, A, G⟩ :=
  st_runT hg fun a w E K hK => by
    have hv : a.eval x = .pointer (some ⟨bs, 0, none⟩) := E.opv hx
    have hv2 : a.eval y = .agg (wordsV f) := E.opv hy
    have hb := h.lt2 E.grew
    have hcur : ∃ cur : Array Value, w.heap[bs]? = some (.cells cur 77 (0, 0)) ∧ cur.size = 4 := by
      rcases (E.grew h.lt).2 with k | k
      · exact ⟨_, by rw [k]; exact h.set, rfl⟩
      · exact ⟨_, k, rfl⟩
    obtain ⟨cur, hc1, hc2⟩ := hcur
    have hst := run_storeCells_at (P := Tryd.prog) bs 0 77 (wordsV f).toList 0 cur w hc1 (by rw [hc2]; exact Nat.le_refl _) (words_one f)
    have hrow : (cur.toList.take (0 + 0) ++ (wordsV f).toList ++ cur.toList.drop (0 + 0 + (wordsV f).toList.length)).toArray = wordsV f := by
      rw [List.drop_eq_nil_of_le (by rw [Array.length_toList, hc2]; exact Nat.le_refl _), List.append_nil]
      simp
    rw [hrow] at hst
    have := hK undef (w.setRow bs (wordsV f)) (fun _ => ⟨⟨rfl, rfl, rfl, by simp, fun k hk hne => setRow_other w bs k _ (fun e => hne (by rw [e]))⟩, Or.inr (setRow_heap w bs cur _ _ _ hc1)⟩) (by unfold shFT; rw [hs]; exact setRow_heap w bs cur _ _ _ hc1)
    have hz : (wordsV f).size = 4 := rfl
    unfold Oper.wp execOp
    simpa [hv, hv2, Instr.storeAt, Instr.sureAddr, storeVar, Sem.run_bind, Value.cells, hz, hst, Oper.upon] using this
theorem num_eq1 (z : Int) {x y : Operand} (w : World) : (do eqGuard .eql 3 x y (.int .i64 z) (.int .i64 1); binOp .eql 3 (.int .i64 z) (.int .i64 1) : Sem Value).run Tryd.prog w = .ok (.bool (z == 1)) w := by
  simp [eqGuard, binOp, Op.intCmp]
theorem one_mono {b bs : Nat} {D : Obj} {p : Pat} {kv : Value} {w0 : World} {shs : List RR.ShT} (h : OneIn w0 b bs p kv) (hp : ∀ s ∈ shs, (∃ v, s = .val v) ∨ s = .fact fun _ w' => w'.heap[bs]? = some D) : ∀ i v w w', OneRl bs D w w' → RR.shFT shs i v w → RR.shFT shs i v w' := by
  intro i v w w' g k
  unfold RR.shFT at k ⊢
  rcases Nat.lt_or_ge i shs.length with hi | hi
  · rw [List.getD_eq_getElem?_getD, List.getElem?_eq_getElem hi] at k ⊢
    rcases hp _ (List.getElem_mem hi) with ⟨u, e⟩ | e
    · rw [Option.getD_some, e] at k ⊢; exact k
    · rw [Option.getD_some, e] at k ⊢
      have k : w.heap[bs]? = some D := k
      rcases (g (Array.getElem?_eq_some_iff.1 k).1).2 with g2 | g2
      · exact g2.trans k
      · exact g2
  · rw [List.getD_eq_getElem?_getD, List.getElem?_eq_none hi] at k ⊢; exact k
end
theorem none_dst {ops : List Oper} {d : Tmp} (h : (ops.all fun o => o.dst != some d) = true) : ∀ (i : Nat) o, ops.toArray[i]? = some o → o.dst ≠ some d := by
  intro i o ho e
  have := List.all_eq_true.1 h o (by have := Array.mem_of_getElem? ho; simpa using this)
  rw [e] at this
  simp at this
theorem one_grew {w w0 w1 : World} {bs : Nat} (g : Grew w w0) (h : w0.grownBy w1 (some bs)) (hb : w.heap.size ≤ bs) : Grew w w1 :=
  Grew.trans g (Grew.refl _) |>.grown h (fun b e => by have := Option.some.inj e; omega)
theorem info_set4T : (Tryd.prog.info? 77).map (·.size) = some 4 := by kernel_rfl
theorem results_set2 {fn : Func} {p q : Tmp} (h : fn.results = #[.cell p 77, .tmp q]) {w : World} {tmps : Array Value} {rb : Nat} {f : Nat → Bool} {v : Value} (hp : tmps.getD p undef = .pointer (some ⟨rb, 0, none⟩)) (hq : tmps.getD q undef = v) (hg : w.heap[rb]? = some (.cells (wordsV f) 77 (0, 0))) :
    (results fn tmps).run Tryd.prog w = .ok (.tuple #[.agg (wordsV f), v]) w := by
  have hp' : tmps[p]?.getD undef = .pointer (some ⟨rb, 0, none⟩) := by simpa using hp
  have hq' : tmps[q]?.getD undef = v := by simpa using hq
  have hl : (loadVar 77 ⟨rb, 0, none⟩).run Tryd.prog w = .ok (.agg (wordsV f)) w := run_loadVar_row (P := Tryd.prog) w rb 77 77 (wordsV f) (0, 0) _ hg Tryd.underlying77 rfl info_set4T
  simp [results, h, hp', hq', asAddr, hl]
theorem mixedT : Tryd.prog.follows .mixedOrders = true := by kernel_rfl
theorem one_inT (w : World) (p : Pat) (kv : Value) : OneIn ((w.alloc (.cells #[.int .i64 p.kind, .string p.text, .int .i64 p.n, .string p.name, kv] 24)).alloc (.cells #[.int .u64 0, .int .u64 0, .int .u64 0, .int .u64 0] 77)) w.heap.size (w.heap.size + 1) p kv := by
  have e : w.heap.size + 1 = (w.alloc (.cells #[.int .i64 p.kind, .string p.text, .int .i64 p.n, .string p.name, kv] 24)).heap.size := by simp
  exact ⟨heap_moreT (heap_alloc_new w _), by omega, by rw [e]; exact heap_alloc_new _ _⟩
set_option maxRecDepth 100000 in
theorem one_A (p : Pat) (kv : Value) (w : World) (e3 : (p.kind == 3) = true) (ht : p.text.size ≤ maxLen) : Calls Tryd.prog 110 #[.agg (p.cells kv)] w fun e w' => e = .returned (.tuple #[.agg (wordsV (setOf p.text.data.toList)), .bool true]) ∧ Grew w w' := by
  have HI := hidd (one_inT w p kv)
  have HG0 : Hid (Grew w ((w.alloc (.cells #[.int .i64 p.kind, .string p.text, .int .i64 p.n, .string p.name, kv] 24)).alloc (.cells #[.int .u64 0, .int .u64 0, .int .u64 0, .int .u64 0] 77))) := ((Grew.refl w).alloc _).alloc _
  have E3 := hidd e3
  have HT := hidd ht
  rw [cells_eq]
  clear e3 ht
  go_enter Tryd.func110, Tryd.ntmps110
  go_wp2_with fail
  refine RR.region_toldT (Rl := OneRl (w.heap.size + 1) (.cells (wordsV (setOf p.text.data.toList)) 77 (0, 0))) mixedT (OneRl.drew _ _) OneRl.trans [.val (.pointer (some ⟨w.heap.size, 1, none⟩)), .val (.string p.text), .val (.agg (wordsV (setOf p.text.data.toList))), .val (.agg #[.int .i64 p.kind, .string p.text, .int .i64 p.n, .string p.name, kv]), .val (.bool true), .val (.bool true), .val (undef), .val (undef), .val (undef), .val (undef), .val (undef), .val (undef), .val (undef), .val (undef), .val (.bool true), .fact fun _ w' => w'.heap[w.heap.size + 1]? = some (.cells (wordsV (setOf p.text.data.toList)) 77 (0, 0)), .val (.bool true)] ?_ (by kernel_rfl)
    ⟨so_field (by kernel_rfl) rfl rfl, so_loadS HI.out (by kernel_rfl) rfl rfl, so_of HI.out HT.out (by kernel_rfl) rfl rfl, so_loadP HI.out (by kernel_rfl) rfl rfl, so_is 3 E3.out (by kernel_rfl) rfl rfl rfl, RR.st_moveT (OneRl.refl _ _) (by kernel_rfl) rfl, RR.st_skipT (by kernel_rfl) (OneRl.refl _ _) rfl, RR.st_skipT (by kernel_rfl) (OneRl.refl _ _) rfl, RR.st_skipT (by kernel_rfl) (OneRl.refl _ _) rfl, RR.st_skipT (by kernel_rfl) (OneRl.refl _ _) rfl, RR.st_skipT (by kernel_rfl) (OneRl.refl _ _) rfl, RR.st_skipT (by kernel_rfl) (OneRl.refl _ _) rfl, RR.st_skipT (by kernel_rfl) (OneRl.refl _ _) rfl, RR.st_skipT (by kernel_rfl) (OneRl.refl _ _) rfl, RR.st_pickT (OneRl.refl _ _) (by kernel_rfl) rfl rfl, so_store HI.out (by kernel_rfl) rfl rfl rfl, RR.st_assignT (OneRl.refl _ _) (by kernel_rfl) rfl, trivial⟩ ?_
  · refine one_mono HI.out ?_
    intro s hs
    simp only [List.mem_cons, List.not_mem_nil, or_false] at hs
    rcases hs with rfl | rfl | rfl | rfl | rfl | rfl | rfl | rfl | rfl | rfl | rfl | rfl | rfl | rfl | rfl | rfl | rfl <;> first | exact Or.inl ⟨_, rfl⟩ | exact Or.inr rfl
  intro a1 w1 g1 hdf hsz hsm ht
  obtain ⟨v15, k15, _⟩ := ht 15 _ rfl
  obtain ⟨v16, k16, k16'⟩ := ht 16 _ rfl
  have e3 : a1.tmps.getD 3 undef = .bool true := (k16' 3 rfl).trans k16
  have e2 : a1.tmps.getD 2 undef = .pointer (some ⟨w.heap.size + 1, 0, none⟩) := hsm 2 (none_dst (by kernel_rfl))
  have k15 : w1.heap[w.heap.size + 1]? = some (.cells (wordsV (setOf p.text.data.toList)) 77 (0, 0)) := k15
  have hG := one_grew HG0.out (g1 HI.out.lt).1 (by omega)
  have HR := hidd (And.intro k15 hG)
  clear ht hsm hsz g1 k15 hG k16 k16'
  obtain ⟨tm, df⟩ := a1
  dsimp only at e2 e3 hdf
  subst hdf
  have HE := hidd (And.intro e2 e3)
  clear e2 e3
  go_wp2_with fail
  exact bodyPost_ret (results_set2 rfl HE.out.1 HE.out.2 HR.out.1) rfl ⟨rfl, HR.out.2⟩
set_option maxRecDepth 100000 in
theorem one_B (p : Pat) (kv : Value) (w : World) (e3 : (p.kind == 3) = false) (e1 : (p.kind == 1) = false) (ht : p.text.size ≤ maxLen) : Calls Tryd.prog 110 #[.agg (p.cells kv)] w fun e w' => e = .returned (.tuple #[.agg (wordsV (setOf p.text.data.toList)), .bool false]) ∧ Grew w w' := by
  have HI := hidd (one_inT w p kv)
  have HG0 : Hid (Grew w ((w.alloc (.cells #[.int .i64 p.kind, .string p.text, .int .i64 p.n, .string p.name, kv] 24)).alloc (.cells #[.int .u64 0, .int .u64 0, .int .u64 0, .int .u64 0] 77))) := ((Grew.refl w).alloc _).alloc _
  have E3 := hidd e3
  have E1 := hidd e1
  have HT := hidd ht
  rw [cells_eq]
  clear e3 e1 ht
  go_enter Tryd.func110, Tryd.ntmps110
  go_wp2_with fail
  refine RR.region_toldT (Rl := OneRl (w.heap.size + 1) (.cells (wordsV (setOf p.text.data.toList)) 77 (0, 0))) mixedT (OneRl.drew _ _) OneRl.trans [.val (.pointer (some ⟨w.heap.size, 1, none⟩)), .val (.string p.text), .val (.agg (wordsV (setOf p.text.data.toList))), .val (.agg #[.int .i64 p.kind, .string p.text, .int .i64 p.n, .string p.name, kv]), .val (.bool false), .val (.bool false), .val (.agg #[.int .i64 p.kind, .string p.text, .int .i64 p.n, .string p.name, kv]), .val (.bool false), .val (.bool false), .val (undef), .val (undef), .val (undef), .val (undef), .val (.bool false), .val (.bool false), .fact fun _ w' => w'.heap[w.heap.size + 1]? = some (.cells (wordsV (setOf p.text.data.toList)) 77 (0, 0)), .val (.bool false)] ?_ (by kernel_rfl)
    ⟨so_field (by kernel_rfl) rfl rfl, so_loadS HI.out (by kernel_rfl) rfl rfl, so_of HI.out HT.out (by kernel_rfl) rfl rfl, so_loadP HI.out (by kernel_rfl) rfl rfl, so_is 3 E3.out (by kernel_rfl) rfl rfl rfl, RR.st_moveT (OneRl.refl _ _) (by kernel_rfl) rfl, so_loadP HI.out (by kernel_rfl) rfl rfl, so_is 1 E1.out (by kernel_rfl) rfl rfl rfl, RR.st_moveT (OneRl.refl _ _) (by kernel_rfl) rfl, RR.st_skipT (by kernel_rfl) (OneRl.refl _ _) rfl, RR.st_skipT (by kernel_rfl) (OneRl.refl _ _) rfl, RR.st_skipT (by kernel_rfl) (OneRl.refl _ _) rfl, RR.st_skipT (by kernel_rfl) (OneRl.refl _ _) rfl, RR.st_pickFT (OneRl.refl _ _) (by kernel_rfl) rfl rfl, RR.st_pickFT (OneRl.refl _ _) (by kernel_rfl) rfl rfl, so_store HI.out (by kernel_rfl) rfl rfl rfl, RR.st_assignT (OneRl.refl _ _) (by kernel_rfl) rfl, trivial⟩ ?_
  · refine one_mono HI.out ?_
    intro s hs
    simp only [List.mem_cons, List.not_mem_nil, or_false] at hs
    rcases hs with rfl | rfl | rfl | rfl | rfl | rfl | rfl | rfl | rfl | rfl | rfl | rfl | rfl | rfl | rfl | rfl | rfl <;> first | exact Or.inl ⟨_, rfl⟩ | exact Or.inr rfl
  intro a1 w1 g1 hdf hsz hsm ht
  obtain ⟨v15, k15, _⟩ := ht 15 _ rfl
  obtain ⟨v16, k16, k16'⟩ := ht 16 _ rfl
  have e3 : a1.tmps.getD 3 undef = .bool false := (k16' 3 rfl).trans k16
  have e2 : a1.tmps.getD 2 undef = .pointer (some ⟨w.heap.size + 1, 0, none⟩) := hsm 2 (none_dst (by kernel_rfl))
  have k15 : w1.heap[w.heap.size + 1]? = some (.cells (wordsV (setOf p.text.data.toList)) 77 (0, 0)) := k15
  have hG := one_grew HG0.out (g1 HI.out.lt).1 (by omega)
  have HR := hidd (And.intro k15 hG)
  clear ht hsm hsz g1 k15 hG k16 k16'
  obtain ⟨tm, df⟩ := a1
  dsimp only at e2 e3 hdf
  subst hdf
  have HE := hidd (And.intro e2 e3)
  clear e2 e3
  go_wp2_with fail
  exact bodyPost_ret (results_set2 rfl HE.out.1 HE.out.2 HR.out.1) rfl ⟨rfl, HR.out.2⟩
set_option maxRecDepth 100000 in
theorem one_C (p : Pat) (kv : Value) (w : World) (e3 : (p.kind == 3) = false) (e1 : (p.kind == 1) = true) (ht : p.text.size ≤ maxLen) : Calls Tryd.prog 110 #[.agg (p.cells kv)] w fun e w' => e = .returned (.tuple #[.agg (wordsV (setOf p.text.data.toList)), .bool (((p.text.size : Int)) == 1)]) ∧ Grew w w' := by
  have HI := hidd (one_inT w p kv)
  have HG0 : Hid (Grew w ((w.alloc (.cells #[.int .i64 p.kind, .string p.text, .int .i64 p.n, .string p.name, kv] 24)).alloc (.cells #[.int .u64 0, .int .u64 0, .int .u64 0, .int .u64 0] 77))) := ((Grew.refl w).alloc _).alloc _
  have E3 := hidd e3
  have E1 := hidd e1
  have HT := hidd ht
  rw [cells_eq]
  clear e3 e1 ht
  go_enter Tryd.func110, Tryd.ntmps110
  go_wp2_with fail
  refine RR.region_toldT (Rl := OneRl (w.heap.size + 1) (.cells (wordsV (setOf p.text.data.toList)) 77 (0, 0))) mixedT (OneRl.drew _ _) OneRl.trans [.val (.pointer (some ⟨w.heap.size, 1, none⟩)), .val (.string p.text), .val (.agg (wordsV (setOf p.text.data.toList))), .val (.agg #[.int .i64 p.kind, .string p.text, .int .i64 p.n, .string p.name, kv]), .val (.bool false), .val (.bool false), .val (.agg #[.int .i64 p.kind, .string p.text, .int .i64 p.n, .string p.name, kv]), .val (.bool true), .val (.bool true), .val (.pointer (some ⟨w.heap.size, 1, none⟩)), .val (.string p.text), .val (.int .i64 p.text.size), .val (.bool (((p.text.size : Int)) == 1)), .val (.bool (((p.text.size : Int)) == 1)), .val (.bool (((p.text.size : Int)) == 1)), .fact fun _ w' => w'.heap[w.heap.size + 1]? = some (.cells (wordsV (setOf p.text.data.toList)) 77 (0, 0)), .val (.bool (((p.text.size : Int)) == 1))] ?_ (by kernel_rfl)
    ⟨so_field (by kernel_rfl) rfl rfl, so_loadS HI.out (by kernel_rfl) rfl rfl, so_of HI.out HT.out (by kernel_rfl) rfl rfl, so_loadP HI.out (by kernel_rfl) rfl rfl, so_is 3 E3.out (by kernel_rfl) rfl rfl rfl, RR.st_moveT (OneRl.refl _ _) (by kernel_rfl) rfl, so_loadP HI.out (by kernel_rfl) rfl rfl, so_is 1 E1.out (by kernel_rfl) rfl rfl rfl, RR.st_moveT (OneRl.refl _ _) (by kernel_rfl) rfl, so_field (by kernel_rfl) rfl rfl, so_loadS HI.out (by kernel_rfl) rfl rfl, so_len rfl (by kernel_rfl) rfl rfl, RR.st_numT (OneRl.refl _ _) (fun w => num_eq1 _ w) (by kernel_rfl) rfl rfl rfl, RR.st_pickT (OneRl.refl _ _) (by kernel_rfl) rfl rfl, RR.st_pickFT (OneRl.refl _ _) (by kernel_rfl) rfl rfl, so_store HI.out (by kernel_rfl) rfl rfl rfl, RR.st_assignT (OneRl.refl _ _) (by kernel_rfl) rfl, trivial⟩ ?_
  · refine one_mono HI.out ?_
    intro s hs
    simp only [List.mem_cons, List.not_mem_nil, or_false] at hs
    rcases hs with rfl | rfl | rfl | rfl | rfl | rfl | rfl | rfl | rfl | rfl | rfl | rfl | rfl | rfl | rfl | rfl | rfl <;> first | exact Or.inl ⟨_, rfl⟩ | exact Or.inr rfl
  intro a1 w1 g1 hdf hsz hsm ht
  obtain ⟨v15, k15, _⟩ := ht 15 _ rfl
  obtain ⟨v16, k16, k16'⟩ := ht 16 _ rfl
  have e3 : a1.tmps.getD 3 undef = .bool (((p.text.size : Int)) == 1) := (k16' 3 rfl).trans k16
  have e2 : a1.tmps.getD 2 undef = .pointer (some ⟨w.heap.size + 1, 0, none⟩) := hsm 2 (none_dst (by kernel_rfl))
  have k15 : w1.heap[w.heap.size + 1]? = some (.cells (wordsV (setOf p.text.data.toList)) 77 (0, 0)) := k15
  have hG := one_grew HG0.out (g1 HI.out.lt).1 (by omega)
  have HR := hidd (And.intro k15 hG)
  clear ht hsm hsz g1 k15 hG k16 k16'
  obtain ⟨tm, df⟩ := a1
  dsimp only at e2 e3 hdf
  subst hdf
  have HE := hidd (And.intro e2 e3)
  clear e2 e3
  go_wp2_with fail
  exact bodyPost_ret (results_set2 rfl HE.out.1 HE.out.2 HR.out.1) rfl ⟨rfl, HR.out.2⟩
theorem one_any (p : Pat) (kv : Value) (w : World) (ht : p.text.size ≤ maxLen) : Calls Tryd.prog 110 #[.agg (p.cells kv)] w fun e w' => e = .returned (.tuple #[setV (setOf p.text.data.toList), .bool (oneB p)]) ∧ Grew w w' := by
  have hs : (((p.text.size : Int)) == 1) = (p.text.size == 1) := by
    rw [Bool.eq_iff_iff, beq_iff_eq, beq_iff_eq]; omega
  unfold oneB
  cases e3 : (p.kind == 3) with
  | true => exact one_A p kv w e3 ht
  | false =>
    cases e1 : (p.kind == 1) with
    | false => exact one_B p kv w e3 e1 ht
    | true =>
      have := one_C p kv w e3 e1 ht
      rw [hs] at this
      exact this
end Go.Proofs.YtkkdpafkafjfgaaDoor
namespace Go.Proofs.YtkkdpafkafjfgaaDoor
open Go.RowKit
set_option linter.unusedVariables false
theorem meet_none (a b : ByteArray) : (bl (fun i => setOf a.data.toList i && setOf b.data.toList i) 0 256).length = 0 ↔ apartB a b = true := by
  constructor
  · intro h
    unfold apartB
    rw [List.all_eq_true]
    intro c hc
    cases hb : b.data.toList.contains c with
    | false => rfl
    | true =>
      exfalso
      have := mem_bl (f := fun i => setOf a.data.toList i && setOf b.data.toList i) 256 0 c.toNat (Nat.zero_le _) (by have := c.toNat_lt; omega) (by rw [Bool.and_eq_true]; exact ⟨(setOf_iff _ _).2 hc, (setOf_iff _ _).2 (List.contains_iff_mem.1 hb)⟩)
      rw [List.eq_nil_of_length_eq_zero h] at this
      cases this
  · intro h
    cases hl : bl (fun i => setOf a.data.toList i && setOf b.data.toList i) 0 256 with
    | nil => rfl
    | cons x l =>
      exfalso
      have hm := bl_mem 256 0 x (by rw [hl]; simp : x ∈ bl (fun i => setOf a.data.toList i && setOf b.data.toList i) 0 256)
      have hx : x = (UInt8.ofNat x).toNat := (UInt8.toNat_ofNat_of_lt' (show x < 256 by omega)).symm
      have h3 := hm.2.2
      rw [Bool.and_eq_true, hx, setOf_iff, setOf_iff] at h3
      unfold apartB at h
      have := List.all_eq_true.1 h _ h3.1
      rw [List.contains_iff_mem.2 h3.2] at this
      cases this
theorem union_spell (a b : ByteArray) : (⟨(bytesL (bl (fun i => setOf a.data.toList i || setOf b.data.toList i) 0 256)).toArray⟩ : ByteArray) = spell (a ++ b) := by
  unfold spell
  rw [bl_congr (g := setOf (a ++ b).data.toList) 256 0 (fun x _ hx => ?_)]
  have e : x = (UInt8.ofNat x).toNat := (UInt8.toNat_ofNat_of_lt' (show x < 256 by omega)).symm
  rw [e, Bool.eq_iff_iff, Bool.or_eq_true, setOf_iff, setOf_iff, setOf_iff, data_append, List.mem_append]
theorem heap_keptT {w w' : World} (g : Grew w w') {b : Nat} {o : Obj} (h : w.heap[b]? = some o) : w'.heap[b]? = some o := by rw [g.block b (Array.getElem?_eq_some_iff.1 h).1]; exact h
theorem five_cells {w : World} {b : Nat} {v0 v1 v2 v3 v4 : Value} {t : TypeId} (h : w.heap[b]? = some (.cells #[v0, v1, v2, v3, v4] t (0, 0))) :
    (w.cell? ⟨b, 0, none⟩ = some v0 ∧ w.cell? ⟨b, 1, none⟩ = some v1 ∧ w.cell? ⟨b, 2, none⟩ = some v2 ∧ w.cell? ⟨b, 3, none⟩ = some v3 ∧ w.cell? ⟨b, 4, none⟩ = some v4) ∧ ∀ o, w.frozen? ⟨b, o, none⟩ = false := by
  refine ⟨⟨?_, ?_, ?_, ?_, ?_⟩, fun o => by simp [World.frozen?, h]⟩ <;> simp [World.cell?, h]
theorem four_cells {w : World} {b : Nat} {v0 v1 v2 v3 : Value} {t : TypeId} (h : w.heap[b]? = some (.cells #[v0, v1, v2, v3] t (0, 0))) :
    (w.cell? ⟨b, 0, none⟩ = some v0 ∧ w.cell? ⟨b, 1, none⟩ = some v1 ∧ w.cell? ⟨b, 2, none⟩ = some v2 ∧ w.cell? ⟨b, 3, none⟩ = some v3) ∧ ∀ o, w.frozen? ⟨b, o, none⟩ = false := by
  refine ⟨⟨?_, ?_, ?_, ?_⟩, fun o => by simp [World.frozen?, h]⟩ <;> simp [World.cell?, h]
theorem setPat_heap {w : World} {b : Nat} {v0 v1 v2 v3 v4 u0 u1 u2 u3 u4 : Value} {t : TypeId} (h : w.heap[b]? = some (.cells #[v0, v1, v2, v3, v4] t (0, 0))) :
    (((((w.setCell ⟨b, 0, none⟩ u0).setCell ⟨b, 1, none⟩ u1).setCell ⟨b, 2, none⟩ u2).setCell ⟨b, 3, none⟩ u3).setCell ⟨b, 4, none⟩ u4).heap[b]? = some (.cells #[u0, u1, u2, u3, u4] t (0, 0)) := by
  rw [setCell_heap_same (setCell_heap_same (setCell_heap_same (setCell_heap_same (setCell_heap_same h 0 u0) 1 u1) 2 u2) 3 u3) 4 u4]; rfl
theorem setPat_grew {w0 w : World} {b : Nat} (g : Grew w0 w) (hb : w0.heap.size ≤ b) (u0 u1 u2 u3 u4 : Value) : Grew w0 (((((w.setCell ⟨b, 0, none⟩ u0).setCell ⟨b, 1, none⟩ u1).setCell ⟨b, 2, none⟩ u2).setCell ⟨b, 3, none⟩ u3).setCell ⟨b, 4, none⟩ u4) :=
  ((((g.setCell hb _).setCell hb _).setCell hb _).setCell hb _).setCell hb _
theorem heap_second (w : World) (o o' : Obj) : ((w.alloc o).alloc o').heap[w.heap.size + 1]? = some o' := by
  have e : w.heap.size + 1 = (w.alloc o).heap.size := by simp
  rw [e]; exact heap_alloc_new _ _
set_option maxRecDepth 100000 in
set_option maxHeartbeats 2000000 in
theorem others_first (a b : Pat) (ka kb : Value) (w : World) (h1 : oneB a = false) (ha : a.text.size ≤ maxLen) (hb : b.text.size ≤ maxLen) : Calls Tryd.prog 90 #[.agg (a.cells ka), .agg (b.cells kb)] w fun e w' => e = .returned (twoVT (none)) ∧ Grew w w' := by
  have HA := hidd (fun w => one_any a ka w ha)
  have HB := hidd (fun w => one_any b kb w hb)
  rw [h1] at HA
  clear h1
  unfold setV at HA HB
  rw [cells_eq] at HA HB ⊢
  rw [cells_eq]
  have HH0 : Hid (Grew w (((w.alloc (.cells #[.int .i64 a.kind, .string a.text, .int .i64 a.n, .string a.name, ka] 24)).alloc (.cells #[.int .i64 b.kind, .string b.text, .int .i64 b.n, .string b.name, kb] 24)).alloc (.cells #[.int .i64 0, .string ⟨#[]⟩, .int .i64 0, .string ⟨#[]⟩, .slice none 0 0] 24)) ∧ (((w.alloc (.cells #[.int .i64 a.kind, .string a.text, .int .i64 a.n, .string a.name, ka] 24)).alloc (.cells #[.int .i64 b.kind, .string b.text, .int .i64 b.n, .string b.name, kb] 24)).alloc (.cells #[.int .i64 0, .string ⟨#[]⟩, .int .i64 0, .string ⟨#[]⟩, .slice none 0 0] 24)).heap[w.heap.size + 1]? = some (.cells #[.int .i64 b.kind, .string b.text, .int .i64 b.n, .string b.name, kb] 24 (0, 0)) ∧ (((w.alloc (.cells #[.int .i64 a.kind, .string a.text, .int .i64 a.n, .string a.name, ka] 24)).alloc (.cells #[.int .i64 b.kind, .string b.text, .int .i64 b.n, .string b.name, kb] 24)).alloc (.cells #[.int .i64 0, .string ⟨#[]⟩, .int .i64 0, .string ⟨#[]⟩, .slice none 0 0] 24)).heap[w.heap.size + 1 + 1]? = some (.cells #[.int .i64 0, .string ⟨#[]⟩, .int .i64 0, .string ⟨#[]⟩, .slice none 0 0] 24 (0, 0))) :=
    ⟨((((Grew.refl w).alloc _).alloc _).alloc _), heap_moreT (heap_second w _ _), heap_third w _ _ _⟩
  clear ha hb 
  go_enter Tryd.func90, Tryd.ntmps90
  go_wp2_with fail
  refine (HA.out _).mono ?_; rintro e w1 ⟨rfl, g1⟩
  have HH1 := hidd (And.intro (HH0.out.1.trans g1) (And.intro (heap_keptT g1 HH0.out.2.1) (heap_keptT g1 HH0.out.2.2)))
  have F1 : ∀ o, ((w1.alloc o).cell? ⟨w.heap.size + 1, 0, none⟩ = some (.int .i64 b.kind) ∧ (w1.alloc o).cell? ⟨w.heap.size + 1, 1, none⟩ = some (.string b.text) ∧ (w1.alloc o).cell? ⟨w.heap.size + 1, 2, none⟩ = some (.int .i64 b.n) ∧ (w1.alloc o).cell? ⟨w.heap.size + 1, 3, none⟩ = some (.string b.name) ∧ (w1.alloc o).cell? ⟨w.heap.size + 1, 4, none⟩ = some kb) := fun o => (five_cells (heap_moreT HH1.out.2.1)).1
  have hsz1 := HH1.out.1.size
  clear g1
  go_wp2_with fail
  refine (HB.out _).mono ?_; rintro e w2 ⟨rfl, g2⟩
  have HS1 : Hid (w2.heap[w1.heap.size]? = some (.cells #[.int .u64 (word (setOf a.text.data.toList) 0 64 : Nat), .int .u64 (word (setOf a.text.data.toList) 64 64 : Nat), .int .u64 (word (setOf a.text.data.toList) 128 64 : Nat), .int .u64 (word (setOf a.text.data.toList) 192 64 : Nat)] 77 (0, 0))) := heap_keptT g2 (heap_alloc_new w1 _)
  have HH2 := hidd (And.intro ((HH1.out.1.alloc _).trans g2) (heap_keptT g2 (heap_moreT HH1.out.2.2)))
  have hsz2 := g2.size
  rw [World.size_alloc] at hsz2
  clear g2 F1
  have Z2 : ∀ o, (((w2.alloc o).cell? ⟨w.heap.size + 1 + 1, 0, none⟩ = some (.int .i64 0) ∧ (w2.alloc o).cell? ⟨w.heap.size + 1 + 1, 1, none⟩ = some (.string ⟨#[]⟩) ∧ (w2.alloc o).cell? ⟨w.heap.size + 1 + 1, 2, none⟩ = some (.int .i64 0) ∧ (w2.alloc o).cell? ⟨w.heap.size + 1 + 1, 3, none⟩ = some (.string ⟨#[]⟩) ∧ (w2.alloc o).cell? ⟨w.heap.size + 1 + 1, 4, none⟩ = some (.slice none 0 0)) ∧ ∀ k, (w2.alloc o).frozen? ⟨w.heap.size + 1 + 1, k, none⟩ = false) := fun o => five_cells (heap_moreT HH2.out.2)
  go_wp2_with fail
  exact bodyPost_ret (results_pat2 rfl rfl rfl (setPat_heap (heap_moreT HH2.out.2)) rfl) rfl ⟨rfl, setPat_grew (HH2.out.1.alloc _) (by omega) _ _ _ _ _⟩
set_option maxRecDepth 100000 in
set_option maxHeartbeats 2000000 in
theorem others_second (a b : Pat) (ka kb : Value) (w : World) (h1 : oneB a = true) (h2 : oneB b = false) (ha : a.text.size ≤ maxLen) (hb : b.text.size ≤ maxLen) : Calls Tryd.prog 90 #[.agg (a.cells ka), .agg (b.cells kb)] w fun e w' => e = .returned (twoVT (none)) ∧ Grew w w' := by
  have HA := hidd (fun w => one_any a ka w ha)
  have HB := hidd (fun w => one_any b kb w hb)
  rw [h1] at HA
  rw [h2] at HB
  clear h1 h2
  unfold setV at HA HB
  rw [cells_eq] at HA HB ⊢
  rw [cells_eq]
  have HH0 : Hid (Grew w (((w.alloc (.cells #[.int .i64 a.kind, .string a.text, .int .i64 a.n, .string a.name, ka] 24)).alloc (.cells #[.int .i64 b.kind, .string b.text, .int .i64 b.n, .string b.name, kb] 24)).alloc (.cells #[.int .i64 0, .string ⟨#[]⟩, .int .i64 0, .string ⟨#[]⟩, .slice none 0 0] 24)) ∧ (((w.alloc (.cells #[.int .i64 a.kind, .string a.text, .int .i64 a.n, .string a.name, ka] 24)).alloc (.cells #[.int .i64 b.kind, .string b.text, .int .i64 b.n, .string b.name, kb] 24)).alloc (.cells #[.int .i64 0, .string ⟨#[]⟩, .int .i64 0, .string ⟨#[]⟩, .slice none 0 0] 24)).heap[w.heap.size + 1]? = some (.cells #[.int .i64 b.kind, .string b.text, .int .i64 b.n, .string b.name, kb] 24 (0, 0)) ∧ (((w.alloc (.cells #[.int .i64 a.kind, .string a.text, .int .i64 a.n, .string a.name, ka] 24)).alloc (.cells #[.int .i64 b.kind, .string b.text, .int .i64 b.n, .string b.name, kb] 24)).alloc (.cells #[.int .i64 0, .string ⟨#[]⟩, .int .i64 0, .string ⟨#[]⟩, .slice none 0 0] 24)).heap[w.heap.size + 1 + 1]? = some (.cells #[.int .i64 0, .string ⟨#[]⟩, .int .i64 0, .string ⟨#[]⟩, .slice none 0 0] 24 (0, 0))) :=
    ⟨((((Grew.refl w).alloc _).alloc _).alloc _), heap_moreT (heap_second w _ _), heap_third w _ _ _⟩
  clear ha hb 
  go_enter Tryd.func90, Tryd.ntmps90
  go_wp2_with fail
  refine (HA.out _).mono ?_; rintro e w1 ⟨rfl, g1⟩
  have HH1 := hidd (And.intro (HH0.out.1.trans g1) (And.intro (heap_keptT g1 HH0.out.2.1) (heap_keptT g1 HH0.out.2.2)))
  have F1 : ∀ o, ((w1.alloc o).cell? ⟨w.heap.size + 1, 0, none⟩ = some (.int .i64 b.kind) ∧ (w1.alloc o).cell? ⟨w.heap.size + 1, 1, none⟩ = some (.string b.text) ∧ (w1.alloc o).cell? ⟨w.heap.size + 1, 2, none⟩ = some (.int .i64 b.n) ∧ (w1.alloc o).cell? ⟨w.heap.size + 1, 3, none⟩ = some (.string b.name) ∧ (w1.alloc o).cell? ⟨w.heap.size + 1, 4, none⟩ = some kb) := fun o => (five_cells (heap_moreT HH1.out.2.1)).1
  have hsz1 := HH1.out.1.size
  clear g1
  go_wp2_with fail
  refine (HB.out _).mono ?_; rintro e w2 ⟨rfl, g2⟩
  have HS1 : Hid (w2.heap[w1.heap.size]? = some (.cells #[.int .u64 (word (setOf a.text.data.toList) 0 64 : Nat), .int .u64 (word (setOf a.text.data.toList) 64 64 : Nat), .int .u64 (word (setOf a.text.data.toList) 128 64 : Nat), .int .u64 (word (setOf a.text.data.toList) 192 64 : Nat)] 77 (0, 0))) := heap_keptT g2 (heap_alloc_new w1 _)
  have HH2 := hidd (And.intro ((HH1.out.1.alloc _).trans g2) (heap_keptT g2 (heap_moreT HH1.out.2.2)))
  have hsz2 := g2.size
  rw [World.size_alloc] at hsz2
  clear g2 F1
  have Z2 : ∀ o, (((w2.alloc o).cell? ⟨w.heap.size + 1 + 1, 0, none⟩ = some (.int .i64 0) ∧ (w2.alloc o).cell? ⟨w.heap.size + 1 + 1, 1, none⟩ = some (.string ⟨#[]⟩) ∧ (w2.alloc o).cell? ⟨w.heap.size + 1 + 1, 2, none⟩ = some (.int .i64 0) ∧ (w2.alloc o).cell? ⟨w.heap.size + 1 + 1, 3, none⟩ = some (.string ⟨#[]⟩) ∧ (w2.alloc o).cell? ⟨w.heap.size + 1 + 1, 4, none⟩ = some (.slice none 0 0)) ∧ ∀ k, (w2.alloc o).frozen? ⟨w.heap.size + 1 + 1, k, none⟩ = false) := fun o => five_cells (heap_moreT HH2.out.2)
  go_wp2_with fail
  exact bodyPost_ret (results_pat2 rfl rfl rfl (setPat_heap (heap_moreT HH2.out.2)) rfl) rfl ⟨rfl, setPat_grew (HH2.out.1.alloc _) (by omega) _ _ _ _ _⟩
set_option maxRecDepth 100000 in
set_option maxHeartbeats 2000000 in
theorem others_meet (a b : Pat) (ka kb : Value) (w : World) (h1 : oneB a = true) (h2 : oneB b = true) (n : Nat) (hn : (bl (fun i => setOf a.text.data.toList i && setOf b.text.data.toList i) 0 256).length = n) (hn0 : 0 < n) (hn1 : n ≤ 256) (ha : a.text.size ≤ maxLen) (hb : b.text.size ≤ maxLen) : Calls Tryd.prog 90 #[.agg (a.cells ka), .agg (b.cells kb)] w fun e w' => e = .returned (twoVT (none)) ∧ Grew w w' := by
  have HA := hidd (fun w => one_any a ka w ha)
  have HB := hidd (fun w => one_any b kb w hb)
  rw [h1] at HA
  rw [h2] at HB
  have HM : Hid (∀ w, Calls Tryd.prog 111 #[setV (setOf a.text.data.toList), setV (setOf b.text.data.toList)] w fun e w' => e = .returned (setV fun i => setOf a.text.data.toList i && setOf b.text.data.toList i) ∧ Grew w w') := fun w => Meet_any _ _ w
  have HSz : Hid (∀ w, Calls Tryd.prog 107 #[setV fun i => setOf a.text.data.toList i && setOf b.text.data.toList i] w fun e w' => e = .returned (.int .i64 n) ∧ Grew w w') := fun w => by rw [← hn]; exact SetSize_any _ w
  unfold setV at HM HSz
  have hd : decide ((0 : Int) < (n : Int)) = true := decide_eq_true (by omega)
  clear h1 h2 hn
  unfold setV at HA HB
  rw [cells_eq] at HA HB ⊢
  rw [cells_eq]
  have HH0 : Hid (Grew w (((w.alloc (.cells #[.int .i64 a.kind, .string a.text, .int .i64 a.n, .string a.name, ka] 24)).alloc (.cells #[.int .i64 b.kind, .string b.text, .int .i64 b.n, .string b.name, kb] 24)).alloc (.cells #[.int .i64 0, .string ⟨#[]⟩, .int .i64 0, .string ⟨#[]⟩, .slice none 0 0] 24)) ∧ (((w.alloc (.cells #[.int .i64 a.kind, .string a.text, .int .i64 a.n, .string a.name, ka] 24)).alloc (.cells #[.int .i64 b.kind, .string b.text, .int .i64 b.n, .string b.name, kb] 24)).alloc (.cells #[.int .i64 0, .string ⟨#[]⟩, .int .i64 0, .string ⟨#[]⟩, .slice none 0 0] 24)).heap[w.heap.size + 1]? = some (.cells #[.int .i64 b.kind, .string b.text, .int .i64 b.n, .string b.name, kb] 24 (0, 0)) ∧ (((w.alloc (.cells #[.int .i64 a.kind, .string a.text, .int .i64 a.n, .string a.name, ka] 24)).alloc (.cells #[.int .i64 b.kind, .string b.text, .int .i64 b.n, .string b.name, kb] 24)).alloc (.cells #[.int .i64 0, .string ⟨#[]⟩, .int .i64 0, .string ⟨#[]⟩, .slice none 0 0] 24)).heap[w.heap.size + 1 + 1]? = some (.cells #[.int .i64 0, .string ⟨#[]⟩, .int .i64 0, .string ⟨#[]⟩, .slice none 0 0] 24 (0, 0))) :=
    ⟨((((Grew.refl w).alloc _).alloc _).alloc _), heap_moreT (heap_second w _ _), heap_third w _ _ _⟩
  clear ha hb 
  go_enter Tryd.func90, Tryd.ntmps90
  go_wp2_with fail
  refine (HA.out _).mono ?_; rintro e w1 ⟨rfl, g1⟩
  have HH1 := hidd (And.intro (HH0.out.1.trans g1) (And.intro (heap_keptT g1 HH0.out.2.1) (heap_keptT g1 HH0.out.2.2)))
  have F1 : ∀ o, ((w1.alloc o).cell? ⟨w.heap.size + 1, 0, none⟩ = some (.int .i64 b.kind) ∧ (w1.alloc o).cell? ⟨w.heap.size + 1, 1, none⟩ = some (.string b.text) ∧ (w1.alloc o).cell? ⟨w.heap.size + 1, 2, none⟩ = some (.int .i64 b.n) ∧ (w1.alloc o).cell? ⟨w.heap.size + 1, 3, none⟩ = some (.string b.name) ∧ (w1.alloc o).cell? ⟨w.heap.size + 1, 4, none⟩ = some kb) := fun o => (five_cells (heap_moreT HH1.out.2.1)).1
  have hsz1 := HH1.out.1.size
  clear g1
  go_wp2_with fail
  refine (HB.out _).mono ?_; rintro e w2 ⟨rfl, g2⟩
  have HS1 : Hid (w2.heap[w1.heap.size]? = some (.cells #[.int .u64 (word (setOf a.text.data.toList) 0 64 : Nat), .int .u64 (word (setOf a.text.data.toList) 64 64 : Nat), .int .u64 (word (setOf a.text.data.toList) 128 64 : Nat), .int .u64 (word (setOf a.text.data.toList) 192 64 : Nat)] 77 (0, 0))) := heap_keptT g2 (heap_alloc_new w1 _)
  have HH2 := hidd (And.intro ((HH1.out.1.alloc _).trans g2) (heap_keptT g2 (heap_moreT HH1.out.2.2)))
  have hsz2 := g2.size
  rw [World.size_alloc] at hsz2
  clear g2 F1
  have F2 : ∀ o, ((w2.alloc o).cell? ⟨w1.heap.size, 0, none⟩ = some (.int .u64 (word (setOf a.text.data.toList) 0 64 : Nat)) ∧ (w2.alloc o).cell? ⟨w1.heap.size, 1, none⟩ = some (.int .u64 (word (setOf a.text.data.toList) 64 64 : Nat)) ∧ (w2.alloc o).cell? ⟨w1.heap.size, 2, none⟩ = some (.int .u64 (word (setOf a.text.data.toList) 128 64 : Nat)) ∧ (w2.alloc o).cell? ⟨w1.heap.size, 3, none⟩ = some (.int .u64 (word (setOf a.text.data.toList) 192 64 : Nat))) := fun o => (four_cells (heap_moreT HS1.out)).1
  go_wp2_with fail
  refine (HM.out _).mono ?_; rintro e w3 ⟨rfl, g3⟩
  have HS2 : Hid (w3.heap[w2.heap.size]? = some (.cells #[.int .u64 (word (setOf b.text.data.toList) 0 64 : Nat), .int .u64 (word (setOf b.text.data.toList) 64 64 : Nat), .int .u64 (word (setOf b.text.data.toList) 128 64 : Nat), .int .u64 (word (setOf b.text.data.toList) 192 64 : Nat)] 77 (0, 0)) ∧ w3.heap[w1.heap.size]? = some (.cells #[.int .u64 (word (setOf a.text.data.toList) 0 64 : Nat), .int .u64 (word (setOf a.text.data.toList) 64 64 : Nat), .int .u64 (word (setOf a.text.data.toList) 128 64 : Nat), .int .u64 (word (setOf a.text.data.toList) 192 64 : Nat)] 77 (0, 0))) := ⟨heap_keptT g3 (heap_alloc_new w2 _), heap_keptT g3 (heap_moreT HS1.out)⟩
  have HH3 := hidd (And.intro ((HH2.out.1.alloc _).trans g3) (heap_keptT g3 (heap_moreT HH2.out.2)))
  clear g3 F2
  go_wp2_with fail
  refine (HSz.out _).mono ?_; rintro e w4 ⟨rfl, g4⟩
  have HS4 := hidd (And.intro (heap_keptT g4 HS2.out.1) (heap_keptT g4 HS2.out.2))
  have HH4 := hidd (And.intro (HH3.out.1.trans g4) (heap_keptT g4 HH3.out.2))
  clear g4
  obtain ⟨⟨z0, z1, z2, z3, z4⟩, zf⟩ := five_cells HH4.out.2
  go_wp2_with fail
  exact bodyPost_ret (results_pat2 rfl rfl rfl (setPat_heap HH4.out.2) rfl) rfl ⟨rfl, setPat_grew HH4.out.1 (by omega) _ _ _ _ _⟩
set_option maxRecDepth 100000 in
set_option maxHeartbeats 2000000 in
theorem others_join (a b : Pat) (ka kb : Value) (w : World) (hT : TabZ w) (h1 : oneB a = true) (h2 : oneB b = true) (hn : (bl (fun i => setOf a.text.data.toList i && setOf b.text.data.toList i) 0 256).length = 0) (ha : a.text.size ≤ maxLen) (hb : b.text.size ≤ maxLen) : Calls Tryd.prog 90 #[.agg (a.cells ka), .agg (b.cells kb)] w fun e w' => e = .returned (twoVT ( some (textP 3 (spell (a.text ++ b.text))))) ∧ Grew w w' := by
  have HA := hidd (fun w => one_any a ka w ha)
  have HB := hidd (fun w => one_any b kb w hb)
  rw [h1] at HA
  rw [h2] at HB
  have HM : Hid (∀ w, Calls Tryd.prog 111 #[setV (setOf a.text.data.toList), setV (setOf b.text.data.toList)] w fun e w' => e = .returned (setV fun i => setOf a.text.data.toList i && setOf b.text.data.toList i) ∧ Grew w w') := fun w => Meet_any _ _ w
  have HSz : Hid (∀ w, Calls Tryd.prog 107 #[setV fun i => setOf a.text.data.toList i && setOf b.text.data.toList i] w fun e w' => e = .returned (.int .i64 0) ∧ Grew w w') := fun w => by have := SetSize_any (fun i => setOf a.text.data.toList i && setOf b.text.data.toList i) w; rw [hn] at this; exact this
  unfold setV at HM HSz
  have HT := hidd hT
  have HU : Hid (∀ w, Calls Tryd.prog 112 #[setV (setOf a.text.data.toList), setV (setOf b.text.data.toList)] w fun e w' => e = .returned (setV fun i => setOf a.text.data.toList i || setOf b.text.data.toList i) ∧ Grew w w') := fun w => Union_any _ _ w
  have HX : Hid (∀ w, TabZ w → Calls Tryd.prog 77 #[setV fun i => setOf a.text.data.toList i || setOf b.text.data.toList i] w fun e w' => e = .returned (.string (spell (a.text ++ b.text))) ∧ Grew w w') := fun w hT => by rw [← union_spell]; exact Text_any _ w hT
  unfold setV at HU HX
  clear h1 h2 hn hT
  unfold setV at HA HB
  rw [cells_eq] at HA HB ⊢
  rw [cells_eq]
  have HH0 : Hid (Grew w (((w.alloc (.cells #[.int .i64 a.kind, .string a.text, .int .i64 a.n, .string a.name, ka] 24)).alloc (.cells #[.int .i64 b.kind, .string b.text, .int .i64 b.n, .string b.name, kb] 24)).alloc (.cells #[.int .i64 0, .string ⟨#[]⟩, .int .i64 0, .string ⟨#[]⟩, .slice none 0 0] 24)) ∧ (((w.alloc (.cells #[.int .i64 a.kind, .string a.text, .int .i64 a.n, .string a.name, ka] 24)).alloc (.cells #[.int .i64 b.kind, .string b.text, .int .i64 b.n, .string b.name, kb] 24)).alloc (.cells #[.int .i64 0, .string ⟨#[]⟩, .int .i64 0, .string ⟨#[]⟩, .slice none 0 0] 24)).heap[w.heap.size + 1]? = some (.cells #[.int .i64 b.kind, .string b.text, .int .i64 b.n, .string b.name, kb] 24 (0, 0)) ∧ (((w.alloc (.cells #[.int .i64 a.kind, .string a.text, .int .i64 a.n, .string a.name, ka] 24)).alloc (.cells #[.int .i64 b.kind, .string b.text, .int .i64 b.n, .string b.name, kb] 24)).alloc (.cells #[.int .i64 0, .string ⟨#[]⟩, .int .i64 0, .string ⟨#[]⟩, .slice none 0 0] 24)).heap[w.heap.size + 1 + 1]? = some (.cells #[.int .i64 0, .string ⟨#[]⟩, .int .i64 0, .string ⟨#[]⟩, .slice none 0 0] 24 (0, 0))) :=
    ⟨((((Grew.refl w).alloc _).alloc _).alloc _), heap_moreT (heap_second w _ _), heap_third w _ _ _⟩
  clear ha hb 
  go_enter Tryd.func90, Tryd.ntmps90
  go_wp2_with fail
  refine (HA.out _).mono ?_; rintro e w1 ⟨rfl, g1⟩
  have HH1 := hidd (And.intro (HH0.out.1.trans g1) (And.intro (heap_keptT g1 HH0.out.2.1) (heap_keptT g1 HH0.out.2.2)))
  have F1 : ∀ o, ((w1.alloc o).cell? ⟨w.heap.size + 1, 0, none⟩ = some (.int .i64 b.kind) ∧ (w1.alloc o).cell? ⟨w.heap.size + 1, 1, none⟩ = some (.string b.text) ∧ (w1.alloc o).cell? ⟨w.heap.size + 1, 2, none⟩ = some (.int .i64 b.n) ∧ (w1.alloc o).cell? ⟨w.heap.size + 1, 3, none⟩ = some (.string b.name) ∧ (w1.alloc o).cell? ⟨w.heap.size + 1, 4, none⟩ = some kb) := fun o => (five_cells (heap_moreT HH1.out.2.1)).1
  have hsz1 := HH1.out.1.size
  clear g1
  go_wp2_with fail
  refine (HB.out _).mono ?_; rintro e w2 ⟨rfl, g2⟩
  have HS1 : Hid (w2.heap[w1.heap.size]? = some (.cells #[.int .u64 (word (setOf a.text.data.toList) 0 64 : Nat), .int .u64 (word (setOf a.text.data.toList) 64 64 : Nat), .int .u64 (word (setOf a.text.data.toList) 128 64 : Nat), .int .u64 (word (setOf a.text.data.toList) 192 64 : Nat)] 77 (0, 0))) := heap_keptT g2 (heap_alloc_new w1 _)
  have HH2 := hidd (And.intro ((HH1.out.1.alloc _).trans g2) (heap_keptT g2 (heap_moreT HH1.out.2.2)))
  have hsz2 := g2.size
  rw [World.size_alloc] at hsz2
  clear g2 F1
  have F2 : ∀ o, ((w2.alloc o).cell? ⟨w1.heap.size, 0, none⟩ = some (.int .u64 (word (setOf a.text.data.toList) 0 64 : Nat)) ∧ (w2.alloc o).cell? ⟨w1.heap.size, 1, none⟩ = some (.int .u64 (word (setOf a.text.data.toList) 64 64 : Nat)) ∧ (w2.alloc o).cell? ⟨w1.heap.size, 2, none⟩ = some (.int .u64 (word (setOf a.text.data.toList) 128 64 : Nat)) ∧ (w2.alloc o).cell? ⟨w1.heap.size, 3, none⟩ = some (.int .u64 (word (setOf a.text.data.toList) 192 64 : Nat))) := fun o => (four_cells (heap_moreT HS1.out)).1
  go_wp2_with fail
  refine (HM.out _).mono ?_; rintro e w3 ⟨rfl, g3⟩
  have HS2 : Hid (w3.heap[w2.heap.size]? = some (.cells #[.int .u64 (word (setOf b.text.data.toList) 0 64 : Nat), .int .u64 (word (setOf b.text.data.toList) 64 64 : Nat), .int .u64 (word (setOf b.text.data.toList) 128 64 : Nat), .int .u64 (word (setOf b.text.data.toList) 192 64 : Nat)] 77 (0, 0)) ∧ w3.heap[w1.heap.size]? = some (.cells #[.int .u64 (word (setOf a.text.data.toList) 0 64 : Nat), .int .u64 (word (setOf a.text.data.toList) 64 64 : Nat), .int .u64 (word (setOf a.text.data.toList) 128 64 : Nat), .int .u64 (word (setOf a.text.data.toList) 192 64 : Nat)] 77 (0, 0))) := ⟨heap_keptT g3 (heap_alloc_new w2 _), heap_keptT g3 (heap_moreT HS1.out)⟩
  have HH3 := hidd (And.intro ((HH2.out.1.alloc _).trans g3) (heap_keptT g3 (heap_moreT HH2.out.2)))
  clear g3 F2
  go_wp2_with fail
  refine (HSz.out _).mono ?_; rintro e w4 ⟨rfl, g4⟩
  have HS4 := hidd (And.intro (heap_keptT g4 HS2.out.1) (heap_keptT g4 HS2.out.2))
  have HH4 := hidd (And.intro (HH3.out.1.trans g4) (heap_keptT g4 HH3.out.2))
  clear g4
  obtain ⟨⟨y0, y1, y2, y3⟩, _⟩ := four_cells HS4.out.1
  obtain ⟨⟨x0, x1, x2, x3⟩, _⟩ := four_cells HS4.out.2
  go_wp2_with fail
  refine (HU.out _).mono ?_; rintro e w5 ⟨rfl, g5⟩
  have HH5 := hidd (And.intro (HH4.out.1.trans g5) (heap_keptT g5 HH4.out.2))
  clear g5 y0 y1 y2 y3 x0 x1 x2 x3
  go_wp2_with fail
  refine (HX.out _ (HT.out.kept HH5.out.1)).mono ?_; rintro e w6 ⟨rfl, g6⟩
  have HH6 := hidd (And.intro (HH5.out.1.trans g6) (heap_keptT g6 HH5.out.2))
  clear g6
  obtain ⟨⟨z0, z1, z2, z3, z4⟩, zf⟩ := five_cells HH6.out.2
  go_wp2_with fail
  exact bodyPost_ret (results_pat2 rfl rfl rfl (setPat_heap HH6.out.2) rfl) rfl ⟨rfl, setPat_grew HH6.out.1 (by omega) _ _ _ _ _⟩
def TwoAt (w0 : World) (f : FuncId) (two : Pat → Pat → Option Pat) : Prop := ∀ (a b : Pat) (ka kb : Value) (w : World), Grew w0 w → errW a = 0 → errW b = 0 → NumsOk a → NumsOk b → Calls Tryd.prog f #[.agg (a.cells ka), .agg (b.cells kb)] w fun e w' => e = .returned (twoVT (two a b)) ∧ Grew w w'
theorem pieces_at (w0 : World) : TwoAt w0 87 piecesP := by
  intro a b ka kb w _ ha hb _ _
  have na := ((errW_iff a).1 ha).1
  have nb := ((errW_iff b).1 hb).1
  unfold piecesP
  by_cases h1 : a.kind = 1 ∧ b.kind = 1
  · have e : (if a.kind = 1 ∧ b.kind = 1 ∧ a.text.size + b.text.size ≤ 65536 then some (litP (a.text ++ b.text)) else if a.kind = 2 ∧ b.kind = 2 ∧ a.n + b.n ≤ 65536 then some (numP 2 (a.n + b.n)) else none) = if a.text.size + b.text.size ≤ 65536 then some (litP (a.text ++ b.text)) else none := by
      by_cases hs : a.text.size + b.text.size ≤ 65536
      · rw [if_pos ⟨h1.1, h1.2, hs⟩, if_pos hs]
      · rw [if_neg (fun h => hs h.2.2), if_neg (by omega), if_neg hs]
    rw [e]
    exact pieces_lit a b ka kb w h1.1 h1.2 (na.lit h1.1) (nb.lit h1.2)
  · by_cases h2 : a.kind = 2 ∧ b.kind = 2
    · have e : (if a.kind = 1 ∧ b.kind = 1 ∧ a.text.size + b.text.size ≤ 65536 then some (litP (a.text ++ b.text)) else if a.kind = 2 ∧ b.kind = 2 ∧ a.n + b.n ≤ 65536 then some (numP 2 (a.n + b.n)) else none) = if a.n + b.n ≤ 65536 then some (numP 2 (a.n + b.n)) else none := by
        rw [if_neg (by omega)]
        by_cases hs : a.n + b.n ≤ 65536
        · rw [if_pos ⟨h2.1, h2.2, hs⟩, if_pos hs]
        · rw [if_neg (fun h => hs h.2.2), if_neg hs]
      rw [e]
      exact pieces_len a b ka kb w h2.1 h2.2 (na.num (by omega)) (nb.num (by omega))
    · rw [if_neg (fun h => h1 ⟨h.1, h.2.1⟩), if_neg (fun h => h2 ⟨h.1, h.2.1⟩)]
      exact pieces_none a b ka kb w h1 h2
theorem others_at {w0 : World} (hT : TabZ w0) : TwoAt w0 90 othersP := by
  intro a b ka kb w g ha hb na nb
  unfold othersP
  cases h1 : oneB a with
  | false =>
    rw [if_neg (fun h => by simp at h)]
    exact others_first a b ka kb w h1 na.ht nb.ht
  | true =>
    cases h2 : oneB b with
    | false =>
      rw [if_neg (fun h => by simp at h)]
      exact others_second a b ka kb w h1 h2 na.ht nb.ht
    | true =>
      rcases Nat.eq_zero_or_pos (bl (fun i => setOf a.text.data.toList i && setOf b.text.data.toList i) 0 256).length with h0 | h0
      · rw [if_pos ⟨rfl, rfl, (meet_none _ _).1 h0⟩]
        exact others_join a b ka kb w (hT.kept g) h1 h2 h0 na.ht nb.ht
      · rw [if_neg (fun h => by have := (meet_none _ _).2 h.2.2; omega)]
        exact others_meet a b ka kb w h1 h2 _ rfl h0 (bl_length _ _ _) na.ht nb.ht
end Go.Proofs.YtkkdpafkafjfgaaDoor
namespace Go.Proofs.YtkkdpafkafjfgaaDoor
open Go.RowKit
set_option linter.unusedVariables false
structure BoxRl (B0 : Nat) (D : Obj) (w w' : World) : Prop where
  os : w'.os = w.os
  tape : w'.tape = w.tape
  output : w'.output = w.output
  size : w.heap.size ≤ w'.heap.size
  block : ∀ b, b < w.heap.size → w'.heap[b]? = w.heap[b]? ∨ (B0 ≤ b ∧ w'.heap[b]? = some D)
theorem BoxRl.of_grew {B0 : Nat} {D : Obj} {w w' : World} (g : Grew w w') : BoxRl B0 D w w' := ⟨g.os, g.tape, g.output, g.size, fun b hb => Or.inl (g.block b hb)⟩
theorem BoxRl.refl (B0 : Nat) (D : Obj) (w : World) : BoxRl B0 D w w := .of_grew (Grew.refl w)
theorem BoxRl.drew (B0 : Nat) (D : Obj) (w : World) : BoxRl B0 D w w.drew := .of_grew (Grew.refl w).drew
theorem BoxRl.trans {B0 : Nat} {D : Obj} (a b c : World) (h : BoxRl B0 D a b) (k : BoxRl B0 D b c) : BoxRl B0 D a c :=
  ⟨k.os.trans h.os, k.tape.trans h.tape, k.output.trans h.output, Nat.le_trans h.size k.size, fun x hx => by
    rcases k.block x (Nat.lt_of_lt_of_le hx h.size) with k1 | k1
    · rw [k1]; exact h.block x hx
    · exact Or.inr k1⟩
theorem BoxRl.grew {B0 : Nat} {D : Obj} {w w' : World} (h : BoxRl B0 D w w') (hB : w.heap.size ≤ B0) : Grew w w' :=
  ⟨h.os, h.tape, h.output, h.size, fun x hx => by
    rcases h.block x hx with k | k
    · exact k
    · omega⟩
theorem BoxRl.old {B0 : Nat} {D : Obj} {w w' : World} (h : BoxRl B0 D w w') {b : Nat} (hb : b < B0) {o : Obj} (hc : w.heap[b]? = some o) : w'.heap[b]? = some o := by
  rcases h.block b (Array.getElem?_eq_some_iff.1 hc).1 with k | k
  · rw [k]; exact hc
  · omega
theorem BoxRl.cell {B0 : Nat} {D : Obj} {w w' : World} (h : BoxRl B0 D w w') {b o : Nat} (hb : b < B0) {v : Value} (hc : w.cell? ⟨b, o, none⟩ = some v) : w'.cell? ⟨b, o, none⟩ = some v := by
  rcases h.block b (lt_of_cell hc) with k | k
  · unfold World.cell? at hc ⊢; rw [k]; exact hc
  · omega
theorem mixed2 : Tryd.prog.follows .mixedOrders = true := by kernel_rfl
section
open RR
variable {B0 b g k : Nat} {D : Obj} {p : Pat} {kv : Value} {ops : Array Oper} {Q : Exit → Act → World → Prop} {shs : List ShT} {a0 : Act} {w0 : World} {A : Array Edge} {i : Nat} {d : Option Tmp} {op : Op} {ty : TypeId} {pos : String} {G : Option (Nat × Bool)}
theorem sb_pure {z : Value} (hr : ∀ a w, EnvT (BoxRl B0 D) ops shs a0 w0 A a w → (execOp a.eval ⟨d, op, ty, pos, A, G⟩).run Tryd.prog w = .ok (.value z) w) (hg : guardIsT ops shs A G = some true) (hs : shs.getD i (.fact fun _ _ => True) = .val z) : StepOkT (BoxRl B0 D) Tryd.prog ops Q (shFT shs) a0 w0 i ⟨d, op, ty, pos, A, G⟩ :=
  st_runT hg fun a w E K hK => by
    have := hK z w (BoxRl.refl _ _ w) (by unfold shFT; rw [hs]; rfl)
    unfold Oper.wp
    rw [hr a w E]
    exact this
theorem sb_index (hk : k < 9223372036854775807) {n : Int} (hn : (k : Int) < n) {vc : Nat} {m : Nat} (hm : (m : Int) = n) {x y : Operand} (hg : guardIsT ops shs A G = some true) (hx : opShT ops shs A a0 x = .val (.slice (some ⟨g, 0, none⟩) m vc)) (hy : opShT ops shs A a0 y = .val (.int .i64 k)) (hs : shs.getD i (.fact fun _ _ => True) = .val (.pointer (some ⟨g, k * 5, none⟩))) : StepOkT (BoxRl B0 D) Tryd.prog ops Q (shFT shs) a0 w0 i ⟨d, .indexAddr 22 x y, ty, pos, A, G⟩ :=
  sb_pure (fun a w E => by
    have hv : a.eval x = .slice (some ⟨g, 0, none⟩) m vc := E.opv hx
    have hw : a.eval y = .int .i64 k := E.opv hy
    have hi := info_pat5
    have hu : Tryd.prog.elem 22 = 24 := by kernel_rfl
    cases hq : Tryd.prog.info? 24 with
    | none => rw [hq] at hi; cases hi
    | some ie =>
      have hsz : ie.size = 5 := by simpa [hq] using hi
      have := run_indexAt_slice (P := Tryd.prog) (w := w) 22 ⟨g, 0, none⟩ m vc .i64 (k : Int) (by rw [hu]; exact Tryd.underlying22)
      rw [if_pos ⟨by omega, by omega⟩, hu] at this
      have hz : (sizeOf 24).run Tryd.prog w = .ok 5 w := by simp [sizeOf, typeInfo, hq, hsz]
      unfold execOp
      simp only [hv, hw, Sem.run_bind, this, hz, Result.andThen_ok, Sem.run_pure, Int.toNat_natCast, addr_plus, Nat.zero_add]) hg hs
theorem sb_loadAt (hb : b < B0) {o : Nat} (hc : NodeAt w0 b o p kv) {x : Operand} (hg : guardIsT ops shs A G = some true) (hx : opShT ops shs A a0 x = .val (.pointer (some ⟨b, o, none⟩))) (hs : shs.getD i (.fact fun _ _ => True) = .val (.agg #[.int .i64 p.kind, .string p.text, .int .i64 p.n, .string p.name, kv])) : StepOkT (BoxRl B0 D) Tryd.prog ops Q (shFT shs) a0 w0 i ⟨d, .load 24 x, ty, pos, A, G⟩ :=
  sb_pure (fun a w E => by
    have hv : a.eval x = .pointer (some ⟨b, o, none⟩) := E.opv hx
    have h := run_loadVar_mid (P := Tryd.prog) w b o 24 [.int .i64 p.kind, .string p.text, .int .i64 p.n, .string p.name, kv] _ (fun j v hj => by
      have hlt : j < 5 := by have := (List.getElem?_eq_some_iff.1 hj).1; simpa using this
      have hcj := hc.cell j hlt
      rw [cells_eq] at hcj
      refine E.grew.cell hb ?_
      rw [hcj]; simpa using hj) Tryd.underlying24 rfl info_pat5
    unfold execOp
    simp only [hv, Instr.loadAt, Instr.sureAddr, Sem.run_bind, Sem.run_pure, Result.andThen_ok, h]) hg hs
theorem sb_callv {f : FuncId} (hf : isGoT Tryd.prog f = true) {u1 u2 z : Value} {c x y : Operand} {ats : Array TypeId} (hC : ∀ w, BoxRl B0 D w0 w → Calls Tryd.prog f #[u1, u2] w fun e w' => e = .returned z ∧ Grew w w') (hg : guardIsT ops shs A G = some true) (hc : opShT ops shs A a0 c = .val (.func (.func f) #[] #[])) (hx : opShT ops shs A a0 x = .val u1) (hy : opShT ops shs A a0 y = .val u2) (hs : shs.getD i (.fact fun _ _ => True) = .val z) :
    StepOkT (BoxRl B0 D) Tryd.prog ops Q (shFT shs) a0 w0 i ⟨d, .call { callee := .value c, args := #[x, y], argTypes := ats }, ty, pos, A, G⟩ :=
  st_runT hg fun a w E K hK => by
    have h0 : a.eval c = .func (.func f) #[] #[] := E.opv hc
    have h1 : a.eval x = u1 := E.opv hx
    have h2 : a.eval y = u2 := E.opv hy
    have hr : (execOp a.eval ⟨d, .call { callee := .value c, args := #[x, y], argTypes := ats }, ty, pos, A, G⟩).run Tryd.prog w = .ok (.enter f #[u1, u2]) w := by
      unfold execOp
      simp only [resolve, h0, Deferred.ofValue, Sem.run_bind, Sem.run_pure, Result.andThen_ok, invoke, List.map_toArray, List.map_cons, List.map_nil, h1, h2, Array.append_empty, Array.empty_append, run_goT hf]
    unfold Oper.wp
    rw [hr]
    show Calls _ _ _ _ _
    refine (hC w E.grew).mono fun e w' ⟨he, hg'⟩ => ?_
    subst he
    exact hK z w' (.of_grew hg') (by unfold shFT; rw [hs]; rfl)
theorem sb_extract {vs : Array Value} {z : Value} {n : Nat} (hz : vs[n]? = some z) {x : Operand} (hg : guardIsT ops shs A G = some true) (hx : opShT ops shs A a0 x = .val (.tuple vs)) (hs : shs.getD i (.fact fun _ _ => True) = .val z) : StepOkT (BoxRl B0 D) Tryd.prog ops Q (shFT shs) a0 w0 i ⟨d, .extract x n, ty, pos, A, G⟩ :=
  sb_pure (fun a w E => by
    have hv : a.eval x = .tuple vs := E.opv hx
    unfold execOp
    simp only [hv, Instr.extract, hz, Sem.run_bind, Sem.run_pure, Result.andThen_ok]) hg hs
def zPat : Array Value := #[.int .i64 0, .string ByteArray.empty, .int .i64 0, .string ByteArray.empty, .slice none 0 0]
def BoxFact (B0 : Nat) (v : Value) (w : World) : Prop := ∃ b cs, v = .pointer (some ⟨b, 0, none⟩) ∧ B0 ≤ b ∧ cs.size = 5 ∧ w.heap[b]? = some (.cells cs 24 (0, 0))
theorem BoxFact.mono {B0 : Nat} {q : Array Value} (hq : q.size = 5) {v : Value} {w w' : World} (h : BoxFact B0 v w) (g : BoxRl B0 (.cells q 24 (0, 0)) w w') : BoxFact B0 v w' := by
  obtain ⟨b, cs, h1, h2, h3, h4⟩ := h
  rcases g.block b (Array.getElem?_eq_some_iff.1 h4).1 with k | k
  · exact ⟨b, cs, h1, h2, h3, by rw [k]; exact h4⟩
  · exact ⟨b, q, h1, h2, hq, k.2⟩
theorem sb_alloc (hB : B0 ≤ w0.heap.size) (hg : guardIsT ops shs A G = some true) (hs : shs.getD i (.fact fun _ _ => True) = .fact (BoxFact B0)) : StepOkT (BoxRl B0 D) Tryd.prog ops Q (shFT shs) a0 w0 i ⟨d, .alloc 24, ty, pos, A, G⟩ :=
  st_runT hg fun a w E K hK => by
    have hr : (Instr.alloc 24 true (.tuple #[])).run Tryd.prog w = .ok (.pointer (some ⟨w.heap.size, 0, none⟩)) (w.alloc (.cells zPat 24)) := by
      simp only [Instr.alloc, Sem.run_bind, zero_pat w, Result.andThen_ok]
      rfl
    have := hK (.pointer (some ⟨w.heap.size, 0, none⟩)) (w.alloc (.cells zPat 24)) (.of_grew ((Grew.refl w).alloc _)) (by unfold shFT; rw [hs]; exact ⟨w.heap.size, zPat, rfl, Nat.le_trans hB E.grew.size, rfl, heap_alloc_new w _⟩)
    unfold Oper.wp execOp
    simp only [Sem.run_bind, hr, Result.andThen_ok, Sem.run_pure]
    exact this
def BoxJ (si ai : Nat) (sd : Tmp) (B0 : Nat) (D : Obj) (listed : Array Bool) (a : Act) (w : World) : Prop := listed.getD si false = true → listed.getD ai false = true ∧ ∃ b, a.tmps.getD sd undef = .pointer (some ⟨b, 0, none⟩) ∧ B0 ≤ b ∧ w.heap[b]? = some D
variable {si ai : Nat} {sd : Tmp} {F : Nat → Value → World → Prop} {o : Oper}
theorem getD_set_true {l : Array Bool} {i j : Nat} (h : l.getD j false = true) : (l.setIfInBounds i true).getD j false = true := by
  by_cases e : i = j
  · subst e
    have hi : i < l.size := by
      rcases Nat.lt_or_ge i l.size with hl | hl
      · exact hl
      · rw [Array.getD_eq_getD_getElem?, Array.getElem?_eq_none hl] at h; cases h
    simp [Array.getD_eq_getD_getElem?, hi]
  · rw [getD_set_ne false e]; exact h
theorem bj_keeps (h : StepOkT (BoxRl B0 D) Tryd.prog ops Q F a0 w0 i o) (hi : i ≠ si) (hd : o.dst ≠ some sd) : StepJT (BoxJ si ai sd B0 D) (BoxRl B0 D) Tryd.prog ops Q F a0 w0 i o :=
  h.keeps fun listed a w v w' hs _ hJ g hl => by
    rw [getD_set_ne false hi] at hl
    obtain ⟨h0, b, h1, h2, h3⟩ := hJ hl
    refine ⟨getD_set_true h0, b, ?_, h2, ?_⟩
    · cases hdd : o.dst with
      | none => exact h1
      | some d0 =>
        show (a.tmps.setIfInBounds d0 v).getD sd undef = _
        rw [getD_putT (fun e => hd (by rw [hdd, e]))]; exact h1
    · rcases g.block b (Array.getElem?_eq_some_iff.1 h3).1 with k | k
      · rw [k]; exact h3
      · exact k.2
theorem bj_own (h : StepOkT (BoxRl B0 D) Tryd.prog ops Q F a0 w0 ai o) (hi : ai ≠ si) : StepJT (BoxJ si ai sd B0 D) (BoxRl B0 D) Tryd.prog ops Q F a0 w0 ai o :=
  h.keeps fun listed a w v w' hs hlf hJ g hl => by
    rw [getD_set_ne false hi] at hl
    have := (hJ hl).1
    rw [hlf] at this; cases this
theorem bj_store {q : Array Value} (hq : q.size = 5) (hq1 : ∀ v ∈ q.toList, v.oneCell' = true) {x y : Operand} (hx0 : x = .tmp sd) (hB : opShT ops shs A a0 x = .fact (BoxFact B0)) (hg : guardIsT ops shs A G = some true) (hy : opShT ops shs A a0 y = .val (.agg q)) (hs : shs.getD si (.fact fun _ _ => True) = .fact fun _ _ => True) (hsl : si < ops.size)
    (hedge : (A.toList.any fun e => Region.binds .any e && e.on == ai) = true) :
    StepJT (BoxJ si ai sd B0 (.cells q 24 (0, 0))) (BoxRl B0 (.cells q 24 (0, 0))) Tryd.prog ops Q (shFT shs) a0 w0 si ⟨none, .store 24 x y, ty, pos, A, G⟩ := by
  intro listed a w hsz hlf hall htm hJ hw hsm hd K hK
  have E : EnvT (BoxRl B0 (.cells q 24 (0, 0))) ops shs a0 w0 A a w := ⟨hw, hsm, hd⟩
  rw [if_pos (E.guard hg)]
  have hxf := E.op x
  rw [hB] at hxf
  obtain ⟨b, cur, hv, hb0, hc5, hcur⟩ : BoxFact B0 (a.eval x) w := hxf
  have hv2 : a.eval y = .agg q := E.opv hy
  obtain ⟨e, he, he2⟩ := List.any_eq_true.1 hedge
  rw [Bool.and_eq_true, beq_iff_eq] at he2
  have hai : listed.getD ai false = true := by rw [← he2.2]; exact hall e (by simpa using he) he2.1
  have hst := run_storeCells_at (P := Tryd.prog) b 0 24 q.toList 0 cur w hcur (by rw [hc5, Array.length_toList, hq]; exact Nat.le_refl _) hq1
  have hrow : (cur.toList.take (0 + 0) ++ q.toList ++ cur.toList.drop (0 + 0 + q.toList.length)).toArray = q := by
    rw [List.drop_eq_nil_of_le (by rw [Array.length_toList, Array.length_toList, hc5, hq]; exact Nat.le_refl _), List.append_nil]
    simp
  rw [hrow] at hst
  have hRl : BoxRl B0 (.cells q 24 (0, 0)) w (w.setRow b q) := ⟨rfl, rfl, rfl, by simp, fun k hk => by
    by_cases hkb : k = b
    · subst hkb; exact Or.inr ⟨hb0, setRow_heap w k cur _ _ _ hcur⟩
    · exact Or.inl (setRow_other w b k _ hkb)⟩
  have := hK undef (w.setRow b q) hRl (by unfold shFT; rw [hs]; trivial) (fun _ => ⟨getD_set_true hai, b, by
    have : a.eval x = a.tmps.getD sd undef := by rw [hx0]; rfl
    show a.tmps.getD sd undef = _
    rw [← this]; exact hv, hb0, setRow_heap w b cur _ _ _ hcur⟩)
  have hz : (Tryd.prog.info? 24).map (·.size) = some 5 := info_pat5
  cases hqi : Tryd.prog.info? 24 with
  | none => rw [hqi] at hz; cases hz
  | some ie =>
    have h5 : ie.size = 5 := by simpa [hqi] using hz
    unfold Oper.wp execOp
    simpa [hv, hv2, Instr.storeAt, Instr.sureAddr, storeVar, sizeOf, typeInfo, hqi, h5, Sem.run_bind, Value.cells, hq, hst, Oper.upon] using this
end
end Go.Proofs.YtkkdpafkafjfgaaDoor
namespace Go.Proofs.YtkkdpafkafjfgaaDoor
open Go.RowKit
set_option linter.unusedVariables false
def stepP (two : Pat → Pat → Option Pat) (m : List Pat) (p : Pat) : List Pat :=
  if 0 < m.length then (match two (m.getD (m.length - 1) Pat.zero) p with | some q => m.set (m.length - 1) q | none => m ++ [p]) else m ++ [p]
theorem mergeF_ne (two : Pat → Pat → Option Pat) : ∀ (l : List Pat) (a : Pat), 0 < (mergeF two a l).length
  | [], a => by simp [mergeF]
  | b :: l, a => by
    rw [mergeF]
    split
    · exact mergeF_ne two l _
    · simp
theorem stepP_cons (two : Pat → Pat → Option Pat) (a p : Pat) (m : List Pat) (h : 0 < m.length) : stepP two (a :: m) p = a :: stepP two m p := by
  obtain ⟨k, hk⟩ : ∃ k, m.length = k + 1 := ⟨m.length - 1, by omega⟩
  unfold stepP
  rw [if_pos (by simp), if_pos h]
  simp only [List.length_cons, hk, Nat.add_sub_cancel, List.getD_cons_succ, List.set_cons_succ]
  cases two (m.getD k Pat.zero) p <;> rfl
theorem mergeF_snoc (two : Pat → Pat → Option Pat) (p : Pat) : ∀ (l : List Pat) (a : Pat), mergeF two a (l ++ [p]) = stepP two (mergeF two a l) p
  | [], a => by
    rw [List.nil_append, mergeF, mergeF]
    unfold stepP
    rw [if_pos (by simp)]
    show _ = match two a p with | some q => [q] | none => [a, p]
    cases two a p <;> rfl
  | b :: l, a => by
    rw [List.cons_append, mergeF, mergeF]
    cases hq : two a b with
    | some q => exact mergeF_snoc two p l q
    | none =>
      show a :: mergeF two b (l ++ [p]) = _
      rw [mergeF_snoc two p l b, stepP_cons _ _ _ _ (mergeF_ne two l b)]
theorem merged_snoc (two : Pat → Pat → Option Pat) (l : List Pat) (p : Pat) : mergedP two (l ++ [p]) = stepP two (mergedP two l) p := by
  cases l with
  | nil => rfl
  | cons a l => exact mergeF_snoc two p l a
theorem merged_take (two : Pat → Pat → Option Pat) {l : List Pat} {i : Nat} (h : i < l.length) : mergedP two (l.take (i + 1)) = stepP two (mergedP two (l.take i)) (l.getD i Pat.zero) := by rw [take_getD h, merged_snoc]
theorem stepP_none {two : Pat → Pat → Option Pat} {m : List Pat} {p : Pat} (h : two (m.getD (m.length - 1) Pat.zero) p = none) : stepP two m p = m ++ [p] := by
  unfold stepP; rw [h]; split <;> rfl
theorem stepP_empty {two : Pat → Pat → Option Pat} {m : List Pat} {p : Pat} (h : m.length = 0) : stepP two m p = m ++ [p] := by unfold stepP; rw [if_neg (by omega)]
theorem stepP_some {two : Pat → Pat → Option Pat} {m : List Pat} {p q : Pat} (h0 : 0 < m.length) (h : two (m.getD (m.length - 1) Pat.zero) p = some q) : stepP two m p = m.set (m.length - 1) q := by
  unfold stepP; rw [if_pos h0, h]
theorem merged_len (two : Pat → Pat → Option Pat) : ∀ l : List Pat, (mergedP two l).length ≤ l.length := by
  have key : ∀ (l : List Pat) (a : Pat), (mergeF two a l).length ≤ l.length + 1 := by
    intro l
    induction l with
    | nil => intro a; simp [mergeF]
    | cons b l ih =>
      intro a
      rw [mergeF]
      split
      · have := ih (by assumption); simp only [List.length_cons]; omega
      · have := ih b; simp only [List.length_cons]; omega
  intro l
  cases l with
  | nil => simp [mergedP]
  | cons a l => exact key l a
theorem mergedAll {two : Pat → Pat → Option Pat} (h2 : ∀ a b q, errW a = 0 → errW b = 0 → two a b = some q → errW q = 0) {l : List Pat} (h : ∀ p ∈ l, errW p = 0) (i : Nat) : ∀ q ∈ mergedP two (l.take i), errW q = 0 :=
  mergedP_all h2 fun p hp => h p (List.mem_of_mem_take hp)
theorem getD_last {m : List Pat} {C : Pat → Prop} (h : ∀ q ∈ m, C q) (h0 : 0 < m.length) : C (m.getD (m.length - 1) Pat.zero) := by
  rw [List.getD_eq_getElem?_getD, List.getElem?_eq_getElem (by omega)]; exact h _ (List.getElem_mem _)
structure TwoFit (two : Pat → Pat → Option Pat) : Prop where
  right : ∀ a b q, errW a = 0 → errW b = 0 → two a b = some q → errW q = 0
  nums : ∀ a b q, errW a = 0 → errW b = 0 → two a b = some q → NumsOk q
  kids : ∀ a b q, two a b = some q → q.kids = []
theorem pat_one (p : Pat) : ∀ v ∈ (p.cells (.slice none 0 0)).toList, v.oneCell' = true := by
  intro v hv
  have hv : v ∈ [Value.int .i64 p.kind, .string p.text, .int .i64 p.n, .string p.name, .slice none 0 0] := hv
  simp only [List.mem_cons, List.not_mem_nil, or_false] at hv
  rcases hv with rfl | rfl | rfl | rfl | rfl <;> rfl
theorem sub_one (k : Nat) {x y : Operand} (w : World) (hk : k < 9223372036854775807) : (do eqGuard .sub 3 x y (.int .i64 ((k : Int) + 1)) (.int .i64 1); binOp .sub 3 (.int .i64 ((k : Int) + 1)) (.int .i64 1) : Sem Value).run Tryd.prog w = .ok (.int .i64 k) w := by
  have : IntKind.i64.wrap (k : Int) = k := by rw [IntKind.wrap_i64]; omega
  simp [eqGuard, binOp, Op.intArith, this]
theorem merge_mono {B0 : Nat} {Z : Array Value} (hZ : Z.size = 5) {shs : List RR.ShT} (hp : ∀ s ∈ shs, (∃ v, s = .val v) ∨ s = .fact (BoxFact B0) ∨ s = .fact fun _ _ => True) : ∀ i v w w', BoxRl B0 (.cells Z 24 (0, 0)) w w' → RR.shFT shs i v w → RR.shFT shs i v w' := by
  intro i v w w' g k
  unfold RR.shFT at k ⊢
  rcases Nat.lt_or_ge i shs.length with hi | hi
  · rw [List.getD_eq_getElem?_getD, List.getElem?_eq_getElem hi] at k ⊢
    rcases hp _ (List.getElem_mem hi) with ⟨u, e⟩ | e | e
    · rw [Option.getD_some, e] at k ⊢; exact k
    · rw [Option.getD_some, e] at k ⊢
      have k : BoxFact B0 v w := k
      exact k.mono hZ g
    · rw [Option.getD_some, e]; trivial
  · rw [List.getD_eq_getElem?_getD, List.getElem?_eq_none hi]; trivial
theorem twoV_none {o : Option Pat} {Z : Array Value} (h : twoVT o = .tuple #[.agg Z, .bool false]) : o = none := by
  cases o with
  | none => rfl
  | some q => unfold twoVT at h; simp at h
theorem twoV_some {o : Option Pat} {Z : Array Value} (h : twoVT o = .tuple #[.agg Z, .bool true]) : ∃ q, o = some q ∧ Z = q.cells (.slice none 0 0) := by
  cases o with
  | none => unfold twoVT at h; simp at h
  | some q => unfold twoVT at h; simp at h; exact ⟨q, rfl, h.symm⟩
set_option maxRecDepth 100000 in
set_option maxHeartbeats 8000000 in
theorem merged_pieces (two : Pat → Pat → Option Pat) {Q : Nat → Prop} {N : Nat} (l : List Pat) (v : Value) (w : World) (hf : TwoAt w 87 two) (fit : TwoFit two) (h : ListIn w Q v l) (hQ : ∀ b, Q b → N ≤ b) (hN : N ≤ w.heap.size) (hk : ∀ p ∈ l, errW p = 0) (hn : l.length ≤ 4096) :
    Calls Tryd.prog 86 #[v, .func (.func 87) #[] #[]] w fun e w' => ∃ v', e = .returned v' ∧ PatsOwn w' w.heap.size N v' (mergedP two l) ∧ Grew w w' := by
  obtain ⟨a, c, rfl, hm⟩ := h.len
  have HR := hidd h
  have HK := hidd hk
  have HQ := hidd hQ
  have HF := hidd hf
  have HFit := hidd fit
  unfold maxLen at hm
  clear h hk hQ hf fit
  go_enter Tryd.func86, Tryd.ntmps86
  go_wp2_with fail
  go_loopw [5, 13] (fun s5 s13 wr => ∃ i : Nat, s13 = .int .i64 i ∧ i ≤ l.length ∧ Hid (PatsOwn wr w.heap.size N s5 (mergedP two (l.take i)) ∧ Grew w wr)) (fun _ s13 _ => l.length - (intOf s13).toNat)
  case atStart => exact ⟨0, rfl, by omega, PatsOwn.nil _ _ _, Grew.refl _⟩
  case round =>
    obtain ⟨i, rfl, hi, HD⟩ := hrel
    by_cases hlt : i < l.length
    · obtain ⟨b, o, kv, rfl, hnd, hq⟩ := HR.out.at hlt
      have hq2 := hq.lt
      have hnd2 := hnd.kept HD.out.2
      obtain ⟨ka, kn, kc, rfl⟩ := hq.form
      have HS := hidd (merged_take two hlt)
      have hkp := HK.out (l.getD i Pat.zero) (by rw [List.getD_eq_getElem?_getD, List.getElem?_eq_getElem hlt]; exact List.getElem_mem hlt)
      obtain ⟨r, hr⟩ : ∃ r, l.getD i Pat.zero = r := ⟨_, rfl⟩
      rw [hr] at hnd2 hq2 HS hkp
      have HQ2 := hidd hq2
      have hml : (mergedP two (l.take i)).length ≤ i := by have := merged_len two (l.take i); rw [List.length_take] at this; omega
      have HAll := hidd (mergedAll HFit.out.right HK.out i)
      obtain ⟨m, hm2⟩ : ∃ m, mergedP two (l.take i) = m := ⟨_, rfl⟩
      rw [hm2] at HD HS hml HAll
      have HKP := hidd hkp
      obtain ⟨c0, c1, c2, c3, c4, _, _, _, _⟩ := hnd2
      have kk : decide ((i : Int) < (l.length : Int)) = true := decide_eq_true (by omega)
      have hsz := HD.out.2.size
      clear hr hq hq2 hnd hm2 hkp
      obtain ⟨va, vc, hv5⟩ := HD.out.1.len
      subst hv5
      rcases Nat.eq_zero_or_pos m.length with h0 | h0
      · -- the first one
        have kz : decide (0 < m.length) = false := decide_eq_false (by omega)
        rw [stepP_empty h0] at HS
        have hap0 := pats_append_one (HD.out.1.kept ((Grew.refl wr).alloc (.cells #[.int .i64 r.kind, .string r.text, .int .i64 r.n, .string r.name, .slice ka kn kc] 24))) (by simp; omega) (HQ2.out.kept (HD.out.2.alloc _)) (fun b hb _ => ⟨HQ.out b hb.1, fun e => by have := HD.out.1.blocks b e; omega⟩) (by omega) 22 24
        obtain ⟨v', w', hap, ho, hbel, hgr⟩ := hap0
        rw [World.size_alloc] at hap
        have HE : Hid (PatsOwn w' w.heap.size N v' (mergedP two (l.take (i + 1))) ∧ Grew w w') := by
          rw [HS.out]; exact ⟨ho, (HD.out.2.alloc _).below hbel (Nat.le_refl _)⟩
        clear ho hbel hgr h0
        go_wp2_with (at_builtin; refine wpList_append_eq rfl rfl rfl rfl hap ?_)
        go_roundw
        case rel => exact ⟨i + 1, by go_num, by omega, HE⟩
        case measure => simp [intOf]; omega
      · obtain ⟨k, hk1⟩ : ∃ k, m.length = k + 1 := ⟨m.length - 1, by omega⟩
        obtain ⟨g, cap, hv, hBg, hgl⟩ : ∃ g cap, Value.slice va m.length vc = .slice (some ⟨g, 0, none⟩) m.length cap ∧ w.heap.size ≤ g ∧ g < wr.heap.size := by
          obtain ⟨kvs, h1, h2, h3⟩ := HD.out.1.rep
          exact h2.form h0
        cases hv
        obtain ⟨kl, hl1, hl2⟩ := HD.out.1.at (i := k) (by omega)
        obtain ⟨la, ln, lc, rfl⟩ := hl2.form
        have hlast := getD_last HAll.out h0
        rw [hk1, Nat.add_sub_cancel] at hlast
        have HC := hidd (fun w1 (g1 : Grew w w1) => HF.out (m.getD k Pat.zero) r (.slice la ln lc) (.slice ka kn kc) w1 g1 hlast HKP.out hl1.nums HQ2.out.nums)
        have HL := hidd hl1
        have HLr := hidd hlast
        have hS1 : ∀ q, two (m.getD k Pat.zero) r = some q → stepP two m r = m.set k q := fun q e => by
          have := stepP_some (two := two) (m := m) (p := r) (q := q) h0 (by rw [hk1, Nat.add_sub_cancel]; exact e)
          rwa [hk1, Nat.add_sub_cancel] at this
        have hS2 : two (m.getD k Pat.zero) r = none → stepP two m r = m ++ [r] := fun e => stepP_none (by rw [hk1, Nat.add_sub_cancel]; exact e)
        have HS1 := hidd hS1
        have HS2 := hidd hS2
        obtain ⟨L, hL⟩ : ∃ L, m.getD k Pat.zero = L := ⟨_, rfl⟩
        rw [hL] at hl1 HC HL HLr HS1 HS2
        rw [cells_eq, cells_eq] at HC
        have HK1 := hidd hk1
        rw [hk1] at HD hml ⊢
        have HLA : Hid (∀ w1, Grew wr w1 → (w1.cell? ⟨g, k * 5, none⟩ = some (.int .i64 L.kind) ∧ w1.cell? ⟨g, k * 5 + 1, none⟩ = some (.string L.text) ∧ w1.cell? ⟨g, k * 5 + 2, none⟩ = some (.int .i64 L.n) ∧ w1.cell? ⟨g, k * 5 + 3, none⟩ = some (.string L.name) ∧ w1.cell? ⟨g, k * 5 + 4, none⟩ = some (.slice la ln lc)) ∧ ∀ o, w1.frozen? ⟨g, o, none⟩ = false) := fun w1 g1 =>
          ⟨⟨g1.keeps HL.out.c0, g1.keeps HL.out.c1, g1.keeps HL.out.c2, g1.keeps HL.out.c3, g1.keeps HL.out.c4⟩, fun o => (HD.out.1.kept g1).free o⟩
        clear hL hl1 hl2 hlast hS1 hS2 hk1 h0
        have kz : decide (0 < k + 1) = true := decide_eq_true (by omega)
        obtain ⟨Z, ok, hzv⟩ : ∃ Z ok, twoVT (two L r) = .tuple #[.agg Z, .bool ok] := by cases two L r <;> exact ⟨_, _, rfl⟩
        have HZ : Hid (Z.size = 5 ∧ ∀ v ∈ Z.toList, v.oneCell' = true) := by
          cases hq : two L r with
          | none => rw [hq] at hzv; cases hzv; exact ⟨rfl, pat_one _⟩
          | some q => rw [hq] at hzv; cases hzv; exact ⟨rfl, pat_one _⟩
        rw [hzv] at HC
        have HZV := hidd hzv
        have HKb := hidd (show k < 9223372036854775807 by omega)
        have HG3 : Hid (Grew wr (wr.alloc (.cells #[.int .i64 r.kind, .string r.text, .int .i64 r.n, .string r.name, .slice ka kn kc] 24))) := (Grew.refl wr).alloc _
        have HL2 := hidd (HL.out.kept HG3.out)
        have HB2 : Hid (NodeAt (wr.alloc (.cells #[.int .i64 r.kind, .string r.text, .int .i64 r.n, .string r.name, .slice ka kn kc] 24)) wr.heap.size 0 r (.slice ka kn kc)) := node_of HQ2.out.nums (fun j hj => by rw [Nat.zero_add, World.cell?_alloc_mark]; rfl)
        have HB3 : Hid ((wr.alloc (.cells #[.int .i64 r.kind, .string r.text, .int .i64 r.n, .string r.name, .slice ka kn kc] 24)).heap[wr.heap.size]? = some (.cells #[.int .i64 r.kind, .string r.text, .int .i64 r.n, .string r.name, .slice ka kn kc] 24 (0, 0))) := heap_alloc_new wr _
        have HGl := hidd (show g < wr.heap.size + 1 by omega)
        have HC2 : Hid (∀ w', BoxRl (wr.heap.size + 1) (.cells Z 24 (0, 0)) (wr.alloc (.cells #[.int .i64 r.kind, .string r.text, .int .i64 r.n, .string r.name, .slice ka kn kc] 24)) w' → Calls Tryd.prog 87 #[.agg #[.int .i64 L.kind, .string L.text, .int .i64 L.n, .string L.name, .slice la ln lc], .agg #[.int .i64 r.kind, .string r.text, .int .i64 r.n, .string r.name, .slice ka kn kc]] w' fun e w'' => e = .returned (.tuple #[.agg Z, .bool ok]) ∧ Grew w' w'') := fun w' g' =>
          HC.out w' ((HD.out.2.trans HG3.out).trans (g'.grew (by simp)))
        have HSt := hidd (And.intro hBg hgl)
        have hgne : g ≠ wr.heap.size := by omega
        clear hzv HC
        go_wp2_with fail
        refine RR.region_frameT (J := BoxJ 12 11 9 (wr.heap.size + 1) (.cells Z 24 (0, 0))) (Rl := BoxRl (wr.heap.size + 1) (.cells Z 24 (0, 0))) [22, 23, 24, 25, 26, 27, 28, 29, 21, 30, 31, 9, 10] mixed2 (BoxRl.drew _ _) BoxRl.trans [.val (.func (.func 87) #[] #[]), .val (.slice (some ⟨g, 0, none⟩) (k + 1) vc), .val (.int .i64 ((k : Int) + 1)), .val (.int .i64 k), .val (.pointer (some ⟨g, k * 5, none⟩)), .val (.agg #[.int .i64 L.kind, .string L.text, .int .i64 L.n, .string L.name, .slice la ln lc]), .val (.agg #[.int .i64 r.kind, .string r.text, .int .i64 r.n, .string r.name, .slice ka kn kc]), .val (.tuple #[.agg Z, .bool ok]), .val (.tuple #[.agg Z, .bool ok]), .val (.agg Z), .val (.bool ok), .fact (BoxFact (wr.heap.size + 1)), .fact fun _ _ => True, .val (.bool ok)] (fun h => by simp [Array.getD_eq_getD_getElem?] at h) (merge_mono HZ.out.1 ?_) rfl (by kernel_rfl)
          ⟨bj_keeps (RR.st_moveT (BoxRl.refl _ _) (by kernel_rfl) rfl) (by decide) (by decide), bj_keeps (RR.st_moveT (BoxRl.refl _ _) (by kernel_rfl) rfl) (by decide) (by decide), bj_keeps (RR.st_moveT (BoxRl.refl _ _) (by kernel_rfl) rfl) (by decide) (by decide), bj_keeps (RR.st_numT (BoxRl.refl _ _) (fun w => sub_one k w HKb.out) (by kernel_rfl) rfl rfl rfl) (by decide) (by decide), bj_keeps (sb_index HKb.out (n := (k : Int) + 1) (by omega) (by omega) (by kernel_rfl) rfl rfl rfl) (by decide) (by decide), bj_keeps (sb_loadAt HGl.out HL2.out (by kernel_rfl) rfl rfl) (by decide) (by decide), bj_keeps (sb_loadAt (Nat.lt_succ_self _) HB2.out (by kernel_rfl) rfl rfl) (by decide) (by decide), bj_keeps (sb_callv (by kernel_rfl) HC2.out (by kernel_rfl) rfl rfl rfl rfl) (by decide) (by decide), bj_keeps (RR.st_moveT (BoxRl.refl _ _) (by kernel_rfl) rfl) (by decide) (by decide), bj_keeps (sb_extract (by rfl) (by kernel_rfl) rfl rfl) (by decide) (by decide), bj_keeps (sb_extract (by rfl) (by kernel_rfl) rfl rfl) (by decide) (by decide), bj_own (sb_alloc (by simp) (by kernel_rfl) rfl) (by decide), bj_store HZ.out.1 HZ.out.2 rfl rfl (by kernel_rfl) rfl rfl (by decide) (by kernel_rfl), bj_keeps (RR.st_assignT (BoxRl.refl _ _) (by kernel_rfl) rfl) (by decide) (by decide), trivial⟩ ?_
        · intro s hs
          simp only [List.mem_cons, List.not_mem_nil, or_false] at hs
          rcases hs with rfl | rfl | rfl | rfl | rfl | rfl | rfl | rfl | rfl | rfl | rfl | rfl | rfl | rfl <;> first | exact Or.inl ⟨_, rfl⟩ | exact Or.inr (Or.inl rfl) | exact Or.inr (Or.inr rfl)
        intro xs listed a3 w3 hall hxs hJ hR ht
        obtain ⟨v13, q13, q13'⟩ := ht 13 _ rfl
        have e10 : xs 10 = .bool ok := (q13' 10 rfl).trans q13
        have h12 := hall 12 (by simp)
        obtain ⟨_, b9, h9a, h9b, h9c⟩ := hJ h12
        have e9 : xs 9 = .pointer (some ⟨b9, 0, none⟩) := (hxs 9).symm.trans h9a
        clear h12 hxs
        have hG4 := hR.grew (by simp)
        have HG4 := hidd (HG3.out.trans hG4)
        have HB4 := hidd (heap_keptT hG4 HB3.out)
        have H9 := hidd (And.intro h9b h9c)
        simp only [List.foldl_cons, List.foldl_nil, List.setIfInBounds_toArray, List.set_cons_succ, List.set_cons_zero, e9, e10]
        clear ht hJ hR hall h9a h9b h9c e9 e10 q13 q13' hG4 HC2 HL2 HB2 HB3
        cases ok with
        | false =>
          have hq := twoV_none HZV.out
          rw [HS2.out hq] at HS
          clear hq
          obtain ⟨v', w', hap, ho, hbel, hgr⟩ := pats_append_one (HD.out.1.kept HG4.out) (by have := HG4.out.size; omega) (HQ2.out.kept (HD.out.2.trans HG4.out)) (fun b hb _ => ⟨HQ.out b hb.1, fun e => by have := HD.out.1.blocks b e; omega⟩) (by have := HK1.out; omega) 22 24
          have HE : Hid (PatsOwn w' w.heap.size N v' (mergedP two (l.take (i + 1))) ∧ Grew w w') := by
            rw [HS.out]; exact ⟨ho, (HD.out.2.trans HG4.out).below hbel (Nat.le_refl _)⟩
          obtain ⟨⟨z0, z1, z2, z3, z4⟩, _⟩ := five_cells HB4.out
          clear ho hbel hgr
          go_wp2_with (at_builtin; refine wpList_append_eq rfl rfl rfl rfl hap ?_)
          go_roundw
          case rel => exact ⟨i + 1, by go_num, by omega, HE⟩
          case measure => simp [intOf]; omega
        | true =>
          obtain ⟨q, hq, hZq⟩ := twoV_some HZV.out
          have hqn := HFit.out.nums L r q HLr.out HKP.out hq
          have hqk := HFit.out.kids L r q hq
          rw [HS1.out q hq] at HS
          rw [cells_eq] at hZq
          subst hZq
          clear hq
          have hset := (HD.out.1.kept HG4.out).set k q (.slice none 0 0) (.leaf q none 0 hqn hqk)
          have HE : Hid (PatsOwn (setPat w3 g (k * 5) q (.slice none 0 0)) w.heap.size N (.slice (some ⟨g, 0, none⟩) (k + 1) vc) (mergedP two (l.take (i + 1))) ∧ Grew w (setPat w3 g (k * 5) q (.slice none 0 0))) := by
            rw [HS.out]
            exact ⟨hset.1, (HD.out.2.trans HG4.out).below (below_of_grownBy hset.2 HSt.out.1 (by have := HG4.out.size; have := HSt.out.2; omega)) (Nat.le_refl _)⟩
          unfold setPat at HE
          obtain ⟨⟨z0, z1, z2, z3, z4⟩, _⟩ := five_cells H9.out.2
          obtain ⟨⟨y0, y1, y2, y3, y4⟩, yf⟩ := HLA.out w3 HG4.out
          have h9g : b9 ≠ g := by have := H9.out.1; omega
          clear hset hqn hqk
          go_wp2_with fail
          go_roundw
          case rel => exact ⟨i + 1, by go_num, by omega, HE⟩
          case measure => simp [intOf]; omega
    · have hie : i = l.length := by omega
      have kk : decide ((i : Int) < (l.length : Int)) = false := decide_eq_false (by omega)
      have HE := hidd HD.out
      rw [show l.take i = l from by rw [hie, List.take_length]] at HE
      clear HD hie
      go_wp2_with fail
      go_ret
      exact ⟨_, rfl, HE.out⟩
set_option maxRecDepth 100000 in
set_option maxHeartbeats 8000000 in
theorem merged_others (two : Pat → Pat → Option Pat) {Q : Nat → Prop} {N : Nat} (l : List Pat) (v : Value) (w : World) (hf : TwoAt w 90 two) (fit : TwoFit two) (h : ListIn w Q v l) (hQ : ∀ b, Q b → N ≤ b) (hN : N ≤ w.heap.size) (hk : ∀ p ∈ l, errW p = 0) (hn : l.length ≤ 4096) :
    Calls Tryd.prog 86 #[v, .func (.func 90) #[] #[]] w fun e w' => ∃ v', e = .returned v' ∧ PatsOwn w' w.heap.size N v' (mergedP two l) ∧ Grew w w' := by
  obtain ⟨a, c, rfl, hm⟩ := h.len
  have HR := hidd h
  have HK := hidd hk
  have HQ := hidd hQ
  have HF := hidd hf
  have HFit := hidd fit
  unfold maxLen at hm
  clear h hk hQ hf fit
  go_enter Tryd.func86, Tryd.ntmps86
  go_wp2_with fail
  go_loopw [5, 13] (fun s5 s13 wr => ∃ i : Nat, s13 = .int .i64 i ∧ i ≤ l.length ∧ Hid (PatsOwn wr w.heap.size N s5 (mergedP two (l.take i)) ∧ Grew w wr)) (fun _ s13 _ => l.length - (intOf s13).toNat)
  case atStart => exact ⟨0, rfl, by omega, PatsOwn.nil _ _ _, Grew.refl _⟩
  case round =>
    obtain ⟨i, rfl, hi, HD⟩ := hrel
    by_cases hlt : i < l.length
    · obtain ⟨b, o, kv, rfl, hnd, hq⟩ := HR.out.at hlt
      have hq2 := hq.lt
      have hnd2 := hnd.kept HD.out.2
      obtain ⟨ka, kn, kc, rfl⟩ := hq.form
      have HS := hidd (merged_take two hlt)
      have hkp := HK.out (l.getD i Pat.zero) (by rw [List.getD_eq_getElem?_getD, List.getElem?_eq_getElem hlt]; exact List.getElem_mem hlt)
      obtain ⟨r, hr⟩ : ∃ r, l.getD i Pat.zero = r := ⟨_, rfl⟩
      rw [hr] at hnd2 hq2 HS hkp
      have HQ2 := hidd hq2
      have hml : (mergedP two (l.take i)).length ≤ i := by have := merged_len two (l.take i); rw [List.length_take] at this; omega
      have HAll := hidd (mergedAll HFit.out.right HK.out i)
      obtain ⟨m, hm2⟩ : ∃ m, mergedP two (l.take i) = m := ⟨_, rfl⟩
      rw [hm2] at HD HS hml HAll
      have HKP := hidd hkp
      obtain ⟨c0, c1, c2, c3, c4, _, _, _, _⟩ := hnd2
      have kk : decide ((i : Int) < (l.length : Int)) = true := decide_eq_true (by omega)
      have hsz := HD.out.2.size
      clear hr hq hq2 hnd hm2 hkp
      obtain ⟨va, vc, hv5⟩ := HD.out.1.len
      subst hv5
      rcases Nat.eq_zero_or_pos m.length with h0 | h0
      · -- the first one
        have kz : decide (0 < m.length) = false := decide_eq_false (by omega)
        rw [stepP_empty h0] at HS
        have hap0 := pats_append_one (HD.out.1.kept ((Grew.refl wr).alloc (.cells #[.int .i64 r.kind, .string r.text, .int .i64 r.n, .string r.name, .slice ka kn kc] 24))) (by simp; omega) (HQ2.out.kept (HD.out.2.alloc _)) (fun b hb _ => ⟨HQ.out b hb.1, fun e => by have := HD.out.1.blocks b e; omega⟩) (by omega) 22 24
        obtain ⟨v', w', hap, ho, hbel, hgr⟩ := hap0
        rw [World.size_alloc] at hap
        have HE : Hid (PatsOwn w' w.heap.size N v' (mergedP two (l.take (i + 1))) ∧ Grew w w') := by
          rw [HS.out]; exact ⟨ho, (HD.out.2.alloc _).below hbel (Nat.le_refl _)⟩
        clear ho hbel hgr h0
        go_wp2_with (at_builtin; refine wpList_append_eq rfl rfl rfl rfl hap ?_)
        go_roundw
        case rel => exact ⟨i + 1, by go_num, by omega, HE⟩
        case measure => simp [intOf]; omega
      · obtain ⟨k, hk1⟩ : ∃ k, m.length = k + 1 := ⟨m.length - 1, by omega⟩
        obtain ⟨g, cap, hv, hBg, hgl⟩ : ∃ g cap, Value.slice va m.length vc = .slice (some ⟨g, 0, none⟩) m.length cap ∧ w.heap.size ≤ g ∧ g < wr.heap.size := by
          obtain ⟨kvs, h1, h2, h3⟩ := HD.out.1.rep
          exact h2.form h0
        cases hv
        obtain ⟨kl, hl1, hl2⟩ := HD.out.1.at (i := k) (by omega)
        obtain ⟨la, ln, lc, rfl⟩ := hl2.form
        have hlast := getD_last HAll.out h0
        rw [hk1, Nat.add_sub_cancel] at hlast
        have HC := hidd (fun w1 (g1 : Grew w w1) => HF.out (m.getD k Pat.zero) r (.slice la ln lc) (.slice ka kn kc) w1 g1 hlast HKP.out hl1.nums HQ2.out.nums)
        have HL := hidd hl1
        have HLr := hidd hlast
        have hS1 : ∀ q, two (m.getD k Pat.zero) r = some q → stepP two m r = m.set k q := fun q e => by
          have := stepP_some (two := two) (m := m) (p := r) (q := q) h0 (by rw [hk1, Nat.add_sub_cancel]; exact e)
          rwa [hk1, Nat.add_sub_cancel] at this
        have hS2 : two (m.getD k Pat.zero) r = none → stepP two m r = m ++ [r] := fun e => stepP_none (by rw [hk1, Nat.add_sub_cancel]; exact e)
        have HS1 := hidd hS1
        have HS2 := hidd hS2
        obtain ⟨L, hL⟩ : ∃ L, m.getD k Pat.zero = L := ⟨_, rfl⟩
        rw [hL] at hl1 HC HL HLr HS1 HS2
        rw [cells_eq, cells_eq] at HC
        have HK1 := hidd hk1
        rw [hk1] at HD hml ⊢
        have HLA : Hid (∀ w1, Grew wr w1 → (w1.cell? ⟨g, k * 5, none⟩ = some (.int .i64 L.kind) ∧ w1.cell? ⟨g, k * 5 + 1, none⟩ = some (.string L.text) ∧ w1.cell? ⟨g, k * 5 + 2, none⟩ = some (.int .i64 L.n) ∧ w1.cell? ⟨g, k * 5 + 3, none⟩ = some (.string L.name) ∧ w1.cell? ⟨g, k * 5 + 4, none⟩ = some (.slice la ln lc)) ∧ ∀ o, w1.frozen? ⟨g, o, none⟩ = false) := fun w1 g1 =>
          ⟨⟨g1.keeps HL.out.c0, g1.keeps HL.out.c1, g1.keeps HL.out.c2, g1.keeps HL.out.c3, g1.keeps HL.out.c4⟩, fun o => (HD.out.1.kept g1).free o⟩
        clear hL hl1 hl2 hlast hS1 hS2 hk1 h0
        have kz : decide (0 < k + 1) = true := decide_eq_true (by omega)
        obtain ⟨Z, ok, hzv⟩ : ∃ Z ok, twoVT (two L r) = .tuple #[.agg Z, .bool ok] := by cases two L r <;> exact ⟨_, _, rfl⟩
        have HZ : Hid (Z.size = 5 ∧ ∀ v ∈ Z.toList, v.oneCell' = true) := by
          cases hq : two L r with
          | none => rw [hq] at hzv; cases hzv; exact ⟨rfl, pat_one _⟩
          | some q => rw [hq] at hzv; cases hzv; exact ⟨rfl, pat_one _⟩
        rw [hzv] at HC
        have HZV := hidd hzv
        have HKb := hidd (show k < 9223372036854775807 by omega)
        have HG3 : Hid (Grew wr (wr.alloc (.cells #[.int .i64 r.kind, .string r.text, .int .i64 r.n, .string r.name, .slice ka kn kc] 24))) := (Grew.refl wr).alloc _
        have HL2 := hidd (HL.out.kept HG3.out)
        have HB2 : Hid (NodeAt (wr.alloc (.cells #[.int .i64 r.kind, .string r.text, .int .i64 r.n, .string r.name, .slice ka kn kc] 24)) wr.heap.size 0 r (.slice ka kn kc)) := node_of HQ2.out.nums (fun j hj => by rw [Nat.zero_add, World.cell?_alloc_mark]; rfl)
        have HB3 : Hid ((wr.alloc (.cells #[.int .i64 r.kind, .string r.text, .int .i64 r.n, .string r.name, .slice ka kn kc] 24)).heap[wr.heap.size]? = some (.cells #[.int .i64 r.kind, .string r.text, .int .i64 r.n, .string r.name, .slice ka kn kc] 24 (0, 0))) := heap_alloc_new wr _
        have HGl := hidd (show g < wr.heap.size + 1 by omega)
        have HC2 : Hid (∀ w', BoxRl (wr.heap.size + 1) (.cells Z 24 (0, 0)) (wr.alloc (.cells #[.int .i64 r.kind, .string r.text, .int .i64 r.n, .string r.name, .slice ka kn kc] 24)) w' → Calls Tryd.prog 90 #[.agg #[.int .i64 L.kind, .string L.text, .int .i64 L.n, .string L.name, .slice la ln lc], .agg #[.int .i64 r.kind, .string r.text, .int .i64 r.n, .string r.name, .slice ka kn kc]] w' fun e w'' => e = .returned (.tuple #[.agg Z, .bool ok]) ∧ Grew w' w'') := fun w' g' =>
          HC.out w' ((HD.out.2.trans HG3.out).trans (g'.grew (by simp)))
        have HSt := hidd (And.intro hBg hgl)
        have hgne : g ≠ wr.heap.size := by omega
        clear hzv HC
        go_wp2_with fail
        refine RR.region_frameT (J := BoxJ 12 11 9 (wr.heap.size + 1) (.cells Z 24 (0, 0))) (Rl := BoxRl (wr.heap.size + 1) (.cells Z 24 (0, 0))) [22, 23, 24, 25, 26, 27, 28, 29, 21, 30, 31, 9, 10] mixed2 (BoxRl.drew _ _) BoxRl.trans [.val (.func (.func 90) #[] #[]), .val (.slice (some ⟨g, 0, none⟩) (k + 1) vc), .val (.int .i64 ((k : Int) + 1)), .val (.int .i64 k), .val (.pointer (some ⟨g, k * 5, none⟩)), .val (.agg #[.int .i64 L.kind, .string L.text, .int .i64 L.n, .string L.name, .slice la ln lc]), .val (.agg #[.int .i64 r.kind, .string r.text, .int .i64 r.n, .string r.name, .slice ka kn kc]), .val (.tuple #[.agg Z, .bool ok]), .val (.tuple #[.agg Z, .bool ok]), .val (.agg Z), .val (.bool ok), .fact (BoxFact (wr.heap.size + 1)), .fact fun _ _ => True, .val (.bool ok)] (fun h => by simp [Array.getD_eq_getD_getElem?] at h) (merge_mono HZ.out.1 ?_) rfl (by kernel_rfl)
          ⟨bj_keeps (RR.st_moveT (BoxRl.refl _ _) (by kernel_rfl) rfl) (by decide) (by decide), bj_keeps (RR.st_moveT (BoxRl.refl _ _) (by kernel_rfl) rfl) (by decide) (by decide), bj_keeps (RR.st_moveT (BoxRl.refl _ _) (by kernel_rfl) rfl) (by decide) (by decide), bj_keeps (RR.st_numT (BoxRl.refl _ _) (fun w => sub_one k w HKb.out) (by kernel_rfl) rfl rfl rfl) (by decide) (by decide), bj_keeps (sb_index HKb.out (n := (k : Int) + 1) (by omega) (by omega) (by kernel_rfl) rfl rfl rfl) (by decide) (by decide), bj_keeps (sb_loadAt HGl.out HL2.out (by kernel_rfl) rfl rfl) (by decide) (by decide), bj_keeps (sb_loadAt (Nat.lt_succ_self _) HB2.out (by kernel_rfl) rfl rfl) (by decide) (by decide), bj_keeps (sb_callv (by kernel_rfl) HC2.out (by kernel_rfl) rfl rfl rfl rfl) (by decide) (by decide), bj_keeps (RR.st_moveT (BoxRl.refl _ _) (by kernel_rfl) rfl) (by decide) (by decide), bj_keeps (sb_extract (by rfl) (by kernel_rfl) rfl rfl) (by decide) (by decide), bj_keeps (sb_extract (by rfl) (by kernel_rfl) rfl rfl) (by decide) (by decide), bj_own (sb_alloc (by simp) (by kernel_rfl) rfl) (by decide), bj_store HZ.out.1 HZ.out.2 rfl rfl (by kernel_rfl) rfl rfl (by decide) (by kernel_rfl), bj_keeps (RR.st_assignT (BoxRl.refl _ _) (by kernel_rfl) rfl) (by decide) (by decide), trivial⟩ ?_
        · intro s hs
          simp only [List.mem_cons, List.not_mem_nil, or_false] at hs
          rcases hs with rfl | rfl | rfl | rfl | rfl | rfl | rfl | rfl | rfl | rfl | rfl | rfl | rfl | rfl <;> first | exact Or.inl ⟨_, rfl⟩ | exact Or.inr (Or.inl rfl) | exact Or.inr (Or.inr rfl)
        intro xs listed a3 w3 hall hxs hJ hR ht
        obtain ⟨v13, q13, q13'⟩ := ht 13 _ rfl
        have e10 : xs 10 = .bool ok := (q13' 10 rfl).trans q13
        have h12 := hall 12 (by simp)
        obtain ⟨_, b9, h9a, h9b, h9c⟩ := hJ h12
        have e9 : xs 9 = .pointer (some ⟨b9, 0, none⟩) := (hxs 9).symm.trans h9a
        clear h12 hxs
        have hG4 := hR.grew (by simp)
        have HG4 := hidd (HG3.out.trans hG4)
        have HB4 := hidd (heap_keptT hG4 HB3.out)
        have H9 := hidd (And.intro h9b h9c)
        simp only [List.foldl_cons, List.foldl_nil, List.setIfInBounds_toArray, List.set_cons_succ, List.set_cons_zero, e9, e10]
        clear ht hJ hR hall h9a h9b h9c e9 e10 q13 q13' hG4 HC2 HL2 HB2 HB3
        cases ok with
        | false =>
          have hq := twoV_none HZV.out
          rw [HS2.out hq] at HS
          clear hq
          obtain ⟨v', w', hap, ho, hbel, hgr⟩ := pats_append_one (HD.out.1.kept HG4.out) (by have := HG4.out.size; omega) (HQ2.out.kept (HD.out.2.trans HG4.out)) (fun b hb _ => ⟨HQ.out b hb.1, fun e => by have := HD.out.1.blocks b e; omega⟩) (by have := HK1.out; omega) 22 24
          have HE : Hid (PatsOwn w' w.heap.size N v' (mergedP two (l.take (i + 1))) ∧ Grew w w') := by
            rw [HS.out]; exact ⟨ho, (HD.out.2.trans HG4.out).below hbel (Nat.le_refl _)⟩
          obtain ⟨⟨z0, z1, z2, z3, z4⟩, _⟩ := five_cells HB4.out
          clear ho hbel hgr
          go_wp2_with (at_builtin; refine wpList_append_eq rfl rfl rfl rfl hap ?_)
          go_roundw
          case rel => exact ⟨i + 1, by go_num, by omega, HE⟩
          case measure => simp [intOf]; omega
        | true =>
          obtain ⟨q, hq, hZq⟩ := twoV_some HZV.out
          have hqn := HFit.out.nums L r q HLr.out HKP.out hq
          have hqk := HFit.out.kids L r q hq
          rw [HS1.out q hq] at HS
          rw [cells_eq] at hZq
          subst hZq
          clear hq
          have hset := (HD.out.1.kept HG4.out).set k q (.slice none 0 0) (.leaf q none 0 hqn hqk)
          have HE : Hid (PatsOwn (setPat w3 g (k * 5) q (.slice none 0 0)) w.heap.size N (.slice (some ⟨g, 0, none⟩) (k + 1) vc) (mergedP two (l.take (i + 1))) ∧ Grew w (setPat w3 g (k * 5) q (.slice none 0 0))) := by
            rw [HS.out]
            exact ⟨hset.1, (HD.out.2.trans HG4.out).below (below_of_grownBy hset.2 HSt.out.1 (by have := HG4.out.size; have := HSt.out.2; omega)) (Nat.le_refl _)⟩
          unfold setPat at HE
          obtain ⟨⟨z0, z1, z2, z3, z4⟩, _⟩ := five_cells H9.out.2
          obtain ⟨⟨y0, y1, y2, y3, y4⟩, yf⟩ := HLA.out w3 HG4.out
          have h9g : b9 ≠ g := by have := H9.out.1; omega
          clear hset hqn hqk
          go_wp2_with fail
          go_roundw
          case rel => exact ⟨i + 1, by go_num, by omega, HE⟩
          case measure => simp [intOf]; omega
    · have hie : i = l.length := by omega
      have kk : decide ((i : Int) < (l.length : Int)) = false := decide_eq_false (by omega)
      have HE := hidd HD.out
      rw [show l.take i = l from by rw [hie, List.take_length]] at HE
      clear HD hie
      go_wp2_with fail
      go_ret
      exact ⟨_, rfl, HE.out⟩
end Go.Proofs.YtkkdpafkafjfgaaDoor
namespace Go.Proofs.YtkkdpafkafjfgaaDoor
open Go.RowKit
set_option linter.unusedVariables false
theorem own_node {w : World} {B N : Nat} {v : Value} {l : List Pat} (h : PatsOwn w B N v l) (hNB : N ≤ B) {p : Pat} (hp : NumsOk p) (hk : p.kids = l) (h0 : 0 < l.length) : PQ w (fun b => N ≤ b) v p := by
  subst hk
  have hl := h.list
  have hb := h.blocks
  rcases hl.rep with ⟨_, _, _, e⟩ | ⟨b, o, c, kvs, h1, h2, h3, h4, h5, h6, h7⟩
  · rw [e] at h0; simp at h0
  · subst h1
    obtain ⟨kvs0, k1, k2, k3⟩ := h.rep
    obtain ⟨g, cap, e, hg, _⟩ := k2.form h0
    cases e
    exact .node p b 0 c kvs hp h0 h3 h4 (by omega) h5 h6 h7
theorem nums_kids {k : Int} {l : List Pat} (hk : -9223372036854775808 ≤ k ∧ k ≤ 9223372036854775807) : NumsOk (kidsP k l) := ⟨hk, ⟨by show (-9223372036854775808 : Int) ≤ 0; omega, by show (0 : Int) ≤ 9223372036854775807; omega⟩, Nat.zero_le _, Nat.zero_le _⟩
def SingleEnd (N : Nat) (q : Pat) (w : World) (e : Ending) (w' : World) : Prop := ∃ kv, e = .returned (.agg (q.cells kv)) ∧ PQ w' (fun b => N ≤ b) kv q ∧ Grew w w'
set_option maxRecDepth 100000 in
theorem single_any (k : Int) {B N : Nat} (l : List Pat) (v : Value) (z : Pat) (zk : Value) (w : World) (h : PatsOwn w B N v l) (hNB : N ≤ B) (hz : PQ w (fun b => N ≤ b) zk z) (hk : -9223372036854775808 ≤ k ∧ k ≤ 9223372036854775807) :
    Calls Tryd.prog 85 #[v, .int .i64 k, .agg (z.cells zk)] w (SingleEnd N (singleP k z l) w) := by
  obtain ⟨a, c, rfl⟩ := h.len
  have hm : l.length ≤ maxLen := by obtain ⟨_, _, e, hm⟩ := h.list.len; exact hm
  unfold maxLen at hm
  obtain ⟨za, zn, zc, rfl⟩ := hz.form
  have HO := hidd h
  have HZ := hidd hz
  match l, h, HO, hm with
  | [], h, HO, hm =>
    rw [cells_eq]
    clear h hz
    show Calls _ _ #[.slice a 0 c, _, _] _ _
    unfold SingleEnd singleP
    go_enter Tryd.func85, Tryd.ntmps85
    go_wp2_with fail
    exact bodyPost_ret (results_pat (rb := w.heap.size + 1) rfl rfl (heap_second w _ _) rfl) rfl ⟨_, rfl, HZ.out.kept (((Grew.refl w).alloc _).alloc _), ((Grew.refl w).alloc _).alloc _⟩
  | [p], h, HO, hm =>
    rw [cells_eq]
    obtain ⟨b, o, kv, rfl, hn, hq⟩ := HO.out.list.at (i := 0) (by simp)
    have hn : NodeAt w b o p kv := by simpa using hn
    have hq : PQ w (fun b => N ≤ b) kv p := by simpa using hq
    obtain ⟨ka, kn, kc, rfl⟩ := hq.form
    have HQ := hidd hq
    have HN : Hid (∀ x y, NodeAt ((w.alloc x).alloc y) b o p (.slice ka kn kc)) := fun x y => hn.kept (((Grew.refl w).alloc x).alloc y)
    have hnn := HN.out (.cells #[.int .i64 z.kind, .string z.text, .int .i64 z.n, .string z.name, .slice za zn zc] 24) (.cells #[.int .i64 0, .string ⟨#[]⟩, .int .i64 0, .string ⟨#[]⟩, .slice none 0 0] 24)
    obtain ⟨c0, c1, c2, c3, c4, _, _, _, _⟩ := hnn
    clear h hz hn hq
    show Calls _ _ #[.slice (some ⟨b, o, none⟩) 1 c, _, _] _ _
    unfold SingleEnd singleP
    go_enter Tryd.func85, Tryd.ntmps85
    go_wp2_with fail
    exact bodyPost_ret (results_pat (rb := w.heap.size + 1) rfl rfl (heap_second w _ _) rfl) rfl ⟨_, rfl, HQ.out.kept (((Grew.refl w).alloc _).alloc _), ((Grew.refl w).alloc _).alloc _⟩
  | p :: q :: l, h, HO, hm =>
    rw [cells_eq]
    have HP := hidd (own_node h hNB (p := kidsP k (p :: q :: l)) (nums_kids hk) rfl (by simp))
    obtain ⟨n, hn⟩ : ∃ n, (p :: q :: l).length = n + 2 := ⟨l.length, rfl⟩
    rw [hn] at hm HP ⊢
    have k0 : (((n + 2 : Nat) : Int) == 0) = false := by rw [beq_eq_false_iff_ne]; omega
    have k1 : (((n + 2 : Nat) : Int) == 1) = false := by rw [beq_eq_false_iff_ne]; omega
    have k0' : ((n : Int) + 2 == 0) = false := by rw [beq_eq_false_iff_ne]; omega
    have k1' : ((n : Int) + 2 == 1) = false := by rw [beq_eq_false_iff_ne]; omega
    have HS : Hid (singleP k z (p :: q :: l) = kidsP k (p :: q :: l)) := rfl
    rw [HS.out]
    obtain ⟨X, hX⟩ : ∃ X, kidsP k (p :: q :: l) = X := ⟨_, rfl⟩
    have hXc : ∀ kv, X.cells kv = #[.int .i64 k, .string ByteArray.empty, .int .i64 0, .string ByteArray.empty, kv] := fun kv => by rw [← hX]; rfl
    rw [hX] at HP HS ⊢
    have HXc := hidd hXc
    clear h hz hn hX hXc HO
    unfold SingleEnd
    go_enter Tryd.func85, Tryd.ntmps85
    go_wp2_with fail
    exact bodyPost_ret (results_pat (rb := w.heap.size + 1) rfl rfl (heap_second w _ _) rfl) rfl ⟨_, by rw [HXc.out]; rfl, HP.out.kept (((Grew.refl w).alloc _).alloc _), ((Grew.refl w).alloc _).alloc _⟩
end Go.Proofs.YtkkdpafkafjfgaaDoor
namespace Go.Proofs.YtkkdpafkafjfgaaDoor
open Go.RowKit
set_option linter.unusedVariables false
structure SimpIn (p : Pat) (kv : Value) (w : World) : Prop where
  pat : PatV w kv p
  right : errW p = 0
  nodes : nodesP p ≤ 4096
  tab : TabZ w
  kids : ∀ q ∈ p.kids, ∀ kv w', Grew w w' → PatV w' kv q → Calls Tryd.prog 48 #[.agg (q.cells kv)] w' (SingleEnd w'.heap.size (simple q) w')
theorem simple_take {l : List Pat} {i : Nat} (h : i < l.length) : (l.map simple).take (i + 1) = (l.map simple).take i ++ [simple (l.getD i Pat.zero)] := by
  rw [take_getD (by rw [List.length_map]; exact h), List.getD_eq_getElem?_getD, List.getElem?_map, List.getD_eq_getElem?_getD, List.getElem?_eq_getElem h]; rfl
theorem kid_end {q : Pat} {kv : Value} {w : World} (h : Calls Tryd.prog 48 #[.agg (q.cells kv)] w (SingleEnd w.heap.size (simple q) w)) :
    Calls Tryd.prog 48 #[.agg #[.int .i64 q.kind, .string q.text, .int .i64 q.n, .string q.name, kv]] w fun e w' => ∃ a n c, e = .returned (.agg #[.int .i64 (simple q).kind, .string (simple q).text, .int .i64 (simple q).n, .string (simple q).name, .slice a n c]) ∧ PQ w' (fun b => w.heap.size ≤ b) (.slice a n c) (simple q) ∧ Grew w w' := by
  refine Calls.mono h ?_
  rintro e w' ⟨kv', rfl, hq, hg⟩
  obtain ⟨a, n, c, rfl⟩ := hq.form
  exact ⟨a, n, c, rfl, hq, hg⟩
theorem leaf_end (X : Pat) {N : Nat} {w w' : World} (hn : NumsOk X) (hk : X.kids = []) (g : Grew w w') : SingleEnd N X w (.returned (.agg (X.cells (.slice none 0 0)))) w' := ⟨_, rfl, .leaf X none 0 hn hk, g⟩
theorem Grew.setOwn {a w : World} (g : Grew a w) {b o : Nat} (hb : a.heap.size ≤ b) (u : Value) : Grew a (w.setCell ⟨b, o, none⟩ u) := g.setCell hb u
theorem PQ.over {w : World} {N b : Nat} {kv : Value} {p : Pat} (h : PQ w (fun x => N ≤ x) kv p) (hb : b < N) (o : Nat) (v : Value) : PQ (w.setCell ⟨b, o, none⟩ v) (fun x => N ≤ x) kv p :=
  h.keep (fun b' o' v' hq hc => by
    unfold World.cell? at hc ⊢
    rw [setCell_heap_other _ _ _ (by omega : b ≠ b')]; exact hc) (fun _ h _ => h)
theorem own_end (X : Pat) {v : Value} {N N0 rb : Nat} {w0 w' : World} (h : PQ w' (fun b => N ≤ b) v X) (hb : rb < N) (h0 : N0 ≤ N) (g : Grew w0 w') (hr : w0.heap.size ≤ rb) (u0 u1 u2 u3 u4 : Value) :
    SingleEnd N0 X w0 (.returned (.agg (X.cells v))) (((((w'.setCell ⟨rb, 0, none⟩ u0).setCell ⟨rb, 1, none⟩ u1).setCell ⟨rb, 2, none⟩ u2).setCell ⟨rb, 3, none⟩ u3).setCell ⟨rb, 4, none⟩ u4) :=
  ⟨v, rfl, (((((h.over hb 0 u0).over hb 1 u1).over hb 2 u2).over hb 3 u3).over hb 4 u4).mono (fun b hb _ => Nat.le_trans h0 hb), setPat_grew g hr u0 u1 u2 u3 u4⟩
theorem spell_max (t : ByteArray) : (spell t).size ≤ maxLen := by
  have := spell_le t
  unfold maxLen; omega
theorem nums_leaf {k : Int} {t : ByteArray} {n : Int} {m : ByteArray} {l : List Pat} (hk : -9223372036854775808 ≤ k ∧ k ≤ 9223372036854775807) (hn : -9223372036854775808 ≤ n ∧ n ≤ 9223372036854775807) (ht : t.size ≤ maxLen) (hm : m.size ≤ maxLen) : NumsOk (.mk k t n m l) := ⟨hk, hn, ht, hm⟩
theorem zero_in : (-9223372036854775808 : Int) ≤ 0 ∧ (0 : Int) ≤ 9223372036854775807 := by omega
theorem none_size : ByteArray.empty.size ≤ maxLen := Nat.zero_le _
end Go.Proofs.YtkkdpafkafjfgaaDoor
