/- Regions that draw their order: what each operation leaves, over any relation of worlds. -/
import Derived.Test.YtkkdpafkafjfgaaDoorMkPBase
import Derived.Deep.RegionLaw
namespace Go.Proofs.YtkkdpafkafjfgaaDoor.RR
open Go.RowKit Go.Proofs.YtkkdpafkafjfgaaDoor
set_option linter.unusedVariables false
section
variable {J : Array Bool → Act → World → Prop} {Rl : World → World → Prop} {P : Program} {ops : Array Oper} {Q : Exit → Act → World → Prop} {F : Nat → Value → World → Prop} {a0 : Act} {w0 : World}
structure RTold (J : Array Bool → Act → World → Prop) (Rl : World → World → Prop) (ops : Array Oper) (F : Nat → Value → World → Prop) (a0 : Act) (w0 : World) (listed : Array Bool) (a : Act) (w : World) : Prop where
  grew : Rl w0 w
  defers : a.defers = a0.defers
  size : a.tmps.size = a0.tmps.size
  same : ∀ d, (∀ (i : Nat) o, ops[i]? = some o → o.dst ≠ some d) → a.tmps.getD d undef = a0.tmps.getD d undef
  inv : J listed a w
  told : ∀ (i : Nat) o, ops[i]? = some o → listed.getD i false = true → ∃ v, F i v w ∧ ∀ d, o.dst = some d → a.tmps.getD d undef = v
def regionOk (ops : Array Oper) (n : Nat) : Bool :=
  (List.range ops.size).all fun i => match ops[i]? with
    | none => true
    | some o => (o.after.all fun e => !(Region.binds .any e) || decide (e.on < i)) && (match o.dst with
      | none => true
      | some d => decide (d < n) && (List.range i).all fun j => match ops[j]? with
        | none => true
        | some o' => o'.dst != some d)
theorem regionOk_at {n i : Nat} {o : Oper} (h : regionOk ops n = true) (ho : ops[i]? = some o) : (∀ e ∈ o.after, Region.binds .any e = true → e.on < i) ∧ ∀ d, o.dst = some d → d < n ∧ ∀ j, j < i → ∀ o', ops[j]? = some o' → o'.dst ≠ some d := by
  unfold regionOk at h
  rw [List.all_eq_true] at h
  have hi : i < ops.size := (Array.getElem?_eq_some_iff.1 ho).1
  have h := h i (List.mem_range.2 hi)
  rw [ho] at h
  dsimp only at h
  rw [Bool.and_eq_true] at h
  refine ⟨fun e he hb => by
    have := Array.all_eq_true_iff_forall_mem.1 h.1 e he
    rw [hb] at this
    simpa using this, fun d hd => ?_⟩
  have h2 := h.2
  rw [hd] at h2
  dsimp only at h2
  rw [Bool.and_eq_true, List.all_eq_true] at h2
  refine ⟨of_decide_eq_true h2.1, fun j hj o' ho' e => ?_⟩
  have h3 := h2.2 j (List.mem_range.2 hj)
  rw [ho'] at h3
  dsimp only at h3
  rw [e] at h3
  simp at h3
def StepOk (Rl : World → World → Prop) (P : Program) (ops : Array Oper) (Q : Exit → Act → World → Prop) (F : Nat → Value → World → Prop) (a0 : Act) (w0 : World) (i : Nat) (o : Oper) : Prop :=
  ∀ a w, Rl w0 w → (∀ d, (∀ (i : Nat) o, ops[i]? = some o → o.dst ≠ some d) → a.tmps.getD d undef = a0.tmps.getD d undef) →
    (∀ e ∈ o.after, Region.binds .any e = true → ∀ oe, ops[e.on]? = some oe → ∃ v, F e.on v w ∧ ∀ d, oe.dst = some d → a.tmps.getD d undef = v ∧ d < a.tmps.size) →
    ∀ K : Act → World → Prop, (∀ v w', Rl w w' → F i v w' → K (a.put o.dst v) w') → if Region.wanted o (yielded ops a.tmps) = true then o.wp P a w K Q else K (a.put o.dst undef) w
def StepJ (J : Array Bool → Act → World → Prop) (Rl : World → World → Prop) (P : Program) (ops : Array Oper) (Q : Exit → Act → World → Prop) (F : Nat → Value → World → Prop) (a0 : Act) (w0 : World) (i : Nat) (o : Oper) : Prop :=
  ∀ listed a w, listed.size = ops.size → listed.getD i false = false → (∀ e ∈ o.after, Region.binds .any e = true → listed.getD e.on false = true) → a.tmps.size = a0.tmps.size → J listed a w → Rl w0 w → (∀ d, (∀ (i : Nat) o, ops[i]? = some o → o.dst ≠ some d) → a.tmps.getD d undef = a0.tmps.getD d undef) →
    (∀ e ∈ o.after, Region.binds .any e = true → ∀ oe, ops[e.on]? = some oe → ∃ v, F e.on v w ∧ ∀ d, oe.dst = some d → a.tmps.getD d undef = v ∧ d < a.tmps.size) →
    ∀ K : Act → World → Prop, (∀ v w', Rl w w' → F i v w' → J (listed.setIfInBounds i true) (a.put o.dst v) w' → K (a.put o.dst v) w') → if Region.wanted o (yielded ops a.tmps) = true then o.wp P a w K Q else K (a.put o.dst undef) w
theorem StepOk.keeps {i : Nat} {o : Oper} (h : StepOk Rl P ops Q F a0 w0 i o) (hJ : ∀ listed a w v w', listed.size = ops.size → listed.getD i false = false → J listed a w → Rl w w' → J (listed.setIfInBounds i true) (a.put o.dst v) w') : StepJ J Rl P ops Q F a0 w0 i o :=
  fun listed a w hs hlf _ _ hj hw hsm hd K hK => h a w hw hsm hd K fun v w' h1 h2 => hK v w' h1 h2 (hJ listed a w v w' hs hlf hj h1)
theorem getD_put {t : Array Value} {d k : Nat} {v : Value} (h : d ≠ k) : (t.setIfInBounds d v).getD k undef = t.getD k undef := by
  simp only [Array.getD_eq_getD_getElem?, Array.getElem?_setIfInBounds_ne h]
theorem getD_put_same {t : Array Value} {d : Nat} {v : Value} (h : d < t.size) : (t.setIfInBounds d v).getD d undef = v := by
  simp only [Array.getD_eq_getD_getElem?, Array.getElem?_setIfInBounds_self_of_lt h, Option.getD_some]
theorem rtold_put (hRt : ∀ a b c : World, Rl a b → Rl b c → Rl a c) (hmono : ∀ i v w w', Rl w w' → F i v w → F i v w') (hok : regionOk ops a0.tmps.size = true) {listed : Array Bool} {a : Act} {w w' : World} (h : RTold J Rl ops F a0 w0 listed a w)
    {i : Nat} {o : Oper} (ho : ops[i]? = some o) {v : Value} (hw : Rl w w') (hF : F i v w') (hJ : J (listed.setIfInBounds i true) (a.put o.dst v) w') : RTold J Rl ops F a0 w0 (listed.setIfInBounds i true) (a.put o.dst v) w' := by
  obtain ⟨_, hb⟩ := regionOk_at hok ho
  have apart : ∀ (j : Nat) o' d, ops[j]? = some o' → j ≠ i → o.dst = some d → o'.dst ≠ some d := fun j o' d hj hne hd e => by
    rcases Nat.lt_or_gt_of_ne hne with hl | hl
    · exact (hb d hd).2 j hl o' hj e
    · exact ((regionOk_at hok hj).2 d e).2 i hl o ho hd
  refine ⟨hRt _ _ _ h.grew hw, ?_, ?_, fun d hd => ?_, hJ, fun j o' hj hl => ?_⟩
  · cases o.dst <;> exact h.defers
  · cases o.dst with
    | none => exact h.size
    | some d => show (a.tmps.setIfInBounds d v).size = _; rw [Array.size_setIfInBounds]; exact h.size
  · cases hd0 : o.dst with
    | none => exact h.same d hd
    | some d0 =>
      show (a.tmps.setIfInBounds d0 v).getD d undef = _
      rw [getD_put (fun e => hd i o ho (by rw [hd0, e]))]
      exact h.same d hd
  · by_cases hji : j = i
    · subst hji
      rw [ho] at hj; cases hj
      refine ⟨v, hF, fun d' hd' => ?_⟩
      rw [hd']
      show (a.tmps.setIfInBounds d' v).getD d' undef = v
      rw [getD_put_same (by rw [h.size]; exact (hb d' hd').1)]
    · have hl' : listed.getD j false = true := by rw [getD_set_ne false (Ne.symm hji)] at hl; exact hl
      obtain ⟨u, h1, h2⟩ := h.told j o' hj hl'
      refine ⟨u, hmono j _ w w' hw h1, fun d' hd' => ?_⟩
      rw [← h2 d' hd']
      cases hd0 : o.dst with
      | none => rfl
      | some d0 =>
        show (a.tmps.setIfInBounds d0 v).getD d' undef = _
        rw [getD_put (fun e => apart j o' d0 hj hji hd0 (by rw [hd', e]))]
theorem countP_lt {α : Type} {p q : α → Bool} : ∀ {l : List α} {a : α}, (∀ x ∈ l, p x = true → q x = true) → a ∈ l → p a = false → q a = true → l.countP p < l.countP q
  | [], a, _, ha, _, _ => by cases ha
  | x :: l, a, h, ha, h1, h2 => by
    have hle : l.countP p ≤ l.countP q := List.countP_mono_left fun y hy => h y (by simp [hy])
    rw [List.countP_cons, List.countP_cons]
    rcases List.mem_cons.1 ha with rfl | ha
    · rw [h1, h2]; simp; omega
    · have := countP_lt (fun y hy => h y (by simp [hy])) ha h1 h2
      have hx := h x (by simp)
      cases hp : p x with
      | false => cases q x <;> simp <;> omega
      | true => rw [hx hp]; simp; omega
def rtodo (n : Nat) (listed : Array Bool) : Nat := (List.range n).countP fun i => !listed.getD i false
theorem none_ready (hok : regionOk ops a0.tmps.size = true) {listed : Array Bool} (hs : listed.size = ops.size) (h : Region.ready .any ops listed = []) : ∀ i, i < ops.size → listed.getD i false = true := by
  intro i
  induction i using Nat.strongRecOn with
  | _ i ih =>
    intro hi
    cases hl : listed.getD i false with
    | true => rfl
    | false =>
      exfalso
      have ho : ops[i]? = some ops[i] := by simp [hi]
      have : i ∈ Region.ready .any ops listed := mem_ready.2 ⟨by
        have hi2 : i < listed.size := by omega
        simp only [Array.getD_eq_getD_getElem?, Array.getElem?_eq_getElem hi2, Option.getD_some] at hl ⊢
        exact hl, ops[i], ho, fun e he hb => ih e.on ((regionOk_at hok ho).1 e he hb) (by have := (regionOk_at hok ho).1 e he hb; omega)⟩
      rw [h] at this
      cases this
theorem rtold_any (hRt : ∀ a b c : World, Rl a b → Rl b c → Rl a c) (hmono : ∀ i v w w', Rl w w' → F i v w → F i v w') (hok : regionOk ops a0.tmps.size = true) (hstep : ∀ (i : Nat) o, ops[i]? = some o → StepJ J Rl P ops Q F a0 w0 i o)
    (hend : ∀ listed a w, (∀ i, i < ops.size → listed.getD i false = true) → RTold J Rl ops F a0 w0 listed a w → Q .normal a w) :
    ∀ (fuel : Nat) (listed : Array Bool) (a : Act) (w : World), listed.size = ops.size → rtodo ops.size listed ≤ fuel → RTold J Rl ops F a0 w0 listed a w → wpAny P .any ops Q fuel listed a w := by
  intro fuel
  induction fuel with
  | zero =>
    intro listed a w hs hn h
    have hall : ∀ i, i < ops.size → listed.getD i false = true := fun i hi => by
      have : rtodo ops.size listed = 0 := by omega
      unfold rtodo at this
      rw [List.countP_eq_zero] at this
      simpa using this i (List.mem_range.2 hi)
    refine ⟨?_, hend listed a w hall h⟩
    cases hr : Region.ready .any ops listed with
    | nil => rfl
    | cons x l =>
      exfalso
      have hx : x ∈ Region.ready .any ops listed := by rw [hr]; simp
      obtain ⟨h1, o, ho, _⟩ := mem_ready.1 hx
      have hi : x < ops.size := (Array.getElem?_eq_some_iff.1 ho).1
      have h2 := hall x hi
      have hi2 : x < listed.size := by omega
      simp only [Array.getD_eq_getD_getElem?, Array.getElem?_eq_getElem hi2, Option.getD_some] at h1 h2
      rw [h2] at h1; cases h1
  | succ fuel ih =>
    intro listed a w hs hn h
    refine ⟨fun hr => hend listed a w (none_ready hok hs hr) h, fun i hi => ?_⟩
    obtain ⟨h1, o, ho, hall⟩ := mem_ready.1 hi
    have hil : i < ops.size := (Array.getElem?_eq_some_iff.1 ho).1
    have hK : ∀ v w', Rl w w' → F i v w' → J (listed.setIfInBounds i true) (a.put o.dst v) w' → wpAny P .any ops Q fuel (listed.setIfInBounds i true) (a.put o.dst v) w' := fun v w' hw hF hJ => by
      refine ih _ _ _ (by rw [Array.size_setIfInBounds]; exact hs) ?_ (rtold_put hRt hmono hok h ho hw hF hJ)
      have hlt : rtodo ops.size (listed.setIfInBounds i true) < rtodo ops.size listed := by
        unfold rtodo
        have hi2 : i < listed.size := by omega
        refine countP_lt (a := i) (fun j hj => ?_) (List.mem_range.2 hil) ?_ ?_
        · by_cases hji : j = i
          · subst hji
            intro hx
            simp [Array.getD_eq_getD_getElem?, hi2] at hx
          · rw [getD_set_ne false (Ne.symm hji)]; exact id
        · simp [Array.getD_eq_getD_getElem?, hi2]
        · simp only [Array.getD_eq_getD_getElem?, Array.getElem?_eq_getElem hi2, Option.getD_some] at h1 ⊢
          simp [h1]
      omega
    have hlf : listed.getD i false = false := by
      have hi2 : i < listed.size := by omega
      simp only [Array.getD_eq_getD_getElem?, Array.getElem?_eq_getElem hi2, Option.getD_some] at h1 ⊢
      simpa using h1
    have := hstep i o ho listed a w hs hlf (fun e he hb => hall e he hb) h.size h.inv h.grew h.same (fun e he hb oe hoe => by
      obtain ⟨u, h1, h2⟩ := h.told e.on oe hoe (hall e he hb)
      exact ⟨u, h1, fun d hd => ⟨h2 d hd, by rw [h.size]; exact ((regionOk_at hok hoe).2 d hd).1⟩⟩) _ hK
    unfold wpOp
    rw [ho]
    dsimp only
    split
    · rename_i hw; rw [if_pos hw] at this; exact .inl this
    · rename_i hw; rw [if_neg hw] at this; exact this
theorem wp_region_told {id : Nat} (hJ0 : J (Array.replicate ops.size false) a0 w0.drew) (hRd : ∀ w : World, Rl w w.drew) (hRt : ∀ a b c : World, Rl a b → Rl b c → Rl a c) (hm : P.follows .mixedOrders = true) (F : Nat → Value → World → Prop) (hmono : ∀ i v w w', Rl w w' → F i v w → F i v w') (hok : regionOk ops a0.tmps.size = true)
    (hstep : ∀ (i : Nat) o, ops[i]? = some o → StepJ J Rl P ops Q F a0 w0 i o)
    (hend : ∀ listed a w, (∀ i, i < ops.size → listed.getD i false = true) → J listed a w → Rl w0 w → a.defers = a0.defers → a.tmps.size = a0.tmps.size → (∀ d, (∀ (i : Nat) o, ops[i]? = some o → o.dst ≠ some d) → a.tmps.getD d undef = a0.tmps.getD d undef) →
      (∀ (i : Nat) o, ops[i]? = some o → ∃ v, F i v w ∧ ∀ d, o.dst = some d → a.tmps.getD d undef = v) → Q .normal a w) :
    (Code.region id ops true).wp P Q a0 w0 := by
  refine wp_region_any hm (rtold_any hRt hmono hok hstep (fun listed a w hall h => hend listed a w hall h.inv h.grew h.defers h.size h.same fun i o ho => h.told i o ho (hall i (Array.getElem?_eq_some_iff.1 ho).1)) ops.size _ a0 _ (by simp) ?_ ⟨hRd w0, rfl, rfl, fun d _ => rfl, hJ0, fun i o ho hl => ?_⟩)
  · unfold rtodo
    have := List.countP_le_length (p := fun i => !(Array.replicate ops.size false).getD i false) (l := List.range ops.size)
    simpa using this
  · exfalso
    have hi : i < ops.size := (Array.getElem?_eq_some_iff.1 ho).1
    simp [Array.getD_eq_getD_getElem?, hi] at hl
end
inductive Sh where
  | val (v : Value)
  | fact (P : Value → World → Prop)
def Sh.At : Sh → Value → World → Prop
  | .val u, v, _ => v = u
  | .fact P, v, w => P v w
def shF (shs : List Sh) (i : Nat) (v : Value) (w : World) : Prop := (shs.getD i (.fact fun _ _ => True)).At v w
section
variable {Rl : World → World → Prop} {P : Program} {ops : Array Oper} {Q : Exit → Act → World → Prop} {shs : List Sh} {a0 : Act} {w0 : World} {A : Array Edge}
def edgeTo (ops : Array Oper) (A : Array Edge) (j : Nat) : Option Edge := A.toList.find? fun e => Region.binds .any e && ((ops[e.on]?).bind (·.dst) == some j)
def srcOf (ops : Array Oper) (shs : List Sh) (A : Array Edge) (a0 : Act) (j : Nat) : Sh :=
  match edgeTo ops A j with
  | some e => shs.getD e.on (.fact fun _ _ => True)
  | none => if ops.toList.all (fun o => o.dst != some j) then .val (a0.tmps.getD j undef) else .fact fun _ _ => True
def opSh (ops : Array Oper) (shs : List Sh) (A : Array Edge) (a0 : Act) : Operand → Sh
  | .tmp j => srcOf ops shs A a0 j
  | .const v => .val v
  | .global g => .val (.pointer (some ⟨g, 0, none⟩))
  | .func f => .val (.func (.func f) #[] #[])
def guardIs (ops : Array Oper) (shs : List Sh) (A : Array Edge) : Option (Nat × Bool) → Option Bool
  | none => some true
  | some (g, b) => if (A.toList.any fun e => Region.binds .any e && e.on == g) && ((ops[g]?).bind (·.dst)).isSome then (match shs.getD g (.fact fun _ _ => True) with | .val (.bool b') => some (b' == b) | .val _ => some false | .fact _ => none) else none
structure Env (Rl : World → World → Prop) (ops : Array Oper) (shs : List Sh) (a0 : Act) (w0 : World) (A : Array Edge) (a : Act) (w : World) : Prop where
  grew : Rl w0 w
  same : ∀ d, (∀ (i : Nat) o, ops[i]? = some o → o.dst ≠ some d) → a.tmps.getD d undef = a0.tmps.getD d undef
  dep : ∀ e ∈ A, Region.binds .any e = true → ∀ oe, ops[e.on]? = some oe → ∃ v, shF shs e.on v w ∧ ∀ d, oe.dst = some d → a.tmps.getD d undef = v ∧ d < a.tmps.size
theorem Env.src {a : Act} {w : World} (h : Env Rl ops shs a0 w0 A a w) (j : Nat) : (srcOf ops shs A a0 j).At (a.tmps.getD j undef) w := by
  unfold srcOf
  cases he : edgeTo ops A j with
  | some e =>
    have h1 := List.find?_some he
    have h2 := List.mem_of_find?_eq_some he
    rw [Bool.and_eq_true, beq_iff_eq] at h1
    obtain ⟨oe, ho, hd⟩ := Option.bind_eq_some_iff.1 h1.2
    obtain ⟨v, k1, k2⟩ := h.dep e (by simpa using h2) h1.1 oe ho
    rw [(k2 j hd).1]; exact k1
  | none =>
    dsimp only
    split
    · rename_i hall
      rw [List.all_eq_true] at hall
      refine h.same j fun i o ho e => ?_
      have := hall o (by simpa using Array.mem_of_getElem? ho)
      rw [e] at this
      simp at this
    · trivial
theorem Env.op {a : Act} {w : World} (h : Env Rl ops shs a0 w0 A a w) (x : Operand) : (opSh ops shs A a0 x).At (a.eval x) w := by
  cases x with
  | tmp j => exact h.src j
  | const v => rfl
  | global g => rfl
  | func f => rfl
theorem Env.opv {a : Act} {w : World} (h : Env Rl ops shs a0 w0 A a w) {x : Operand} {v : Value} (hx : opSh ops shs A a0 x = .val v) : a.eval x = v := by
  have := h.op x
  rw [hx] at this
  exact this
theorem Env.guard {a : Act} {w : World} (h : Env Rl ops shs a0 w0 A a w) {d : Option Tmp} {op : Op} {ty : TypeId} {pos : String} {G : Option (Nat × Bool)} {c : Bool} (hg : guardIs ops shs A G = some c) :
    Region.wanted ⟨d, op, ty, pos, A, G⟩ (yielded ops a.tmps) = c := by
  unfold Region.wanted
  cases G with
  | none => simpa [guardIs] using hg
  | some gb =>
    obtain ⟨g, b⟩ := gb
    unfold guardIs at hg
    dsimp only at hg
    by_cases hh : ((A.toList.any fun e => Region.binds .any e && e.on == g) && ((ops[g]?).bind (·.dst)).isSome) = true
    · rw [if_pos hh] at hg
      rw [Bool.and_eq_true] at hh
      obtain ⟨h1, h2⟩ := hh
      obtain ⟨e, he, hb⟩ := List.any_eq_true.1 h1
      rw [Bool.and_eq_true, beq_iff_eq] at hb
      obtain ⟨hb, rfl⟩ := hb
      obtain ⟨dd, hdd⟩ := Option.isSome_iff_exists.1 h2
      obtain ⟨oe, ho, hd⟩ := Option.bind_eq_some_iff.1 hdd
      obtain ⟨v0, k1, k3⟩ := h.dep e (by simpa using he) hb oe ho
      obtain ⟨k3, k2⟩ := k3 dd hd
      rw [← k3] at k1
      unfold shF at k1
      dsimp only
      have k0 : a.tmps[dd]? = some (a.tmps.getD dd undef) := by
        rw [Array.getD_eq_getD_getElem?, Array.getElem?_eq_getElem k2, Option.getD_some]
      generalize shs.getD e.on (.fact fun _ _ => True) = S at hg k1
      cases S with
      | fact _ => cases hg
      | val v =>
        have k1 : a.tmps.getD dd undef = v := k1
        rw [k1] at k0
        unfold yielded
        rw [hdd]
        simp only [Option.bind_some, k0]
        clear k1 k0 hdd hd ho he h2 h1 k3 k2
        cases v
        case bool b' =>
          have hg : some (b' == b) = some c := hg
          cases hg
          cases b' <;> cases b <;> rfl
        all_goals
          have hg : some false = some c := hg
          cases hg
          cases b <;> rfl
    · rw [if_neg hh] at hg; cases hg
variable {i : Nat} {d : Option Tmp} {op : Op} {ty : TypeId} {pos : String} {G : Option (Nat × Bool)}
theorem st_run (hg : guardIs ops shs A G = some true) (h : ∀ a w, Env Rl ops shs a0 w0 A a w → ∀ K : Act → World → Prop, (∀ v w', Rl w w' → shF shs i v w' → K (a.put d v) w') → Oper.wp P ⟨d, op, ty, pos, A, G⟩ a w K Q) :
    StepOk Rl P ops Q (shF shs) a0 w0 i ⟨d, op, ty, pos, A, G⟩ := by
  intro a w hw hs hd K hK
  have E : Env Rl ops shs a0 w0 A a w := ⟨hw, hs, hd⟩
  rw [if_pos (E.guard hg)]
  exact h a w E K hK
variable (hr : ∀ w : World, Rl w w)
include hr
theorem st_move {x : Operand} (hg : guardIs ops shs A G = some true) (hx : opSh ops shs A a0 x = shs.getD i (.fact fun _ _ => True)) : StepOk Rl P ops Q (shF shs) a0 w0 i ⟨d, .move x, ty, pos, A, G⟩ :=
  st_run hg fun a w E K hK => hK _ _ (hr w) (by unfold shF; rw [← hx]; exact E.op x)
theorem st_assign {x : Operand} (hg : guardIs ops shs A G = some true) (hx : opSh ops shs A a0 x = shs.getD i (.fact fun _ _ => True)) : StepOk Rl P ops Q (shF shs) a0 w0 i ⟨d, .assign x, ty, pos, A, G⟩ :=
  st_run hg fun a w E K hK => hK _ _ (hr w) (by unfold shF; rw [← hx]; exact E.op x)
theorem st_pickF {c x y : Operand} (hg : guardIs ops shs A G = some true) (hc : opSh ops shs A a0 c = .val (.bool false)) (hx : opSh ops shs A a0 y = shs.getD i (.fact fun _ _ => True)) : StepOk Rl P ops Q (shF shs) a0 w0 i ⟨d, .pick c x y, ty, pos, A, G⟩ :=
  st_run hg fun a w E K hK => by
    have hcv : a.eval c = .bool false := E.opv hc
    have := hK (a.eval y) w (hr w) (by unfold shF; rw [← hx]; exact E.op y)
    unfold Oper.wp execOp
    simpa [hcv, asBool, Oper.upon] using this
theorem st_num {x y : Operand} {u v : Value} {op : BinOp} {xt t2 : TypeId} {z : Value} (hb : ∀ w, (do eqGuard op xt x y u v; binOp op xt u v : Sem Value).run P w = .ok z w) (hg : guardIs ops shs A G = some true) (hx : opSh ops shs A a0 x = .val u) (hy : opSh ops shs A a0 y = .val v) (hs : shs.getD i (.fact fun _ _ => True) = .val z) : StepOk Rl P ops Q (shF shs) a0 w0 i ⟨d, .binOp op xt x y t2, ty, pos, A, G⟩ :=
  st_run hg fun a w E K hK => by
    have hv : a.eval x = u := E.opv hx
    have hw : a.eval y = v := E.opv hy
    have := hK z w (hr w) (by unfold shF; rw [hs]; rfl)
    have h := hb w
    unfold Oper.wp execOp
    simp only [hv, hw, Sem.run_bind] at h ⊢
    simpa [h, Oper.upon] using this
omit hr
def isGo (P : Program) (f : FuncId) : Bool := match P.funcs[f]? with | some fn => !(fn.name == "runtime.NumGoroutine") && !fn.body.isNone | none => false
theorem run_go {P : Program} {f : FuncId} (h : isGo P f = true) (args : Array Value) (w : World) : (callFunc f args).run P w = .ok (.enter f args) w := by
  unfold isGo at h
  cases hf : P.funcs[f]? with
  | none => rw [hf] at h; cases h
  | some fn =>
    rw [hf] at h
    dsimp only at h
    rw [Bool.and_eq_true] at h
    obtain ⟨h1, h2⟩ := h
    unfold callFunc
    simp only [Sem.run_bind, run_program, Result.andThen_ok, hf]
    rw [if_neg (by simpa using h1), if_neg (by intro e; rw [e] at h2; cases h2)]
    rfl
end
def AllSteps (Rl : World → World → Prop) (P : Program) (ops : Array Oper) (Q : Exit → Act → World → Prop) (F : Nat → Value → World → Prop) (a0 : Act) (w0 : World) : Nat → List Oper → Prop
  | _, [] => True
  | k, o :: l => StepOk Rl P ops Q F a0 w0 k o ∧ AllSteps Rl P ops Q F a0 w0 (k + 1) l
theorem AllSteps.at {Rl : World → World → Prop} {P : Program} {ops : Array Oper} {Q : Exit → Act → World → Prop} {F : Nat → Value → World → Prop} {a0 : Act} {w0 : World} : ∀ {l : List Oper} {k : Nat}, AllSteps Rl P ops Q F a0 w0 k l → ∀ (i : Nat) o, l[i]? = some o → StepOk Rl P ops Q F a0 w0 (k + i) o
  | [], k, _, i, o, h => by simp at h
  | x :: l, k, ⟨h1, h2⟩, 0, o, h => by
    simp at h; subst h; exact h1
  | x :: l, k, ⟨h1, h2⟩, i + 1, o, h => by
    have := AllSteps.at h2 i o (by simpa using h)
    rwa [show k + 1 + i = k + (i + 1) by omega] at this
def AllJ (J : Array Bool → Act → World → Prop) (Rl : World → World → Prop) (P : Program) (ops : Array Oper) (Q : Exit → Act → World → Prop) (F : Nat → Value → World → Prop) (a0 : Act) (w0 : World) : Nat → List Oper → Prop
  | _, [] => True
  | k, o :: l => StepJ J Rl P ops Q F a0 w0 k o ∧ AllJ J Rl P ops Q F a0 w0 (k + 1) l
theorem AllJ.at {J : Array Bool → Act → World → Prop} {Rl : World → World → Prop} {P : Program} {ops : Array Oper} {Q : Exit → Act → World → Prop} {F : Nat → Value → World → Prop} {a0 : Act} {w0 : World} : ∀ {l : List Oper} {k : Nat}, AllJ J Rl P ops Q F a0 w0 k l → ∀ (i : Nat) o, l[i]? = some o → StepJ J Rl P ops Q F a0 w0 (k + i) o
  | [], k, _, i, o, h => by simp at h
  | x :: l, k, ⟨h1, h2⟩, 0, o, h => by
    simp at h; subst h; exact h1
  | x :: l, k, ⟨h1, h2⟩, i + 1, o, h => by
    have := AllJ.at h2 i o (by simpa using h)
    rwa [show k + 1 + i = k + (i + 1) by omega] at this
theorem frame_of {D : List Nat} {t0 t1 : Array Value} (hsz : t1.size = t0.size) (h : ∀ d, d ∉ D → t1.getD d undef = t0.getD d undef) : t1 = D.foldl (fun t d => t.setIfInBounds d (t1.getD d undef)) t0 := by
  have key : ∀ (D : List Nat) (t : Array Value), t1.size = t.size → (D.foldl (fun t d => t.setIfInBounds d (t1.getD d undef)) t).size = t.size ∧ ∀ j, (D.foldl (fun t d => t.setIfInBounds d (t1.getD d undef)) t).getD j undef = if j ∈ D ∧ j < t.size then t1.getD j undef else t.getD j undef := by
    intro D
    induction D with
    | nil => intro t _; exact ⟨rfl, fun j => by simp⟩
    | cons d D ih =>
      intro t ht
      obtain ⟨h1, h2⟩ := ih (t.setIfInBounds d (t1.getD d undef)) (by rw [Array.size_setIfInBounds]; exact ht)
      refine ⟨by rw [List.foldl_cons, h1, Array.size_setIfInBounds], fun j => ?_⟩
      rw [List.foldl_cons, h2, Array.size_setIfInBounds]
      by_cases hj : j ∈ D ∧ j < t.size
      · rw [if_pos hj, if_pos ⟨List.mem_cons_of_mem _ hj.1, hj.2⟩]
      · rw [if_neg hj]
        by_cases hjd : j = d
        · subst hjd
          by_cases hlt : j < t.size
          · rw [if_pos ⟨by simp, hlt⟩, getD_put_same hlt]
          · rw [if_neg (fun h => hlt h.2)]
            simp only [Array.getD_eq_getD_getElem?]
            rw [Array.getElem?_eq_none (by rw [Array.size_setIfInBounds]; omega), Array.getElem?_eq_none (by omega)]
        · rw [getD_put (Ne.symm hjd), if_neg (fun h => hj ⟨by rcases List.mem_cons.1 h.1 with e | e; exact absurd e hjd; exact e, h.2⟩)]
  obtain ⟨h1, h2⟩ := key D t0 hsz
  apply Array.ext
  · rw [h1, hsz]
  · intro j hj hj2
    have h3 := h2 j
    have e1 : t1.getD j undef = t1[j] := by rw [Array.getD_eq_getD_getElem?, Array.getElem?_eq_getElem hj]; rfl
    have e2 : (D.foldl (fun t d => t.setIfInBounds d (t1.getD d undef)) t0).getD j undef = (D.foldl (fun t d => t.setIfInBounds d (t1.getD d undef)) t0)[j] := by rw [Array.getD_eq_getD_getElem?, Array.getElem?_eq_getElem hj2]; rfl
    rw [← e1, ← e2, h3]
    clear e1 e2 h3
    by_cases hn : j ∈ D ∧ j < t0.size
    · rw [if_pos hn]
    · rw [if_neg hn]
      by_cases hjD : j ∈ D
      · exact absurd ⟨hjD, by omega⟩ hn
      · rw [h j hjD]
theorem region_frame {J : Array Bool → Act → World → Prop} {Rl : World → World → Prop} {P : Program} {ops : List Oper} {Q : Exit → Act → World → Prop} {a0 : Act} {w0 : World} {id : Nat} (D : List Nat) (hm : P.follows .mixedOrders = true) (hRd : ∀ w : World, Rl w w.drew) (hRt : ∀ a b c : World, Rl a b → Rl b c → Rl a c) (shs : List Sh)
    (hJ0 : J (Array.replicate ops.toArray.size false) a0 w0.drew) (hmono : ∀ i v w w', Rl w w' → shF shs i v w → shF shs i v w') (hD : ops.filterMap (·.dst) = D) (hok : regionOk ops.toArray a0.tmps.size = true) (hstep : AllJ J Rl P ops.toArray Q (shF shs) a0 w0 0 ops)
    (hend : ∀ (xs : Nat → Value) listed a w, (∀ i, i < ops.toArray.size → listed.getD i false = true) → (∀ d, a.tmps.getD d undef = xs d) → J listed a w → Rl w0 w → (∀ (i : Nat) o, ops.toArray[i]? = some o → ∃ v, shF shs i v w ∧ ∀ d, o.dst = some d → xs d = v) → Q .normal ⟨D.foldl (fun t d => t.setIfInBounds d (xs d)) a0.tmps, a0.defers⟩ w) :
    (Code.region id ops.toArray true).wp P Q a0 w0 :=
  wp_region_told hJ0 hRd hRt hm (shF shs) hmono hok (fun i o ho => by
    have := AllJ.at hstep i o (by simpa using ho)
    rwa [Nat.zero_add] at this) (fun listed a w hall hJ hR hdf hsz hsm ht => by
    have hf := frame_of (D := D) hsz fun d hd => hsm d fun i o ho e => hd (by
      rw [← hD, List.mem_filterMap]
      exact ⟨o, by have := Array.mem_of_getElem? ho; simpa using this, e⟩)
    have ha : a = ⟨D.foldl (fun t d => t.setIfInBounds d (a.tmps.getD d undef)) a0.tmps, a0.defers⟩ := by
      rw [← hf, ← hdf]
    have := hend (fun d => a.tmps.getD d undef) listed a w hall (fun _ => rfl) hJ hR ht
    rw [← ha] at this
    exact this)
end Go.Proofs.YtkkdpafkafjfgaaDoor.RR
