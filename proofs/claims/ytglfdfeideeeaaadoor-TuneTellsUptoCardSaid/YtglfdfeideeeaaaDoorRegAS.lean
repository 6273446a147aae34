/- Regions in which one operation comes last. Over any program. -/
import Derived.Test.YtglfdfeideeeaaaDoorRegAT
namespace Go.Proofs.YtglfdfeideeeaaaDoor
open Go.RowKit RR
set_option linter.unusedVariables false
structure StJ (wb : World) (Fin : World → Prop) (mk : List Nat) (is : Nat) (listed : Array Bool) (a : Act) (w : World) : Prop where
  ab : listed.getD is false = true → ∀ j ∈ mk, listed.getD j false = true
  p0 : listed.getD is false = false → Grew wb w
  p1 : listed.getD is false = true → Fin w
def NoRl (g : Nat) (w w' : World) : Prop := w.heap.size ≤ w'.heap.size ∧ ∀ p : Addr, p.block < w.heap.size → p.block ≠ g → w'.cell? p = w.cell? p
theorem NoRl.refl (g : Nat) (w : World) : NoRl g w w := ⟨Nat.le_refl _, fun _ _ _ => rfl⟩
theorem NoRl.drew (g : Nat) (w : World) : NoRl g w w.drew := ⟨Nat.le_refl _, fun _ _ _ => rfl⟩
theorem NoRl.trans {g : Nat} (a b c : World) (h : NoRl g a b) (k : NoRl g b c) : NoRl g a c :=
  ⟨Nat.le_trans h.1 k.1, fun p h1 h2 => (k.2 p (Nat.lt_of_lt_of_le h1 h.1) h2).trans (h.2 p h1 h2)⟩
theorem NoRl.of_grew {g : Nat} {w w' : World} (k : Grew w w') : NoRl g w w' := ⟨k.size, fun p h1 _ => World.cell?_of_block (k.block _ h1)⟩
theorem NoRl.of_grown {g : Nat} {w w' : World} (k : w.grownBy w' (some g)) : NoRl g w w' := ⟨k.size, fun p h1 h2 => World.cell?_of_block (k.block _ h1 (fun e => h2 (by cases e; rfl)))⟩
section
variable {P : Program} {wb w0 : World} {g : Nat} {Fin : World → Prop} {mk : List Nat} {is : Nat} {ops : Array Oper} {Q : Exit → Act → World → Prop} {shs : List Sh} {a0 : Act} {A : Array Edge} {i : Nat} {d : Option Tmp} {op : Op} {ty : TypeId} {pos : String} {G : Option (Nat × Bool)}
theorem StJ.ahead {listed : Array Bool} {a : Act} {w : World} (h : StJ wb Fin mk is listed a w) (hi : i ∈ mk) (hl : listed.getD i false = false) : listed.getD is false = false := by
  cases k : listed.getD is false with
  | false => rfl
  | true => rw [h.ab k i hi] at hl; cases hl
theorem StJ.step {listed : Array Bool} {a : Act} {w w' : World} (h : StJ wb Fin mk is listed a w) (hi : i ∈ mk) (his : i ≠ is) (hl : listed.getD i false = false) (k : Grew w w') (v : Value) : StJ wb Fin mk is (listed.setIfInBounds i true) (a.put d v) w' := by
  have hsf := h.ahead hi hl
  have es : (listed.setIfInBounds i true).getD is false = false := by rw [lset_ne his]; exact hsf
  exact ⟨fun k => (by rw [es] at k; cases k), fun _ => (h.p0 hsf).trans k, fun k => (by rw [es] at k; cases k)⟩
theorem hj_do (hi : i ∈ mk) (his : i ≠ is)
    (hr : ∀ a w, Grew wb w → RR.Env (NoRl g) ops shs a0 w0 A a w → ∃ z w', (execOp a.eval ⟨d, op, ty, pos, A, G⟩).run P w = .ok (.value z) w' ∧ Grew w w' ∧ shF shs i z w')
    (hg : guardIs ops shs A G = some true) : StepJ (StJ wb Fin mk is) (NoRl g) P ops Q (shF shs) a0 w0 i ⟨d, op, ty, pos, A, G⟩ := by
  intro listed a w hls hlf hdep hsz hJ hw hsm hdp K hK
  have E : RR.Env (NoRl g) ops shs a0 w0 A a w := ⟨hw, hsm, hdp⟩
  rw [if_pos (E.guard hg)]
  obtain ⟨z, w', hrun, hgr, hsh⟩ := hr a w (hJ.p0 (hJ.ahead hi hlf)) E
  unfold Oper.wp
  rw [hrun]
  exact hK z w' (NoRl.of_grew hgr) hsh (hJ.step hi his hlf hgr z)
theorem hj_pure {z : Value} (hi : i ∈ mk) (his : i ≠ is)
    (hr : ∀ a w, Grew wb w → RR.Env (NoRl g) ops shs a0 w0 A a w → (execOp a.eval ⟨d, op, ty, pos, A, G⟩).run P w = .ok (.value z) w)
    (hg : guardIs ops shs A G = some true) (hs : shs.getD i (.fact fun _ _ => True) = .val z) : StepJ (StJ wb Fin mk is) (NoRl g) P ops Q (shF shs) a0 w0 i ⟨d, op, ty, pos, A, G⟩ :=
  hj_do hi his (fun a w h E => ⟨z, w, hr a w h E, Grew.refl _, by unfold shF; rw [hs]; rfl⟩) hg
theorem hj_move {z : Value} (hi : i ∈ mk) (his : i ≠ is) {x : Operand} (hg : guardIs ops shs A G = some true) (hx : opSh ops shs A a0 x = .val z) (hs : shs.getD i (.fact fun _ _ => True) = .val z) :
    StepJ (StJ wb Fin mk is) (NoRl g) P ops Q (shF shs) a0 w0 i ⟨d, .move x, ty, pos, A, G⟩ :=
  hj_pure hi his (fun a w _ E => by
    have hv : a.eval x = z := E.opv hx
    unfold execOp
    simp [hv]) hg hs
theorem hj_field {t : TypeId} {k : Nat} {p r : Addr} (hf : ∀ w, (Instr.fieldAt t (.pointer (some p)) k).run P w = .ok (.pointer (some r)) w) (hi : i ∈ mk) (his : i ≠ is) {x : Operand} (hg : guardIs ops shs A G = some true) (hx : opSh ops shs A a0 x = .val (.pointer (some p))) (hs : shs.getD i (.fact fun _ _ => True) = .val (.pointer (some r))) :
    StepJ (StJ wb Fin mk is) (NoRl g) P ops Q (shF shs) a0 w0 i ⟨d, .fieldAddr t x k, ty, pos, A, G⟩ :=
  hj_pure hi his (fun a w _ E => by
    have hv : a.eval x = .pointer (some p) := E.opv hx
    unfold execOp
    simp [hv, hf w]) hg hs
theorem hj_load {t : TypeId} {p : Addr} {z : Value} (hrun : ∀ w, Grew wb w → (Instr.loadAt t (.pointer (some p))).run P w = .ok z w) (hi : i ∈ mk) (his : i ≠ is) {x : Operand}
    (hg : guardIs ops shs A G = some true) (hx : opSh ops shs A a0 x = .val (.pointer (some p))) (hs : shs.getD i (.fact fun _ _ => True) = .val z) :
    StepJ (StJ wb Fin mk is) (NoRl g) P ops Q (shF shs) a0 w0 i ⟨d, .load t x, ty, pos, A, G⟩ :=
  hj_pure hi his (fun a w h E => by
    have hv : a.eval x = .pointer (some p) := E.opv hx
    unfold execOp
    simp [hv, hrun w h]) hg hs
theorem hj_load1 {t : TypeId} {p : Addr} {z : Value} (hagg : ∀ w, (isAgg t).run P w = .ok false w) (hc : wb.cell? p = some z) (hi : i ∈ mk) (his : i ≠ is) {x : Operand}
    (hg : guardIs ops shs A G = some true) (hx : opSh ops shs A a0 x = .val (.pointer (some p))) (hs : shs.getD i (.fact fun _ _ => True) = .val z) :
    StepJ (StJ wb Fin mk is) (NoRl g) P ops Q (shF shs) a0 w0 i ⟨d, .load t x, ty, pos, A, G⟩ :=
  hj_load (fun w h => by
    have hc2 : w.cell? p = some z := h.keeps hc
    simp [Instr.loadAt, Instr.sureAddr, loadVar, Sem.run_bind, hagg w, hc2]) hi his hg hx hs
theorem hj_index {t : TypeId} {u v z : Value} (hrun : ∀ w, (Instr.indexAt t u v).run P w = .ok z w) (hi : i ∈ mk) (his : i ≠ is) {x y : Operand}
    (hg : guardIs ops shs A G = some true) (hx : opSh ops shs A a0 x = .val u) (hy : opSh ops shs A a0 y = .val v) (hs : shs.getD i (.fact fun _ _ => True) = .val z) :
    StepJ (StJ wb Fin mk is) (NoRl g) P ops Q (shF shs) a0 w0 i ⟨d, .indexAddr t x y, ty, pos, A, G⟩ :=
  hj_pure hi his (fun a w _ E => by
    have hv : a.eval x = u := E.opv hx
    have hw : a.eval y = v := E.opv hy
    unfold execOp
    simp [hv, hw, hrun w]) hg hs
theorem hj_call1 {f : FuncId} {x : Operand} {ats : Array TypeId} (hf : isGo P f = true) (hi : i ∈ mk) (his : i ≠ is)
    (hc : ∀ a w, Grew wb w → RR.Env (NoRl g) ops shs a0 w0 A a w → Calls P f #[a.eval x] w fun e w' => ∃ z, e = .returned z ∧ Grew w w' ∧ shF shs i z w')
    (hg : guardIs ops shs A G = some true) : StepJ (StJ wb Fin mk is) (NoRl g) P ops Q (shF shs) a0 w0 i ⟨d, .call { callee := .value (.func f), args := #[x], argTypes := ats }, ty, pos, A, G⟩ := by
  intro listed a w hls hlf hdep hsz hJ hw hsm hdp K hK
  have E : RR.Env (NoRl g) ops shs a0 w0 A a w := ⟨hw, hsm, hdp⟩
  rw [if_pos (E.guard hg)]
  unfold Oper.wp
  rw [execOp_call_go, run_go hf, Array.append_empty, Array.empty_append]
  have e : (#[x] : Array Operand).map a.eval = #[a.eval x] := by simp
  show Calls _ _ _ _ _
  rw [e]
  refine (hc a w (hJ.p0 (hJ.ahead hi hlf)) E).mono fun e w' ⟨z, he, hgr, hsh⟩ => ?_
  subst he
  exact hK z w' (NoRl.of_grew hgr) hsh (hJ.step hi his hlf hgr z)
theorem hj_store {t : TypeId} {x y : Operand} (hdm : ∀ j ∈ mk, onDep A j = true) (hisz : is < ops.size)
    (hr : ∀ a w, Grew wb w → RR.Env (NoRl g) ops shs a0 w0 A a w → ∃ w', (Instr.storeAt t (a.eval x) (a.eval y)).run P w = .ok () w' ∧ NoRl g w w' ∧ Fin w')
    (hmk : is ∉ mk) (hg : guardIs ops shs A G = some true) (hs : shs.getD is (.fact fun _ _ => True) = .fact fun _ _ => True) :
    StepJ (StJ wb Fin mk is) (NoRl g) P ops Q (shF shs) a0 w0 is ⟨none, .store t x y, ty, pos, A, G⟩ := by
  intro listed a w hls hlf hdep hsz hJ hw hsm hdp K hK
  have E : RR.Env (NoRl g) ops shs a0 w0 A a w := ⟨hw, hsm, hdp⟩
  rw [if_pos (E.guard hg)]
  obtain ⟨w', hrun, hrl, hfin⟩ := hr a w (hJ.p0 hlf) E
  have es : (listed.setIfInBounds is true).getD is false = true := lset_here (by rw [hls]; exact hisz)
  have := hK undef w' hrl (by unfold shF; rw [hs]; trivial) ⟨fun _ j hj => lset_true (onDep_listed (hdm j hj) hdep), fun k => (by rw [es] at k; cases k), fun _ => hfin⟩
  unfold Oper.wp execOp
  simp only [hrun, Sem.run_bind, Sem.run_pure, Result.andThen_ok]
  exact this
theorem st_start {m : Nat} (a : Act) (w : World) : StJ w Fin mk is (Array.replicate m false) a w := by
  have hz : ∀ j, (Array.replicate m false).getD j false = false := fun j => by
    simp only [Array.getD_eq_getD_getElem?, Array.getElem?_replicate]
    split <;> rfl
  exact ⟨fun k => (by rw [hz] at k; cases k), fun _ => Grew.refl _, fun k => (by rw [hz] at k; cases k)⟩
theorem no_mono (hp : ∀ s ∈ shs, (∃ v, s = .val v) ∨ ∃ f, s = .fact f ∧ ∀ z w w', NoRl g w w' → f z w → f z w') : ∀ i z w w', NoRl g w w' → shF shs i z w → shF shs i z w' := by
  intro i z w w' g k
  unfold shF at k ⊢
  rcases Nat.lt_or_ge i shs.length with hi | hi
  · rw [List.getD_eq_getElem?_getD, List.getElem?_eq_getElem hi] at k ⊢
    rcases hp _ (List.getElem_mem hi) with ⟨u, e⟩ | ⟨f, e, hf⟩
    · rw [Option.getD_some, e] at k ⊢; exact k
    · rw [Option.getD_some, e] at k ⊢; exact hf z w w' g k
  · rw [List.getD_eq_getElem?_getD, List.getElem?_eq_none hi]; trivial
end
end Go.Proofs.YtglfdfeideeeaaaDoor
