/- Drawn regions that read, call what turns the world, and store what comes back. Over any program. -/
import Derived.Test.YtkkdpafkafjfgaaTwSlD
namespace Go.Proofs.Ytkkdpafkafjfgaa
open Go.RowKit RR
set_option linter.unusedVariables false
set_option linter.unusedSimpArgs false
structure LcJ (wb : World) (Post : Value → World → Prop) (E : List (Nat × Nat)) (ic is dst : Nat) (p : Addr) (listed : Array Bool) (a : Act) (w : World) : Prop where
  ch : ∀ x ∈ E, listed.getD x.1 false = true → listed.getD x.2 false = true
  os : listed.getD is false = true → listed.getD ic false = true
  p0 : listed.getD ic false = false → w = wb
  p1 : listed.getD ic false = true → listed.getD is false = false → Post (a.tmps.getD dst undef) w
  p2 : listed.getD is false = true → ∃ v w1, Post v w1 ∧ w = w1.setCell p v
def AnyRl (_ _ : World) : Prop := True
theorem any_mono {shs : List Sh} (h : ∀ s ∈ shs, (∃ v, s = .val v) ∨ s = .fact fun _ _ => True) : ∀ i v w w', AnyRl w w' → shF shs i v w → shF shs i v w' := by
  intro i v w w' _ hs
  unfold shF at hs ⊢
  rw [List.getD_eq_getElem?_getD] at hs ⊢
  cases hg : shs[i]? with
  | none => trivial
  | some s =>
    rw [hg] at hs
    rcases h s (List.mem_of_getElem? hg) with ⟨u, rfl⟩ | rfl
    · exact hs
    · trivial
section
variable {P : Program} {wb w0 : World} {Post : Value → World → Prop} {E : List (Nat × Nat)} {ic is dst : Nat} {p : Addr} {ops : Array Oper} {Q : Exit → Act → World → Prop} {shs : List Sh} {a0 : Act} {A : Array Edge} {i : Nat} {d : Option Tmp} {op : Op} {ty : TypeId} {pos : String} {G : Option (Nat × Bool)}
theorem lc_start {m : Nat} (a : Act) (w : World) : LcJ w Post E ic is dst p (Array.replicate m false) a w := by
  have hz : ∀ j, (Array.replicate m false).getD j false = false := fun j => by
    simp only [Array.getD_eq_getD_getElem?, Array.getElem?_replicate]
    split <;> rfl
  exact ⟨fun x _ k => (by rw [hz] at k; cases k), fun k => (by rw [hz] at k; cases k), fun _ => rfl, fun k => (by rw [hz] at k; cases k), fun k => (by rw [hz] at k; cases k)⟩
theorem ch_step {listed : Array Bool} (h : ∀ x ∈ E, listed.getD x.1 false = true → listed.getD x.2 false = true) (hE : ∀ x ∈ E, x.1 = i → onDep A x.2 = true) (hdep : ∀ e ∈ A, Region.binds .any e = true → listed.getD e.on false = true) : ∀ x ∈ E, (listed.setIfInBounds i true).getD x.1 false = true → (listed.setIfInBounds i true).getD x.2 false = true := fun x hx k => by
  by_cases e : x.1 = i
  · exact lset_true (onDep_listed (hE x hx e) hdep)
  · rw [lset_ne (Ne.symm e)] at k
    exact lset_true (h x hx k)
theorem LcJ.stay {listed : Array Bool} {a : Act} {w : World} (h : LcJ wb Post E ic is dst p listed a w) (hE : ∀ x ∈ E, x.1 = i → onDep A x.2 = true) (hdep : ∀ e ∈ A, Region.binds .any e = true → listed.getD e.on false = true) (hic : i ≠ ic) (his : i ≠ is) (hd : d ≠ some dst) (v : Value) : LcJ wb Post E ic is dst p (listed.setIfInBounds i true) (a.put d v) w := by
  have ea : (listed.setIfInBounds i true).getD ic false = listed.getD ic false := lset_ne hic
  have es : (listed.setIfInBounds i true).getD is false = listed.getD is false := lset_ne his
  have et : (a.put d v).tmps.getD dst undef = a.tmps.getD dst undef := by
    cases d with
    | none => rfl
    | some d0 => exact getD_put (fun e => hd (by rw [e]))
  exact ⟨ch_step h.ch hE hdep, fun k => (by rw [es] at k; rw [ea]; exact h.os k), fun k => h.p0 (by rwa [ea] at k), fun k1 k2 => (by rw [ea] at k1; rw [es] at k2; rw [et]; exact h.p1 k1 k2), fun k => h.p2 (by rwa [es] at k)⟩
theorem lj_pure {z : Value} (hE : ∀ x ∈ E, x.1 = i → onDep A x.2 = true) (hic : i ≠ ic) (his : i ≠ is) (hd : d ≠ some dst)
    (hr : ∀ a w, RR.Env AnyRl ops shs a0 w0 A a w → (execOp a.eval ⟨d, op, ty, pos, A, G⟩).run P w = .ok (.value z) w)
    (hg : guardIs ops shs A G = some true) (hs : shs.getD i (.fact fun _ _ => True) = .val z) : StepJ (LcJ wb Post E ic is dst p) AnyRl P ops Q (shF shs) a0 w0 i ⟨d, op, ty, pos, A, G⟩ := by
  intro listed a w hls hlf hdep hsz hJ hw hsm hdp K hK
  have EE : RR.Env AnyRl ops shs a0 w0 A a w := ⟨hw, hsm, hdp⟩
  rw [if_pos (EE.guard hg)]
  unfold Oper.wp
  rw [hr a w EE]
  exact hK z w trivial (by unfold shF; rw [hs]; rfl) (hJ.stay hE hdep hic his hd z)
theorem lj_move {z : Value} (hE : ∀ x ∈ E, x.1 = i → onDep A x.2 = true) (hic : i ≠ ic) (his : i ≠ is) (hd : d ≠ some dst) {x : Operand} (hg : guardIs ops shs A G = some true) (hx : opSh ops shs A a0 x = .val z) (hs : shs.getD i (.fact fun _ _ => True) = .val z) :
    StepJ (LcJ wb Post E ic is dst p) AnyRl P ops Q (shF shs) a0 w0 i ⟨d, .move x, ty, pos, A, G⟩ :=
  lj_pure hE hic his hd (fun a w EE => by
    have hv : a.eval x = z := EE.opv hx
    unfold execOp
    simp [hv]) hg hs
theorem lj_field {t : TypeId} {k : Nat} {u r : Addr} (hf : ∀ w, (Instr.fieldAt t (.pointer (some u)) k).run P w = .ok (.pointer (some r)) w) (hE : ∀ x ∈ E, x.1 = i → onDep A x.2 = true) (hic : i ≠ ic) (his : i ≠ is) (hd : d ≠ some dst) {x : Operand} (hg : guardIs ops shs A G = some true) (hx : opSh ops shs A a0 x = .val (.pointer (some u))) (hs : shs.getD i (.fact fun _ _ => True) = .val (.pointer (some r))) :
    StepJ (LcJ wb Post E ic is dst p) AnyRl P ops Q (shF shs) a0 w0 i ⟨d, .fieldAddr t x k, ty, pos, A, G⟩ :=
  lj_pure hE hic his hd (fun a w EE => by
    have hv : a.eval x = .pointer (some u) := EE.opv hx
    unfold execOp
    simp [hv, hf w]) hg hs
theorem lj_index {t : TypeId} {u v z : Value} (hrun : ∀ w, (Instr.indexAt t u v).run P w = .ok z w) (hE : ∀ x ∈ E, x.1 = i → onDep A x.2 = true) (hic : i ≠ ic) (his : i ≠ is) (hd : d ≠ some dst) {x y : Operand}
    (hg : guardIs ops shs A G = some true) (hx : opSh ops shs A a0 x = .val u) (hy : opSh ops shs A a0 y = .val v) (hs : shs.getD i (.fact fun _ _ => True) = .val z) :
    StepJ (LcJ wb Post E ic is dst p) AnyRl P ops Q (shF shs) a0 w0 i ⟨d, .indexAddr t x y, ty, pos, A, G⟩ :=
  lj_pure hE hic his hd (fun a w EE => by
    have hv : a.eval x = u := EE.opv hx
    have hw : a.eval y = v := EE.opv hy
    unfold execOp
    simp [hv, hw, hrun w]) hg hs
theorem lj_load {t : TypeId} {u : Addr} {z : Value} (hrun : (Instr.loadAt t (.pointer (some u))).run P wb = .ok z wb) (hreach : ∀ l : Nat → Bool, (∀ x ∈ E, l x.1 = true → l x.2 = true) → l ic = true → l i = true) (hE : ∀ x ∈ E, x.1 = i → onDep A x.2 = true) (hic : i ≠ ic) (his : i ≠ is) (hd : d ≠ some dst) {x : Operand}
    (hg : guardIs ops shs A G = some true) (hx : opSh ops shs A a0 x = .val (.pointer (some u))) (hs : shs.getD i (.fact fun _ _ => True) = .val z) :
    StepJ (LcJ wb Post E ic is dst p) AnyRl P ops Q (shF shs) a0 w0 i ⟨d, .load t x, ty, pos, A, G⟩ := by
  intro listed a w hls hlf hdep hsz hJ hw hsm hdp K hK
  have EE : RR.Env AnyRl ops shs a0 w0 A a w := ⟨hw, hsm, hdp⟩
  rw [if_pos (EE.guard hg)]
  have hlc : listed.getD ic false = false := by
    cases k : listed.getD ic false with
    | false => rfl
    | true => rw [hreach (fun j => listed.getD j false) hJ.ch k] at hlf; cases hlf
  have hww := hJ.p0 hlc
  have hv : a.eval x = .pointer (some u) := EE.opv hx
  have := hK z w trivial (by unfold shF; rw [hs]; rfl) (hJ.stay hE hdep hic his hd z)
  unfold Oper.wp execOp
  rw [hww] at this ⊢
  simpa [hv, hrun, Oper.upon] using this
theorem lj_callv {f x : Operand} {g : FuncId} {lb : Array Value} {u : Value} {ats : Array TypeId} (hf : isGo P g = true) (hc : Calls P g (#[u] ++ lb) wb fun e w' => ∃ v, e = .returned v ∧ Post v w') (hE : ∀ x ∈ E, x.1 = ic → onDep A x.2 = true) (hne : ic ≠ is) (hdl : dst < a0.tmps.size) (hil : ic < ops.size)
    (hg : guardIs ops shs A G = some true) (hfx : opSh ops shs A a0 f = .val (.func (.func g) #[] lb)) (hx : opSh ops shs A a0 x = .val u) (hs : shs.getD ic (.fact fun _ _ => True) = .fact fun _ _ => True) :
    StepJ (LcJ wb Post E ic is dst p) AnyRl P ops Q (shF shs) a0 w0 ic ⟨some dst, .call { callee := .value f, args := #[x], argTypes := ats }, ty, pos, A, G⟩ := by
  intro listed a w hls hlf hdep hsz hJ hw hsm hdp K hK
  have EE : RR.Env AnyRl ops shs a0 w0 A a w := ⟨hw, hsm, hdp⟩
  rw [if_pos (EE.guard hg)]
  have hww := hJ.p0 hlf
  subst hww
  have hfv : a.eval f = .func (.func g) #[] lb := EE.opv hfx
  have h1 : a.eval x = u := EE.opv hx
  have hsf : listed.getD is false = false := by
    cases k : listed.getD is false with
    | false => rfl
    | true => rw [hJ.os k] at hlf; cases hlf
  have es : (listed.setIfInBounds ic true).getD is false = false := by rw [lset_ne hne]; exact hsf
  have ec : (listed.setIfInBounds ic true).getD ic false = true := lset_here (by rw [hls]; exact hil)
  unfold Oper.wp
  rw [execOp_call_val a hfv, run_go hf]
  have e : (#[x] : Array Operand).map a.eval = #[u] := by simp [h1]
  show Calls _ _ _ _ _
  rw [e]
  refine hc.mono fun e w' ⟨v, he, hp⟩ => ?_
  subst he
  exact hK v w' trivial (by unfold shF; rw [hs]; trivial) ⟨ch_step hJ.ch hE hdep, fun k => (by rw [es] at k; cases k), fun k => (by rw [ec] at k; cases k), fun _ _ => by
    have : (a.put (some dst) v).tmps.getD dst undef = v := getD_put_same (by rw [hsz]; exact hdl)
    rw [this]; exact hp, fun k => (by rw [es] at k; cases k)⟩
theorem lj_store {t : TypeId} {x y : Operand} (hE : ∀ x ∈ E, x.1 = is → onDep A x.2 = true) (hdc : onDep A ic = true) (hil : is < ops.size) (hne : ic ≠ is) (hst : ∀ v w, Post v w → (Instr.storeAt t (.pointer (some p)) v).run P w = .ok () (w.setCell p v)) (hy : ∀ a : Act, a.eval y = a.tmps.getD dst undef)
    (hg : guardIs ops shs A G = some true) (hx : opSh ops shs A a0 x = .val (.pointer (some p))) (hs : shs.getD is (.fact fun _ _ => True) = .fact fun _ _ => True) :
    StepJ (LcJ wb Post E ic is dst p) AnyRl P ops Q (shF shs) a0 w0 is ⟨none, .store t x y, ty, pos, A, G⟩ := by
  intro listed a w hls hlf hdep hsz hJ hw hsm hdp K hK
  have EE : RR.Env AnyRl ops shs a0 w0 A a w := ⟨hw, hsm, hdp⟩
  rw [if_pos (EE.guard hg)]
  have hlc := onDep_listed hdc hdep
  have hp := hJ.p1 hlc hlf
  have hv : a.eval x = .pointer (some p) := EE.opv hx
  have es : (listed.setIfInBounds is true).getD is false = true := lset_here (by rw [hls]; exact hil)
  have ec : (listed.setIfInBounds is true).getD ic false = true := lset_true hlc
  have := hK undef _ trivial (by unfold shF; rw [hs]; trivial) ⟨ch_step hJ.ch hE hdep, fun _ => ec, fun k => (by rw [ec] at k; cases k), fun _ k => (by rw [es] at k; cases k), fun _ => ⟨_, _, hp, rfl⟩⟩
  unfold Oper.wp execOp
  simp only [hv, hy a, hst _ _ hp, Sem.run_bind, Sem.run_pure, Result.andThen_ok]
  exact this
end
end Go.Proofs.Ytkkdpafkafjfgaa
