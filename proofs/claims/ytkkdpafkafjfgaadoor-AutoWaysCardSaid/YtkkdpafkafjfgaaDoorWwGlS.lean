/- A region of two calls, one behind the other, that turn an object, and a store: what each operation leaves; what build answers. -/
import Derived.Test.YtkkdpafkafjfgaaDoorWwGlO
import Derived.Test.YtkkdpafkafjfgaaDoorWwPAuY
import Derived.Test.YtkkdpafkafjfgaaDoorWwPLwDoor
namespace Go.Proofs.YtkkdpafkafjfgaaDoor
open Go.RowKit RR
set_option linter.unusedVariables false
set_option linter.unusedSimpArgs false
structure SqJ (P0 P1 P2 P3 : World → Prop) (mk : List Nat) (k1 k2 k3 : Nat) (listed : Array Bool) (a : Act) (w : World) : Prop where
  ab : listed.getD k3 false = true → ∀ j ∈ mk, listed.getD j false = true
  ba : listed.getD k2 false = true → listed.getD k1 false = true
  p0 : listed.getD k1 false = false → P0 w
  p1 : listed.getD k1 false = true → listed.getD k2 false = false → P1 w
  p2 : listed.getD k2 false = true → listed.getD k3 false = false → P2 w
  p3 : listed.getD k3 false = true → P3 w
def AnyRl (w w' : World) : Prop := True
section
variable {P0 P1 P2 P3 : World → Prop} {mk : List Nat} {k1 k2 k3 : Nat} {P : Program} {w0 : World} {ops : Array Oper} {Q : Exit → Act → World → Prop} {shs : List Sh} {a0 : Act} {A : Array Edge} {i : Nat} {d : Option Tmp} {op : Op} {ty : TypeId} {pos : String} {G : Option (Nat × Bool)}
theorem SqJ.now {listed : Array Bool} {a : Act} {w : World} (h : SqJ P0 P1 P2 P3 mk k1 k2 k3 listed a w) (hi : i ∈ mk) (hl : listed.getD i false = false) : listed.getD k3 false = false ∧ (P0 w ∨ P1 w ∨ P2 w) := by
  have h3 : listed.getD k3 false = false := by
    cases e : listed.getD k3 false with
    | false => rfl
    | true => rw [h.ab e i hi] at hl; cases hl
  refine ⟨h3, ?_⟩
  cases e1 : listed.getD k1 false with
  | false => exact Or.inl (h.p0 e1)
  | true =>
    cases e2 : listed.getD k2 false with
    | false => exact Or.inr (Or.inl (h.p1 e1 e2))
    | true => exact Or.inr (Or.inr (h.p2 e2 h3))
theorem sq_pure {z : Value} (hi : i ∈ mk) (hk : i ≠ k1 ∧ i ≠ k2 ∧ i ≠ k3)
    (hr : ∀ a w, (P0 w ∨ P1 w ∨ P2 w) → RR.Env AnyRl ops shs a0 w0 A a w → (execOp a.eval ⟨d, op, ty, pos, A, G⟩).run P w = .ok (.value z) w)
    (hg : guardIs ops shs A G = some true) (hs : shs.getD i (.fact fun _ _ => True) = .val z) : StepJ (SqJ P0 P1 P2 P3 mk k1 k2 k3) AnyRl P ops Q (shF shs) a0 w0 i ⟨d, op, ty, pos, A, G⟩ := by
  intro listed a w hls hlf hdep hsz hJ hw hsm hdp K hK
  have E : RR.Env AnyRl ops shs a0 w0 A a w := ⟨hw, hsm, hdp⟩
  rw [if_pos (E.guard hg)]
  have hn := hJ.now hi hlf
  unfold Oper.wp
  rw [hr a w hn.2 E]
  have e1 : (listed.setIfInBounds i true).getD k1 false = listed.getD k1 false := lset_ne hk.1
  have e2 : (listed.setIfInBounds i true).getD k2 false = listed.getD k2 false := lset_ne hk.2.1
  have e3 : (listed.setIfInBounds i true).getD k3 false = listed.getD k3 false := lset_ne hk.2.2
  refine hK z w trivial (by unfold shF; rw [hs]; rfl) ⟨fun k j hj => lset_true (hJ.ab (by rwa [e3] at k) j hj), fun k => ?_, fun k => ?_, fun k l => ?_, fun k l => ?_, fun k => ?_⟩
  · rw [e2] at k; rw [e1]; exact hJ.ba k
  · rw [e1] at k; exact hJ.p0 k
  · rw [e1] at k; rw [e2] at l; exact hJ.p1 k l
  · rw [e2] at k; rw [e3] at l; exact hJ.p2 k l
  · rw [e3] at k; exact hJ.p3 k
theorem sq_move {z : Value} (hi : i ∈ mk) (hk : i ≠ k1 ∧ i ≠ k2 ∧ i ≠ k3) {x : Operand} (hg : guardIs ops shs A G = some true) (hx : opSh ops shs A a0 x = .val z) (hs : shs.getD i (.fact fun _ _ => True) = .val z) :
    StepJ (SqJ P0 P1 P2 P3 mk k1 k2 k3) AnyRl P ops Q (shF shs) a0 w0 i ⟨d, .move x, ty, pos, A, G⟩ :=
  sq_pure hi hk (fun a w _ E => by
    have hv : a.eval x = z := E.opv hx
    unfold execOp
    simp [hv]) hg hs
theorem sq_load {t : TypeId} {p : Addr} {z : Value} (hrun : ∀ w, (P0 w ∨ P1 w ∨ P2 w) → (Instr.loadAt t (.pointer (some p))).run P w = .ok z w) (hi : i ∈ mk) (hk : i ≠ k1 ∧ i ≠ k2 ∧ i ≠ k3) {x : Operand}
    (hg : guardIs ops shs A G = some true) (hx : opSh ops shs A a0 x = .val (.pointer (some p))) (hs : shs.getD i (.fact fun _ _ => True) = .val z) :
    StepJ (SqJ P0 P1 P2 P3 mk k1 k2 k3) AnyRl P ops Q (shF shs) a0 w0 i ⟨d, .load t x, ty, pos, A, G⟩ :=
  sq_pure hi hk (fun a w h E => by
    have hv : a.eval x = .pointer (some p) := E.opv hx
    unfold execOp
    simp [hv, hrun w h]) hg hs
theorem sq_first {f : FuncId} {x y : Operand} {u1 u2 v : Value} {ats : Array TypeId} (hf : isGo P f = true) (hi : k1 ∈ mk) (h12 : k1 ≠ k2) (h13 : k1 ≠ k3) (hsz1 : k1 < ops.size)
    (hc : ∀ w, P0 w → Calls P f #[u1, u2] w fun e w' => e = .returned v ∧ P1 w')
    (hg : guardIs ops shs A G = some true) (hx : opSh ops shs A a0 x = .val u1) (hy : opSh ops shs A a0 y = .val u2) (hs : shs.getD k1 (.fact fun _ _ => True) = .val v) :
    StepJ (SqJ P0 P1 P2 P3 mk k1 k2 k3) AnyRl P ops Q (shF shs) a0 w0 k1 ⟨d, .call { callee := .value (.func f), args := #[x, y], argTypes := ats }, ty, pos, A, G⟩ := by
  intro listed a w hls hlf hdep hsz hJ hw hsm hdp K hK
  have E : RR.Env AnyRl ops shs a0 w0 A a w := ⟨hw, hsm, hdp⟩
  rw [if_pos (E.guard hg)]
  have hn := hJ.now hi hlf
  have h2 : listed.getD k2 false = false := by
    cases e : listed.getD k2 false with
    | false => rfl
    | true => rw [hJ.ba e] at hlf; cases hlf
  unfold Oper.wp
  rw [execOp_call_go, run_go hf, Array.append_empty, Array.empty_append]
  have e : (#[x, y] : Array Operand).map a.eval = #[u1, u2] := by
    have h1 : a.eval x = u1 := E.opv hx
    have h2 : a.eval y = u2 := E.opv hy
    simp [h1, h2]
  show Calls _ _ _ _ _
  rw [e]
  refine (hc w (hJ.p0 hlf)).mono fun e w' ⟨he, hp⟩ => ?_
  subst he
  have e1 : (listed.setIfInBounds k1 true).getD k1 false = true := lset_here (by rw [hls]; exact hsz1)
  have e2 : (listed.setIfInBounds k1 true).getD k2 false = false := by rw [lset_ne h12]; exact h2
  have e3 : (listed.setIfInBounds k1 true).getD k3 false = false := by rw [lset_ne h13]; exact hn.1
  exact hK v w' trivial (by unfold shF; rw [hs]; rfl) ⟨fun k => (by rw [e3] at k; cases k), fun k => (by rw [e2] at k; cases k), fun k => (by rw [e1] at k; cases k), fun _ _ => hp, fun k => (by rw [e2] at k; cases k), fun k => (by rw [e3] at k; cases k)⟩
theorem sq_second {f : FuncId} {x y z : Operand} {u1 u2 u3 v : Value} {ats : Array TypeId} (hf : isGo P f = true) (hi : k2 ∈ mk) (h12 : k1 ≠ k2) (h23 : k2 ≠ k3) (hsz1 : k2 < ops.size) (hd : onDep A k1 = true)
    (hc : ∀ w, P1 w → Calls P f #[u1, u2, u3] w fun e w' => e = .returned v ∧ P2 w')
    (hg : guardIs ops shs A G = some true) (hx : opSh ops shs A a0 x = .val u1) (hy : opSh ops shs A a0 y = .val u2) (hz : opSh ops shs A a0 z = .val u3) (hs : shs.getD k2 (.fact fun _ _ => True) = .val v) :
    StepJ (SqJ P0 P1 P2 P3 mk k1 k2 k3) AnyRl P ops Q (shF shs) a0 w0 k2 ⟨d, .call { callee := .value (.func f), args := #[x, y, z], argTypes := ats }, ty, pos, A, G⟩ := by
  intro listed a w hls hlf hdep hsz hJ hw hsm hdp K hK
  have E : RR.Env AnyRl ops shs a0 w0 A a w := ⟨hw, hsm, hdp⟩
  rw [if_pos (E.guard hg)]
  have hn := hJ.now hi hlf
  have h1 := onDep_listed hd hdep
  unfold Oper.wp
  rw [execOp_call_go, run_go hf, Array.append_empty, Array.empty_append]
  have e : (#[x, y, z] : Array Operand).map a.eval = #[u1, u2, u3] := by
    have h1 : a.eval x = u1 := E.opv hx
    have h2 : a.eval y = u2 := E.opv hy
    have h3 : a.eval z = u3 := E.opv hz
    simp [h1, h2, h3]
  show Calls _ _ _ _ _
  rw [e]
  refine (hc w (hJ.p1 h1 hlf)).mono fun e w' ⟨he, hp⟩ => ?_
  subst he
  have e1 : (listed.setIfInBounds k2 true).getD k1 false = true := lset_true h1
  have e2 : (listed.setIfInBounds k2 true).getD k2 false = true := lset_here (by rw [hls]; exact hsz1)
  have e3 : (listed.setIfInBounds k2 true).getD k3 false = false := by rw [lset_ne h23]; exact hn.1
  exact hK v w' trivial (by unfold shF; rw [hs]; rfl) ⟨fun k => (by rw [e3] at k; cases k), fun _ => e1, fun k => (by rw [e1] at k; cases k), fun _ k => (by rw [e2] at k; cases k), fun _ _ => hp, fun k => (by rw [e3] at k; cases k)⟩
theorem sq_store {t : TypeId} {x y : Operand} {u v : Value} (hk2 : k2 ∈ mk) (hdm : ∀ j ∈ mk, onDep A j = true) (hisz : k3 < ops.size) (h3 : k3 ∉ mk)
    (hr : ∀ w, P2 w → ∃ w', (Instr.storeAt t u v).run P w = .ok () w' ∧ P3 w') (hk1 : k1 ∈ mk)
    (hg : guardIs ops shs A G = some true) (hx : opSh ops shs A a0 x = .val u) (hy : opSh ops shs A a0 y = .val v) (hs : shs.getD k3 (.fact fun _ _ => True) = .fact fun _ _ => True) :
    StepJ (SqJ P0 P1 P2 P3 mk k1 k2 k3) AnyRl P ops Q (shF shs) a0 w0 k3 ⟨none, .store t x y, ty, pos, A, G⟩ := by
  intro listed a w hls hlf hdep hsz hJ hw hsm hdp K hK
  have E : RR.Env AnyRl ops shs a0 w0 A a w := ⟨hw, hsm, hdp⟩
  rw [if_pos (E.guard hg)]
  have hl2 := onDep_listed (hdm k2 hk2) hdep
  have hl1 := onDep_listed (hdm k1 hk1) hdep
  obtain ⟨w', hrun, hfin⟩ := hr w (hJ.p2 hl2 hlf)
  have hxv : a.eval x = u := E.opv hx
  have hyv : a.eval y = v := E.opv hy
  have es : (listed.setIfInBounds k3 true).getD k3 false = true := lset_here (by rw [hls]; exact hisz)
  have e1 : (listed.setIfInBounds k3 true).getD k1 false = true := lset_true hl1
  have e2 : (listed.setIfInBounds k3 true).getD k2 false = true := lset_true hl2
  have := hK undef w' trivial (by unfold shF; rw [hs]; trivial) ⟨fun _ j hj => lset_true (onDep_listed (hdm j hj) hdep), fun _ => e1, fun k => (by rw [e1] at k; cases k), fun _ k => (by rw [e2] at k; cases k), fun _ k => (by rw [es] at k; cases k), fun _ => hfin⟩
  unfold Oper.wp execOp
  simp only [hxv, hyv, hrun, Sem.run_bind, Sem.run_pure, Result.andThen_ok]
  exact this
theorem sq_start {m : Nat} (a : Act) (w : World) (h : P0 w) : SqJ P0 P1 P2 P3 mk k1 k2 k3 (Array.replicate m false) a w := by
  have hz : ∀ j, (Array.replicate m false).getD j false = false := fun j => by
    simp only [Array.getD_eq_getD_getElem?, Array.getElem?_replicate]
    split <;> rfl
  exact ⟨fun k => (by rw [hz] at k; cases k), fun k => (by rw [hz] at k; cases k), fun _ => h, fun k => (by rw [hz] at k; cases k), fun k => (by rw [hz] at k; cases k), fun k => (by rw [hz] at k; cases k)⟩
theorem any_mono : ∀ (hp : ∀ s ∈ shs, (∃ v, s = .val v) ∨ ∃ f, s = .fact f ∧ ∀ z w, f z w), ∀ i z w w', AnyRl w w' → shF shs i z w → shF shs i z w' := by
  intro hp i z w w' _ k
  unfold shF at k ⊢
  rcases Nat.lt_or_ge i shs.length with hi | hi
  · rw [List.getD_eq_getElem?_getD, List.getElem?_eq_getElem hi] at k ⊢
    rcases hp _ (List.getElem_mem hi) with ⟨u, e⟩ | ⟨f, e, hf⟩
    · rw [Option.getD_some, e] at k ⊢; exact k
    · rw [Option.getD_some, e] at k ⊢; exact hf z w'
  · rw [List.getD_eq_getElem?_getD, List.getElem?_eq_none hi]; trivial
end
def BuildTo (R : Option Part × Gl) (w w0 : World) (ob : Nat) (F : Nat → Prop) : Ending → World → Prop := fun e w' =>
  ∃ o ok F', e = .returned (.tuple #[partV o, .bool ok]) ∧ R.1 = (if ok = true then some o else none) ∧ GlAt w w' ob R.2 F' ∧ GlTo w0 w' F F'
theorem results_part2 {fn : Func} {p q : Tmp} (h : fn.results = #[.cell p 69, .tmp q]) {w : World} {tmps : Array Value} {rb : Nat} {av : Array Value} {v : Value} (hp : tmps.getD p undef = .pointer (some ⟨rb, 0, none⟩)) (hq : tmps.getD q undef = v) (hb : w.heap[rb]? = some (.cells av 69 (0, 0))) (hs : av.size = 3) :
    (results fn tmps).run Tryd.prog w = .ok (.tuple #[.agg av, v]) w := by
  rw [results_cell_tmp h, hp, hq]
  have hl := run_loadVar_row (P := Tryd.prog) w rb 69 69 av (0, 0) _ hb Tryd.underlying69 rfl (by rw [hs]; exact info_part)
  simp [asAddr, hl]
theorem zero_set (w : World) : (zeroValue 77).run Tryd.prog w = .ok (.agg #[.int .u64 0, .int .u64 0, .int .u64 0, .int .u64 0]) w := run_zero (by kernel_rfl) w
theorem word_noneG : ∀ n b, word (fun _ => false) b n = 0 := word_empty
theorem setV_none : setV (fun _ => false) = .agg #[.int .u64 0, .int .u64 0, .int .u64 0, .int .u64 0] := by
  unfold setV; simp only [word_noneG]; rfl
theorem Not_none (w : World) : Calls Tryd.prog 57 #[.agg #[.int .u64 0, .int .u64 0, .int .u64 0, .int .u64 0]] w fun e w' => e = .returned (setV allB) ∧ Grew w w' := by
  have := Not_any (fun _ => false) w
  rw [setV_none] at this; exact this
end Go.Proofs.YtkkdpafkafjfgaaDoor
