/- Regions of the shape x.F = append(x.F, ..), in whatever order: what each operation leaves. Over any program. -/
import Derived.Test.YtkkdpafkafjfgaaDoorMkRegR
import Derived.Deep.AppendLies
namespace Go.Proofs.YtkkdpafkafjfgaaDoor
open Go.RowKit RR
set_option linter.unusedVariables false
def ApRl (q : Addr) (own : Option Nat) (w w' : World) : Prop := w.heap.size ≤ w'.heap.size ∧ ∀ p : Addr, p.block < w.heap.size → own ≠ some p.block → p ≠ q → w'.cell? p = w.cell? p
theorem ApRl.refl (q : Addr) (own : Option Nat) (w : World) : ApRl q own w w := ⟨Nat.le_refl _, fun _ _ _ _ => rfl⟩
theorem ApRl.drew (q : Addr) (own : Option Nat) (w : World) : ApRl q own w w.drew := ⟨Nat.le_refl _, fun _ _ _ _ => rfl⟩
theorem ApRl.trans {q : Addr} {own : Option Nat} (a b c : World) (h : ApRl q own a b) (k : ApRl q own b c) : ApRl q own a c :=
  ⟨Nat.le_trans h.1 k.1, fun p h1 h2 h3 => (k.2 p (Nat.lt_of_lt_of_le h1 h.1) h2 h3).trans (h.2 p h1 h2 h3)⟩
theorem ApRl.of_grown {q : Addr} {own : Option Nat} {w w' : World} (g : w.grownBy w' own) : ApRl q own w w' := ⟨g.size, fun p h1 h2 _ => World.cell?_of_block (g.block _ h1 (Ne.symm h2))⟩
theorem ApRl.of_grew {q : Addr} {own : Option Nat} {w w' : World} (g : Grew w w') : ApRl q own w w' := ⟨g.size, fun p h1 h2 _ => World.cell?_of_block (g.block _ h1)⟩
theorem ApRl.set {q : Addr} {own : Option Nat} (w : World) (v : Value) (hq : q.spot = none) : ApRl q own w (w.setCell q v) := by
  refine ⟨by simp [World.setCell], fun p h1 h2 h3 => ?_⟩
  by_cases hb : p.block = q.block
  · exact World.cell?_setCell_other _ _ _ _ (Ne.symm h3)
  · exact World.cell?_of_block (by simp [World.setCell, Array.getElem?_modify, Ne.symm hb])
theorem grown_none {w w' : World} (g : Grew w w') (row : Option Nat) : w.grownBy w' row := ⟨g.os, g.tape, g.output, g.size, fun k hk _ => g.block k hk⟩
theorem grown_tr {a b c : World} {r : Option Nat} (h : a.grownBy b r) (k : b.grownBy c r) : a.grownBy c r :=
  ⟨k.os.trans h.os, k.tape.trans h.tape, k.output.trans h.output, Nat.le_trans h.size k.size, fun x hx hne => by rw [k.block x (Nat.lt_of_lt_of_le hx h.size) hne]; exact h.block x hx hne⟩
structure ApJ (wb : World) (q : Addr) (own : Option Nat) (App : Value → World → Prop) (mk : List Nat) (il ia is dst : Nat) (listed : Array Bool) (a : Act) (w : World) : Prop where
  ab : listed.getD ia false = true → ∀ j ∈ mk, listed.getD j false = true
  sa : listed.getD is false = true → listed.getD ia false = true ∧ listed.getD il false = true
  p0 : listed.getD ia false = false → Grew wb w
  p1 : listed.getD ia false = true → listed.getD is false = false → ∃ v, a.tmps.getD dst undef = v ∧ App v w ∧ wb.grownBy w own
  p2 : listed.getD is false = true → ∃ v w1, App v w1 ∧ wb.grownBy w1 own ∧ w = w1.setCell q v
theorem lset_true {l : Array Bool} {i j : Nat} (h : l.getD j false = true) : (l.setIfInBounds i true).getD j false = true := by
  by_cases e : i = j
  · subst e
    simp only [Array.getD_eq_getD_getElem?] at h ⊢
    by_cases hl : i < l.size
    · simp [hl]
    · simp [hl] at h
  · simp only [Array.getD_eq_getD_getElem?] at h ⊢
    simpa [e] using h
theorem lset_ne {l : Array Bool} {i j : Nat} (e : i ≠ j) : (l.setIfInBounds i true).getD j false = l.getD j false := by
  simp [Array.getD_eq_getD_getElem?, e]
theorem lset_here {l : Array Bool} {i : Nat} (h : i < l.size) : (l.setIfInBounds i true).getD i false = true := by simp [Array.getD_eq_getD_getElem?, h]
def onDep (A : Array Edge) (j : Nat) : Bool := A.toList.any fun e => Region.binds .any e && e.on == j
theorem onDep_listed {A : Array Edge} {j : Nat} {listed : Array Bool} (h : onDep A j = true) (hd : ∀ e ∈ A, Region.binds .any e = true → listed.getD e.on false = true) : listed.getD j false = true := by
  obtain ⟨e, he, hb⟩ := List.any_eq_true.1 h
  rw [Bool.and_eq_true, beq_iff_eq] at hb
  rw [← hb.2]
  exact hd e (by simpa using he) hb.1
section
variable {P : Program} {wb w0 : World} {q : Addr} {own : Option Nat} {App : Value → World → Prop} {mk : List Nat} {il ia is dst : Nat} {ops : Array Oper} {Q : Exit → Act → World → Prop} {shs : List Sh} {a0 : Act} {A : Array Edge} {i : Nat} {d : Option Tmp} {op : Op} {ty : TypeId} {pos : String} {G : Option (Nat × Bool)}
theorem ApJ.stay {listed : Array Bool} {a : Act} {w : World} (h : ApJ wb q own App mk il ia is dst listed a w) (hia : i ≠ ia) (his : i ≠ is) (hd : d ≠ some dst) (v : Value) : ApJ wb q own App mk il ia is dst (listed.setIfInBounds i true) (a.put d v) w := by
  have ea : (listed.setIfInBounds i true).getD ia false = listed.getD ia false := lset_ne hia
  have es : (listed.setIfInBounds i true).getD is false = listed.getD is false := lset_ne his
  have et : (a.put d v).tmps.getD dst undef = a.tmps.getD dst undef := by
    cases d with
    | none => rfl
    | some d0 => exact getD_put (fun e => hd (by rw [e]))
  exact ⟨fun k j hj => lset_true (h.ab (by rwa [ea] at k) j hj), fun k => (by rw [es] at k; rw [ea]; exact ⟨(h.sa k).1, lset_true (h.sa k).2⟩), fun k => h.p0 (by rwa [ea] at k),
    fun k1 k2 => (by rw [ea] at k1; rw [es] at k2; rw [et]; exact h.p1 k1 k2), fun k => h.p2 (by rwa [es] at k)⟩
theorem ApJ.ahead {listed : Array Bool} {a : Act} {w : World} (h : ApJ wb q own App mk il ia is dst listed a w) (hi : i ∈ mk) (hl : listed.getD i false = false) : listed.getD ia false = false ∧ listed.getD is false = false := by
  have haf : listed.getD ia false = false := by
    cases k : listed.getD ia false with
    | false => rfl
    | true => rw [h.ab k i hi] at hl; cases hl
  refine ⟨haf, ?_⟩
  cases k : listed.getD is false with
  | false => rfl
  | true => rw [(h.sa k).1] at haf; cases haf
theorem ApJ.cell {listed : Array Bool} {a : Act} {w : World} (h : ApJ wb q own App mk il ia is dst listed a w) (hne : own ≠ some q.block) (hlt : q.block < wb.heap.size) (hl : listed.getD is false = false) : w.heap[q.block]? = wb.heap[q.block]? := by
  by_cases e : listed.getD ia false = true
  · obtain ⟨_, _, _, k⟩ := h.p1 e hl
    exact k.block _ hlt (Ne.symm hne)
  · exact (h.p0 (by simpa using e)).block _ hlt
theorem gj_pure {z : Value} (hia : i ≠ ia) (his : i ≠ is) (hd : d ≠ some dst)
    (hr : ∀ listed a w, ApJ wb q own App mk il ia is dst listed a w → listed.getD i false = false → RR.Env (ApRl q own) ops shs a0 w0 A a w → (execOp a.eval ⟨d, op, ty, pos, A, G⟩).run P w = .ok (.value z) w)
    (hg : guardIs ops shs A G = some true) (hs : shs.getD i (.fact fun _ _ => True) = .val z) : StepJ (ApJ wb q own App mk il ia is dst) (ApRl q own) P ops Q (shF shs) a0 w0 i ⟨d, op, ty, pos, A, G⟩ := by
  intro listed a w hls hlf hdep hsz hJ hw hsm hdp K hK
  have E : RR.Env (ApRl q own) ops shs a0 w0 A a w := ⟨hw, hsm, hdp⟩
  rw [if_pos (E.guard hg)]
  unfold Oper.wp
  rw [hr listed a w hJ hlf E]
  exact hK z w (ApRl.refl _ _ w) (by unfold shF; rw [hs]; rfl) (hJ.stay hia his hd z)
theorem gj_move {z : Value} (hia : i ≠ ia) (his : i ≠ is) (hd : d ≠ some dst) {x : Operand} (hg : guardIs ops shs A G = some true) (hx : opSh ops shs A a0 x = .val z) (hs : shs.getD i (.fact fun _ _ => True) = .val z) :
    StepJ (ApJ wb q own App mk il ia is dst) (ApRl q own) P ops Q (shF shs) a0 w0 i ⟨d, .move x, ty, pos, A, G⟩ :=
  gj_pure hia his hd (fun listed a w hJ _ E => by
    have hv : a.eval x = z := E.opv hx
    unfold execOp
    simp [hv]) hg hs
theorem gj_nil {p : Addr} (hia : i ≠ ia) (his : i ≠ is) (hd : d ≠ some dst) {x : Operand} (hg : guardIs ops shs A G = some true) (hx : opSh ops shs A a0 x = .val (.pointer (some p))) (hs : shs.getD i (.fact fun _ _ => True) = .val (.pointer (some p))) :
    StepJ (ApJ wb q own App mk il ia is dst) (ApRl q own) P ops Q (shF shs) a0 w0 i ⟨d, .nilCheck x, ty, pos, A, G⟩ :=
  gj_pure hia his hd (fun listed a w hJ _ E => by
    have hv : a.eval x = .pointer (some p) := E.opv hx
    unfold execOp
    simp [hv]) hg hs
theorem gj_field {t : TypeId} {k : Nat} {p r : Addr} (hf : ∀ w, (Instr.fieldAt t (.pointer (some p)) k).run P w = .ok (.pointer (some r)) w) (hia : i ≠ ia) (his : i ≠ is) (hd : d ≠ some dst) {x : Operand} (hg : guardIs ops shs A G = some true) (hx : opSh ops shs A a0 x = .val (.pointer (some p))) (hs : shs.getD i (.fact fun _ _ => True) = .val (.pointer (some r))) :
    StepJ (ApJ wb q own App mk il ia is dst) (ApRl q own) P ops Q (shF shs) a0 w0 i ⟨d, .fieldAddr t x k, ty, pos, A, G⟩ :=
  gj_pure hia his hd (fun listed a w hJ _ E => by
    have hv : a.eval x = .pointer (some p) := E.opv hx
    unfold execOp
    simp [hv, hf w]) hg hs
theorem gj_load {t : TypeId} {p : Addr} {z : Value} (hrun : ∀ w, ApRl q own w0 w → (Instr.loadAt t (.pointer (some p))).run P w = .ok z w) (hia : i ≠ ia) (his : i ≠ is) (hd : d ≠ some dst) {x : Operand}
    (hg : guardIs ops shs A G = some true) (hx : opSh ops shs A a0 x = .val (.pointer (some p))) (hs : shs.getD i (.fact fun _ _ => True) = .val z) :
    StepJ (ApJ wb q own App mk il ia is dst) (ApRl q own) P ops Q (shF shs) a0 w0 i ⟨d, .load t x, ty, pos, A, G⟩ :=
  gj_pure hia his hd (fun listed a w hJ _ E => by
    have hv : a.eval x = .pointer (some p) := E.opv hx
    unfold execOp
    simp [hv, hrun w E.grew]) hg hs
theorem gj_row {t : TypeId} {sv : Value} (hagg : ∀ w, (isAgg t).run P w = .ok false w) (hc : wb.cell? q = some sv) (hno : own ≠ some q.block) (hia : il ≠ ia) (his : il ≠ is) (hd : d ≠ some dst) {x : Operand}
    (hg : guardIs ops shs A G = some true) (hx : opSh ops shs A a0 x = .val (.pointer (some q))) (hs : shs.getD il (.fact fun _ _ => True) = .val sv) :
    StepJ (ApJ wb q own App mk il ia is dst) (ApRl q own) P ops Q (shF shs) a0 w0 il ⟨d, .load t x, ty, pos, A, G⟩ :=
  gj_pure hia his hd (fun listed a w hJ hl E => by
    have hv : a.eval x = .pointer (some q) := E.opv hx
    have hsf : listed.getD is false = false := by
      cases h : listed.getD is false with
      | false => rfl
      | true => rw [(hJ.sa h).2] at hl; cases hl
    have hc2 : w.cell? q = some sv := (World.cell?_of_block (hJ.cell hno (World.block_lt_of_cell? wb _ hc) hsf)).trans hc
    unfold execOp
    simp [hv, Instr.loadAt, Instr.sureAddr, loadVar, Sem.run_bind, hagg w, hc2]) hg hs
theorem gj_make (hi : i ∈ mk) (hia : i ≠ ia) (his : i ≠ is) (hd : d ≠ some dst)
    (hr : ∀ a w, Grew wb w → RR.Env (ApRl q own) ops shs a0 w0 A a w → ∃ z w', (execOp a.eval ⟨d, op, ty, pos, A, G⟩).run P w = .ok (.value z) w' ∧ Grew w w' ∧ shF shs i z w')
    (hg : guardIs ops shs A G = some true) : StepJ (ApJ wb q own App mk il ia is dst) (ApRl q own) P ops Q (shF shs) a0 w0 i ⟨d, op, ty, pos, A, G⟩ := by
  intro listed a w hls hlf hdep hsz hJ hw hsm hdp K hK
  have E : RR.Env (ApRl q own) ops shs a0 w0 A a w := ⟨hw, hsm, hdp⟩
  rw [if_pos (E.guard hg)]
  obtain ⟨haf, hsf⟩ := hJ.ahead hi hlf
  obtain ⟨z, w', hrun, hgr, hsh⟩ := hr a w (hJ.p0 haf) E
  have ea : (listed.setIfInBounds i true).getD ia false = false := by rw [lset_ne hia]; exact haf
  have es : (listed.setIfInBounds i true).getD is false = false := by rw [lset_ne his]; exact hsf
  unfold Oper.wp
  rw [hrun]
  exact hK z w' (ApRl.of_grew hgr) hsh ⟨fun k => (by rw [ea] at k; cases k), fun k => (by rw [es] at k; cases k), fun _ => (hJ.p0 haf).trans hgr, fun k => (by rw [ea] at k; cases k), fun k => (by rw [es] at k; cases k)⟩
theorem gj_append {t1 t2 : TypeId} (hdm : ∀ j ∈ mk, onDep A j = true) (hia : ia ≠ is) (hdst : dst < a0.tmps.size) (hils : ia < ops.size) {x y : Operand}
    (hr : ∀ a w, Grew wb w → RR.Env (ApRl q own) ops shs a0 w0 A a w → ∃ v w', (Builtin.append_ #[t1, t2] ty #[a.eval x, a.eval y]).run P w = .ok v w' ∧ App v w' ∧ w.grownBy w' own)
    (hg : guardIs ops shs A G = some true) (hs : shs.getD ia (.fact fun _ _ => True) = .fact fun _ _ => True) :
    StepJ (ApJ wb q own App mk il ia is dst) (ApRl q own) P ops Q (shF shs) a0 w0 ia ⟨some dst, .call { callee := .builtin .append, args := #[x, y], argTypes := #[t1, t2] }, ty, pos, A, G⟩ := by
  intro listed a w hls hlf hdep hsz hJ hw hsm hdp K hK
  have E : RR.Env (ApRl q own) ops shs a0 w0 A a w := ⟨hw, hsm, hdp⟩
  rw [if_pos (E.guard hg)]
  have hgb := hJ.p0 hlf
  have hsf : listed.getD is false = false := by
    cases h : listed.getD is false with
    | false => rfl
    | true => rw [(hJ.sa h).1] at hlf; cases hlf
  obtain ⟨v, w', hrun, happ, hgr⟩ := hr a w hgb E
  have ea : (listed.setIfInBounds ia true).getD ia false = true := lset_here (by rw [hls]; exact hils)
  have es : (listed.setIfInBounds ia true).getD is false = false := by rw [lset_ne hia]; exact hsf
  have := hK v w' (ApRl.of_grown hgr) (by unfold shF; rw [hs]; trivial) ⟨fun _ j hj => lset_true (onDep_listed (hdm j hj) hdep), fun k => (by rw [es] at k; cases k), fun k => (by rw [ea] at k; cases k), fun _ _ => ⟨v, getD_put_same (by rw [hsz]; exact hdst), happ, grown_tr (grown_none hgb own) hgr⟩, fun k => (by rw [es] at k; cases k)⟩
  unfold Oper.wp execOp
  simp only [resolve, invoke, builtin, Sem.run_bind, Sem.run_pure, Result.andThen_ok, List.map_toArray, List.map_cons, List.map_nil, hrun]
  exact this
theorem gj_store {t : TypeId} (hda : onDep A ia = true) (hdl : onDep A il = true) (hia : is ≠ ia) (hno : own ≠ some q.block) (hsub : q.spot = none) (hc : ∃ z, wb.cell? q = some z) (hfz : wb.frozen? q = false) (hisz : is < ops.size) (hone : ∀ v w, App v w → v.oneCell' = true ∧ v.cells = #[v])
    {x : Operand} (hg : guardIs ops shs A G = some true) (hx : opSh ops shs A a0 x = .val (.pointer (some q))) (hs : shs.getD is (.fact fun _ _ => True) = .fact fun _ _ => True) (hsz1 : ∀ w, (sizeOf t).run P w = .ok 1 w) :
    StepJ (ApJ wb q own App mk il ia is dst) (ApRl q own) P ops Q (shF shs) a0 w0 is ⟨none, .store t x (.tmp dst), ty, pos, A, G⟩ := by
  intro listed a w hls hlf hdep hsz hJ hw hsm hdp K hK
  have E : RR.Env (ApRl q own) ops shs a0 w0 A a w := ⟨hw, hsm, hdp⟩
  rw [if_pos (E.guard hg)]
  have hv : a.eval x = .pointer (some q) := E.opv hx
  have hat := onDep_listed hda hdep
  obtain ⟨v, hv2, happ, hgr⟩ := hJ.p1 hat hlf
  have hv2 : a.eval (.tmp dst) = v := hv2
  obtain ⟨z, hc⟩ := hc
  have hblk := hJ.cell hno (World.block_lt_of_cell? wb _ hc) hlf
  have c4 : w.cell? q = some z := (World.cell?_of_block hblk).trans hc
  have f4 : w.frozen? q = false := (World.frozen?_of_block hblk).trans hfz
  have ea : (listed.setIfInBounds is true).getD ia false = true := by rw [lset_ne hia]; exact hat
  have es : (listed.setIfInBounds is true).getD is false = true := lset_here (by rw [hls]; exact hisz)
  have := hK undef (w.setCell q v) (ApRl.set _ _ hsub) (by unfold shF; rw [hs]; trivial)
    ⟨fun _ j hj => lset_true (hJ.ab hat j hj), fun _ => ⟨ea, lset_true (onDep_listed hdl hdep)⟩, fun k => (by rw [ea] at k; cases k), fun _ k => (by rw [es] at k; cases k), fun _ => ⟨v, w, happ, hgr, rfl⟩⟩
  obtain ⟨h1, h2⟩ := hone v w happ
  unfold Oper.wp execOp
  have hst := run_store P w q v .plain h1
  rw [c4] at hst
  simp only [f4] at hst
  have e0 : q.add 0 = q := by cases q; simp [Addr.add]
  simpa [hv, hv2, e0, Instr.storeAt, Instr.sureAddr, storeVar, storeCells, Sem.run_bind, h2, hsz1 w, c4, f4, hst, Oper.upon] using this
theorem ap_start {m : Nat} (a : Act) (w : World) : ApJ w q own App mk il ia is dst (Array.replicate m false) a w := by
  have hz : ∀ j, (Array.replicate m false).getD j false = false := fun j => by
    simp only [Array.getD_eq_getD_getElem?, Array.getElem?_replicate]
    split <;> rfl
  exact ⟨fun k => (by rw [hz] at k; cases k), fun k => (by rw [hz] at k; cases k), fun _ => Grew.refl _, fun k => (by rw [hz] at k; cases k), fun k => (by rw [hz] at k; cases k)⟩
theorem ap_mono (hp : ∀ s ∈ shs, (∃ v, s = .val v) ∨ ∃ f, s = .fact f ∧ ∀ z w w', ApRl q own w w' → f z w → f z w') : ∀ i z w w', ApRl q own w w' → shF shs i z w → shF shs i z w' := by
  intro i z w w' g k
  unfold shF at k ⊢
  rcases Nat.lt_or_ge i shs.length with hi | hi
  · rw [List.getD_eq_getElem?_getD, List.getElem?_eq_getElem hi] at k ⊢
    rcases hp _ (List.getElem_mem hi) with ⟨u, e⟩ | ⟨f, e, hf⟩
    · rw [Option.getD_some, e] at k ⊢; exact k
    · rw [Option.getD_some, e] at k ⊢; exact hf z w w' g k
  · rw [List.getD_eq_getElem?_getD, List.getElem?_eq_none hi]; trivial
end
structure StJ (wb : World) (Fin : World → Prop) (mk : List Nat) (is : Nat) (listed : Array Bool) (a : Act) (w : World) : Prop where
  ab : listed.getD is false = true → ∀ j ∈ mk, listed.getD j false = true
  p0 : listed.getD is false = false → Grew wb w
  p1 : listed.getD is false = true → Fin w
def NoRl (g : Nat) (w w' : World) : Prop := w.heap.size ≤ w'.heap.size ∧ ∀ p : Addr, p.block < w.heap.size → p.block ≠ g → w'.cell? p = w.cell? p
theorem NoRl.refl (g : Nat) (w : World) : NoRl g w w := ⟨Nat.le_refl _, fun _ _ _ => rfl⟩
theorem NoRl.drew (g : Nat) (w : World) : NoRl g w w.drew := ⟨Nat.le_refl _, fun _ _ _ => rfl⟩
theorem NoRl.trans {g : Nat} (a b c : World) (h : NoRl g a b) (k : NoRl g b c) : NoRl g a c :=
  ⟨Nat.le_trans h.1 k.1, fun p h1 h2 => (k.2 p (Nat.lt_of_lt_of_le h1 h.1) h2).trans (h.2 p h1 h2)⟩
theorem NoRl.of_grew {g : Nat} {w w' : World} (k : Grew w w') : NoRl g w w' := ⟨k.size, fun p h1 _ => World.cell?_of_block (k.block _ h1)⟩
theorem NoRl.of_grown {g : Nat} {w w' : World} (k : w.grownBy w' (some g)) : NoRl g w w' := ⟨k.size, fun p h1 h2 => World.cell?_of_block (k.block _ h1 (fun e => h2 (by cases e; rfl)))⟩
section
variable {P : Program} {wb w0 : World} {g : Nat} {Fin : World → Prop} {mk : List Nat} {is : Nat} {ops : Array Oper} {Q : Exit → Act → World → Prop} {shs : List Sh} {a0 : Act} {A : Array Edge} {i : Nat} {d : Option Tmp} {op : Op} {ty : TypeId} {pos : String} {G : Option (Nat × Bool)}
theorem StJ.ahead {listed : Array Bool} {a : Act} {w : World} (h : StJ wb Fin mk is listed a w) (hi : i ∈ mk) (hl : listed.getD i false = false) : listed.getD is false = false := by
  cases k : listed.getD is false with
  | false => rfl
  | true => rw [h.ab k i hi] at hl; cases hl
theorem StJ.step {listed : Array Bool} {a : Act} {w w' : World} (h : StJ wb Fin mk is listed a w) (hi : i ∈ mk) (his : i ≠ is) (hl : listed.getD i false = false) (k : Grew w w') (v : Value) : StJ wb Fin mk is (listed.setIfInBounds i true) (a.put d v) w' := by
  have hsf := h.ahead hi hl
  have es : (listed.setIfInBounds i true).getD is false = false := by rw [lset_ne his]; exact hsf
  exact ⟨fun k => (by rw [es] at k; cases k), fun _ => (h.p0 hsf).trans k, fun k => (by rw [es] at k; cases k)⟩
theorem hj_do (hi : i ∈ mk) (his : i ≠ is)
    (hr : ∀ a w, Grew wb w → RR.Env (NoRl g) ops shs a0 w0 A a w → ∃ z w', (execOp a.eval ⟨d, op, ty, pos, A, G⟩).run P w = .ok (.value z) w' ∧ Grew w w' ∧ shF shs i z w')
    (hg : guardIs ops shs A G = some true) : StepJ (StJ wb Fin mk is) (NoRl g) P ops Q (shF shs) a0 w0 i ⟨d, op, ty, pos, A, G⟩ := by
  intro listed a w hls hlf hdep hsz hJ hw hsm hdp K hK
  have E : RR.Env (NoRl g) ops shs a0 w0 A a w := ⟨hw, hsm, hdp⟩
  rw [if_pos (E.guard hg)]
  obtain ⟨z, w', hrun, hgr, hsh⟩ := hr a w (hJ.p0 (hJ.ahead hi hlf)) E
  unfold Oper.wp
  rw [hrun]
  exact hK z w' (NoRl.of_grew hgr) hsh (hJ.step hi his hlf hgr z)
theorem hj_pure {z : Value} (hi : i ∈ mk) (his : i ≠ is)
    (hr : ∀ a w, Grew wb w → RR.Env (NoRl g) ops shs a0 w0 A a w → (execOp a.eval ⟨d, op, ty, pos, A, G⟩).run P w = .ok (.value z) w)
    (hg : guardIs ops shs A G = some true) (hs : shs.getD i (.fact fun _ _ => True) = .val z) : StepJ (StJ wb Fin mk is) (NoRl g) P ops Q (shF shs) a0 w0 i ⟨d, op, ty, pos, A, G⟩ :=
  hj_do hi his (fun a w h E => ⟨z, w, hr a w h E, Grew.refl _, by unfold shF; rw [hs]; rfl⟩) hg
theorem hj_move {z : Value} (hi : i ∈ mk) (his : i ≠ is) {x : Operand} (hg : guardIs ops shs A G = some true) (hx : opSh ops shs A a0 x = .val z) (hs : shs.getD i (.fact fun _ _ => True) = .val z) :
    StepJ (StJ wb Fin mk is) (NoRl g) P ops Q (shF shs) a0 w0 i ⟨d, .move x, ty, pos, A, G⟩ :=
  hj_pure hi his (fun a w _ E => by
    have hv : a.eval x = z := E.opv hx
    unfold execOp
    simp [hv]) hg hs
theorem hj_field {t : TypeId} {k : Nat} {p r : Addr} (hf : ∀ w, (Instr.fieldAt t (.pointer (some p)) k).run P w = .ok (.pointer (some r)) w) (hi : i ∈ mk) (his : i ≠ is) {x : Operand} (hg : guardIs ops shs A G = some true) (hx : opSh ops shs A a0 x = .val (.pointer (some p))) (hs : shs.getD i (.fact fun _ _ => True) = .val (.pointer (some r))) :
    StepJ (StJ wb Fin mk is) (NoRl g) P ops Q (shF shs) a0 w0 i ⟨d, .fieldAddr t x k, ty, pos, A, G⟩ :=
  hj_pure hi his (fun a w _ E => by
    have hv : a.eval x = .pointer (some p) := E.opv hx
    unfold execOp
    simp [hv, hf w]) hg hs
theorem hj_load {t : TypeId} {p : Addr} {z : Value} (hrun : ∀ w, Grew wb w → (Instr.loadAt t (.pointer (some p))).run P w = .ok z w) (hi : i ∈ mk) (his : i ≠ is) {x : Operand}
    (hg : guardIs ops shs A G = some true) (hx : opSh ops shs A a0 x = .val (.pointer (some p))) (hs : shs.getD i (.fact fun _ _ => True) = .val z) :
    StepJ (StJ wb Fin mk is) (NoRl g) P ops Q (shF shs) a0 w0 i ⟨d, .load t x, ty, pos, A, G⟩ :=
  hj_pure hi his (fun a w h E => by
    have hv : a.eval x = .pointer (some p) := E.opv hx
    unfold execOp
    simp [hv, hrun w h]) hg hs
theorem hj_load1 {t : TypeId} {p : Addr} {z : Value} (hagg : ∀ w, (isAgg t).run P w = .ok false w) (hc : wb.cell? p = some z) (hi : i ∈ mk) (his : i ≠ is) {x : Operand}
    (hg : guardIs ops shs A G = some true) (hx : opSh ops shs A a0 x = .val (.pointer (some p))) (hs : shs.getD i (.fact fun _ _ => True) = .val z) :
    StepJ (StJ wb Fin mk is) (NoRl g) P ops Q (shF shs) a0 w0 i ⟨d, .load t x, ty, pos, A, G⟩ :=
  hj_load (fun w h => by
    have hc2 : w.cell? p = some z := h.keeps hc
    simp [Instr.loadAt, Instr.sureAddr, loadVar, Sem.run_bind, hagg w, hc2]) hi his hg hx hs
theorem hj_index {t : TypeId} {u v z : Value} (hrun : ∀ w, (Instr.indexAt t u v).run P w = .ok z w) (hi : i ∈ mk) (his : i ≠ is) {x y : Operand}
    (hg : guardIs ops shs A G = some true) (hx : opSh ops shs A a0 x = .val u) (hy : opSh ops shs A a0 y = .val v) (hs : shs.getD i (.fact fun _ _ => True) = .val z) :
    StepJ (StJ wb Fin mk is) (NoRl g) P ops Q (shF shs) a0 w0 i ⟨d, .indexAddr t x y, ty, pos, A, G⟩ :=
  hj_pure hi his (fun a w _ E => by
    have hv : a.eval x = u := E.opv hx
    have hw : a.eval y = v := E.opv hy
    unfold execOp
    simp [hv, hw, hrun w]) hg hs
theorem hj_call1 {f : FuncId} {x : Operand} {ats : Array TypeId} (hf : isGo P f = true) (hi : i ∈ mk) (his : i ≠ is)
    (hc : ∀ a w, Grew wb w → RR.Env (NoRl g) ops shs a0 w0 A a w → Calls P f #[a.eval x] w fun e w' => ∃ z, e = .returned z ∧ Grew w w' ∧ shF shs i z w')
    (hg : guardIs ops shs A G = some true) : StepJ (StJ wb Fin mk is) (NoRl g) P ops Q (shF shs) a0 w0 i ⟨d, .call { callee := .value (.func f), args := #[x], argTypes := ats }, ty, pos, A, G⟩ := by
  intro listed a w hls hlf hdep hsz hJ hw hsm hdp K hK
  have E : RR.Env (NoRl g) ops shs a0 w0 A a w := ⟨hw, hsm, hdp⟩
  rw [if_pos (E.guard hg)]
  unfold Oper.wp
  rw [execOp_call_go, run_go hf, Array.append_empty, Array.empty_append]
  have e : (#[x] : Array Operand).map a.eval = #[a.eval x] := by simp
  show Calls _ _ _ _ _
  rw [e]
  refine (hc a w (hJ.p0 (hJ.ahead hi hlf)) E).mono fun e w' ⟨z, he, hgr, hsh⟩ => ?_
  subst he
  exact hK z w' (NoRl.of_grew hgr) hsh (hJ.step hi his hlf hgr z)
theorem hj_store {t : TypeId} {x y : Operand} (hdm : ∀ j ∈ mk, onDep A j = true) (hisz : is < ops.size)
    (hr : ∀ a w, Grew wb w → RR.Env (NoRl g) ops shs a0 w0 A a w → ∃ w', (Instr.storeAt t (a.eval x) (a.eval y)).run P w = .ok () w' ∧ NoRl g w w' ∧ Fin w')
    (hmk : is ∉ mk) (hg : guardIs ops shs A G = some true) (hs : shs.getD is (.fact fun _ _ => True) = .fact fun _ _ => True) :
    StepJ (StJ wb Fin mk is) (NoRl g) P ops Q (shF shs) a0 w0 is ⟨none, .store t x y, ty, pos, A, G⟩ := by
  intro listed a w hls hlf hdep hsz hJ hw hsm hdp K hK
  have E : RR.Env (NoRl g) ops shs a0 w0 A a w := ⟨hw, hsm, hdp⟩
  rw [if_pos (E.guard hg)]
  obtain ⟨w', hrun, hrl, hfin⟩ := hr a w (hJ.p0 hlf) E
  have es : (listed.setIfInBounds is true).getD is false = true := lset_here (by rw [hls]; exact hisz)
  have := hK undef w' hrl (by unfold shF; rw [hs]; trivial) ⟨fun _ j hj => lset_true (onDep_listed (hdm j hj) hdep), fun k => (by rw [es] at k; cases k), fun _ => hfin⟩
  unfold Oper.wp execOp
  simp only [hrun, Sem.run_bind, Sem.run_pure, Result.andThen_ok]
  exact this
theorem st_start {m : Nat} (a : Act) (w : World) : StJ w Fin mk is (Array.replicate m false) a w := by
  have hz : ∀ j, (Array.replicate m false).getD j false = false := fun j => by
    simp only [Array.getD_eq_getD_getElem?, Array.getElem?_replicate]
    split <;> rfl
  exact ⟨fun k => (by rw [hz] at k; cases k), fun _ => Grew.refl _, fun k => (by rw [hz] at k; cases k)⟩
theorem no_mono (hp : ∀ s ∈ shs, (∃ v, s = .val v) ∨ ∃ f, s = .fact f ∧ ∀ z w w', NoRl g w w' → f z w → f z w') : ∀ i z w w', NoRl g w w' → shF shs i z w → shF shs i z w' := by
  intro i z w w' g k
  unfold shF at k ⊢
  rcases Nat.lt_or_ge i shs.length with hi | hi
  · rw [List.getD_eq_getElem?_getD, List.getElem?_eq_getElem hi] at k ⊢
    rcases hp _ (List.getElem_mem hi) with ⟨u, e⟩ | ⟨f, e, hf⟩
    · rw [Option.getD_some, e] at k ⊢; exact k
    · rw [Option.getD_some, e] at k ⊢; exact hf z w w' g k
  · rw [List.getD_eq_getElem?_getD, List.getElem?_eq_none hi]; trivial
end
end Go.Proofs.YtkkdpafkafjfgaaDoor
