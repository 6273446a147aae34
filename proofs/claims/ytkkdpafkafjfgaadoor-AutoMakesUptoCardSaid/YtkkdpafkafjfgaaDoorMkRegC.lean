/- Regions that append to two rows of one struct that has a third cell, in whatever order. Over any program. -/
import Derived.Test.YtkkdpafkafjfgaaDoorMkRegB
namespace Go.Proofs.YtkkdpafkafjfgaaDoor
open Go.RowKit RR
set_option linter.unusedVariables false
structure T3J (wb : World) (base b : Nat) (T : TypeId) (C : Bool → Chan) (Z : Value) (listed : Array Bool) (a : Act) (w : World) : Prop where
  ol : ∀ c, listed.getD (C c).ia false = true → listed.getD (C c).il false = true
  os : ∀ c, listed.getD (C c).is false = true → listed.getD (C c).ia false = true
  size : wb.heap.size ≤ w.heap.size
  lo : base ≤ wb.heap.size
  r0 : ∀ c, listed.getD (C c).ia false = false → QRow w base (C c).e (C c).size (C c).v (C c).n (C c).xs
  r1 : ∀ c, listed.getD (C c).ia false = true → QRow w base (C c).e (C c).size (a.tmps.getD (C c).dst undef) ((C c).n + 1) ((C c).xs ++ (C c).news)
  own : ∀ c k, (cur C listed a c).ownBlock = some k → k ≠ b ∧ base ≤ k ∧ k < w.heap.size ∧ ((C c).v.ownBlock = some k ∨ wb.heap.size ≤ k)
  sep : ∀ c k, (cur C listed a c).ownBlock = some k → (cur C listed a (!c)).ownBlock ≠ some k
  blk : w.heap[b]? = some (.cells #[cel C listed a false, cel C listed a true, Z] T (0, 0))
section
variable {wb w0 : World} {base b : Nat} {T : TypeId} {C : Bool → Chan} {Z : Value} {P : Program} {ops : Array Oper} {Q : Exit → Act → World → Prop} {shs : List Sh} {a0 : Act} {A : Array Edge} {i : Nat} {d : Option Tmp} {op : Op} {ty : TypeId} {pos : String} {G : Option (Nat × Bool)}
theorem T3J.step {listed : Array Bool} {a : Act} {w w' : World} (h : T3J wb base b T C Z listed a w) (hp : twPlain C i d) (g : Grew w w') (v : Value) : T3J wb base b T C Z (listed.setIfInBounds i true) (a.put d v) w' := by
  have et : ∀ c, (a.put d v).tmps.getD (C c).dst undef = a.tmps.getD (C c).dst undef := fun c => by
    cases d with
    | none => rfl
    | some d0 => exact getD_put (fun e => (hp c).2.2 (by rw [e]))
  have ea : ∀ c, (listed.setIfInBounds i true).getD (C c).ia false = listed.getD (C c).ia false := fun c => lset_ne (hp c).1
  have es : ∀ c, (listed.setIfInBounds i true).getD (C c).is false = listed.getD (C c).is false := fun c => lset_ne (hp c).2.1
  have ec : ∀ c, cur C (listed.setIfInBounds i true) (a.put d v) c = cur C listed a c := fun c => by unfold cur; rw [ea, et]
  have el : ∀ c, cel C (listed.setIfInBounds i true) (a.put d v) c = cel C listed a c := fun c => by unfold cel; rw [es, et]
  refine ⟨fun c k => lset_true (h.ol c (by rwa [ea] at k)), fun c k => by rw [ea]; rw [es] at k; exact h.os c k, Nat.le_trans h.size g.size, h.lo, fun c k => (h.r0 c (by rwa [ea] at k)).grew g, fun c k => by rw [et]; exact (h.r1 c (by rwa [ea] at k)).grew g, fun c k hk => ?_, fun c k hk => ?_, ?_⟩
  · rw [ec] at hk
    obtain ⟨h1, h2, h3, h4⟩ := h.own c k hk
    exact ⟨h1, h2, Nat.lt_of_lt_of_le h3 g.size, h4⟩
  · rw [ec] at hk ⊢; exact h.sep c k hk
  · rw [el, el]; rw [g.block b (Array.getElem?_eq_some_iff.1 h.blk).1]; exact h.blk
theorem w3_pure {z : Value} (hp : twPlain C i d)
    (hr : ∀ listed a w, T3J wb base b T C Z listed a w → listed.getD i false = false → RR.Env (TwRl base b C) ops shs a0 w0 A a w → (execOp a.eval ⟨d, op, ty, pos, A, G⟩).run P w = .ok (.value z) w)
    (hg : guardIs ops shs A G = some true) (hs : shs.getD i (.fact fun _ _ => True) = .val z) : StepJ (T3J wb base b T C Z) (TwRl base b C) P ops Q (shF shs) a0 w0 i ⟨d, op, ty, pos, A, G⟩ := by
  intro listed a w hls hlf hdep hsz hJ hw hsm hdp K hK
  have E : RR.Env (TwRl base b C) ops shs a0 w0 A a w := ⟨hw, hsm, hdp⟩
  rw [if_pos (E.guard hg)]
  unfold Oper.wp
  rw [hr listed a w hJ hlf E]
  exact hK z w (TwRl.refl w) (by unfold shF; rw [hs]; rfl) (hJ.step hp (Grew.refl w) z)
theorem w3_move {z : Value} (hp : twPlain C i d) {x : Operand} (hg : guardIs ops shs A G = some true) (hx : opSh ops shs A a0 x = .val z) (hs : shs.getD i (.fact fun _ _ => True) = .val z) :
    StepJ (T3J wb base b T C Z) (TwRl base b C) P ops Q (shF shs) a0 w0 i ⟨d, .move x, ty, pos, A, G⟩ :=
  w3_pure hp (fun listed a w hJ _ E => by
    have hv : a.eval x = z := E.opv hx
    unfold execOp
    simp [hv]) hg hs
theorem w3_nil {p : Addr} (hp : twPlain C i d) {x : Operand} (hg : guardIs ops shs A G = some true) (hx : opSh ops shs A a0 x = .val (.pointer (some p))) (hs : shs.getD i (.fact fun _ _ => True) = .val (.pointer (some p))) :
    StepJ (T3J wb base b T C Z) (TwRl base b C) P ops Q (shF shs) a0 w0 i ⟨d, .nilCheck x, ty, pos, A, G⟩ :=
  w3_pure hp (fun listed a w hJ _ E => by
    have hv : a.eval x = .pointer (some p) := E.opv hx
    unfold execOp
    simp [hv]) hg hs
theorem w3_field {t : TypeId} {k : Nat} {p r : Addr} (hf : ∀ w, (Instr.fieldAt t (.pointer (some p)) k).run P w = .ok (.pointer (some r)) w) (hp : twPlain C i d) {x : Operand} (hg : guardIs ops shs A G = some true) (hx : opSh ops shs A a0 x = .val (.pointer (some p))) (hs : shs.getD i (.fact fun _ _ => True) = .val (.pointer (some r))) :
    StepJ (T3J wb base b T C Z) (TwRl base b C) P ops Q (shF shs) a0 w0 i ⟨d, .fieldAddr t x k, ty, pos, A, G⟩ :=
  w3_pure hp (fun listed a w hJ _ E => by
    have hv : a.eval x = .pointer (some p) := E.opv hx
    unfold execOp
    simp [hv, hf w]) hg hs
theorem w3_load {t : TypeId} {p : Addr} {z : Value} (hrun : ∀ w, TwRl base b C w0 w → (Instr.loadAt t (.pointer (some p))).run P w = .ok z w) (hp : twPlain C i d) {x : Operand}
    (hg : guardIs ops shs A G = some true) (hx : opSh ops shs A a0 x = .val (.pointer (some p))) (hs : shs.getD i (.fact fun _ _ => True) = .val z) :
    StepJ (T3J wb base b T C Z) (TwRl base b C) P ops Q (shF shs) a0 w0 i ⟨d, .load t x, ty, pos, A, G⟩ :=
  w3_pure hp (fun listed a w hJ _ E => by
    have hv : a.eval x = .pointer (some p) := E.opv hx
    unfold execOp
    simp [hv, hrun w E.grew]) hg hs
theorem T3J.cell {listed : Array Bool} {a : Act} {w : World} (h : T3J wb base b T C Z listed a w) (c : Bool) : w.cell? ⟨b, offB c, none⟩ = some (cel C listed a c) := by
  unfold World.cell?
  dsimp only
  rw [h.blk]
  cases c <;> rfl
theorem w3_row {t : TypeId} (c : Bool) (hagg : ∀ w, (isAgg t).run P w = .ok false w) (hp : twPlain C (C c).il d) {x : Operand} (hg : guardIs ops shs A G = some true) (hx : opSh ops shs A a0 x = .val (.pointer (some ⟨b, offB c, none⟩))) (hs : shs.getD (C c).il (.fact fun _ _ => True) = .val (C c).v) :
    StepJ (T3J wb base b T C Z) (TwRl base b C) P ops Q (shF shs) a0 w0 (C c).il ⟨d, .load t x, ty, pos, A, G⟩ :=
  w3_pure hp (fun listed a w hJ hl E => by
    have hv : a.eval x = .pointer (some ⟨b, offB c, none⟩) := E.opv hx
    have hsf := lfalse' (hJ.os c) (lfalse' (hJ.ol c) hl)
    have hc := hJ.cell c
    have hce : cel C listed a c = (C c).v := by unfold cel; rw [if_neg (by rw [hsf]; exact Bool.false_ne_true)]
    rw [hce] at hc
    unfold execOp
    simp [hv, Instr.loadAt, Instr.sureAddr, loadVar, Sem.run_bind, hagg w, hc]) hg hs
theorem w3_make (hp : twPlain C i d)
    (hr : ∀ a w, base ≤ w.heap.size → wb.heap.size ≤ w.heap.size → RR.Env (TwRl base b C) ops shs a0 w0 A a w → ∃ z w', (execOp a.eval ⟨d, op, ty, pos, A, G⟩).run P w = .ok (.value z) w' ∧ Grew w w' ∧ shF shs i z w')
    (hg : guardIs ops shs A G = some true) : StepJ (T3J wb base b T C Z) (TwRl base b C) P ops Q (shF shs) a0 w0 i ⟨d, op, ty, pos, A, G⟩ := by
  intro listed a w hls hlf hdep hsz hJ hw hsm hdp K hK
  have E : RR.Env (TwRl base b C) ops shs a0 w0 A a w := ⟨hw, hsm, hdp⟩
  rw [if_pos (E.guard hg)]
  have hb : base ≤ w.heap.size := Nat.le_trans hJ.lo hJ.size
  obtain ⟨z, w', hrun, hgr, hsh⟩ := hr a w hb hJ.size E
  unfold Oper.wp
  rw [hrun]
  exact hK z w' (TwRl.of_grew hb hgr) hsh (hJ.step hp hgr z)
theorem w3_build {t : TypeId} {cs : List Value} {u : Value} {e : TypeId} (hrun : ∀ w, (Instr.buildSlice t 1 #[(0, u)]).run P w = .ok (.slice (some ⟨w.heap.size, 0, none⟩) 1 1) (w.alloc (.cells cs.toArray e))) (hp : twPlain C i d) {x : Operand}
    (hg : guardIs ops shs A G = some true) (hx : opSh ops shs A a0 x = .val u) (hs : shs.getD i (.fact fun _ _ => True) = .fact (NewRow wb cs)) :
    StepJ (T3J wb base b T C Z) (TwRl base b C) P ops Q (shF shs) a0 w0 i ⟨d, .buildSlice t 1 #[(0, x)], ty, pos, A, G⟩ :=
  w3_make hp (fun a w _ h2 E => by
    have hv : a.eval x = u := E.opv hx
    refine ⟨.slice (some ⟨w.heap.size, 0, none⟩) 1 1, w.alloc (.cells cs.toArray e), ?_, (Grew.refl w).alloc (.cells cs.toArray e), ?_⟩
    · unfold execOp
      simp [hv, hrun w]
    · unfold shF; rw [hs]
      exact ⟨w.heap.size, rfl, h2, _, _, heap_alloc_new w _⟩) hg
theorem w3_append {t : TypeId} {ti : TypeInfo} {z : Value} {bytes : Nat} (I : TwI C) (c : Bool) (hdl : onDep A (C c).il = true) (hdst : (C c).dst < a0.tmps.size) (hils : (C c).ia < ops.size) (hla : (C c).il ≠ (C c).ia) {x y : Operand}
    (ht : P.underlying t = some (.slice (C c).e)) (hi : P.info? (C c).e = some ti) (hz : ti.zero = some z) (hsize : ti.size = (C c).size) (hby : ti.bytes = bytes) (hzs : z.cells.size = (C c).size) (hl : (C c).news.length = (C c).size) (h1 : ∀ u ∈ (C c).news, u.oneCell' = true) (h63 : (C c).n + 1 ≤ maxLen) (hbytes : ((C c).n + 1) * bytes ≤ 140737488355328)
    (hg : guardIs ops shs A G = some true) (hx : opSh ops shs A a0 x = .val (C c).v) (hy : opSh ops shs A a0 y = .fact (NewRow wb (C c).news)) (hs : shs.getD (C c).ia (.fact fun _ _ => True) = .fact fun _ _ => True) :
    StepJ (T3J wb base b T C Z) (TwRl base b C) P ops Q (shF shs) a0 w0 (C c).ia ⟨some (C c).dst, .call { callee := .builtin .append, args := #[x, y], argTypes := #[t, t] }, ty, pos, A, G⟩ := by
  intro listed a w hls hlf hdep hsz hJ hw hsm hdp K hK
  have E : RR.Env (TwRl base b C) ops shs a0 w0 A a w := ⟨hw, hsm, hdp⟩
  rw [if_pos (E.guard hg)]
  have hxv : a.eval x = (C c).v := E.opv hx
  have hyv : NewRow wb (C c).news (a.eval y) w := by have := E.op y; rw [hy] at this; exact this
  obtain ⟨k, hk1, hk2, fr, tt, hk3⟩ := hyv
  have hb : base ≤ w.heap.size := Nat.le_trans hJ.lo hJ.size
  obtain ⟨v', w', hrun, hq, hgr, how⟩ := QRow.append (P := P) ht hi hz hsize hby hzs (hJ.r0 c hlf) hb k 1 (C c).news hl (fun j u hu => by
    unfold World.cell?
    dsimp only
    rw [hk3]
    show (C c).news.toArray[j]? = some u
    rw [List.getElem?_toArray]; exact hu) h1 h63 hbytes ty
  have hcu : cur C listed a c = (C c).v := by unfold cur; rw [if_neg (by rw [hlf]; exact Bool.false_ne_true)]
  have hsf := lfalse' (hJ.os c) hlf
  have e1 : (listed.setIfInBounds (C c).ia true).getD (C c).ia false = true := lset_here (by rw [hls]; exact hils)
  have e2 : (listed.setIfInBounds (C c).ia true).getD (C !c).ia false = listed.getD (C !c).ia false := lset_ne (I.aa c)
  have e3 : ∀ c', (listed.setIfInBounds (C c).ia true).getD (C c').is false = listed.getD (C c').is false := fun c' => lset_ne (I.ax c c')
  have t1 : (a.put (some (C c).dst) v').tmps.getD (C c).dst undef = v' := getD_put_same (by rw [hsz]; exact hdst)
  have t2 : (a.put (some (C c).dst) v').tmps.getD (C !c).dst undef = a.tmps.getD (C !c).dst undef := getD_put (I.dd c)
  have c1 : cur C (listed.setIfInBounds (C c).ia true) (a.put (some (C c).dst) v') c = v' := by unfold cur; rw [if_pos e1, t1]
  have c2 : cur C (listed.setIfInBounds (C c).ia true) (a.put (some (C c).dst) v') (!c) = cur C listed a (!c) := by unfold cur; rw [e2, t2]
  have hne : ∀ k, (cur C listed a (!c)).ownBlock = some k → (C c).v.ownBlock ≠ some k := fun k hk => by
    have := hJ.sep (!c) k hk
    rw [Bool.not_not, hcu] at this; exact this
  have hown := fun k hk => hJ.own c k (by rw [hcu]; exact hk)
  have hbs : b < w.heap.size := (Array.getElem?_eq_some_iff.1 hJ.blk).1
  have hkeep : ∀ k, (cur C listed a (!c)).ownBlock = some k → k < w.heap.size → w'.heap[k]? = w.heap[k]? := fun k hk hlt => hgr.block k hlt (fun e => hne k hk e.symm)
  have hbk : w'.heap[b]? = w.heap[b]? := hgr.block b hbs (fun e => (hown b e.symm).1 rfl)
  have hv'lt : ∀ k, v'.ownBlock = some k → k ≠ b ∧ base ≤ k ∧ k < w'.heap.size ∧ ((C c).v.ownBlock = some k ∨ wb.heap.size ≤ k) ∧ (cur C listed a (!c)).ownBlock ≠ some k := fun k hk => by
    rcases how with e | e
    · rw [e] at hk
      obtain ⟨k1, k2, k3, k4⟩ := hown k hk
      exact ⟨k1, k2, Nat.lt_of_lt_of_le k3 hgr.size, k4, fun e2 => hne k e2 hk⟩
    · rw [e] at hk; cases hk
      obtain ⟨b', _, _, e2, e4, hlt, _⟩ := hq.at (by omega)
      rw [e2] at e
      have e : b' = w.heap.size := Option.some.inj e
      subst e
      refine ⟨by omega, hb, hlt, Or.inr hJ.size, fun e3 => ?_⟩
      have := (hJ.own (!c) _ e3).2.2.1
      omega
  have hTw : TwRl base b C w w' := ⟨⟨hgr.os, hgr.tape, hgr.output, hgr.size, fun k hk => hgr.block k (Nat.lt_of_lt_of_le hk hb) (fun e => by have := (hown k e.symm).2.1; omega)⟩, fun k h1 _ h3 => hgr.block k h1 (fun e => h3 c e.symm)⟩
  have pick : ∀ {p : Bool → Prop}, p c → p (!c) → ∀ c', p c' := fun {p} h1 h2 c' => by
    cases c <;> cases c' <;> first | exact h1 | exact h2
  have := hK v' w' hTw (by unfold shF; rw [hs]; trivial) (by
    refine ⟨pick (fun _ => lset_true (onDep_listed hdl hdep)) (fun k => lset_true (hJ.ol (!c) (by rwa [e2] at k))), pick (fun k => e1) (fun k => by rw [e2]; rw [e3] at k; exact hJ.os (!c) k), Nat.le_trans hJ.size hgr.size, hJ.lo,
      pick (fun k => by rw [e1] at k; cases k) (fun k => ?_), pick (fun _ => by rw [t1]; exact hq) (fun k => ?_), pick (fun k hk => ?_) (fun k hk => ?_), pick (fun k hk => ?_) (fun k hk => ?_), ?_⟩
    · rw [e2] at k
      have hq2 := hJ.r0 (!c) k
      have hcv : cur C listed a (!c) = (C !c).v := by unfold cur; rw [if_neg (by rw [k]; exact Bool.false_ne_true)]
      exact hq2.kept fun j hj hlt => hkeep j (by rw [hcv]; exact hj) hlt
    · rw [e2] at k
      rw [t2]
      have hq2 := hJ.r1 (!c) k
      have hcv : cur C listed a (!c) = a.tmps.getD (C !c).dst undef := by unfold cur; rw [if_pos k]
      exact hq2.kept fun j hj hlt => hkeep j (by rw [hcv]; exact hj) hlt
    · rw [c1] at hk
      obtain ⟨k1, k2, k3, k4, _⟩ := hv'lt k hk
      exact ⟨k1, k2, k3, k4⟩
    · rw [c2] at hk
      obtain ⟨k1, k2, k3, k4⟩ := hJ.own (!c) k hk
      exact ⟨k1, k2, Nat.lt_of_lt_of_le k3 hgr.size, k4⟩
    · rw [c1] at hk; rw [c2]; exact (hv'lt k hk).2.2.2.2
    · rw [c2] at hk
      rw [Bool.not_not, c1]
      intro e
      exact (hv'lt k e).2.2.2.2 hk
    · have l1 : cel C (listed.setIfInBounds (C c).ia true) (a.put (some (C c).dst) v') c = cel C listed a c := by unfold cel; rw [e3, hsf]; rfl
      have l2 : cel C (listed.setIfInBounds (C c).ia true) (a.put (some (C c).dst) v') (!c) = cel C listed a (!c) := by unfold cel; rw [e3, t2]
      have l : ∀ c', cel C (listed.setIfInBounds (C c).ia true) (a.put (some (C c).dst) v') c' = cel C listed a c' := pick l1 l2
      rw [l, l, hbk]; exact hJ.blk)
  unfold Oper.wp execOp
  simp only [resolve, invoke, builtin, Sem.run_bind, Sem.run_pure, Result.andThen_ok, List.map_toArray, List.map_cons, List.map_nil, hxv, hk1, hrun]
  exact this
theorem w3_store {t : TypeId} (I : TwI C) (c : Bool) (hda : onDep A (C c).ia = true) (hisz : (C c).is < ops.size) {x : Operand} (hg : guardIs ops shs A G = some true) (hx : opSh ops shs A a0 x = .val (.pointer (some ⟨b, offB c, none⟩))) (hs : shs.getD (C c).is (.fact fun _ _ => True) = .fact fun _ _ => True) (hsz1 : ∀ w, (sizeOf t).run P w = .ok 1 w) (hbb : base ≤ b) :
    StepJ (T3J wb base b T C Z) (TwRl base b C) P ops Q (shF shs) a0 w0 (C c).is ⟨none, .store t x (.tmp (C c).dst), ty, pos, A, G⟩ := by
  intro listed a w hls hlf hdep hsz hJ hw hsm hdp K hK
  have E : RR.Env (TwRl base b C) ops shs a0 w0 A a w := ⟨hw, hsm, hdp⟩
  rw [if_pos (E.guard hg)]
  have hv : a.eval x = .pointer (some ⟨b, offB c, none⟩) := E.opv hx
  have hat := onDep_listed hda hdep
  have hq := hJ.r1 c hat
  obtain ⟨vv, hvv⟩ : ∃ vv, a.tmps.getD (C c).dst undef = vv := ⟨_, rfl⟩
  rw [hvv] at hq
  have hvv2 : a.eval (.tmp (C c).dst) = vv := hvv
  obtain ⟨_, va, vc, hve, _⟩ := hq
  have e1 : (listed.setIfInBounds (C c).is true).getD (C c).is false = true := lset_here (by rw [hls]; exact hisz)
  have e2 : (listed.setIfInBounds (C c).is true).getD (C !c).is false = listed.getD (C !c).is false := lset_ne (I.ss c)
  have e3 : ∀ c', (listed.setIfInBounds (C c).is true).getD (C c').ia false = listed.getD (C c').ia false := fun c' => lset_ne (Ne.symm (I.ax c' c))
  have c4 := hJ.cell c
  have f4 : w.frozen? ⟨b, offB c, none⟩ = false := by
    unfold World.frozen?; dsimp only; rw [hJ.blk]; simp
  have ho : ∀ k, k ≠ b → (w.setCell ⟨b, offB c, none⟩ vv).heap[k]? = w.heap[k]? := fun k hk => Below.heap_setCell _ _ _ _ hk
  have hsze : (w.setCell ⟨b, offB c, none⟩ vv).heap.size = w.heap.size := by simp [World.setCell]
  have hTw : TwRl base b C w (w.setCell ⟨b, offB c, none⟩ vv) := ⟨(Below.refl _ _).setCell (p := ⟨b, offB c, none⟩) hbb _, fun k _ h2 _ => ho k h2⟩
  have ec : ∀ c', cur C (listed.setIfInBounds (C c).is true) (a.put none undef) c' = cur C listed a c' := fun c' => by unfold cur; rw [e3]; rfl
  have hkept : ∀ c' (v : Value) n xs, v = cur C listed a c' → QRow w base (C c').e (C c').size v n xs → QRow (w.setCell ⟨b, offB c, none⟩ vv) base (C c').e (C c').size v n xs := fun c' v n xs hv hq => hq.kept fun j hj _ => ho j (hJ.own c' j (by rw [← hv]; exact hj)).1
  have := hK undef (w.setCell ⟨b, offB c, none⟩ vv) hTw (by unfold shF; rw [hs]; trivial) (by
    refine ⟨fun c' k => lset_true (hJ.ol c' (by rwa [e3] at k)), fun c' k => ?_, by rw [hsze]; exact hJ.size, hJ.lo, fun c' k => ?_, fun c' k => ?_, fun c' k hk => ?_, fun c' k hk => ?_, ?_⟩
    · rw [e3]
      by_cases hcc : c' = c
      · rw [hcc]; exact hat
      · have : c' = !c := by cases c <;> cases c' <;> simp_all
        rw [this] at k ⊢
        rw [e2] at k
        exact hJ.os (!c) k
    · rw [e3] at k
      exact hkept c' _ _ _ (by unfold cur; rw [if_neg (by rw [k]; exact Bool.false_ne_true)]) (hJ.r0 c' k)
    · rw [e3] at k
      exact hkept c' _ _ _ (by unfold cur; rw [if_pos k]; rfl) (hJ.r1 c' k)
    · rw [ec] at hk
      rw [hsze]; exact hJ.own c' k hk
    · rw [ec] at hk ⊢; exact hJ.sep c' k hk
    · have l1 : cel C (listed.setIfInBounds (C c).is true) (a.put none undef) c = vv := by unfold cel; rw [if_pos e1]; exact hvv
      have l2 : cel C (listed.setIfInBounds (C c).is true) (a.put none undef) (!c) = cel C listed a (!c) := by unfold cel; rw [e2]; rfl
      rw [q_set_same hJ.blk]
      cases c
      · have l3 : cel C (listed.setIfInBounds (C false).is true) (a.put none undef) true = cel C listed a true := l2
        rw [l1, l3]; rfl
      · have l3 : cel C (listed.setIfInBounds (C true).is true) (a.put none undef) false = cel C listed a false := l2
        rw [l1, l3]; rfl)
  have h1 : vv.oneCell' = true := by rw [hve]; rfl
  have h2 : vv.cells = #[vv] := by rw [hve]; rfl
  unfold Oper.wp execOp
  have hst := run_store P w ⟨b, offB c, none⟩ vv .plain h1
  rw [c4] at hst
  simp only [f4] at hst
  have e0 : (⟨b, offB c, none⟩ : Addr).add 0 = ⟨b, offB c, none⟩ := by simp [Addr.add]
  simpa [hv, hvv2, e0, Instr.storeAt, Instr.sureAddr, storeVar, storeCells, Sem.run_bind, h2, hsz1 w, c4, f4, hst, Oper.upon] using this
theorem t3_start {m : Nat} (a : Act) (w : World) (hlo : base ≤ w.heap.size) (hr : ∀ c, QRow w base (C c).e (C c).size (C c).v (C c).n (C c).xs) (hown : ∀ c k, (C c).v.ownBlock = some k → k ≠ b ∧ base ≤ k ∧ k < w.heap.size) (hsep : ∀ c k, (C c).v.ownBlock = some k → (C !c).v.ownBlock ≠ some k)
    (hblk : w.heap[b]? = some (.cells #[(C false).v, (C true).v, Z] T (0, 0))) : T3J w base b T C Z (Array.replicate m false) a w.drew := by
  have hz : ∀ j, (Array.replicate m false).getD j false = false := fun j => by
    simp only [Array.getD_eq_getD_getElem?, Array.getElem?_replicate]
    split <;> rfl
  have ec : ∀ c, cur C (Array.replicate m false) a c = (C c).v := fun c => by unfold cur; rw [if_neg (by rw [hz]; exact Bool.false_ne_true)]
  have el : ∀ c, cel C (Array.replicate m false) a c = (C c).v := fun c => by unfold cel; rw [if_neg (by rw [hz]; exact Bool.false_ne_true)]
  refine ⟨fun c k => (by rw [hz] at k; cases k), fun c k => (by rw [hz] at k; cases k), Nat.le_refl _, hlo, fun c _ => hr c, fun c k => (by rw [hz] at k; cases k), fun c k hk => ?_, fun c k hk => ?_, ?_⟩
  · rw [ec] at hk
    obtain ⟨k1, k2, k3⟩ := hown c k hk
    exact ⟨k1, k2, k3, Or.inl hk⟩
  · rw [ec] at hk ⊢; exact hsep c k hk
  · rw [el, el]; exact hblk
end
end Go.Proofs.YtkkdpafkafjfgaaDoor
