/- The document's Two: the two tables laid, in whatever order. -/
import Derived.Test.YtkkdpafkafjfgaaTwAuNr
namespace Go.Proofs.Ytkkdpafkafjfgaa
open Go.RowKit RR
set_option linter.unusedVariables false
set_option linter.unusedSimpArgs false
def zTab : Obj := .cells #[.slice none 0 0, .slice none 0 0] 44 (0, 0)
def OldRl (B : Nat) (w w' : World) : Prop := w.heap.size ≤ w'.heap.size ∧ ∀ k, k < B → k < w.heap.size → w'.heap[k]? = w.heap[k]?
theorem OldRl.refl (B : Nat) (w : World) : OldRl B w w := ⟨Nat.le_refl _, fun _ _ _ => rfl⟩
theorem OldRl.drew (B : Nat) (w : World) : OldRl B w w.drew := ⟨Nat.le_refl _, fun _ _ _ => rfl⟩
theorem OldRl.trans {B : Nat} (a b c : World) (h : OldRl B a b) (k : OldRl B b c) : OldRl B a c := ⟨Nat.le_trans h.1 k.1, fun i h1 h2 => (k.2 i h1 (Nat.lt_of_lt_of_le h2 h.1)).trans (h.2 i h1 h2)⟩
theorem OldRl.of_grew {B : Nat} {w w' : World} (g : Grew w w') : OldRl B w w' := ⟨g.size, fun k _ h => g.block k h⟩
theorem OldRl.setRow {B k : Nat} (w : World) (h : B ≤ k) (cs : Array Value) : OldRl B w (w.setRow k cs) := ⟨by simp [World.setRow], fun i h1 _ => setRow_other _ _ _ _ (by omega)⟩
structure NinA (wb : World) (OA OB : Value → World → Prop) (l : Nat → Bool) (t : Nat → Value) (w : World) : Prop where
  grew : Grew wb w
  a : l 1 = true → OA (t 40) w
  b : l 3 = true → OB (t 42) w
  x : l 4 = true → ∃ k, t 10 = .pointer (some ⟨k, 0, none⟩) ∧ wb.heap.size ≤ k ∧ w.heap[k]? = some zTab
  y : l 5 = true → ∃ k, t 11 = .pointer (some ⟨k, 0, none⟩) ∧ wb.heap.size ≤ k ∧ w.heap[k]? = some zTab
  xy : l 4 = true → l 5 = true → t 10 ≠ t 11
def NinM (wb : World) (OA OB : Value → World → Prop) (t : Nat → Value) (w1 : World) (k10 k11 : Nat) : Prop :=
  Grew wb w1 ∧ OA (t 40) w1 ∧ OB (t 42) w1 ∧ t 10 = .pointer (some ⟨k10, 0, none⟩) ∧ t 11 = .pointer (some ⟨k11, 0, none⟩) ∧ wb.heap.size ≤ k10 ∧ wb.heap.size ≤ k11 ∧ k10 ≠ k11 ∧ w1.heap[k10]? = some zTab ∧ w1.heap[k11]? = some zTab
structure NinJ (wb : World) (OA OB : Value → World → Prop) (listed : Array Bool) (a : Act) (w : World) : Prop where
  o3 : listed.getD 3 false = true → listed.getD 2 false = true
  o6 : listed.getD 6 false = true → ∀ j, j < 6 → j ≠ 2 → listed.getD j false = true
  o7 : listed.getD 7 false = true → listed.getD 6 false = true
  p0 : listed.getD 6 false = false → NinA wb OA OB (fun i => listed.getD i false) (fun d => a.tmps.getD d undef) w
  p1 : listed.getD 6 false = true → listed.getD 7 false = false → ∃ w1 k10 k11, NinM wb OA OB (fun d => a.tmps.getD d undef) w1 k10 k11 ∧ w = w1.setRow k10 (a.tmps.getD 40 undef).cells
  p2 : listed.getD 7 false = true → ∃ w1 k10 k11, NinM wb OA OB (fun d => a.tmps.getD d undef) w1 k10 k11 ∧ w = (w1.setRow k10 (a.tmps.getD 40 undef).cells).setRow k11 (a.tmps.getD 42 undef).cells
section
variable {wb w0 : World} {OA OB : Value → World → Prop} {ops : Array Oper} {Q : Exit → Act → World → Prop} {shs : List Sh} {a0 : Act} {A : Array Edge} {i : Nat} {d : Option Tmp} {op : Op} {ty : TypeId} {pos : String} {G : Option (Nat × Bool)}
theorem nin_start {m : Nat} (a : Act) (w : World) : NinJ w OA OB (Array.replicate m false) a w := by
  have hz : ∀ j, (Array.replicate m false).getD j false = false := fun j => by
    simp only [Array.getD_eq_getD_getElem?, Array.getElem?_replicate]
    split <;> rfl
  exact ⟨fun k => (by rw [hz] at k; cases k), fun k => (by rw [hz] at k; cases k), fun k => (by rw [hz] at k; cases k), fun _ => ⟨Grew.refl _, fun k => (by rw [hz] at k; cases k), fun k => (by rw [hz] at k; cases k), fun k => (by rw [hz] at k; cases k), fun k => (by rw [hz] at k; cases k), fun k => (by rw [hz] at k; cases k)⟩, fun k => (by rw [hz] at k; cases k), fun k => (by rw [hz] at k; cases k)⟩
theorem NinJ.early {listed : Array Bool} {a : Act} {w : World} (h : NinJ wb OA OB listed a w) (hi : i < 6) (hl : listed.getD i false = false) : listed.getD 6 false = false ∧ listed.getD 7 false = false := by
  have h6 : listed.getD 6 false = false := by
    cases k : listed.getD 6 false with
    | false => rfl
    | true =>
      by_cases e : i = 2
      · rw [e, h.o3 (h.o6 k 3 (by omega) (by omega))] at hl; cases hl
      · rw [h.o6 k i hi e] at hl; cases hl
  refine ⟨h6, ?_⟩
  cases k : listed.getD 7 false with
  | false => rfl
  | true => rw [h.o7 k] at h6; cases h6
theorem NinJ.pre {listed : Array Bool} {a : Act} {w w' : World} (h : NinJ wb OA OB listed a w) (hi : i < 6) (h32 : i = 3 → listed.getD 2 false = true) (hl : listed.getD i false = false) (v : Value)
    (hn : NinA wb OA OB (fun j => listed.getD j false) (fun d => a.tmps.getD d undef) w → NinA wb OA OB (fun j => (listed.setIfInBounds i true).getD j false) (fun e => (a.put d v).tmps.getD e undef) w') : NinJ wb OA OB (listed.setIfInBounds i true) (a.put d v) w' := by
  obtain ⟨h6, h7⟩ := h.early hi hl
  have e6 : (listed.setIfInBounds i true).getD 6 false = false := by rw [lset_ne (by omega)]; exact h6
  have e7 : (listed.setIfInBounds i true).getD 7 false = false := by rw [lset_ne (by omega)]; exact h7
  have o3 : (listed.setIfInBounds i true).getD 3 false = true → (listed.setIfInBounds i true).getD 2 false = true := fun k => by
    by_cases e : i = 3
    · exact lset_true (h32 e)
    · rw [lset_ne e] at k; exact lset_true (h.o3 k)
  exact ⟨o3, fun k => (by rw [e6] at k; cases k), fun k => (by rw [e7] at k; cases k), fun _ => hn (h.p0 h6), fun k => (by rw [e6] at k; cases k), fun k => (by rw [e7] at k; cases k)⟩
theorem NinA.upd {l l' : Nat → Bool} {t t' : Nat → Value} {w w' : World} (h : NinA wb OA OB l t w) (g : Grew w w') (ha : l' 1 = true → OA (t' 40) w') (hb : l' 3 = true → OB (t' 42) w')
    (hx : l' 4 = true → (l 4 = true ∧ t' 10 = t 10) ∨ (l 4 = false ∧ ∃ k, t' 10 = .pointer (some ⟨k, 0, none⟩) ∧ w.heap.size ≤ k ∧ w'.heap[k]? = some zTab))
    (hy : l' 5 = true → (l 5 = true ∧ t' 11 = t 11) ∨ (l 5 = false ∧ ∃ k, t' 11 = .pointer (some ⟨k, 0, none⟩) ∧ w.heap.size ≤ k ∧ w'.heap[k]? = some zTab)) (hne : ¬ (l 4 = false ∧ l' 4 = true ∧ l 5 = false ∧ l' 5 = true)) : NinA wb OA OB l' t' w' := by
  refine ⟨h.grew.trans g, ha, hb, fun k4 => ?_, fun k5 => ?_, fun k4 k5 => ?_⟩
  · rcases hx k4 with ⟨h1, h2⟩ | ⟨_, k, h1, h2, h3⟩
    · obtain ⟨k, p1, p2, p3⟩ := h.x h1
      exact ⟨k, h2.trans p1, p2, heap_kept g p3⟩
    · exact ⟨k, h1, Nat.le_trans h.grew.size h2, h3⟩
  · rcases hy k5 with ⟨h1, h2⟩ | ⟨_, k, h1, h2, h3⟩
    · obtain ⟨k, p1, p2, p3⟩ := h.y h1
      exact ⟨k, h2.trans p1, p2, heap_kept g p3⟩
    · exact ⟨k, h1, Nat.le_trans h.grew.size h2, h3⟩
  · rcases hx k4 with ⟨h1, h2⟩ | ⟨h0, k, h1, h2, h3⟩
    · rcases hy k5 with ⟨q1, q2⟩ | ⟨q0, k', q1, q2, q3⟩
      · rw [h2, q2]; exact h.xy h1 q1
      · obtain ⟨k, p1, p2, p3⟩ := h.x h1
        rw [h2, p1, q1]
        have := (Array.getElem?_eq_some_iff.1 p3).1
        intro e
        cases e
        omega
    · rcases hy k5 with ⟨q1, q2⟩ | ⟨q0, k', q1, q2, q3⟩
      · obtain ⟨k', p1, p2, p3⟩ := h.y q1
        rw [h1, q2, p1]
        have := (Array.getElem?_eq_some_iff.1 p3).1
        intro e
        cases e
        omega
      · exact absurd ⟨h0, k4, q0, k5⟩ hne
theorem nj_do (hi : i < 6) (h32 : i = 3 → onDep A 2 = true) {z : Value → World → World → Prop}
    (hr : ∀ a w, NinA wb OA OB (fun _ => false) (fun _ => undef) w → RR.Env (OldRl wb.heap.size) ops shs a0 w0 A a w → ∃ v w', (execOp a.eval ⟨d, op, ty, pos, A, G⟩).run Try.prog w = .ok (.value v) w' ∧ Grew w w' ∧ shF shs i v w' ∧ z v w w')
    (hn : ∀ (l : Array Bool) (a : Act) (v : Value) (w w' : World), l.size = ops.size → a.tmps.size = a0.tmps.size → l.getD i false = false → Grew w w' → z v w w' → NinA wb OA OB (fun j => l.getD j false) (fun d => a.tmps.getD d undef) w → NinA wb OA OB (fun j => (l.setIfInBounds i true).getD j false) (fun e => (a.put d v).tmps.getD e undef) w')
    (hg : guardIs ops shs A G = some true) : StepJ (NinJ wb OA OB) (OldRl wb.heap.size) Try.prog ops Q (shF shs) a0 w0 i ⟨d, op, ty, pos, A, G⟩ := by
  intro listed a w hls hlf hdep hsz hJ hw hsm hdp K hK
  have E : RR.Env (OldRl wb.heap.size) ops shs a0 w0 A a w := ⟨hw, hsm, hdp⟩
  rw [if_pos (E.guard hg)]
  have hA := hJ.p0 (hJ.early hi hlf).1
  obtain ⟨v, w', hrun, hgr, hsh, hz⟩ := hr a w ⟨hA.grew, fun h => (by cases h), fun h => (by cases h), fun h => (by cases h), fun h => (by cases h), fun h => (by cases h)⟩ E
  unfold Oper.wp
  rw [hrun]
  exact hK v w' (OldRl.of_grew hgr) hsh (hJ.pre hi (fun e => onDep_listed (h32 e) hdep) hlf v fun h => hn listed a v w w' hls hsz hlf hgr hz h)
theorem nj_call {f : FuncId} {x : Operand} {u : Value} {ats : Array TypeId} (hf : isGo Try.prog f = true) (hi : i < 6) (h32 : i = 3 → onDep A 2 = true) {z : Value → World → World → Prop}
    (hc : ∀ w, Grew wb w → Calls Try.prog f #[u] w fun e w' => ∃ v, e = .returned v ∧ Grew w w' ∧ z v w w')
    (hn : ∀ (l : Array Bool) (a : Act) (v : Value) (w w' : World), l.size = ops.size → a.tmps.size = a0.tmps.size → l.getD i false = false → Grew w w' → z v w w' → NinA wb OA OB (fun j => l.getD j false) (fun d => a.tmps.getD d undef) w → NinA wb OA OB (fun j => (l.setIfInBounds i true).getD j false) (fun e => (a.put d v).tmps.getD e undef) w')
    (hg : guardIs ops shs A G = some true) (hx : opSh ops shs A a0 x = .val u) (hs : shs.getD i (.fact fun _ _ => True) = .fact fun _ _ => True) : StepJ (NinJ wb OA OB) (OldRl wb.heap.size) Try.prog ops Q (shF shs) a0 w0 i ⟨d, .call { callee := .value (.func f), args := #[x], argTypes := ats }, ty, pos, A, G⟩ := by
  intro listed a w hls hlf hdep hsz hJ hw hsm hdp K hK
  have E : RR.Env (OldRl wb.heap.size) ops shs a0 w0 A a w := ⟨hw, hsm, hdp⟩
  rw [if_pos (E.guard hg)]
  have hA := hJ.p0 (hJ.early hi hlf).1
  unfold Oper.wp
  rw [execOp_call_go, run_go hf, Array.append_empty, Array.empty_append]
  have e : (#[x] : Array Operand).map a.eval = #[u] := by
    have h1 : a.eval x = u := E.opv hx
    simp [h1]
  show Calls _ _ _ _ _
  rw [e]
  refine (hc w hA.grew).mono fun e w' ⟨v, he, hgr, hz⟩ => ?_
  subst he
  exact hK v w' (OldRl.of_grew hgr) (by unfold shF; rw [hs]; trivial) (hJ.pre hi (fun e => onDep_listed (h32 e) hdep) hlf v fun h => hn listed a v w w' hls hsz hlf hgr hz h)
theorem run_store_tab {w : World} {k : Nat} {v : Value} (hk : w.heap[k]? = some zTab) (hv : ∃ x y, v = .agg #[x, y] ∧ x.oneCell' = true ∧ y.oneCell' = true) : (Instr.storeAt 44 (.pointer (some ⟨k, 0, none⟩)) v).run Try.prog w = .ok () (w.setRow k v.cells) := by
  obtain ⟨x, y, rfl, h1, h2⟩ := hv
  have h3 : (#[x, y] : Array Value).all (·.oneCell') = true := by simp [h1, h2]
  have := run_storeVar_row (P := Try.prog) w k 44 44 #[.slice none 0 0, .slice none 0 0] #[x, y] hk (by exact info_tab) rfl h3
  simp only [Instr.storeAt, Instr.sureAddr, Sem.run_bind, Sem.run_pure, Result.andThen_ok]
  exact this
theorem nj_store6 (hOA : ∀ v w, OA v w → ∃ x y, v = .agg #[x, y] ∧ x.oneCell' = true ∧ y.oneCell' = true) (hdm : ∀ j ∈ [0, 1, 3, 4, 5], onDep A j = true) (hsz8 : ops.size = 8) (hg : guardIs ops shs A G = some true) (hs : shs.getD 6 (.fact fun _ _ => True) = .fact fun _ _ => True) :
    StepJ (NinJ wb OA OB) (OldRl wb.heap.size) Try.prog ops Q (shF shs) a0 w0 6 ⟨none, .store 44 (.tmp 10) (.tmp 40), ty, pos, A, G⟩ := by
  intro listed a w hls hlf hdep hsz hJ hw hsm hdp K hK
  have E : RR.Env (OldRl wb.heap.size) ops shs a0 w0 A a w := ⟨hw, hsm, hdp⟩
  rw [if_pos (E.guard hg)]
  have hA := hJ.p0 hlf
  have hl : ∀ j ∈ [0, 1, 3, 4, 5], listed.getD j false = true := fun j hj => onDep_listed (hdm j hj) hdep
  have oa := hA.a (hl 1 (by simp))
  have ob := hA.b (hl 3 (by simp))
  obtain ⟨k, p1, p2, p3⟩ := hA.x (hl 4 (by simp))
  obtain ⟨k', q1, q2, q3⟩ := hA.y (hl 5 (by simp))
  have hne : k ≠ k' := fun e => hA.xy (hl 4 (by simp)) (hl 5 (by simp)) (by rw [p1, q1, e])
  have e6 : (listed.setIfInBounds 6 true).getD 6 false = true := lset_here (by rw [hls, hsz8]; omega)
  have e7 : (listed.setIfInBounds 6 true).getD 7 false = false := by
    rw [lset_ne (by omega)]
    cases h : listed.getD 7 false with
    | false => rfl
    | true => rw [hJ.o7 h] at hlf; cases hlf
  have := hK undef (w.setRow k (a.tmps.getD 40 undef).cells) (OldRl.setRow w p2 _) (by unfold shF; rw [hs]; trivial)
    ⟨fun _ => lset_true (hJ.o3 (hl 3 (by simp))), fun _ j hj h2 => lset_true (hl j (by simp; omega)), fun k => (by rw [e7] at k; cases k), fun k => (by rw [e6] at k; cases k), fun _ _ => ⟨w, k, k', ⟨hA.grew, oa, ob, p1, q1, p2, q2, hne, p3, q3⟩, rfl⟩, fun k => (by rw [e7] at k; cases k)⟩
  have h1 : a.eval (.tmp 10) = .pointer (some ⟨k, 0, none⟩) := p1
  have h2 : a.eval (.tmp 40) = a.tmps.getD 40 undef := rfl
  unfold Oper.wp execOp
  simp only [h1, h2, run_store_tab p3 (hOA _ _ oa), Sem.run_bind, Sem.run_pure, Result.andThen_ok]
  exact this
theorem nj_store7 (hOB : ∀ v w, OB v w → ∃ x y, v = .agg #[x, y] ∧ x.oneCell' = true ∧ y.oneCell' = true) (hdm : onDep A 6 = true) (hsz8 : ops.size = 8) (hg : guardIs ops shs A G = some true) (hs : shs.getD 7 (.fact fun _ _ => True) = .fact fun _ _ => True) :
    StepJ (NinJ wb OA OB) (OldRl wb.heap.size) Try.prog ops Q (shF shs) a0 w0 7 ⟨none, .store 44 (.tmp 11) (.tmp 42), ty, pos, A, G⟩ := by
  intro listed a w hls hlf hdep hsz hJ hw hsm hdp K hK
  have E : RR.Env (OldRl wb.heap.size) ops shs a0 w0 A a w := ⟨hw, hsm, hdp⟩
  rw [if_pos (E.guard hg)]
  have h6 := onDep_listed hdm hdep
  obtain ⟨w1, k, k', hM, rfl⟩ := hJ.p1 h6 hlf
  obtain ⟨m1, m2, m3, m4, m5, m6, m7, m8, m9, m10⟩ := hM
  have e6 : (listed.setIfInBounds 7 true).getD 6 false = true := lset_true h6
  have e7 : (listed.setIfInBounds 7 true).getD 7 false = true := lset_here (by rw [hls, hsz8]; omega)
  have hk' : (w1.setRow k (a.tmps.getD 40 undef).cells).heap[k']? = some zTab := by rw [setRow_other _ _ _ _ (Ne.symm m8)]; exact m10
  have := hK undef ((w1.setRow k (a.tmps.getD 40 undef).cells).setRow k' (a.tmps.getD 42 undef).cells) (OldRl.setRow _ m7 _) (by unfold shF; rw [hs]; trivial)
    ⟨fun k => by rw [lset_ne (by omega)] at k; exact lset_true (hJ.o3 k), fun _ j hj h2 => lset_true (hJ.o6 h6 j hj h2), fun _ => e6, fun k => (by rw [e6] at k; cases k), fun _ k => (by rw [e7] at k; cases k), fun _ => ⟨w1, k, k', ⟨m1, m2, m3, m4, m5, m6, m7, m8, m9, m10⟩, rfl⟩⟩
  have h1 : a.eval (.tmp 11) = .pointer (some ⟨k', 0, none⟩) := m5
  have h2 : a.eval (.tmp 42) = a.tmps.getD 42 undef := rfl
  unfold Oper.wp execOp
  simp only [h1, h2, run_store_tab hk' (hOB _ _ m3), Sem.run_bind, Sem.run_pure, Result.andThen_ok]
  exact this
section
variable {l : Array Bool} {a : Act} {v : Value} {w w' : World}
theorem put_ne {d e : Nat} (h : d ≠ e) : (a.put (some d) v).tmps.getD e undef = a.tmps.getD e undef := getD_put h
theorem put_same {d : Nat} (h : d < a.tmps.size) : (a.put (some d) v).tmps.getD d undef = v := getD_put_same h
theorem nin_other (hOA : ∀ v w w', Grew w w' → OA v w → OA v w') (hOB : ∀ v w w', Grew w w' → OB v w → OB v w') (i d : Nat) (h1 : i ≠ 1) (h3 : i ≠ 3) (h4 : i ≠ 4) (h5 : i ≠ 5) (d1 : d ≠ 40) (d2 : d ≠ 42) (d3 : d ≠ 10) (d4 : d ≠ 11) (g : Grew w w')
    (h : NinA wb OA OB (fun j => l.getD j false) (fun d => a.tmps.getD d undef) w) : NinA wb OA OB (fun j => (l.setIfInBounds i true).getD j false) (fun e => (a.put (some d) v).tmps.getD e undef) w' :=
  h.upd g (fun k => by rw [put_ne d1]; rw [lset_ne h1] at k; exact hOA _ _ _ g (h.a k)) (fun k => by rw [put_ne d2]; rw [lset_ne h3] at k; exact hOB _ _ _ g (h.b k))
    (fun k => by rw [lset_ne h4] at k; exact Or.inl ⟨k, put_ne d3⟩) (fun k => by rw [lset_ne h5] at k; exact Or.inl ⟨k, put_ne d4⟩) (fun ⟨e1, e2, _⟩ => by rw [lset_ne h4, e1] at e2; cases e2)
theorem nin_c1 (hOB : ∀ v w w', Grew w w' → OB v w → OB v w') (hs : 40 < a.tmps.size) (g : Grew w w') (hv : OA v w')
    (h : NinA wb OA OB (fun j => l.getD j false) (fun d => a.tmps.getD d undef) w) : NinA wb OA OB (fun j => (l.setIfInBounds 1 true).getD j false) (fun e => (a.put (some 40) v).tmps.getD e undef) w' :=
  h.upd g (fun k => by rw [put_same hs]; exact hv) (fun k => by rw [put_ne (by omega)]; rw [lset_ne (by omega)] at k; exact hOB _ _ _ g (h.b k))
    (fun k => by rw [lset_ne (by omega)] at k; exact Or.inl ⟨k, put_ne (by omega)⟩) (fun k => by rw [lset_ne (by omega)] at k; exact Or.inl ⟨k, put_ne (by omega)⟩) (fun ⟨e1, e2, _⟩ => by rw [lset_ne (by omega), e1] at e2; cases e2)
theorem nin_c3 (hOA : ∀ v w w', Grew w w' → OA v w → OA v w') (hs : 42 < a.tmps.size) (g : Grew w w') (hv : OB v w')
    (h : NinA wb OA OB (fun j => l.getD j false) (fun d => a.tmps.getD d undef) w) : NinA wb OA OB (fun j => (l.setIfInBounds 3 true).getD j false) (fun e => (a.put (some 42) v).tmps.getD e undef) w' :=
  h.upd g (fun k => by rw [put_ne (by omega)]; rw [lset_ne (by omega)] at k; exact hOA _ _ _ g (h.a k)) (fun k => by rw [put_same hs]; exact hv)
    (fun k => by rw [lset_ne (by omega)] at k; exact Or.inl ⟨k, put_ne (by omega)⟩) (fun k => by rw [lset_ne (by omega)] at k; exact Or.inl ⟨k, put_ne (by omega)⟩) (fun ⟨e1, e2, _⟩ => by rw [lset_ne (by omega), e1] at e2; cases e2)
theorem nin_a4 (hOA : ∀ v w w', Grew w w' → OA v w → OA v w') (hOB : ∀ v w w', Grew w w' → OB v w → OB v w') (hs : 10 < a.tmps.size) (hl : l.getD 4 false = false) (g : Grew w w') (hv : v = .pointer (some ⟨w.heap.size, 0, none⟩)) (hw : w'.heap[w.heap.size]? = some zTab)
    (h : NinA wb OA OB (fun j => l.getD j false) (fun d => a.tmps.getD d undef) w) : NinA wb OA OB (fun j => (l.setIfInBounds 4 true).getD j false) (fun e => (a.put (some 10) v).tmps.getD e undef) w' :=
  h.upd g (fun k => by rw [put_ne (by omega)]; rw [lset_ne (by omega)] at k; exact hOA _ _ _ g (h.a k)) (fun k => by rw [put_ne (by omega)]; rw [lset_ne (by omega)] at k; exact hOB _ _ _ g (h.b k))
    (fun k => Or.inr ⟨hl, _, by rw [put_same hs]; exact hv, Nat.le_refl _, hw⟩) (fun k => by rw [lset_ne (by omega)] at k; exact Or.inl ⟨k, put_ne (by omega)⟩) (fun ⟨_, _, e1, e2⟩ => by rw [lset_ne (by omega), e1] at e2; cases e2)
theorem nin_a5 (hOA : ∀ v w w', Grew w w' → OA v w → OA v w') (hOB : ∀ v w w', Grew w w' → OB v w → OB v w') (hs : 11 < a.tmps.size) (hl : l.getD 5 false = false) (g : Grew w w') (hv : v = .pointer (some ⟨w.heap.size, 0, none⟩)) (hw : w'.heap[w.heap.size]? = some zTab)
    (h : NinA wb OA OB (fun j => l.getD j false) (fun d => a.tmps.getD d undef) w) : NinA wb OA OB (fun j => (l.setIfInBounds 5 true).getD j false) (fun e => (a.put (some 11) v).tmps.getD e undef) w' :=
  h.upd g (fun k => by rw [put_ne (by omega)]; rw [lset_ne (by omega)] at k; exact hOA _ _ _ g (h.a k)) (fun k => by rw [put_ne (by omega)]; rw [lset_ne (by omega)] at k; exact hOB _ _ _ g (h.b k))
    (fun k => by rw [lset_ne (by omega)] at k; exact Or.inl ⟨k, put_ne (by omega)⟩) (fun k => Or.inr ⟨hl, _, by rw [put_same hs]; exact hv, Nat.le_refl _, hw⟩) (fun ⟨e1, e2, _⟩ => by rw [lset_ne (by omega), e1] at e2; cases e2)
end
end
end Go.Proofs.Ytkkdpafkafjfgaa
