/- A region of two calls, one behind the other, that turn an object, and a store: what each operation leaves; what build answers. -/
import Derived.Test.YtkkdpafkafjfgaaDoorMkPGlO
import Derived.Test.YtkkdpafkafjfgaaDoorMkPStBits
import Derived.Test.YtkkdpafkafjfgaaDoorMkPAuEy
import Derived.Test.YtkkdpafkafjfgaaDoorMkScWrong
namespace Go.Proofs.YtkkdpafkafjfgaaDoor
open Go.RowKit RR
set_option linter.unusedVariables false
set_option linter.unusedSimpArgs false
structure SqJ (P0 P1 P2 P3 : World → Prop) (mk : List Nat) (k1 k2 k3 : Nat) (listed : Array Bool) (a : Act) (w : World) : Prop where
  ab : listed.getD k3 false = true → ∀ j ∈ mk, listed.getD j false = true
  ba : listed.getD k2 false = true → listed.getD k1 false = true
  p0 : listed.getD k1 false = false → P0 w
  p1 : listed.getD k1 false = true → listed.getD k2 false = false → P1 w
  p2 : listed.getD k2 false = true → listed.getD k3 false = false → P2 w
  p3 : listed.getD k3 false = true → P3 w
def AnyRl (w w' : World) : Prop := True
section
variable {P0 P1 P2 P3 : World → Prop} {mk : List Nat} {k1 k2 k3 : Nat} {P : Program} {w0 : World} {ops : Array Oper} {Q : Exit → Act → World → Prop} {shs : List Sh} {a0 : Act} {A : Array Edge} {i : Nat} {d : Option Tmp} {op : Op} {ty : TypeId} {pos : String} {G : Option (Nat × Bool)}
theorem SqJ.now {listed : Array Bool} {a : Act} {w : World} (h : SqJ P0 P1 P2 P3 mk k1 k2 k3 listed a w) (hi : i ∈ mk) (hl : listed.getD i false = false) : listed.getD k3 false = false ∧ (P0 w ∨ P1 w ∨ P2 w) := by
  have h3 : listed.getD k3 false = false := by
    cases e : listed.getD k3 false with
    | false => rfl
    | true => rw [h.ab e i hi] at hl; cases hl
  refine ⟨h3, ?_⟩
  cases e1 : listed.getD k1 false with
  | false => exact Or.inl (h.p0 e1)
  | true =>
    cases e2 : listed.getD k2 false with
    | false => exact Or.inr (Or.inl (h.p1 e1 e2))
    | true => exact Or.inr (Or.inr (h.p2 e2 h3))
theorem sq_pure {z : Value} (hi : i ∈ mk) (hk : i ≠ k1 ∧ i ≠ k2 ∧ i ≠ k3)
    (hr : ∀ a w, (P0 w ∨ P1 w ∨ P2 w) → RR.Env AnyRl ops shs a0 w0 A a w → (execOp a.eval ⟨d, op, ty, pos, A, G⟩).run P w = .ok (.value z) w)
    (hg : guardIs ops shs A G = some true) (hs : shs.getD i (.fact fun _ _ => True) = .val z) : StepJ (SqJ P0 P1 P2 P3 mk k1 k2 k3) AnyRl P ops Q (shF shs) a0 w0 i ⟨d, op, ty, pos, A, G⟩ := by
  intro listed a w hls hlf hdep hsz hJ hw hsm hdp K hK
  have E : RR.Env AnyRl ops shs a0 w0 A a w := ⟨hw, hsm, hdp⟩
  rw [if_pos (E.guard hg)]
  have hn := hJ.now hi hlf
  unfold Oper.wp
  rw [hr a w hn.2 E]
  have e1 : (listed.setIfInBounds i true).getD k1 false = listed.getD k1 false := lset_ne hk.1
  have e2 : (listed.setIfInBounds i true).getD k2 false = listed.getD k2 false := lset_ne hk.2.1
  have e3 : (listed.setIfInBounds i true).getD k3 false = listed.getD k3 false := lset_ne hk.2.2
  refine hK z w trivial (by unfold shF; rw [hs]; rfl) ⟨fun k j hj => lset_true (hJ.ab (by rwa [e3] at k) j hj), fun k => ?_, fun k => ?_, fun k l => ?_, fun k l => ?_, fun k => ?_⟩
  · rw [e2] at k; rw [e1]; exact hJ.ba k
  · rw [e1] at k; exact hJ.p0 k
  · rw [e1] at k; rw [e2] at l; exact hJ.p1 k l
  · rw [e2] at k; rw [e3] at l; exact hJ.p2 k l
  · rw [e3] at k; exact hJ.p3 k
theorem sq_move {z : Value} (hi : i ∈ mk) (hk : i ≠ k1 ∧ i ≠ k2 ∧ i ≠ k3) {x : Operand} (hg : guardIs ops shs A G = some true) (hx : opSh ops shs A a0 x = .val z) (hs : shs.getD i (.fact fun _ _ => True) = .val z) :
    StepJ (SqJ P0 P1 P2 P3 mk k1 k2 k3) AnyRl P ops Q (shF shs) a0 w0 i ⟨d, .move x, ty, pos, A, G⟩ :=
  sq_pure hi hk (fun a w _ E => by
    have hv : a.eval x = z := E.opv hx
    unfold execOp
    simp [hv]) hg hs
theorem sq_load {t : TypeId} {p : Addr} {z : Value} (hrun : ∀ w, (P0 w ∨ P1 w ∨ P2 w) → (Instr.loadAt t (.pointer (some p))).run P w = .ok z w) (hi : i ∈ mk) (hk : i ≠ k1 ∧ i ≠ k2 ∧ i ≠ k3) {x : Operand}
    (hg : guardIs ops shs A G = some true) (hx : opSh ops shs A a0 x = .val (.pointer (some p))) (hs : shs.getD i (.fact fun _ _ => True) = .val z) :
    StepJ (SqJ P0 P1 P2 P3 mk k1 k2 k3) AnyRl P ops Q (shF shs) a0 w0 i ⟨d, .load t x, ty, pos, A, G⟩ :=
  sq_pure hi hk (fun a w h E => by
    have hv : a.eval x = .pointer (some p) := E.opv hx
    unfold execOp
    simp [hv, hrun w h]) hg hs
theorem sq_first {f : FuncId} {x y : Operand} {u1 u2 v : Value} {ats : Array TypeId} (hf : isGo P f = true) (hi : k1 ∈ mk) (h12 : k1 ≠ k2) (h13 : k1 ≠ k3) (hsz1 : k1 < ops.size)
    (hc : ∀ w, P0 w → Calls P f #[u1, u2] w fun e w' => e = .returned v ∧ P1 w')
    (hg : guardIs ops shs A G = some true) (hx : opSh ops shs A a0 x = .val u1) (hy : opSh ops shs A a0 y = .val u2) (hs : shs.getD k1 (.fact fun _ _ => True) = .val v) :
    StepJ (SqJ P0 P1 P2 P3 mk k1 k2 k3) AnyRl P ops Q (shF shs) a0 w0 k1 ⟨d, .call { callee := .value (.func f), args := #[x, y], argTypes := ats }, ty, pos, A, G⟩ := by
  intro listed a w hls hlf hdep hsz hJ hw hsm hdp K hK
  have E : RR.Env AnyRl ops shs a0 w0 A a w := ⟨hw, hsm, hdp⟩
  rw [if_pos (E.guard hg)]
  have hn := hJ.now hi hlf
  have h2 : listed.getD k2 false = false := by
    cases e : listed.getD k2 false with
    | false => rfl
    | true => rw [hJ.ba e] at hlf; cases hlf
  unfold Oper.wp
  rw [execOp_call_go, run_go hf, Array.append_empty, Array.empty_append]
  have e : (#[x, y] : Array Operand).map a.eval = #[u1, u2] := by
    have h1 : a.eval x = u1 := E.opv hx
    have h2 : a.eval y = u2 := E.opv hy
    simp [h1, h2]
  show Calls _ _ _ _ _
  rw [e]
  refine (hc w (hJ.p0 hlf)).mono fun e w' ⟨he, hp⟩ => ?_
  subst he
  have e1 : (listed.setIfInBounds k1 true).getD k1 false = true := lset_here (by rw [hls]; exact hsz1)
  have e2 : (listed.setIfInBounds k1 true).getD k2 false = false := by rw [lset_ne h12]; exact h2
  have e3 : (listed.setIfInBounds k1 true).getD k3 false = false := by rw [lset_ne h13]; exact hn.1
  exact hK v w' trivial (by unfold shF; rw [hs]; rfl) ⟨fun k => (by rw [e3] at k; cases k), fun k => (by rw [e2] at k; cases k), fun k => (by rw [e1] at k; cases k), fun _ _ => hp, fun k => (by rw [e2] at k; cases k), fun k => (by rw [e3] at k; cases k)⟩
theorem sq_second {f : FuncId} {x y z : Operand} {u1 u2 u3 v : Value} {ats : Array TypeId} (hf : isGo P f = true) (hi : k2 ∈ mk) (h12 : k1 ≠ k2) (h23 : k2 ≠ k3) (hsz1 : k2 < ops.size) (hd : onDep A k1 = true)
    (hc : ∀ w, P1 w → Calls P f #[u1, u2, u3] w fun e w' => e = .returned v ∧ P2 w')
    (hg : guardIs ops shs A G = some true) (hx : opSh ops shs A a0 x = .val u1) (hy : opSh ops shs A a0 y = .val u2) (hz : opSh ops shs A a0 z = .val u3) (hs : shs.getD k2 (.fact fun _ _ => True) = .val v) :
    StepJ (SqJ P0 P1 P2 P3 mk k1 k2 k3) AnyRl P ops Q (shF shs) a0 w0 k2 ⟨d, .call { callee := .value (.func f), args := #[x, y, z], argTypes := ats }, ty, pos, A, G⟩ := by
  intro listed a w hls hlf hdep hsz hJ hw hsm hdp K hK
  have E : RR.Env AnyRl ops shs a0 w0 A a w := ⟨hw, hsm, hdp⟩
  rw [if_pos (E.guard hg)]
  have hn := hJ.now hi hlf
  have h1 := onDep_listed hd hdep
  unfold Oper.wp
  rw [execOp_call_go, run_go hf, Array.append_empty, Array.empty_append]
  have e : (#[x, y, z] : Array Operand).map a.eval = #[u1, u2, u3] := by
    have h1 : a.eval x = u1 := E.opv hx
    have h2 : a.eval y = u2 := E.opv hy
    have h3 : a.eval z = u3 := E.opv hz
    simp [h1, h2, h3]
  show Calls _ _ _ _ _
  rw [e]
  refine (hc w (hJ.p1 h1 hlf)).mono fun e w' ⟨he, hp⟩ => ?_
  subst he
  have e1 : (listed.setIfInBounds k2 true).getD k1 false = true := lset_true h1
  have e2 : (listed.setIfInBounds k2 true).getD k2 false = true := lset_here (by rw [hls]; exact hsz1)
  have e3 : (listed.setIfInBounds k2 true).getD k3 false = false := by rw [lset_ne h23]; exact hn.1
  exact hK v w' trivial (by unfold shF; rw [hs]; rfl) ⟨fun k => (by rw [e3] at k; cases k), fun _ => e1, fun k => (by rw [e1] at k; cases k), fun _ k => (by rw [e2] at k; cases k), fun _ _ => hp, fun k => (by rw [e3] at k; cases k)⟩
theorem sq_store {t : TypeId} {x y : Operand} {u v : Value} (hk2 : k2 ∈ mk) (hdm : ∀ j ∈ mk, onDep A j = true) (hisz : k3 < ops.size) (h3 : k3 ∉ mk)
    (hr : ∀ w, P2 w → ∃ w', (Instr.storeAt t u v).run P w = .ok () w' ∧ P3 w') (hk1 : k1 ∈ mk)
    (hg : guardIs ops shs A G = some true) (hx : opSh ops shs A a0 x = .val u) (hy : opSh ops shs A a0 y = .val v) (hs : shs.getD k3 (.fact fun _ _ => True) = .fact fun _ _ => True) :
    StepJ (SqJ P0 P1 P2 P3 mk k1 k2 k3) AnyRl P ops Q (shF shs) a0 w0 k3 ⟨none, .store t x y, ty, pos, A, G⟩ := by
  intro listed a w hls hlf hdep hsz hJ hw hsm hdp K hK
  have E : RR.Env AnyRl ops shs a0 w0 A a w := ⟨hw, hsm, hdp⟩
  rw [if_pos (E.guard hg)]
  have hl2 := onDep_listed (hdm k2 hk2) hdep
  have hl1 := onDep_listed (hdm k1 hk1) hdep
  obtain ⟨w', hrun, hfin⟩ := hr w (hJ.p2 hl2 hlf)
  have hxv : a.eval x = u := E.opv hx
  have hyv : a.eval y = v := E.opv hy
  have es : (listed.setIfInBounds k3 true).getD k3 false = true := lset_here (by rw [hls]; exact hisz)
  have e1 : (listed.setIfInBounds k3 true).getD k1 false = true := lset_true hl1
  have e2 : (listed.setIfInBounds k3 true).getD k2 false = true := lset_true hl2
  have := hK undef w' trivial (by unfold shF; rw [hs]; trivial) ⟨fun _ j hj => lset_true (onDep_listed (hdm j hj) hdep), fun _ => e1, fun k => (by rw [e1] at k; cases k), fun _ k => (by rw [e2] at k; cases k), fun _ k => (by rw [es] at k; cases k), fun _ => hfin⟩
  unfold Oper.wp execOp
  simp only [hxv, hyv, hrun, Sem.run_bind, Sem.run_pure, Result.andThen_ok]
  exact this
theorem sq_start {m : Nat} (a : Act) (w : World) (h : P0 w) : SqJ P0 P1 P2 P3 mk k1 k2 k3 (Array.replicate m false) a w := by
  have hz : ∀ j, (Array.replicate m false).getD j false = false := fun j => by
    simp only [Array.getD_eq_getD_getElem?, Array.getElem?_replicate]
    split <;> rfl
  exact ⟨fun k => (by rw [hz] at k; cases k), fun k => (by rw [hz] at k; cases k), fun _ => h, fun k => (by rw [hz] at k; cases k), fun k => (by rw [hz] at k; cases k), fun k => (by rw [hz] at k; cases k)⟩
theorem any_mono : ∀ (hp : ∀ s ∈ shs, (∃ v, s = .val v) ∨ ∃ f, s = .fact f ∧ ∀ z w, f z w), ∀ i z w w', AnyRl w w' → shF shs i z w → shF shs i z w' := by
  intro hp i z w w' _ k
  unfold shF at k ⊢
  rcases Nat.lt_or_ge i shs.length with hi | hi
  · rw [List.getD_eq_getElem?_getD, List.getElem?_eq_getElem hi] at k ⊢
    rcases hp _ (List.getElem_mem hi) with ⟨u, e⟩ | ⟨f, e, hf⟩
    · rw [Option.getD_some, e] at k ⊢; exact k
    · rw [Option.getD_some, e] at k ⊢; exact hf z w'
  · rw [List.getD_eq_getElem?_getD, List.getElem?_eq_none hi]; trivial
end
def BuildTo (R : Option Part × Gl) (w w0 : World) (ob : Nat) (F : Nat → Prop) : Ending → World → Prop := fun e w' =>
  ∃ o ok F', e = .returned (.tuple #[partV o, .bool ok]) ∧ R.1 = (if ok = true then some o else none) ∧ GlAt w w' ob R.2 F' ∧ GlTo w0 w' F F'
theorem results_part2 {fn : Func} {p q : Tmp} (h : fn.results = #[.cell p 69, .tmp q]) {w : World} {tmps : Array Value} {rb : Nat} {av : Array Value} {v : Value} (hp : tmps.getD p undef = .pointer (some ⟨rb, 0, none⟩)) (hq : tmps.getD q undef = v) (hb : w.heap[rb]? = some (.cells av 69 (0, 0))) (hs : av.size = 3) :
    (results fn tmps).run Tryd.prog w = .ok (.tuple #[.agg av, v]) w := by
  rw [results_cell_tmp h, hp, hq]
  have hl := run_loadVar_row (P := Tryd.prog) w rb 69 69 av (0, 0) _ hb Tryd.underlying69 rfl (by rw [hs]; exact info_part)
  simp [asAddr, hl]
theorem zero_set (w : World) : (zeroValue 77).run Tryd.prog w = .ok (.agg #[.int .u64 0, .int .u64 0, .int .u64 0, .int .u64 0]) w := run_zero (by kernel_rfl) w
theorem word_noneG : ∀ n b, word (fun _ => false) b n = 0 := word_empty
theorem setV_none : setV (fun _ => false) = .agg #[.int .u64 0, .int .u64 0, .int .u64 0, .int .u64 0] := by
  unfold setV; simp only [word_noneG]; rfl
theorem Not_none (w : World) : Calls Tryd.prog 57 #[.agg #[.int .u64 0, .int .u64 0, .int .u64 0, .int .u64 0]] w fun e w' => e = .returned (setV allB) ∧ Grew w w' := by
  have := Not_any (fun _ => false) w
  rw [setV_none] at this; exact this
end Go.Proofs.YtkkdpafkafjfgaaDoor

namespace Go.Proofs.YtkkdpafkafjfgaaDoor
open Go.RowKit RR
set_option linter.unusedVariables false
set_option linter.unusedSimpArgs false
set_option maxRecDepth 100000
structure BuildIn (p : Pat) (b o : Nat) (kv : Value) (w : World) : Prop where
  node : NodeAt w b o p kv
  fit : fitP p
  tab : TabZ32 w
  kids : 0 < p.kids.length → ∃ b' o' c, kv = .slice (some ⟨b', o', none⟩) p.kids.length c ∧ p.kids.length ≤ c ∧ c ≤ maxLen ∧ ∀ i, i < p.kids.length → ∀ w0 ob g F, GlAt w w0 ob g F → Calls Tryd.prog 26 #[.pointer (some ⟨ob, 0, none⟩), .pointer (some ⟨b', o' + i * 5, none⟩)] w0 (BuildTo (buildP (p.kids.getD i Pat.zero) g) w w0 ob F)
structure BuildPre (p : Pat) (b o : Nat) (kv : Value) (w w0 w2 : World) (ob : Nat) (g : Gl) (F : Nat → Prop) (rs : Nat) : Prop where
  node : ∀ x, NodeAt (w2.alloc x) b o p kv
  gl : ∀ x, GlAt w (w2.alloc x) ob g F
  res : ∀ x, (w2.alloc x).heap[rs]? = some (.cells (partC part0) 69 (0, 0))
  to : ∀ x, GlTo w0 (w2.alloc x) F F
  hr : ¬ F rs
  hs : ¬ F w2.heap.size
  lo : w.heap.size ≤ w0.heap.size
  lr : w0.heap.size ≤ rs
  ls : rs < w2.heap.size
theorem build_pre {p : Pat} {b o : Nat} {kv : Value} {w w0 w2 : World} {ob : Nat} {g : Gl} {F : Nat → Prop} (hN : NodeAt w b o p kv) (hG : GlAt w w0 ob g F) (g2 : Grew (w0.alloc (.cells (partC part0) 69)) w2) : BuildPre p b o kv w w0 w2 ob g F w0.heap.size := by
  have ga := (Grew.refl w0).alloc (.cells (partC part0) 69)
  have gx : ∀ x, Grew w0 (w2.alloc x) := fun x => (ga.trans g2).alloc x
  have hsz : w0.heap.size < w2.heap.size := by have := g2.size; rw [World.size_alloc] at this; omega
  exact ⟨fun x => hN.kept (hG.grew.trans (gx x)), fun x => hG.kept (gx x), fun x => heap_kept (g2.alloc x) (heap_alloc_new w0 _), fun x => GlTo.grew (gx x) F, fun hf => by have := hG.lt hf; omega, fun hf => by have := hG.lt hf; omega, hG.grew.size, Nat.le_refl _, hsz⟩
theorem build_end {R : Option Part × Gl} {w w0 w' : World} {ob : Nat} {F F' : Nat → Prop} {rs : Nat} {o : Part} (hR : R.1 = some o) (hG : GlAt w w' ob R.2 F') (hT : GlTo w0 w' F F') (hr : ¬ F' rs) (lo : w.heap.size ≤ w0.heap.size) (lr : w0.heap.size ≤ rs) (c1 c2 : Array Value) :
    BuildTo R w w0 ob F (.returned (.tuple #[partV o, .bool true])) ((w'.setRow rs c1).setRow rs c2) :=
  ⟨o, true, F', rfl, by rw [hR]; rfl, (hG.setRow hr (by omega) c1).setRow hr (by omega) c2, (hT.setRow lr c1).setRow lr c2⟩
theorem build_end1 {R : Option Part × Gl} {w w0 w' : World} {ob : Nat} {F F' : Nat → Prop} {rs : Nat} {o : Part} (hR : R.1 = some o) (hG : GlAt w w' ob R.2 F') (hT : GlTo w0 w' F F') (hr : ¬ F' rs) (lo : w.heap.size ≤ w0.heap.size) (lr : w0.heap.size ≤ rs) (c1 : Array Value) :
    BuildTo R w w0 ob F (.returned (.tuple #[partV o, .bool true])) (w'.setRow rs c1) :=
  ⟨o, true, F', rfl, by rw [hR]; rfl, hG.setRow hr (by omega) c1, hT.setRow lr c1⟩
theorem build_no {R : Option Part × Gl} {w w0 w' : World} {ob : Nat} {F F' : Nat → Prop} {rs : Nat} (o : Part) (hR : R.1 = none) (hG : GlAt w w' ob R.2 F') (hT : GlTo w0 w' F F') (hr : ¬ F' rs) (lo : w.heap.size ≤ w0.heap.size) (lr : w0.heap.size ≤ rs) (c1 : Array Value) :
    BuildTo R w w0 ob F (.returned (.tuple #[partV o, .bool false])) (w'.setRow rs c1) :=
  ⟨o, false, F', rfl, by rw [hR]; rfl, hG.setRow hr (by omega) c1, hT.setRow lr c1⟩
theorem build_k15 (t : ByteArray) (n : Int) (m : ByteArray) (l : List Pat) (b o : Nat) (kv : Value) (w : World) (h : BuildIn (.mk 15 t n m l) b o kv w) (w0 : World) (ob : Nat) (g : Gl) (F : Nat → Prop) (hG : GlAt w w0 ob g F) :
    Calls Tryd.prog 26 #[.pointer (some ⟨ob, 0, none⟩), .pointer (some ⟨b, o, none⟩)] w0 (BuildTo (buildP (.mk 15 t n m l) g) w w0 ob F) := by
  have hz := zero_part
  have hz2 := zero_set
  have HR : Hid (buildP (.mk 15 t n m l) g = (some part0, g)) := by unfold Hid; rw [buildP_eq]; rfl
  have HP : Hid (∀ w2, Grew (w0.alloc (.cells (partC part0) 69)) w2 → _) := fun w2 g2 => build_pre h.node hG g2
  have HN := hidd (Not_none (w0.alloc (.cells (partC part0) 69)))
  obtain ⟨rs, hrs⟩ : ∃ rs, w0.heap.size = rs := ⟨_, rfl⟩
  rw [hrs] at HP
  clear h hG
  go_enter Tryd.func26, Tryd.ntmps26
  go_wp2_with fail
  refine HN.out.mono ?_; rintro e w2 ⟨rfl, g2⟩
  have hp := HP.out w2 g2
  have HPx := hidd hp
  have c0 : ∀ x, (w2.alloc x).cell? ⟨b, o, none⟩ = some (.int .i64 15) := fun x => (hp.node x).c0
  clear hp HP HN g2 hrs
  unfold setV
  go_wp2_with (first | (refine wpList_load_part (b := rs) rfl rfl rfl (HPx.out.res _) rfl ?_) | (refine wpList_store_part (b := rs) rfl rfl rfl rfl (HPx.out.res _) rfl rfl (part_one _) ?_))
  refine bodyPost_ret (results_part2 (p := 4) (q := 5) (rb := rs) (av := partC part0) rfl rfl rfl (setRow_heap _ _ _ _ _ _ (HPx.out.res _)) rfl) rfl ?_
  rw [HR.out]
  exact build_end1 (o := part0) rfl (HPx.out.gl _) (HPx.out.to _) HPx.out.hr HPx.out.lo HPx.out.lr _
theorem build_other (k : Int) (t : ByteArray) (n : Int) (m : ByteArray) (l : List Pat) (hk : k ≠ 1 ∧ k ≠ 2 ∧ k ≠ 3 ∧ k ≠ 4 ∧ k ≠ 13 ∧ k ≠ 15 ∧ k ≠ 18 ∧ k ≠ 19 ∧ k ≠ 20) (b o : Nat) (kv : Value) (w : World) (h : BuildIn (.mk k t n m l) b o kv w) (w0 : World) (ob : Nat) (g : Gl) (F : Nat → Prop) (hG : GlAt w w0 ob g F) :
    Calls Tryd.prog 26 #[.pointer (some ⟨ob, 0, none⟩), .pointer (some ⟨b, o, none⟩)] w0 (BuildTo (buildP (.mk k t n m l) g) w w0 ob F) := by
  have hz := zero_part
  have hz2 := zero_set
  obtain ⟨k1, k2, k3, k4, k13, k15, k18, k19, k20⟩ := hk
  have HR : Hid (buildP (.mk k t n m l) g = (none, g)) := by
    unfold Hid; rw [buildP_eq]; show buildK k t n _ g = _
    unfold buildK
    rw [if_neg (by omega), if_neg k3, if_neg k4, if_neg k13, if_neg k15, if_neg k18, if_neg k19, if_neg k20]
  have q1 : (k == 1) = false := by simpa using k1
  have q2 : (k == 2) = false := by simpa using k2
  have q3 : (k == 3) = false := by simpa using k3
  have q4 : (k == 4) = false := by simpa using k4
  have q13 : (k == 13) = false := by simpa using k13
  have q15 : (k == 15) = false := by simpa using k15
  have q18 : (k == 18) = false := by simpa using k18
  have q19 : (k == 19) = false := by simpa using k19
  have q20 : (k == 20) = false := by simpa using k20
  clear k1 k2 k3 k4 k13 k15 k18 k19 k20
  have HP : Hid (∀ w2, Grew (w0.alloc (.cells (partC part0) 69)) w2 → _) := fun w2 g2 => build_pre h.node hG g2
  have HN := hidd (Not_none (w0.alloc (.cells (partC part0) 69)))
  obtain ⟨rs, hrs⟩ : ∃ rs, w0.heap.size = rs := ⟨_, rfl⟩
  rw [hrs] at HP
  clear h hG
  go_enter Tryd.func26, Tryd.ntmps26
  go_wp2_with fail
  refine HN.out.mono ?_; rintro e w2 ⟨rfl, g2⟩
  have hp := HP.out w2 g2
  have HPx := hidd hp
  have c0 : ∀ x, (w2.alloc x).cell? ⟨b, o, none⟩ = some (.int .i64 k) := fun x => (hp.node x).c0
  clear hp HP HN g2 hrs
  unfold setV
  go_wp2_with (first | (refine wpList_load_part (b := rs) rfl rfl rfl (HPx.out.res _) rfl ?_) | (refine wpList_store_part (b := rs) rfl rfl rfl rfl (HPx.out.res _) rfl rfl (part_one _) ?_))
  refine bodyPost_ret (results_part2 (p := 4) (q := 5) (rb := rs) (av := partC part0) rfl rfl rfl (setRow_heap _ _ _ _ _ _ (HPx.out.res _)) rfl) rfl ?_
  rw [HR.out]
  exact build_no part0 rfl (HPx.out.gl _) (HPx.out.to _) HPx.out.hr HPx.out.lo HPx.out.lr _
theorem someB_set (t : ByteArray) : setV (setOf t.data.toList) = setV (someB t) := setV_congr fun b _ => setOf_mem _ _
theorem build_k3 (t : ByteArray) (n : Int) (m : ByteArray) (l : List Pat) (b o : Nat) (kv : Value) (w : World) (h : BuildIn (.mk 3 t n m l) b o kv w) (w0 : World) (ob : Nat) (g : Gl) (F : Nat → Prop) (hG : GlAt w w0 ob g F) :
    Calls Tryd.prog 26 #[.pointer (some ⟨ob, 0, none⟩), .pointer (some ⟨b, o, none⟩)] w0 (BuildTo (buildP (.mk 3 t n m l) g) w w0 ob F) := by
  have hz := zero_part
  have hz2 := zero_set
  have HR : Hid (buildP (.mk 3 t n m l) g = someG (g.one (someB t))) := by unfold Hid; rw [buildP_eq]; rfl
  have HP : Hid (∀ w2, Grew (w0.alloc (.cells (partC part0) 69)) w2 → _) := fun w2 g2 => build_pre h.node hG g2
  have HN := hidd (Not_none (w0.alloc (.cells (partC part0) 69)))
  have HOf : Hid (∀ w1, Calls Tryd.prog 58 #[.string t] w1 fun e w' => e = .returned (setV (someB t)) ∧ Grew w1 w') := fun w1 => by
    have := Of_any t w1 h.node.ht
    rw [someB_set] at this; exact this
  obtain ⟨rs, hrs⟩ : ∃ rs, w0.heap.size = rs := ⟨_, rfl⟩
  rw [hrs] at HP
  clear h hG
  go_enter Tryd.func26, Tryd.ntmps26
  go_wp2_with fail
  refine HN.out.mono ?_; rintro e w2 ⟨rfl, g2⟩
  have hp := HP.out w2 g2
  have HPx := hidd hp
  have c0 : ∀ x, (w2.alloc x).cell? ⟨b, o, none⟩ = some (.int .i64 3) := fun x => (hp.node x).c0
  have c1 : ∀ x, (w2.alloc x).cell? ⟨b, o + 1, none⟩ = some (.string t) := fun x => (hp.node x).c1
  clear hp HP HN g2 hrs
  unfold setV
  go_wp2_with fail
  refine (HOf.out _).mono ?_; rintro e w3 ⟨rfl, g3⟩
  have HO := hidd (One_any ((HPx.out.gl (.cells (setC allB).toArray 77)).kept g3) (someB t))
  have HG3 := hidd g3
  clear g3
  obtain ⟨sv, hsv⟩ : ∃ sv, setV (someB t) = sv := ⟨_, rfl⟩
  rw [hsv] at HO ⊢
  go_wp2_with fail
  refine HO.out.mono ?_; rintro e w4 ⟨rfl, F4, hG4, hT4⟩
  have ht := (GlTo.grew HG3.out F).trans hT4
  have hlr : rs < (w2.alloc (.cells (setC allB).toArray 77)).heap.size := by rw [World.size_alloc]; have := HPx.out.ls; omega
  have H4 := hidd (And.intro ((ht.out rs hlr HPx.out.hr).trans (HPx.out.res _)) (And.intro (ht.not hlr HPx.out.hr) (And.intro hG4 ((HPx.out.to _).trans ht))))
  clear hG4 hT4 ht hlr hsv
  go_wp2_with (first | (refine wpList_load_part (b := rs) rfl rfl rfl (setRow_heap _ _ _ _ _ _ H4.out.1) rfl ?_) | (refine wpList_store_part (b := rs) rfl rfl rfl rfl H4.out.1 rfl rfl (part_one _) ?_) | (refine wpList_store_part (b := rs) rfl rfl rfl rfl (setRow_heap _ _ _ _ _ _ H4.out.1) rfl rfl (part_one _) ?_))
  refine bodyPost_ret (results_part2 (p := 4) (q := 5) (rb := rs) rfl rfl rfl (setRow_heap _ _ _ _ _ _ (setRow_heap _ _ _ _ _ _ H4.out.1)) rfl) rfl ?_
  rw [HR.out]
  exact build_end (o := (g.one (someB t)).1) rfl H4.out.2.2.1 H4.out.2.2.2 H4.out.2.1 HPx.out.lo HPx.out.lr _ _
theorem build_k4 (t : ByteArray) (n : Int) (m : ByteArray) (l : List Pat) (b o : Nat) (kv : Value) (w : World) (h : BuildIn (.mk 4 t n m l) b o kv w) (w0 : World) (ob : Nat) (g : Gl) (F : Nat → Prop) (hG : GlAt w w0 ob g F) :
    Calls Tryd.prog 26 #[.pointer (some ⟨ob, 0, none⟩), .pointer (some ⟨b, o, none⟩)] w0 (BuildTo (buildP (.mk 4 t n m l) g) w w0 ob F) := by
  have hz := zero_part
  have hz2 := zero_set
  have HR : Hid (buildP (.mk 4 t n m l) g = someG (g.one (notB (someB t)))) := by unfold Hid; rw [buildP_eq]; rfl
  have HP : Hid (∀ w2, Grew (w0.alloc (.cells (partC part0) 69)) w2 → _) := fun w2 g2 => build_pre h.node hG g2
  have HN := hidd (Not_none (w0.alloc (.cells (partC part0) 69)))
  have HOf : Hid (∀ w1, Calls Tryd.prog 58 #[.string t] w1 fun e w' => e = .returned (setV (someB t)) ∧ Grew w1 w') := fun w1 => by
    have := Of_any t w1 h.node.ht
    rw [someB_set] at this; exact this
  obtain ⟨rs, hrs⟩ : ∃ rs, w0.heap.size = rs := ⟨_, rfl⟩
  rw [hrs] at HP
  clear h hG
  go_enter Tryd.func26, Tryd.ntmps26
  go_wp2_with fail
  refine HN.out.mono ?_; rintro e w2 ⟨rfl, g2⟩
  have hp := HP.out w2 g2
  have HPx := hidd hp
  have c0 : ∀ x, (w2.alloc x).cell? ⟨b, o, none⟩ = some (.int .i64 4) := fun x => (hp.node x).c0
  have c1 : ∀ x, (w2.alloc x).cell? ⟨b, o + 1, none⟩ = some (.string t) := fun x => (hp.node x).c1
  clear hp HP HN g2 hrs
  unfold setV
  go_wp2_with fail
  refine (HOf.out _).mono ?_; rintro e w3 ⟨rfl, g3⟩
  have HG2 := hidd g3
  have HNn : Hid (∀ w1, Calls Tryd.prog 57 #[setV (someB t)] w1 fun e w' => e = .returned (setV (notB (someB t))) ∧ Grew w1 w') := fun w1 => Not_any (someB t) w1
  clear g3
  obtain ⟨su, hsu⟩ : ∃ su, setV (someB t) = su := ⟨_, rfl⟩
  rw [hsu] at HNn ⊢
  go_wp2_with fail
  refine (HNn.out _).mono ?_; rintro e w3' ⟨rfl, g3⟩
  have HO := hidd (One_any ((HPx.out.gl (.cells (setC allB).toArray 77)).kept (HG2.out.trans g3)) (notB (someB t)))
  have HG3 := hidd (HG2.out.trans g3)
  clear g3 hsu
  obtain ⟨sv, hsv⟩ : ∃ sv, setV (notB (someB t)) = sv := ⟨_, rfl⟩
  rw [hsv] at HO ⊢
  go_wp2_with fail
  refine HO.out.mono ?_; rintro e w4 ⟨rfl, F4, hG4, hT4⟩
  have ht := (GlTo.grew HG3.out F).trans hT4
  have hlr : rs < (w2.alloc (.cells (setC allB).toArray 77)).heap.size := by rw [World.size_alloc]; have := HPx.out.ls; omega
  have H4 := hidd (And.intro ((ht.out rs hlr HPx.out.hr).trans (HPx.out.res _)) (And.intro (ht.not hlr HPx.out.hr) (And.intro hG4 ((HPx.out.to _).trans ht))))
  clear hG4 hT4 ht hlr hsv
  go_wp2_with (first | (refine wpList_load_part (b := rs) rfl rfl rfl (setRow_heap _ _ _ _ _ _ H4.out.1) rfl ?_) | (refine wpList_store_part (b := rs) rfl rfl rfl rfl H4.out.1 rfl rfl (part_one _) ?_) | (refine wpList_store_part (b := rs) rfl rfl rfl rfl (setRow_heap _ _ _ _ _ _ H4.out.1) rfl rfl (part_one _) ?_))
  refine bodyPost_ret (results_part2 (p := 4) (q := 5) (rb := rs) rfl rfl rfl (setRow_heap _ _ _ _ _ _ (setRow_heap _ _ _ _ _ _ H4.out.1)) rfl) rfl ?_
  rw [HR.out]
  exact build_end (o := (g.one (notB (someB t))).1) rfl H4.out.2.2.1 H4.out.2.2.2 H4.out.2.1 HPx.out.lo HPx.out.lr _ _
theorem build_k13 (t : ByteArray) (n : Int) (m : ByteArray) (l : List Pat) (b o : Nat) (kv : Value) (w : World) (h : BuildIn (.mk 13 t n m l) b o kv w) (w0 : World) (ob : Nat) (g : Gl) (F : Nat → Prop) (hG : GlAt w w0 ob g F) :
    Calls Tryd.prog 26 #[.pointer (some ⟨ob, 0, none⟩), .pointer (some ⟨b, o, none⟩)] w0 (BuildTo (buildP (.mk 13 t n m l) g) w w0 ob F) := by
  have hz := zero_part
  have hz2 := zero_set
  have HR : Hid (buildP (.mk 13 t n m l) g = starG (someG (g.one allB))) := by unfold Hid; rw [buildP_eq]; rfl
  have HP : Hid (∀ w2, Grew (w0.alloc (.cells (partC part0) 69)) w2 → _) := fun w2 g2 => build_pre h.node hG g2
  have HN := hidd (Not_none (w0.alloc (.cells (partC part0) 69)))
  have HT := hidd h.tab
  obtain ⟨rs, hrs⟩ : ∃ rs, w0.heap.size = rs := ⟨_, rfl⟩
  rw [hrs] at HP
  clear h hG
  go_enter Tryd.func26, Tryd.ntmps26
  go_wp2_with fail
  refine HN.out.mono ?_; rintro e w2 ⟨rfl, g2⟩
  have hp := HP.out w2 g2
  have HPx := hidd hp
  have c0 : ∀ x, (w2.alloc x).cell? ⟨b, o, none⟩ = some (.int .i64 13) := fun x => (hp.node x).c0
  have c1 : ∀ x, (w2.alloc x).cell? ⟨b, o + 1, none⟩ = some (.string t) := fun x => (hp.node x).c1
  clear hp HP HN g2 hrs
  have HO := hidd (One_any (HPx.out.gl (.cells (setC allB).toArray 77)) allB)
  have HF4 := hidd (HPx.out.gl (.cells (setC allB).toArray 77)).fits
  unfold setV at HO ⊢
  go_wp2_with fail
  refine HO.out.mono ?_; rintro e w4 ⟨rfl, F4, hG4, hT4⟩
  have hlr : rs < (w2.alloc (.cells (setC allB).toArray 77)).heap.size := by rw [World.size_alloc]; have := HPx.out.ls; omega
  have H4 := hidd (And.intro ((hT4.out rs hlr HPx.out.hr).trans (HPx.out.res _)) (And.intro (hT4.not hlr HPx.out.hr) (And.intro hG4 ((HPx.out.to _).trans hT4))))
  have hlr4 := Nat.lt_of_lt_of_le hlr hT4.size
  have HA := hidd (Again_any hG4 (g.one allB).1 (one_in g allB).2.last (one_fits HF4.out allB).2 HT.out)
  have HL4 := hidd hlr4
  clear hG4 hT4 hlr hlr4
  obtain ⟨pv, hpv⟩ : ∃ pv, partV (g.one allB).1 = pv := ⟨_, rfl⟩
  rw [hpv] at HA ⊢
  go_wp2_with fail
  refine HA.out.mono ?_; rintro e w5 ⟨rfl, hG5, hT5⟩
  have H5 := hidd (And.intro ((hT5.out rs HL4.out H4.out.2.1).trans H4.out.1) (And.intro hG5 (H4.out.2.2.2.trans hT5)))
  clear hG5 hT5 HA hpv
  go_wp2_with (first | (refine wpList_load_part (b := rs) rfl rfl rfl (setRow_heap _ _ _ _ _ _ H5.out.1) rfl ?_) | (refine wpList_store_part (b := rs) rfl rfl rfl rfl H5.out.1 rfl rfl (part_one _) ?_) | (refine wpList_store_part (b := rs) rfl rfl rfl rfl (setRow_heap _ _ _ _ _ _ H5.out.1) rfl rfl (part_one _) ?_))
  refine bodyPost_ret (results_part2 (p := 4) (q := 5) (rb := rs) rfl rfl rfl (setRow_heap _ _ _ _ _ _ (setRow_heap _ _ _ _ _ _ H5.out.1)) rfl) rfl ?_
  rw [HR.out]
  exact build_end (o := againP (g.one allB).1) rfl H5.out.2.1 H5.out.2.2 H4.out.2.1 HPx.out.lo HPx.out.lr _ _
end Go.Proofs.YtkkdpafkafjfgaaDoor
