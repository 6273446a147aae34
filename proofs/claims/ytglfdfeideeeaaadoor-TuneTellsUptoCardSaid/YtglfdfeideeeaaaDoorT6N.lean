/- The document's Simple: two neighbours put into boxes, in whatever order. -/
import Derived.Test.YtglfdfeideeeaaaDoorT6M
namespace Go.Proofs.YtglfdfeideeeaaaDoor
open Go.RowKit RR
set_option linter.unusedVariables false
def Five (w : World) (b : Nat) (v0 v1 v2 v3 v4 : Value) : Prop := w.heap[b]? = some (.cells #[v0, v1, v2, v3, v4] 24 (0, 0))
theorem Five.kept {w w' : World} (g : Grew w w') {b : Nat} {v0 v1 v2 v3 v4 : Value} (h : Five w b v0 v1 v2 v3 v4) : Five w' b v0 v1 v2 v3 v4 := heap_kept g h
structure TwoJ (wb : World) (p q : Pat) (kp kq : Value) (listed : Array Bool) (a : Act) (w : World) : Prop where
  grew : Grew wb w
  oA : listed.getD 11 false = true → listed.getD 9 false = true
  oB : listed.getD 12 false = true → listed.getD 10 false = true
  bA : listed.getD 9 false = true → ∃ b v0 v1 v2 v3 v4, a.tmps.getD 8 undef = .pointer (some ⟨b, 0, none⟩) ∧ wb.heap.size ≤ b ∧ Five w b v0 v1 v2 v3 v4 ∧ (listed.getD 11 false = true → Five w b (.int .i64 p.kind) (.string p.text) (.int .i64 p.n) (.string p.name) kp) ∧ (listed.getD 10 false = true → a.tmps.getD 9 undef ≠ .pointer (some ⟨b, 0, none⟩))
  bB : listed.getD 10 false = true → ∃ b v0 v1 v2 v3 v4, a.tmps.getD 9 undef = .pointer (some ⟨b, 0, none⟩) ∧ wb.heap.size ≤ b ∧ Five w b v0 v1 v2 v3 v4 ∧ (listed.getD 12 false = true → Five w b (.int .i64 q.kind) (.string q.text) (.int .i64 q.n) (.string q.name) kq)
section
variable {wb w0 : World} {p q : Pat} {kp kq : Value} {ops : Array Oper} {Q : Exit → Act → World → Prop} {shs : List Sh} {a0 : Act} {A : Array Edge} {i : Nat} {d : Option Tmp} {op : Op} {ty : TypeId} {pos : String} {G : Option (Nat × Bool)}
def plainTwo (i : Nat) (d : Option Tmp) : Bool := i != 9 && i != 10 && i != 11 && i != 12 && d != some 8 && d != some 9
theorem TwoJ.stay {listed : Array Bool} {a : Act} {w : World} (h : TwoJ wb p q kp kq listed a w) (hp : plainTwo i d = true) (v : Value) : TwoJ wb p q kp kq (listed.setIfInBounds i true) (a.put d v) w := by
  unfold plainTwo at hp
  simp only [Bool.and_eq_true, bne_iff_ne] at hp
  obtain ⟨⟨⟨⟨⟨h9, h10⟩, h11⟩, h12⟩, d8⟩, d9⟩ := hp
  have et : ∀ j, d ≠ some j → (a.put d v).tmps.getD j undef = a.tmps.getD j undef := fun j hj => by
    cases d with
    | none => rfl
    | some d0 => exact getD_put (fun e => hj (by rw [e]))
  have e9 : (listed.setIfInBounds i true).getD 9 false = listed.getD 9 false := lset_ne h9
  have e10 : (listed.setIfInBounds i true).getD 10 false = listed.getD 10 false := lset_ne h10
  have e11 : (listed.setIfInBounds i true).getD 11 false = listed.getD 11 false := lset_ne h11
  have e12 : (listed.setIfInBounds i true).getD 12 false = listed.getD 12 false := lset_ne h12
  refine ⟨h.grew, ?_, ?_, ?_, ?_⟩
  · rw [e11, e9]; exact h.oA
  · rw [e12, e10]; exact h.oB
  · rw [e9, e10, e11, et 8 d8, et 9 d9]; exact h.bA
  · rw [e10, e12, et 9 d9]; exact h.bB
theorem tj_pure {z : Value} (hp : plainTwo i d = true)
    (hr : ∀ listed a w, TwoJ wb p q kp kq listed a w → listed.getD i false = false → RR.Env AnyRl ops shs a0 w0 A a w → (execOp a.eval ⟨d, op, ty, pos, A, G⟩).run Tryd.prog w = .ok (.value z) w)
    (hg : guardIs ops shs A G = some true) (hs : shs.getD i (.fact fun _ _ => True) = .val z) : StepJ (TwoJ wb p q kp kq) AnyRl Tryd.prog ops Q (shF shs) a0 w0 i ⟨d, op, ty, pos, A, G⟩ := by
  intro listed a w hls hlf hdep hsz hJ hw hsm hdp K hK
  have E : RR.Env AnyRl ops shs a0 w0 A a w := ⟨hw, hsm, hdp⟩
  rw [if_pos (E.guard hg)]
  unfold Oper.wp
  rw [hr listed a w hJ hlf E]
  exact hK z w trivial (by unfold shF; rw [hs]; rfl) (hJ.stay hp z)
theorem tj_move {z : Value} (hp : plainTwo i d = true) {x : Operand} (hg : guardIs ops shs A G = some true) (hx : opSh ops shs A a0 x = .val z) (hs : shs.getD i (.fact fun _ _ => True) = .val z) :
    StepJ (TwoJ wb p q kp kq) AnyRl Tryd.prog ops Q (shF shs) a0 w0 i ⟨d, .move x, ty, pos, A, G⟩ :=
  tj_pure hp (fun listed a w hJ _ E => by
    have hv : a.eval x = z := E.opv hx
    unfold execOp
    simp [hv]) hg hs
theorem tj_num {x y : Operand} {u v : Value} {bop : BinOp} {xt t2 : TypeId} {z : Value} (hb : ∀ w, (do eqGuard bop xt x y u v; binOp bop xt u v : Sem Value).run Tryd.prog w = .ok z w) (hp : plainTwo i d = true) (hg : guardIs ops shs A G = some true) (hx : opSh ops shs A a0 x = .val u) (hy : opSh ops shs A a0 y = .val v) (hs : shs.getD i (.fact fun _ _ => True) = .val z) :
    StepJ (TwoJ wb p q kp kq) AnyRl Tryd.prog ops Q (shF shs) a0 w0 i ⟨d, .binOp bop xt x y t2, ty, pos, A, G⟩ :=
  tj_pure hp (fun listed a w hJ _ E => by
    have hv : a.eval x = u := E.opv hx
    have hw : a.eval y = v := E.opv hy
    have h := hb w
    unfold execOp
    simp only [hv, hw, Sem.run_bind] at h ⊢
    simp [h]) hg hs
theorem tj_index {t : TypeId} {u v z : Value} (hrun : ∀ w, (Instr.indexAt t u v).run Tryd.prog w = .ok z w) (hp : plainTwo i d = true) {x y : Operand}
    (hg : guardIs ops shs A G = some true) (hx : opSh ops shs A a0 x = .val u) (hy : opSh ops shs A a0 y = .val v) (hs : shs.getD i (.fact fun _ _ => True) = .val z) :
    StepJ (TwoJ wb p q kp kq) AnyRl Tryd.prog ops Q (shF shs) a0 w0 i ⟨d, .indexAddr t x y, ty, pos, A, G⟩ :=
  tj_pure hp (fun listed a w _ _ E => by
    have hv : a.eval x = u := E.opv hx
    have hw : a.eval y = v := E.opv hy
    unfold execOp
    simp [hv, hw, hrun w]) hg hs
theorem tj_load {ad : Addr} {z : Value} (hrun : ∀ w, Grew wb w → (Instr.loadAt 24 (.pointer (some ad))).run Tryd.prog w = .ok z w) (hp : plainTwo i d = true) {x : Operand}
    (hg : guardIs ops shs A G = some true) (hx : opSh ops shs A a0 x = .val (.pointer (some ad))) (hs : shs.getD i (.fact fun _ _ => True) = .val z) :
    StepJ (TwoJ wb p q kp kq) AnyRl Tryd.prog ops Q (shF shs) a0 w0 i ⟨d, .load 24 x, ty, pos, A, G⟩ :=
  tj_pure hp (fun listed a w hJ _ E => by
    have hv : a.eval x = .pointer (some ad) := E.opv hx
    unfold execOp
    simp [hv, hrun w hJ.grew]) hg hs
theorem alloc_pat (w : World) : (Instr.alloc 24 true (.tuple #[])).run Tryd.prog w = .ok (.pointer (some ⟨w.heap.size, 0, none⟩)) (w.alloc (.cells zPat 24)) := by
  simp only [Instr.alloc, Sem.run_bind, zero_pat w, Result.andThen_ok]
  rfl
theorem tj_allocA (hd0 : 8 < a0.tmps.size) (hsz0 : 9 < ops.size) (hg : guardIs ops shs A G = some true) (hs : shs.getD 9 (.fact fun _ _ => True) = .fact fun _ _ => True) :
    StepJ (TwoJ wb p q kp kq) AnyRl Tryd.prog ops Q (shF shs) a0 w0 9 ⟨some 8, .alloc 24, ty, pos, A, G⟩ := by
  intro listed a w hls hlf hdep hsz hJ hw hsm hdp K hK
  have E : RR.Env AnyRl ops shs a0 w0 A a w := ⟨hw, hsm, hdp⟩
  rw [if_pos (E.guard hg)]
  have h11 : listed.getD 11 false = false := lfalse hJ.oA (by simp [hlf])
  have e9 : (listed.setIfInBounds 9 true).getD 9 false = true := lset_here (by rw [hls]; exact hsz0)
  have en : ∀ j, j ≠ 9 → (listed.setIfInBounds 9 true).getD j false = listed.getD j false := fun j hj => lset_ne (Ne.symm hj)
  have et : ∀ j, j ≠ 8 → (a.put (some 8) (.pointer (some ⟨w.heap.size, 0, none⟩))).tmps.getD j undef = a.tmps.getD j undef := fun j hj => getD_put (Ne.symm hj)
  have e8 : (a.put (some 8) (.pointer (some ⟨w.heap.size, 0, none⟩))).tmps.getD 8 undef = .pointer (some ⟨w.heap.size, 0, none⟩) := getD_put_same (by rw [hsz]; exact hd0)
  have gw : Grew w (w.alloc (.cells zPat 24)) := (Grew.refl w).alloc _
  have := hK (.pointer (some ⟨w.heap.size, 0, none⟩)) (w.alloc (.cells zPat 24)) trivial (by unfold shF; rw [hs]; trivial)
    ⟨hJ.grew.trans gw, fun _ => e9, fun k => (by rw [en 12 (by decide)] at k; rw [en 10 (by decide)]; exact hJ.oB k),
      fun _ => ⟨w.heap.size, _, _, _, _, _, e8, hJ.grew.size, heap_alloc_new w _, fun k => (by rw [en 11 (by decide), h11] at k; cases k), fun k e => (by
        rw [en 10 (by decide)] at k
        obtain ⟨b, v0, v1, v2, v3, v4, k1, k2, k3, k4⟩ := hJ.bB k
        rw [et 9 (by decide), k1] at e
        have hlt : b < w.heap.size := (Array.getElem?_eq_some_iff.1 k3).1
        have : b = w.heap.size := by injection e with e; injection e with e; injection e
        omega)⟩,
      fun k => (by
        rw [en 10 (by decide)] at k
        obtain ⟨b, v0, v1, v2, v3, v4, k1, k2, k3, k4⟩ := hJ.bB k
        exact ⟨b, v0, v1, v2, v3, v4, by rw [et 9 (by decide)]; exact k1, k2, k3.kept gw, fun k => by rw [en 12 (by decide)] at k; exact (k4 k).kept gw⟩)⟩
  unfold Oper.wp execOp
  simp only [Sem.run_bind, alloc_pat, Result.andThen_ok, Sem.run_pure]
  exact this
theorem tj_allocB (hd0 : 9 < a0.tmps.size) (hsz0 : 10 < ops.size) (hg : guardIs ops shs A G = some true) (hs : shs.getD 10 (.fact fun _ _ => True) = .fact fun _ _ => True) :
    StepJ (TwoJ wb p q kp kq) AnyRl Tryd.prog ops Q (shF shs) a0 w0 10 ⟨some 9, .alloc 24, ty, pos, A, G⟩ := by
  intro listed a w hls hlf hdep hsz hJ hw hsm hdp K hK
  have E : RR.Env AnyRl ops shs a0 w0 A a w := ⟨hw, hsm, hdp⟩
  rw [if_pos (E.guard hg)]
  have h12 : listed.getD 12 false = false := lfalse hJ.oB (by simp [hlf])
  have e10 : (listed.setIfInBounds 10 true).getD 10 false = true := lset_here (by rw [hls]; exact hsz0)
  have en : ∀ j, j ≠ 10 → (listed.setIfInBounds 10 true).getD j false = listed.getD j false := fun j hj => lset_ne (Ne.symm hj)
  have et : ∀ j, j ≠ 9 → (a.put (some 9) (.pointer (some ⟨w.heap.size, 0, none⟩))).tmps.getD j undef = a.tmps.getD j undef := fun j hj => getD_put (Ne.symm hj)
  have e9 : (a.put (some 9) (.pointer (some ⟨w.heap.size, 0, none⟩))).tmps.getD 9 undef = .pointer (some ⟨w.heap.size, 0, none⟩) := getD_put_same (by rw [hsz]; exact hd0)
  have gw : Grew w (w.alloc (.cells zPat 24)) := (Grew.refl w).alloc _
  have := hK (.pointer (some ⟨w.heap.size, 0, none⟩)) (w.alloc (.cells zPat 24)) trivial (by unfold shF; rw [hs]; trivial)
    ⟨hJ.grew.trans gw, fun k => (by rw [en 11 (by decide)] at k; rw [en 9 (by decide)]; exact hJ.oA k), fun _ => e10,
      fun k => (by
        rw [en 9 (by decide)] at k
        obtain ⟨b, v0, v1, v2, v3, v4, k1, k2, k3, k4, k5⟩ := hJ.bA k
        have hlt : b < w.heap.size := (Array.getElem?_eq_some_iff.1 k3).1
        refine ⟨b, v0, v1, v2, v3, v4, by rw [et 8 (by decide)]; exact k1, k2, k3.kept gw, fun k => by rw [en 11 (by decide)] at k; exact (k4 k).kept gw, fun _ e => ?_⟩
        rw [e9] at e
        have : w.heap.size = b := by injection e with e; injection e with e; injection e
        omega),
      fun _ => ⟨w.heap.size, _, _, _, _, _, e9, hJ.grew.size, heap_alloc_new w _, fun k => (by rw [en 12 (by decide), h12] at k; cases k)⟩⟩
  unfold Oper.wp execOp
  simp only [Sem.run_bind, alloc_pat, Result.andThen_ok, Sem.run_pure]
  exact this
theorem store_five {w : World} {b : Nat} {v0 v1 v2 v3 v4 : Value} (hc : Five w b v0 v1 v2 v3 v4) (x : Pat) {n c : Nat} {ao : Option Addr} : (Instr.storeAt 24 (.pointer (some ⟨b, 0, none⟩)) (.agg #[.int .i64 x.kind, .string x.text, .int .i64 x.n, .string x.name, .slice ao n c])).run Tryd.prog w = .ok () (setPat w b 0 x (.slice ao n c)) := by
  obtain ⟨⟨c0, c1, c2, c3, c4⟩, cf⟩ := five_cells hc
  have := run_storeAt_mid (P := Tryd.prog) w b 0 24 #[.int .i64 x.kind, .string x.text, .int .i64 x.n, .string x.name, .slice ao n c] (fun j hj => ⟨by
    have hlt : j < 5 := hj
    rw [Nat.zero_add]
    rcases j with _ | _ | _ | _ | _ | j
    · rw [c0]; rfl
    · rw [c1]; rfl
    · rw [c2]; rfl
    · rw [c3]; rfl
    · rw [c4]; rfl
    · omega, cf _⟩) info_pat5 (by simp [Value.oneCell'])
  rw [this]; rfl
theorem setPat_other {w : World} {b b' : Nat} (h : b ≠ b') (o : Nat) (x : Pat) (kv : Value) : (setPat w b o x kv).heap[b']? = w.heap[b']? := by
  unfold setPat
  rw [setCell_heap_other _ _ _ h, setCell_heap_other _ _ _ h, setCell_heap_other _ _ _ h, setCell_heap_other _ _ _ h, setCell_heap_other _ _ _ h]
theorem setPat_five {w : World} {b : Nat} {v0 v1 v2 v3 v4 : Value} (hc : Five w b v0 v1 v2 v3 v4) (x : Pat) (kv : Value) : Five (setPat w b 0 x kv) b (.int .i64 x.kind) (.string x.text) (.int .i64 x.n) (.string x.name) kv := setPat_heap hc
theorem setPat_new {a w : World} (g : Grew a w) {b : Nat} (hb : a.heap.size ≤ b) (o : Nat) (x : Pat) (kv : Value) : Grew a (setPat w b o x kv) := by
  unfold setPat
  exact ((((g.setCell hb _).setCell hb _).setCell hb _).setCell hb _).setCell hb _
theorem tj_storeA {n c : Nat} {ao : Option Addr} (hkp : kp = .slice ao n c) (h9 : onDep A 9 = true) (hsz0 : 11 < ops.size) {y : Operand} (hg : guardIs ops shs A G = some true) (hy : opSh ops shs A a0 y = .val (.agg #[.int .i64 p.kind, .string p.text, .int .i64 p.n, .string p.name, .slice ao n c])) (hs : shs.getD 11 (.fact fun _ _ => True) = .fact fun _ _ => True) :
    StepJ (TwoJ wb p q kp kq) AnyRl Tryd.prog ops Q (shF shs) a0 w0 11 ⟨none, .store 24 (.tmp 8) y, ty, pos, A, G⟩ := by
  intro listed a w hls hlf hdep hsz hJ hw hsm hdp K hK
  have E : RR.Env AnyRl ops shs a0 w0 A a w := ⟨hw, hsm, hdp⟩
  rw [if_pos (E.guard hg)]
  subst hkp
  have hv : a.eval y = .agg #[.int .i64 p.kind, .string p.text, .int .i64 p.n, .string p.name, .slice ao n c] := E.opv hy
  have hl9 := onDep_listed h9 hdep
  obtain ⟨b, v0, v1, v2, v3, v4, k1, k2, k3, k4, k5⟩ := hJ.bA hl9
  have hx : a.eval (.tmp 8) = .pointer (some ⟨b, 0, none⟩) := k1
  have e11 : (listed.setIfInBounds 11 true).getD 11 false = true := lset_here (by rw [hls]; exact hsz0)
  have en : ∀ j, j ≠ 11 → (listed.setIfInBounds 11 true).getD j false = listed.getD j false := fun j hj => lset_ne (Ne.symm hj)
  have h5 := setPat_five k3 p (.slice ao n c)
  have := hK undef (setPat w b 0 p (.slice ao n c)) trivial (by unfold shF; rw [hs]; trivial)
    ⟨setPat_new hJ.grew k2 _ _ _, fun _ => (by rw [en 9 (by decide)]; exact hl9), fun k => (by rw [en 12 (by decide)] at k; rw [en 10 (by decide)]; exact hJ.oB k),
      fun _ => ⟨b, _, _, _, _, _, k1, k2, h5, fun _ => h5, fun k => (by rw [en 10 (by decide)] at k; exact k5 k)⟩,
      fun k => (by
        rw [en 10 (by decide)] at k
        obtain ⟨b', u0, u1, u2, u3, u4, j1, j2, j3, j4⟩ := hJ.bB k
        have hne : b ≠ b' := fun e => k5 k (by rw [e]; exact j1)
        exact ⟨b', u0, u1, u2, u3, u4, j1, j2, (setPat_other hne _ _ _).trans j3, fun k => by rw [en 12 (by decide)] at k; exact (setPat_other hne _ _ _).trans (j4 k)⟩)⟩
  unfold Oper.wp execOp
  simp only [hx, hv, store_five k3 p, Sem.run_bind, Sem.run_pure, Result.andThen_ok]
  exact this
theorem tj_storeB {n c : Nat} {ao : Option Addr} (hkq : kq = .slice ao n c) (h10 : onDep A 10 = true) (hsz0 : 12 < ops.size) {y : Operand} (hg : guardIs ops shs A G = some true) (hy : opSh ops shs A a0 y = .val (.agg #[.int .i64 q.kind, .string q.text, .int .i64 q.n, .string q.name, .slice ao n c])) (hs : shs.getD 12 (.fact fun _ _ => True) = .fact fun _ _ => True) :
    StepJ (TwoJ wb p q kp kq) AnyRl Tryd.prog ops Q (shF shs) a0 w0 12 ⟨none, .store 24 (.tmp 9) y, ty, pos, A, G⟩ := by
  intro listed a w hls hlf hdep hsz hJ hw hsm hdp K hK
  have E : RR.Env AnyRl ops shs a0 w0 A a w := ⟨hw, hsm, hdp⟩
  rw [if_pos (E.guard hg)]
  subst hkq
  have hv : a.eval y = .agg #[.int .i64 q.kind, .string q.text, .int .i64 q.n, .string q.name, .slice ao n c] := E.opv hy
  have hl10 := onDep_listed h10 hdep
  obtain ⟨b, v0, v1, v2, v3, v4, k1, k2, k3, k4⟩ := hJ.bB hl10
  have hx : a.eval (.tmp 9) = .pointer (some ⟨b, 0, none⟩) := k1
  have e12 : (listed.setIfInBounds 12 true).getD 12 false = true := lset_here (by rw [hls]; exact hsz0)
  have en : ∀ j, j ≠ 12 → (listed.setIfInBounds 12 true).getD j false = listed.getD j false := fun j hj => lset_ne (Ne.symm hj)
  have h5 := setPat_five k3 q (.slice ao n c)
  have := hK undef (setPat w b 0 q (.slice ao n c)) trivial (by unfold shF; rw [hs]; trivial)
    ⟨setPat_new hJ.grew k2 _ _ _, fun k => (by rw [en 11 (by decide)] at k; rw [en 9 (by decide)]; exact hJ.oA k), fun _ => (by rw [en 10 (by decide)]; exact hl10),
      fun k => (by
        rw [en 9 (by decide)] at k
        obtain ⟨b', u0, u1, u2, u3, u4, j1, j2, j3, j4, j5⟩ := hJ.bA k
        have hne : b ≠ b' := fun e => j5 hl10 (by rw [← e]; exact k1)
        exact ⟨b', u0, u1, u2, u3, u4, j1, j2, (setPat_other hne _ _ _).trans j3, fun k => by rw [en 11 (by decide)] at k; exact (setPat_other hne _ _ _).trans (j4 k), fun k => by rw [en 10 (by decide)] at k; exact j5 k⟩),
      fun _ => ⟨b, _, _, _, _, _, k1, k2, h5, fun _ => h5⟩⟩
  unfold Oper.wp execOp
  simp only [hx, hv, store_five k3 q, Sem.run_bind, Sem.run_pure, Result.andThen_ok]
  exact this
theorem two_start {m : Nat} (a : Act) (w : World) : TwoJ w p q kp kq (Array.replicate m false) a w := by
  have hz : ∀ j, (Array.replicate m false).getD j false = false := fun j => by
    simp only [Array.getD_eq_getD_getElem?, Array.getElem?_replicate]
    split <;> rfl
  exact ⟨Grew.refl _, fun k => (by rw [hz] at k; cases k), fun k => (by rw [hz] at k; cases k), fun k => (by rw [hz] at k; cases k), fun k => (by rw [hz] at k; cases k)⟩
end
def slLen : Value → Nat
  | .slice _ n _ => n
  | _ => 0
def mrg (two : Pat → Pat → Option Pat) (cur : List Pat) (i : Nat) : List Pat := cur.take (i - 1) ++ mergeF two (cur.getD (i - 1) Pat.zero) (cur.drop i)
theorem mrg_start (two : Pat → Pat → Option Pat) {l : List Pat} (h : 0 < l.length) : mrg two l 1 = mergedP two l := by
  cases l with
  | nil => simp at h
  | cons a l => rfl
theorem mrg_none {two : Pat → Pat → Option Pat} {cur : List Pat} {i : Nat} (h1 : 1 ≤ i) (h : i < cur.length) (hn : two (cur.getD (i - 1) Pat.zero) (cur.getD i Pat.zero) = none) : mrg two cur i = mrg two cur (i + 1) := by
  unfold mrg
  rw [List.drop_eq_getElem_cons h, mergeF, show cur[i] = cur.getD i Pat.zero from by rw [List.getD_eq_getElem?_getD, List.getElem?_eq_getElem h]; rfl, hn]
  dsimp only
  rw [show i + 1 - 1 = (i - 1) + 1 by omega, take_getD (show i - 1 < cur.length by omega), show (i - 1) + 1 = i by omega, List.append_assoc]
  rfl
theorem mrg_some {two : Pat → Pat → Option Pat} {cur : List Pat} {i : Nat} (h1 : 1 ≤ i) (h : i < cur.length) {q : Pat} (hn : two (cur.getD (i - 1) Pat.zero) (cur.getD i Pat.zero) = some q) : mrg two cur i = mrg two (cur.take (i - 1) ++ [q] ++ cur.drop (i + 1)) i := by
  have hl : (cur.take (i - 1)).length = i - 1 := by rw [List.length_take]; omega
  unfold mrg
  rw [List.drop_eq_getElem_cons h, mergeF, show cur[i] = cur.getD i Pat.zero from by rw [List.getD_eq_getElem?_getD, List.getElem?_eq_getElem h]; rfl, hn]
  dsimp only
  have e1 : (cur.take (i - 1) ++ [q] ++ cur.drop (i + 1)).take (i - 1) = cur.take (i - 1) := by
    rw [List.append_assoc, List.take_append_of_le_length (by omega), List.take_of_length_le (by omega)]
  have e2 : (cur.take (i - 1) ++ [q] ++ cur.drop (i + 1)).drop i = cur.drop (i + 1) := by
    rw [List.drop_append_of_le_length (by rw [List.length_append, hl, List.length_singleton]; omega), List.drop_of_length_le (by rw [List.length_append, hl, List.length_singleton]; omega), List.nil_append]
  have e3 : (cur.take (i - 1) ++ [q] ++ cur.drop (i + 1)).getD (i - 1) Pat.zero = q := by
    rw [List.getD_eq_getElem?_getD, List.append_assoc, List.getElem?_append_right (by omega), hl, Nat.sub_self]; rfl
  rw [e1, e2, e3]
theorem mrg_done {two : Pat → Pat → Option Pat} {cur : List Pat} (h : 0 < cur.length) : mrg two cur cur.length = cur := by
  unfold mrg
  rw [List.drop_length, mergeF]
  have := take_getD (show cur.length - 1 < cur.length by omega)
  rw [show cur.length - 1 + 1 = cur.length by omega, List.take_length] at this
  exact this.symm
end Go.Proofs.YtglfdfeideeeaaaDoor
