/- Regions that read, then lay what was read into a box of their own, in whatever order; and pairs as keys: what AutoLeast's apart holds. -/
import Derived.Test.YtkkdpafkafjfgaaTwPAuA
import Derived.Test.YtkkdpafkafjfgaaTwAuLp
import Derived.Test.YtkkdpafkafjfgaaTwAuLc
import Derived.Test.YtkkdpafkafjfgaaTwAuEz
import Derived.Test.YtkkdpafkafjfgaaTwRegA
namespace Go.Proofs.Ytkkdpafkafjfgaa
open Go.RowKit RR
set_option linter.unusedVariables false
set_option linter.unusedSimpArgs false
set_option maxRecDepth 100000
def LowRl (B : Nat) (w w' : World) : Prop := w.heap.size ≤ w'.heap.size ∧ ∀ k, k < B → k < w.heap.size → w'.heap[k]? = w.heap[k]?
theorem LowRl.refl (B : Nat) (w : World) : LowRl B w w := ⟨Nat.le_refl _, fun _ _ _ => rfl⟩
theorem LowRl.drew (B : Nat) (w : World) : LowRl B w w.drew := ⟨Nat.le_refl _, fun _ _ _ => rfl⟩
theorem LowRl.trans {B : Nat} (a b c : World) (h : LowRl B a b) (k : LowRl B b c) : LowRl B a c := ⟨Nat.le_trans h.1 k.1, fun i h1 h2 => (k.2 i h1 (Nat.lt_of_lt_of_le h2 h.1)).trans (h.2 i h1 h2)⟩
theorem LowRl.of_grew {B : Nat} {w w' : World} (g : Grew w w') : LowRl B w w' := ⟨g.size, fun k _ h => g.block k h⟩
theorem LowRl.setRow {B k : Nat} (w : World) (h : B ≤ k) (cs : Array Value) : LowRl B w (w.setRow k cs) := ⟨by simp [World.setRow], fun i h1 _ => setRow_other _ _ _ _ (by omega)⟩
structure BoxJ (wb : World) (T : TypeId) (zc fc : Array Value) (ia is dst : Nat) (listed : Array Bool) (a : Act) (w : World) : Prop where
  o : listed.getD is false = true → listed.getD ia false = true
  p0 : listed.getD ia false = false → w = wb
  p1 : listed.getD ia false = true → listed.getD is false = false → a.tmps.getD dst undef = .pointer (some ⟨wb.heap.size, 0, none⟩) ∧ w = wb.alloc (.cells zc T)
  p2 : listed.getD is false = true → a.tmps.getD dst undef = .pointer (some ⟨wb.heap.size, 0, none⟩) ∧ w = (wb.alloc (.cells zc T)).setRow wb.heap.size fc
section
variable {P : Program} {wb w0 : World} {T : TypeId} {zc fc : Array Value} {ia is dst : Nat} {ops : Array Oper} {Q : Exit → Act → World → Prop} {shs : List Sh} {a0 : Act} {A : Array Edge} {i : Nat} {d : Option Tmp} {op : Op} {ty : TypeId} {pos : String} {G : Option (Nat × Bool)}
theorem boxj_start {m : Nat} (a : Act) (w : World) : BoxJ w T zc fc ia is dst (Array.replicate m false) a w := by
  have hz : ∀ j, (Array.replicate m false).getD j false = false := fun j => by
    simp only [Array.getD_eq_getD_getElem?, Array.getElem?_replicate]
    split <;> rfl
  exact ⟨fun k => (by rw [hz] at k; cases k), fun _ => rfl, fun k => (by rw [hz] at k; cases k), fun k => (by rw [hz] at k; cases k)⟩
theorem BoxJ.grew {listed : Array Bool} {a : Act} {w : World} (h : BoxJ wb T zc fc ia is dst listed a w) : Grew wb w := by
  have ga := (Grew.refl wb).alloc (.cells zc T)
  cases e : listed.getD ia false with
  | false => rw [h.p0 e]; exact Grew.refl _
  | true =>
    cases e2 : listed.getD is false with
    | false => rw [(h.p1 e e2).2]; exact ga
    | true => rw [(h.p2 e2).2]; exact ga.below (B := wb.heap.size) ⟨rfl, rfl, rfl, by simp [World.setRow], fun k hk => setRow_other _ _ _ _ (by omega)⟩ (Nat.le_refl _)
theorem BoxJ.stay {listed : Array Bool} {a : Act} {w : World} (h : BoxJ wb T zc fc ia is dst listed a w) (hia : i ≠ ia) (his : i ≠ is) (hd : d ≠ some dst) (v : Value) : BoxJ wb T zc fc ia is dst (listed.setIfInBounds i true) (a.put d v) w := by
  have ea : (listed.setIfInBounds i true).getD ia false = listed.getD ia false := lset_ne hia
  have es : (listed.setIfInBounds i true).getD is false = listed.getD is false := lset_ne his
  have et : (a.put d v).tmps.getD dst undef = a.tmps.getD dst undef := by
    cases d with
    | none => rfl
    | some d0 => exact getD_put (fun e => hd (by rw [e]))
  exact ⟨fun k => (by rw [es] at k; rw [ea]; exact h.o k), fun k => h.p0 (by rwa [ea] at k), fun k1 k2 => (by rw [ea] at k1; rw [es] at k2; rw [et]; exact h.p1 k1 k2), fun k => (by rw [es] at k; rw [et]; exact h.p2 k)⟩
theorem bj_pure {z : Value} (hia : i ≠ ia) (his : i ≠ is) (hd : d ≠ some dst)
    (hr : ∀ a w, Grew wb w → RR.Env (LowRl wb.heap.size) ops shs a0 w0 A a w → (execOp a.eval ⟨d, op, ty, pos, A, G⟩).run P w = .ok (.value z) w)
    (hg : guardIs ops shs A G = some true) (hs : shs.getD i (.fact fun _ _ => True) = .val z) : StepJ (BoxJ wb T zc fc ia is dst) (LowRl wb.heap.size) P ops Q (shF shs) a0 w0 i ⟨d, op, ty, pos, A, G⟩ := by
  intro listed a w hls hlf hdep hsz hJ hw hsm hdp K hK
  have E : RR.Env (LowRl wb.heap.size) ops shs a0 w0 A a w := ⟨hw, hsm, hdp⟩
  rw [if_pos (E.guard hg)]
  unfold Oper.wp
  rw [hr a w hJ.grew E]
  exact hK z w (LowRl.refl _ w) (by unfold shF; rw [hs]; rfl) (hJ.stay hia his hd z)
theorem bj_move {z : Value} (hia : i ≠ ia) (his : i ≠ is) (hd : d ≠ some dst) {x : Operand} (hg : guardIs ops shs A G = some true) (hx : opSh ops shs A a0 x = .val z) (hs : shs.getD i (.fact fun _ _ => True) = .val z) :
    StepJ (BoxJ wb T zc fc ia is dst) (LowRl wb.heap.size) P ops Q (shF shs) a0 w0 i ⟨d, .move x, ty, pos, A, G⟩ :=
  bj_pure hia his hd (fun a w _ E => by
    have hv : a.eval x = z := E.opv hx
    unfold execOp
    simp [hv]) hg hs
theorem bj_field {t : TypeId} {k : Nat} {p r : Addr} (hf : ∀ w, (Instr.fieldAt t (.pointer (some p)) k).run P w = .ok (.pointer (some r)) w) (hia : i ≠ ia) (his : i ≠ is) (hd : d ≠ some dst) {x : Operand} (hg : guardIs ops shs A G = some true) (hx : opSh ops shs A a0 x = .val (.pointer (some p))) (hs : shs.getD i (.fact fun _ _ => True) = .val (.pointer (some r))) :
    StepJ (BoxJ wb T zc fc ia is dst) (LowRl wb.heap.size) P ops Q (shF shs) a0 w0 i ⟨d, .fieldAddr t x k, ty, pos, A, G⟩ :=
  bj_pure hia his hd (fun a w _ E => by
    have hv : a.eval x = .pointer (some p) := E.opv hx
    unfold execOp
    simp [hv, hf w]) hg hs
theorem bj_index {t : TypeId} {u v z : Value} (hrun : ∀ w, (Instr.indexAt t u v).run P w = .ok z w) (hia : i ≠ ia) (his : i ≠ is) (hd : d ≠ some dst) {x y : Operand}
    (hg : guardIs ops shs A G = some true) (hx : opSh ops shs A a0 x = .val u) (hy : opSh ops shs A a0 y = .val v) (hs : shs.getD i (.fact fun _ _ => True) = .val z) :
    StepJ (BoxJ wb T zc fc ia is dst) (LowRl wb.heap.size) P ops Q (shF shs) a0 w0 i ⟨d, .indexAddr t x y, ty, pos, A, G⟩ :=
  bj_pure hia his hd (fun a w _ E => by
    have hv : a.eval x = u := E.opv hx
    have hw : a.eval y = v := E.opv hy
    unfold execOp
    simp [hv, hw, hrun w]) hg hs
theorem bj_load {t : TypeId} {p : Addr} {z : Value} (hrun : ∀ w, Grew wb w → (Instr.loadAt t (.pointer (some p))).run P w = .ok z w) (hia : i ≠ ia) (his : i ≠ is) (hd : d ≠ some dst) {x : Operand}
    (hg : guardIs ops shs A G = some true) (hx : opSh ops shs A a0 x = .val (.pointer (some p))) (hs : shs.getD i (.fact fun _ _ => True) = .val z) :
    StepJ (BoxJ wb T zc fc ia is dst) (LowRl wb.heap.size) P ops Q (shF shs) a0 w0 i ⟨d, .load t x, ty, pos, A, G⟩ :=
  bj_pure hia his hd (fun a w g E => by
    have hv : a.eval x = .pointer (some p) := E.opv hx
    unfold execOp
    simp [hv, hrun w g]) hg hs
theorem bj_alloc (hial : ia < ops.size) (hdl : dst < a0.tmps.size) (hne : ia ≠ is) (hrun : ∀ (ev : Operand → Value) (w : World), (execOp ev ⟨some dst, .alloc T, ty, pos, A, G⟩).run P w = .ok (.value (.pointer (some ⟨w.heap.size, 0, none⟩))) (w.alloc (.cells zc T)))
    (hg : guardIs ops shs A G = some true) (hs : shs.getD ia (.fact fun _ _ => True) = .fact fun _ _ => True) : StepJ (BoxJ wb T zc fc ia is dst) (LowRl wb.heap.size) P ops Q (shF shs) a0 w0 ia ⟨some dst, .alloc T, ty, pos, A, G⟩ := by
  intro listed a w hls hlf hdep hsz hJ hw hsm hdp K hK
  have E : RR.Env (LowRl wb.heap.size) ops shs a0 w0 A a w := ⟨hw, hsm, hdp⟩
  rw [if_pos (E.guard hg)]
  have hww := hJ.p0 hlf
  subst hww
  unfold Oper.wp
  rw [hrun]
  have hsf : listed.getD is false = false := by
    cases k : listed.getD is false with
    | false => rfl
    | true => rw [hJ.o k] at hlf; cases hlf
  have ht : (a.put (some dst) (.pointer (some ⟨w.heap.size, 0, none⟩))).tmps.getD dst undef = .pointer (some ⟨w.heap.size, 0, none⟩) := getD_put_same (by rw [hsz]; exact hdl)
  have hls2 : (listed.setIfInBounds ia true).getD is false = false := by rw [lset_ne hne]; exact hsf
  have hls3 : (listed.setIfInBounds ia true).getD ia false = true := lset_here (by rw [hls]; exact hial)
  exact hK _ _ (LowRl.of_grew ((Grew.refl _).alloc _)) (by unfold shF; rw [hs]; trivial) ⟨fun k => (by rw [hls2] at k; cases k), fun k => (by rw [hls3] at k; cases k), fun _ _ => ⟨ht, rfl⟩, fun k => (by rw [hls2] at k; cases k)⟩
theorem bj_store (hisl : is < ops.size) (hne : ia ≠ is) {x y : Operand} {fv : Value} (hx : ∀ a : Act, a.eval x = a.tmps.getD dst undef) (hdep1 : onDep A ia = true) (hT : onDep A ia = true → True)
    (hst : ∀ w : World, w.heap[wb.heap.size]? = some (.cells zc T (0, 0)) → (Instr.storeAt T (.pointer (some ⟨wb.heap.size, 0, none⟩)) fv).run P w = .ok () (w.setRow wb.heap.size fc))
    (hg : guardIs ops shs A G = some true) (hy : opSh ops shs A a0 y = .val fv) (hs : shs.getD is (.fact fun _ _ => True) = .fact fun _ _ => True) : StepJ (BoxJ wb T zc fc ia is dst) (LowRl wb.heap.size) P ops Q (shF shs) a0 w0 is ⟨none, .store T x y, ty, pos, A, G⟩ := by
  intro listed a w hls hlf hdep hsz hJ hw hsm hdp K hK
  have E : RR.Env (LowRl wb.heap.size) ops shs a0 w0 A a w := ⟨hw, hsm, hdp⟩
  rw [if_pos (E.guard hg)]
  have hia := onDep_listed hdep1 hdep
  obtain ⟨h1, rfl⟩ := hJ.p1 hia hlf
  have hv : a.eval x = .pointer (some ⟨wb.heap.size, 0, none⟩) := (hx a).trans h1
  have hw2 : a.eval y = fv := E.opv hy
  have hrun := hst _ (heap_alloc_new wb (.cells zc T))
  have ha2 : (listed.setIfInBounds is true).getD ia false = true := by rw [lset_ne (Ne.symm hne)]; exact hia
  have hs2 : (listed.setIfInBounds is true).getD is false = true := lset_here (by rw [hls]; exact hisl)
  have := hK undef _ (LowRl.setRow (B := wb.heap.size) (k := wb.heap.size) (wb.alloc (.cells zc T)) (Nat.le_refl _) fc) (by unfold shF; rw [hs]; trivial) ⟨fun _ => ha2, fun k => (by rw [ha2] at k; cases k), fun _ k => (by rw [hs2] at k; cases k), fun _ => ⟨h1, rfl⟩⟩
  unfold Oper.wp execOp
  simp only [hv, hw2, hrun, Sem.run_bind, Sem.run_pure, Result.andThen_ok]
  exact this
end
section
variable {W wr w' : World} {mb : Nat} {L : List (Nat × Nat)} {i k : Nat} {qv qv' : Value}
end
theorem clsN_pos (C : RA) : 0 < clsN C := by
  obtain ⟨j, hj, _⟩ := fsts_of (colA C) 256 0 (by omega)
  exact List.length_pos_of_mem hj
end Go.Proofs.Ytkkdpafkafjfgaa
