/- Regions that read, then lay what was read into a box of their own, in whatever order; and pairs as keys: what AutoLeast's apart holds. -/
import Derived.Test.YtkkdpafkafjfgaaDoorAlLwJ
import Derived.Test.YtkkdpafkafjfgaaDoorAlAuLp
import Derived.Test.YtkkdpafkafjfgaaDoorAlAuLc
import Derived.Test.YtkkdpafkafjfgaaDoorAlPAuEy
import Derived.Test.YtkkdpafkafjfgaaDoorAlRegA
namespace Go.Proofs.YtkkdpafkafjfgaaDoor
open Go.RowKit RR
set_option linter.unusedVariables false
set_option linter.unusedSimpArgs false
set_option maxRecDepth 100000
def LowRl (B : Nat) (w w' : World) : Prop := w.heap.size ≤ w'.heap.size ∧ ∀ k, k < B → k < w.heap.size → w'.heap[k]? = w.heap[k]?
theorem LowRl.refl (B : Nat) (w : World) : LowRl B w w := ⟨Nat.le_refl _, fun _ _ _ => rfl⟩
theorem LowRl.drew (B : Nat) (w : World) : LowRl B w w.drew := ⟨Nat.le_refl _, fun _ _ _ => rfl⟩
theorem LowRl.trans {B : Nat} (a b c : World) (h : LowRl B a b) (k : LowRl B b c) : LowRl B a c := ⟨Nat.le_trans h.1 k.1, fun i h1 h2 => (k.2 i h1 (Nat.lt_of_lt_of_le h2 h.1)).trans (h.2 i h1 h2)⟩
theorem LowRl.of_grew {B : Nat} {w w' : World} (g : Grew w w') : LowRl B w w' := ⟨g.size, fun k _ h => g.block k h⟩
theorem LowRl.setRow {B k : Nat} (w : World) (h : B ≤ k) (cs : Array Value) : LowRl B w (w.setRow k cs) := ⟨by simp [World.setRow], fun i h1 _ => setRow_other _ _ _ _ (by omega)⟩
structure BoxJ (wb : World) (T : TypeId) (zc fc : Array Value) (ia is dst : Nat) (listed : Array Bool) (a : Act) (w : World) : Prop where
  o : listed.getD is false = true → listed.getD ia false = true
  p0 : listed.getD ia false = false → w = wb
  p1 : listed.getD ia false = true → listed.getD is false = false → a.tmps.getD dst undef = .pointer (some ⟨wb.heap.size, 0, none⟩) ∧ w = wb.alloc (.cells zc T)
  p2 : listed.getD is false = true → a.tmps.getD dst undef = .pointer (some ⟨wb.heap.size, 0, none⟩) ∧ w = (wb.alloc (.cells zc T)).setRow wb.heap.size fc
section
variable {P : Program} {wb w0 : World} {T : TypeId} {zc fc : Array Value} {ia is dst : Nat} {ops : Array Oper} {Q : Exit → Act → World → Prop} {shs : List Sh} {a0 : Act} {A : Array Edge} {i : Nat} {d : Option Tmp} {op : Op} {ty : TypeId} {pos : String} {G : Option (Nat × Bool)}
theorem boxj_start {m : Nat} (a : Act) (w : World) : BoxJ w T zc fc ia is dst (Array.replicate m false) a w := by
  have hz : ∀ j, (Array.replicate m false).getD j false = false := fun j => by
    simp only [Array.getD_eq_getD_getElem?, Array.getElem?_replicate]
    split <;> rfl
  exact ⟨fun k => (by rw [hz] at k; cases k), fun _ => rfl, fun k => (by rw [hz] at k; cases k), fun k => (by rw [hz] at k; cases k)⟩
theorem BoxJ.grew {listed : Array Bool} {a : Act} {w : World} (h : BoxJ wb T zc fc ia is dst listed a w) : Grew wb w := by
  have ga := (Grew.refl wb).alloc (.cells zc T)
  cases e : listed.getD ia false with
  | false => rw [h.p0 e]; exact Grew.refl _
  | true =>
    cases e2 : listed.getD is false with
    | false => rw [(h.p1 e e2).2]; exact ga
    | true => rw [(h.p2 e2).2]; exact ga.below (B := wb.heap.size) ⟨rfl, rfl, rfl, by simp [World.setRow], fun k hk => setRow_other _ _ _ _ (by omega)⟩ (Nat.le_refl _)
theorem BoxJ.stay {listed : Array Bool} {a : Act} {w : World} (h : BoxJ wb T zc fc ia is dst listed a w) (hia : i ≠ ia) (his : i ≠ is) (hd : d ≠ some dst) (v : Value) : BoxJ wb T zc fc ia is dst (listed.setIfInBounds i true) (a.put d v) w := by
  have ea : (listed.setIfInBounds i true).getD ia false = listed.getD ia false := lset_ne hia
  have es : (listed.setIfInBounds i true).getD is false = listed.getD is false := lset_ne his
  have et : (a.put d v).tmps.getD dst undef = a.tmps.getD dst undef := by
    cases d with
    | none => rfl
    | some d0 => exact getD_put (fun e => hd (by rw [e]))
  exact ⟨fun k => (by rw [es] at k; rw [ea]; exact h.o k), fun k => h.p0 (by rwa [ea] at k), fun k1 k2 => (by rw [ea] at k1; rw [es] at k2; rw [et]; exact h.p1 k1 k2), fun k => (by rw [es] at k; rw [et]; exact h.p2 k)⟩
theorem bj_pure {z : Value} (hia : i ≠ ia) (his : i ≠ is) (hd : d ≠ some dst)
    (hr : ∀ a w, Grew wb w → RR.Env (LowRl wb.heap.size) ops shs a0 w0 A a w → (execOp a.eval ⟨d, op, ty, pos, A, G⟩).run P w = .ok (.value z) w)
    (hg : guardIs ops shs A G = some true) (hs : shs.getD i (.fact fun _ _ => True) = .val z) : StepJ (BoxJ wb T zc fc ia is dst) (LowRl wb.heap.size) P ops Q (shF shs) a0 w0 i ⟨d, op, ty, pos, A, G⟩ := by
  intro listed a w hls hlf hdep hsz hJ hw hsm hdp K hK
  have E : RR.Env (LowRl wb.heap.size) ops shs a0 w0 A a w := ⟨hw, hsm, hdp⟩
  rw [if_pos (E.guard hg)]
  unfold Oper.wp
  rw [hr a w hJ.grew E]
  exact hK z w (LowRl.refl _ w) (by unfold shF; rw [hs]; rfl) (hJ.stay hia his hd z)
theorem bj_move {z : Value} (hia : i ≠ ia) (his : i ≠ is) (hd : d ≠ some dst) {x : Operand} (hg : guardIs ops shs A G = some true) (hx : opSh ops shs A a0 x = .val z) (hs : shs.getD i (.fact fun _ _ => True) = .val z) :
    StepJ (BoxJ wb T zc fc ia is dst) (LowRl wb.heap.size) P ops Q (shF shs) a0 w0 i ⟨d, .move x, ty, pos, A, G⟩ :=
  bj_pure hia his hd (fun a w _ E => by
    have hv : a.eval x = z := E.opv hx
    unfold execOp
    simp [hv]) hg hs
theorem bj_field {t : TypeId} {k : Nat} {p r : Addr} (hf : ∀ w, (Instr.fieldAt t (.pointer (some p)) k).run P w = .ok (.pointer (some r)) w) (hia : i ≠ ia) (his : i ≠ is) (hd : d ≠ some dst) {x : Operand} (hg : guardIs ops shs A G = some true) (hx : opSh ops shs A a0 x = .val (.pointer (some p))) (hs : shs.getD i (.fact fun _ _ => True) = .val (.pointer (some r))) :
    StepJ (BoxJ wb T zc fc ia is dst) (LowRl wb.heap.size) P ops Q (shF shs) a0 w0 i ⟨d, .fieldAddr t x k, ty, pos, A, G⟩ :=
  bj_pure hia his hd (fun a w _ E => by
    have hv : a.eval x = .pointer (some p) := E.opv hx
    unfold execOp
    simp [hv, hf w]) hg hs
theorem bj_index {t : TypeId} {u v z : Value} (hrun : ∀ w, (Instr.indexAt t u v).run P w = .ok z w) (hia : i ≠ ia) (his : i ≠ is) (hd : d ≠ some dst) {x y : Operand}
    (hg : guardIs ops shs A G = some true) (hx : opSh ops shs A a0 x = .val u) (hy : opSh ops shs A a0 y = .val v) (hs : shs.getD i (.fact fun _ _ => True) = .val z) :
    StepJ (BoxJ wb T zc fc ia is dst) (LowRl wb.heap.size) P ops Q (shF shs) a0 w0 i ⟨d, .indexAddr t x y, ty, pos, A, G⟩ :=
  bj_pure hia his hd (fun a w _ E => by
    have hv : a.eval x = u := E.opv hx
    have hw : a.eval y = v := E.opv hy
    unfold execOp
    simp [hv, hw, hrun w]) hg hs
theorem bj_load {t : TypeId} {p : Addr} {z : Value} (hrun : ∀ w, Grew wb w → (Instr.loadAt t (.pointer (some p))).run P w = .ok z w) (hia : i ≠ ia) (his : i ≠ is) (hd : d ≠ some dst) {x : Operand}
    (hg : guardIs ops shs A G = some true) (hx : opSh ops shs A a0 x = .val (.pointer (some p))) (hs : shs.getD i (.fact fun _ _ => True) = .val z) :
    StepJ (BoxJ wb T zc fc ia is dst) (LowRl wb.heap.size) P ops Q (shF shs) a0 w0 i ⟨d, .load t x, ty, pos, A, G⟩ :=
  bj_pure hia his hd (fun a w g E => by
    have hv : a.eval x = .pointer (some p) := E.opv hx
    unfold execOp
    simp [hv, hrun w g]) hg hs
theorem bj_alloc (hial : ia < ops.size) (hdl : dst < a0.tmps.size) (hne : ia ≠ is) (hrun : ∀ (ev : Operand → Value) (w : World), (execOp ev ⟨some dst, .alloc T, ty, pos, A, G⟩).run P w = .ok (.value (.pointer (some ⟨w.heap.size, 0, none⟩))) (w.alloc (.cells zc T)))
    (hg : guardIs ops shs A G = some true) (hs : shs.getD ia (.fact fun _ _ => True) = .fact fun _ _ => True) : StepJ (BoxJ wb T zc fc ia is dst) (LowRl wb.heap.size) P ops Q (shF shs) a0 w0 ia ⟨some dst, .alloc T, ty, pos, A, G⟩ := by
  intro listed a w hls hlf hdep hsz hJ hw hsm hdp K hK
  have E : RR.Env (LowRl wb.heap.size) ops shs a0 w0 A a w := ⟨hw, hsm, hdp⟩
  rw [if_pos (E.guard hg)]
  have hww := hJ.p0 hlf
  subst hww
  unfold Oper.wp
  rw [hrun]
  have hsf : listed.getD is false = false := by
    cases k : listed.getD is false with
    | false => rfl
    | true => rw [hJ.o k] at hlf; cases hlf
  have ht : (a.put (some dst) (.pointer (some ⟨w.heap.size, 0, none⟩))).tmps.getD dst undef = .pointer (some ⟨w.heap.size, 0, none⟩) := getD_put_same (by rw [hsz]; exact hdl)
  have hls2 : (listed.setIfInBounds ia true).getD is false = false := by rw [lset_ne hne]; exact hsf
  have hls3 : (listed.setIfInBounds ia true).getD ia false = true := lset_here (by rw [hls]; exact hial)
  exact hK _ _ (LowRl.of_grew ((Grew.refl _).alloc _)) (by unfold shF; rw [hs]; trivial) ⟨fun k => (by rw [hls2] at k; cases k), fun k => (by rw [hls3] at k; cases k), fun _ _ => ⟨ht, rfl⟩, fun k => (by rw [hls2] at k; cases k)⟩
theorem bj_store (hisl : is < ops.size) (hne : ia ≠ is) {x y : Operand} {fv : Value} (hx : ∀ a : Act, a.eval x = a.tmps.getD dst undef) (hdep1 : onDep A ia = true) (hT : onDep A ia = true → True)
    (hst : ∀ w : World, w.heap[wb.heap.size]? = some (.cells zc T (0, 0)) → (Instr.storeAt T (.pointer (some ⟨wb.heap.size, 0, none⟩)) fv).run P w = .ok () (w.setRow wb.heap.size fc))
    (hg : guardIs ops shs A G = some true) (hy : opSh ops shs A a0 y = .val fv) (hs : shs.getD is (.fact fun _ _ => True) = .fact fun _ _ => True) : StepJ (BoxJ wb T zc fc ia is dst) (LowRl wb.heap.size) P ops Q (shF shs) a0 w0 is ⟨none, .store T x y, ty, pos, A, G⟩ := by
  intro listed a w hls hlf hdep hsz hJ hw hsm hdp K hK
  have E : RR.Env (LowRl wb.heap.size) ops shs a0 w0 A a w := ⟨hw, hsm, hdp⟩
  rw [if_pos (E.guard hg)]
  have hia := onDep_listed hdep1 hdep
  obtain ⟨h1, rfl⟩ := hJ.p1 hia hlf
  have hv : a.eval x = .pointer (some ⟨wb.heap.size, 0, none⟩) := (hx a).trans h1
  have hw2 : a.eval y = fv := E.opv hy
  have hrun := hst _ (heap_alloc_new wb (.cells zc T))
  have ha2 : (listed.setIfInBounds is true).getD ia false = true := by rw [lset_ne (Ne.symm hne)]; exact hia
  have hs2 : (listed.setIfInBounds is true).getD is false = true := lset_here (by rw [hls]; exact hisl)
  have := hK undef _ (LowRl.setRow (B := wb.heap.size) (k := wb.heap.size) (wb.alloc (.cells zc T)) (Nat.le_refl _) fc) (by unfold shF; rw [hs]; trivial) ⟨fun _ => ha2, fun k => (by rw [ha2] at k; cases k), fun _ k => (by rw [hs2] at k; cases k), fun _ => ⟨h1, rfl⟩⟩
  unfold Oper.wp execOp
  simp only [hv, hw2, hrun, Sem.run_bind, Sem.run_pure, Result.andThen_ok]
  exact this
end
def twoP (x : Nat × Nat) : Value := .agg #[.int .i64 (x.1 : Nat), .int .i64 (x.2 : Nat)]
theorem keyOf_pair {P : Program} {k e : TypeId} {fs : Array Field} (hu : P.underlying k = some (.struct fs)) (hfs : ∃ f0 f1, fs.toList = [f0, f1] ∧ f0.type = e ∧ f0.offset = 0 ∧ f1.type = e ∧ f1.offset = 1) (hnm : fs.all (·.name != "_") = true) (he : P.underlying e = some (.int .i64)) (hkt : P.keyType k = true) (hce : P.cellsOf e = 1) (hck : P.cellsOf k = 2) (hp : ∃ m, P.types.size = m + 1) {a b : Int} (ha : (Lit.int .i64 a).wf = true) (hb : (Lit.int .i64 b).wf = true) :
    ∃ y, keyOf P k (.agg #[.int .i64 a, .int .i64 b]) = some y := by
  obtain ⟨m, hm⟩ := hp
  obtain ⟨f0, f1, hl, t0, o0, t1, o1⟩ := hfs
  unfold keyOf
  rw [hu]
  dsimp only
  have h1 : (P.keyType k && (Value.agg #[.int .i64 a, .int .i64 b]).formed P k) = true := by
    rw [hkt]; unfold Value.formed; rw [hu]; simp [hck]
  rw [if_pos h1]
  have hi : ∀ (x : Int), (Lit.int .i64 x).wf = true → P.keyLits (m + 1) e [.int .i64 x] = some [.int .i64 x] := fun x hx => by
    unfold Program.keyLits
    rw [he]
    dsimp only
    rw [if_pos ⟨rfl, hx⟩]
  have h2 : P.keyLits (P.types.size + 1) k (Value.agg #[.int .i64 a, .int .i64 b]).cells.toList = some ([[Lit.int .i64 a], [Lit.int .i64 b]].flatten) := by
    show P.keyLits (P.types.size + 1) k [.int .i64 a, .int .i64 b] = _
    unfold Program.keyLits
    rw [hu]
    dsimp only
    rw [if_pos ⟨by rw [hck]; rfl, hnm⟩, hl]
    rw [List.mapM_cons, List.mapM_cons, List.mapM_nil, t0, t1, o0, o1, hce, hm]
    have e0 : P.keyLits (m + 1) e (([.int .i64 a, .int .i64 b] : List Value).drop 0 |>.take 1) = some [.int .i64 a] := hi a ha
    have e1 : P.keyLits (m + 1) e (([.int .i64 a, .int .i64 b] : List Value).drop 1 |>.take 1) = some [.int .i64 b] := hi b hb
    rw [e0, e1]
    rfl
  rw [h2]
  exact ⟨_, rfl⟩
theorem pair_fields : ∃ fs, Tryd.prog.underlying 95 = some (.struct fs) ∧ (∃ f0 f1, fs.toList = [f0, f1] ∧ f0.type = 3 ∧ f0.offset = 0 ∧ f1.type = 3 ∧ f1.offset = 1) ∧ fs.all (·.name != "_") = true :=
  ⟨_, Tryd.underlying95, ⟨_, _, rfl, rfl, rfl, rfl, rfl⟩, by kernel_rfl⟩
theorem key_pair {a b : Nat} (ha : a ≤ 9223372036854775807) (hb : b ≤ 9223372036854775807) : ∃ y, keyOf Tryd.prog 95 (.agg #[.int .i64 (a : Nat), .int .i64 (b : Nat)]) = some y := by
  obtain ⟨fs, h1, h2, h3⟩ := pair_fields
  exact keyOf_pair h1 h2 h3 Tryd.underlying3 (by kernel_rfl) (by kernel_rfl) (by kernel_rfl) types_pos (wf_i64 ha) (wf_i64 hb)
def encP : Enc Tryd.prog 95 (Nat × Nat) where
  enc := twoP
  D x := x.1 ≤ 9223372036854775807 ∧ x.2 ≤ 9223372036854775807
  key x h := key_pair h.1 h.2
  inj x y _ _ h := by
    obtain ⟨a, b⟩ := x
    obtain ⟨c, d⟩ := y
    unfold twoP at h
    simp only [Value.agg.injEq, Array.mk.injEq, List.cons.injEq, Value.int.injEq, true_and, and_true] at h
    rw [Int.ofNat_inj.1 h.1, Int.ofNat_inj.1 h.2]
theorem keyP : Maps.Keyed Tryd.prog 95 := Maps.Keyed.of_law (deep_law_laid laidOutA (m := 3) (by decide) (of_decide_eq_true (by kernel_rfl)) (by kernel_rfl) (by kernel_rfl))
theorem info_pairP : ∃ i0, Tryd.prog.info? 95 = some i0 ∧ i0.zero = some (.agg #[.int .i64 0, .int .i64 0]) ∧ i0.size = 2 ∧ i0.bytes = 16 := info_parts (show (Tryd.prog.info? 95).map (fun i => (i.zero, i.size, i.bytes)) = some (some (.agg #[.int .i64 0, .int .i64 0]), 2, 16) by kernel_rfl)
def qP (L : List (Nat × Nat)) (i : Nat) : List Value := (L.drop i).flatMap cells2
theorem qP_snoc {L : List (Nat × Nat)} {i : Nat} (h : i ≤ L.length) (x : Nat × Nat) : qP (L ++ [x]) i = qP L i ++ cells2 x := by
  unfold qP; rw [List.drop_append_of_le_length h, List.flatMap_append]; simp
theorem qP_succ {L : List (Nat × Nat)} {i : Nat} (h : i < L.length) : qP L (i + 1) = (qP L i).drop 2 := by
  unfold qP; rw [List.drop_eq_getElem_cons h, List.flatMap_cons]; rfl
theorem qP_head {L : List (Nat × Nat)} {i : Nat} (h : i < L.length) : (qP L i)[0]? = some (.int .i64 ((L[i]'h).1 : Nat)) ∧ (qP L i)[1]? = some (.int .i64 ((L[i]'h).2 : Nat)) := by
  unfold qP; rw [List.drop_eq_getElem_cons h, List.flatMap_cons]; exact ⟨rfl, rfl⟩
def onesL (L : List (Nat × Nat)) : List ((Nat × Nat) × Value) := L.map fun x => (x, .int .i64 1)
theorem onesL_fst (L : List (Nat × Nat)) : (onesL L).map (·.1) = L := by unfold onesL; rw [List.map_map]; simp [Function.comp_def]
structure Aps (W wr : World) (mb : Nat) (L : List (Nat × Nat)) (i : Nat) (qv : Value) (k : Nat) : Prop where
  grew : Grew W wr
  map : KMap encP wr mb (onesL L)
  row : QRow wr (mb + 1) 95 2 qv k (qP L i)
  own : ∀ b, qv.ownBlock = some b → mb + 1 ≤ b ∧ b < wr.heap.size
  len : k + i = L.length
  big : W.heap.size ≤ mb
section
variable {W wr w' : World} {mb : Nat} {L : List (Nat × Nat)} {i k : Nat} {qv qv' : Value}
theorem Aps.kept (h : Aps W wr mb L i qv k) (g : Grew wr w') : Aps W w' mb L i qv k :=
  ⟨h.grew.trans g, h.map.kept g, h.row.grew g, fun b hb => ⟨(h.own b hb).1, Nat.lt_of_lt_of_le (h.own b hb).2 g.size⟩, h.len, h.big⟩
theorem size_pair (w : World) : (sizeOf (Tryd.prog.elem 97)).run Tryd.prog w = .ok 2 w := size_of (by kernel_rfl) w
theorem Aps.cut (h : Aps W wr mb L i qv (k + 1)) : ∃ a c, (∀ w1, (Instr.slice 97 qv (some (.int .i64 1)) none none).run Tryd.prog w1 = .ok (.slice a k c) w1) ∧ Aps W wr mb L (i + 1) (.slice a k c) k := by
  obtain ⟨a, c, h1, h2, h3⟩ := h.row.tail (P := Tryd.prog) (t := 97) Tryd.underlying97 size_pair
  refine ⟨a, c, h1, h.grew, h.map, ?_, fun b hb => h.own b (h3 ▸ hb), by have := h.len; omega, h.big⟩
  rw [qP_succ (by have := h.len; omega)]; exact h2
theorem Aps.add (h : Aps W wr mb L i qv k) {q : Nat × Nat} (hq : q ∉ L) (hD : encP.D q) (hk : k + 1 ≤ 100000000) (ty : TypeId) :
    ∃ w1, (Instr.mapUpdate 96 (.map (some mb)) (twoP q) (.int .i64 1)).run Tryd.prog wr = .ok () w1 ∧ w1.heap.size = wr.heap.size ∧ (∀ k, k < wr.heap.size → k ≠ mb → w1.heap[k]? = wr.heap[k]?) ∧
      ∃ v' w2, (Builtin.append_ #[97, 97] ty #[qv, .slice (some ⟨wr.heap.size, 0, none⟩) 1 1]).run Tryd.prog (w1.alloc (.cells #[.int .i64 (q.1 : Nat), .int .i64 (q.2 : Nat)] 95)) = .ok v' w2 ∧ (∃ a cp, v' = .slice a (k + 1) cp) ∧ Aps W w2 mb (L ++ [q]) i v' (k + 1) ∧
        (∀ k, k < wr.heap.size → k ≠ mb → qv.ownBlock ≠ some k → w2.heap[k]? = wr.heap[k]?) ∧ ∀ k, v'.ownBlock = some k → qv.ownBlock = some k ∨ wr.heap.size ≤ k := by
  obtain ⟨w1, p1, p2, hg1, hs1⟩ := h.map.put keyP (t := 96) Tryd.underlying96 (x := q) hD (by rw [onesL_fst]; exact hq) (.int .i64 1)
  have hm : KMap encP w1 mb (onesL (L ++ [q])) := by
    unfold onesL at p2 ⊢
    rw [List.map_append]; exact p2
  have hb1 : ∀ k, k < wr.heap.size → k ≠ mb → w1.heap[k]? = wr.heap[k]? := fun k h1 h2 => hg1.block k h1 (fun e => by injection e with e; omega)
  refine ⟨w1, p1, hs1, hb1, ?_⟩
  have hml := h.map.lt
  have hbig := h.big
  obtain ⟨i0, hi0, hz0, hz1, hz2⟩ := info_pairP
  have hrow1 : QRow w1 (mb + 1) 95 2 qv k (qP L i) := h.row.kept fun b hb hlt => hg1.block b hlt (fun e => by have := (h.own b hb).1; injection e with e; omega)
  have hrow2 := hrow1.grew ((Grew.refl w1).alloc (.cells #[.int .i64 (q.1 : Nat), .int .i64 (q.2 : Nat)] 95))
  obtain ⟨v', w2, a1, a2, a3, a4⟩ := QRow.append (P := Tryd.prog) (t := 97) Tryd.underlying97 hi0 hz0 hz1 hz2 rfl hrow2 (by rw [World.size_alloc]; omega) wr.heap.size 1 (cells2 q) rfl (fun j u hu => by
    unfold World.cell?
    dsimp only
    rw [← hs1, heap_alloc_new w1 _]
    unfold cells2 at hu
    rcases j with _ | _ | j
    · simpa using hu
    · simpa using hu
    · simp at hu) (fun u hu => by
      unfold cells2 at hu
      simp only [List.mem_cons, List.not_mem_nil, or_false] at hu
      rcases hu with rfl | rfl <;> rfl) (by unfold maxLen; omega) (by omega) ty
  have hown : ∀ b, qv.ownBlock = some b → mb + 1 ≤ b := fun b hb => (h.own b hb).1
  have g2 : (w1.alloc (.cells #[.int .i64 (q.1 : Nat), .int .i64 (q.2 : Nat)] 95)).grownBy w2 qv.ownBlock := a3
  have hgr1 : Grew W w1 := grew_grown h.grew hg1 fun b e => by injection e with e; omega
  have hgr2 : Grew W w2 := grew_grown (hgr1.alloc _) g2 fun b e => by have := hown b e; omega
  have hnew : ∀ b, v'.ownBlock = some b → (qv.ownBlock = some b ∨ wr.heap.size ≤ b) ∧ mb + 1 ≤ b ∧ b < w2.heap.size := fun b hb => by
    have hs2 := g2.size
    rw [World.size_alloc] at hs2
    rcases a4 with e | e
    · rw [e] at hb
      have := h.own b hb
      exact ⟨Or.inl hb, this.1, by omega⟩
    · rw [e] at hb; cases hb
      obtain ⟨b', _, _, e2, _, hlt, _⟩ := a2.at (by omega)
      rw [e2] at e; cases e
      exact ⟨Or.inr (by rw [World.size_alloc]; omega), by rw [World.size_alloc]; omega, hlt⟩
  refine ⟨v', w2, a1, ?_, ⟨hgr2, (hm.kept ((Grew.refl w1).alloc _)).grown g2 (fun e => by have := hown _ e.symm; omega), ?_, fun b hb => (hnew b hb).2, by rw [List.length_append]; have := h.len; simp; omega, hbig⟩, fun k h1 h2 h3 => ?_, fun k hk => (hnew k hk).1⟩
  · obtain ⟨_, a, cp, e, _⟩ := a2; exact ⟨a, cp, e⟩
  · rw [qP_snoc (by have := h.len; omega)]; exact a2
  · rw [g2.block _ (by rw [World.size_alloc]; omega) (Ne.symm h3), heap_alloc_old _ _ (by omega)]
    exact hb1 k h1 h2
end
structure CanAt (w : World) (b : Nat) (C : RA) (nb no nc eb eo ec : Nat) (rb ro rc : Nat → Nat) : Prop where
  nx : w.cell? ⟨b, 256, none⟩ = some (.slice (some ⟨nb, no, none⟩) C.n nc)
  en : w.cell? ⟨b, 257, none⟩ = some (.slice (some ⟨eb, eo, none⟩) C.n ec)
  row : ∀ s, s < C.n → w.cell? ⟨nb, no + s, none⟩ = some (.slice (some ⟨rb s, ro s, none⟩) (clsN C) (rc s))
  cell : ∀ s k, s < C.n → k < clsN C → w.cell? ⟨rb s, ro s + k, none⟩ = some (.int .i64 (C.nx s (fstC C k) : Nat))
  ends : ∀ s, s < C.n → w.cell? ⟨eb, eo + s, none⟩ = some (.bool (C.en s))
theorem CanAt.kept {w w' : World} {b : Nat} {C : RA} {nb no nc eb eo ec : Nat} {rb ro rc : Nat → Nat} (h : CanAt w b C nb no nc eb eo ec rb ro rc) (g : Grew w w') : CanAt w' b C nb no nc eb eo ec rb ro rc :=
  ⟨g.keeps h.nx, g.keeps h.en, fun s hs => g.keeps (h.row s hs), fun s k hs hk => g.keeps (h.cell s k hs hk), fun s hs => g.keeps (h.ends s hs)⟩
theorem clsN_pos (C : RA) : 0 < clsN C := by
  obtain ⟨j, hj, _⟩ := fsts_of (colA C) 256 0 (by omega)
  exact List.length_pos_of_mem hj
theorem canAt_of {w : World} {b : Nat} {C : RA} {na ea : Option Addr} {nc ec : Nat} (h : Held w b (autOf C) na nc ea ec) (ok : C.Ok) : ∃ nb no eb eo rb ro rc, CanAt w b C nb no nc eb eo ec rb ro rc := by
  have hn := autOf_n C
  have he := autOf_ne C
  have hp := ok.pos
  obtain ⟨eb, eo, rfl, hen⟩ := h.rows.ends.get (by rw [he]; exact hp)
  obtain ⟨ra, rc, h1, h2⟩ := h.rows.next
  obtain ⟨nb, no, rfl, hnx⟩ := h1.get (by rw [hn]; exact hp)
  have hrow : ∀ s, s < C.n → ((autOf C).next.getD s []).length = clsN C ∧ ∀ k, k < clsN C → ((autOf C).next.getD s []).getD k 0 = (C.nx s (fstC C k) : Nat) := fun s hs => by
    rw [autOf_row hs]
    refine ⟨by rw [List.length_map]; rfl, fun k hk => ?_⟩
    rw [getD_map_lt (fun c => (C.nx s c : Int)) hk 0 0]; rfl
  have hsome : ∀ s, ∃ rb ro, s < C.n → ra s = some ⟨rb, ro, none⟩ ∧ ∀ k, k < clsN C → w.cell? ⟨rb, ro + k, none⟩ = some (.int .i64 (C.nx s (fstC C k) : Nat)) := fun s => by
    by_cases hs : s < C.n
    · have h3 := h2 s (by rw [hn]; exact hs)
      rw [(hrow s hs).1] at h3
      obtain ⟨rb, ro, e, h4⟩ := h3.get (clsN_pos C)
      exact ⟨rb, ro, fun _ => ⟨e, fun k hk => by rw [h4 k hk, (hrow s hs).2 k hk]⟩⟩
    · exact ⟨0, 0, fun h => absurd h hs⟩
  obtain ⟨rb, hrb⟩ := Classical.axiomOfChoice hsome
  obtain ⟨ro, hro⟩ := Classical.axiomOfChoice hrb
  refine ⟨nb, no, eb, eo, rb, ro, rc, by rw [h.box.nx, hn], by rw [h.box.en, he], fun s hs => ?_, fun s k hs hk => (hro s hs).2 k hk, fun s hs => ?_⟩
  · rw [hnx s (by rw [hn]; exact hs), (hro s hs).1, (hrow s hs).1]
  · rw [hen s (by rw [he]; exact hs)]
    unfold autOf
    rw [getD_map_range _ hs]
theorem field_pair0 (b : Nat) (w : World) : (Instr.fieldAt 95 (.pointer (some ⟨b, 0, none⟩)) 0).run Tryd.prog w = .ok (.pointer (some ⟨b, 0, none⟩)) w := by kernel_rfl
theorem field_pair1 (b : Nat) (w : World) : (Instr.fieldAt 95 (.pointer (some ⟨b, 0, none⟩)) 1).run Tryd.prog w = .ok (.pointer (some ⟨b, 1, none⟩)) w := by kernel_rfl
theorem bool_ne (a b : Bool) {x y : Operand} (w : World) : (do eqGuard .neq 4 x y (.bool a) (.bool b); binOp .neq 4 (.bool a) (.bool b) : Sem Value).run Tryd.prog w = .ok (.bool (a != b)) w := by
  have h := run_neq_bool (P := Tryd.prog) w 4 a b Tryd.underlying4
  rw [Sem.run_bind]
  have h2 : (eqGuard .neq 4 x y (.bool a) (.bool b)).run Tryd.prog w = .ok () w := by simp [eqGuard]
  rw [h2, Result.andThen_ok]
  exact h
end Go.Proofs.YtkkdpafkafjfgaaDoor
