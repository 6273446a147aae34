/- Regions that say a gift, l.Said = append(l.Said, ..), in whatever order: what each operation leaves. -/
import Derived.Test.YtcmdhgamlhnioaaDoorRegR
import Derived.Test.YtcmdhgamlhnioaaDoorScRM
import Derived.Deep.AppendLies
import Derived.Great.BuildSlice
import Derived.Test.YtcmdhgamlhnioaaDoorScRE
/-! Regions that say a gift, l.Said = append(l.Said, ..), in whatever order: what each operation leaves. -/
namespace Go.Proofs.YtcmdhgamlhnioaaDoor
open Go.RowKit RR
set_option linter.unusedVariables false
/-- All but the row of what is said, and the Look's cell for it, is as it was. -/
def SayRl (lb : Nat) (own : Option Nat) (w w' : World) : Prop := w.heap.size ≤ w'.heap.size ∧ ∀ p : Addr, p.block < w.heap.size → own ≠ some p.block → p ≠ ⟨lb, 4, none⟩ → w'.cell? p = w.cell? p
theorem SayRl.refl (lb : Nat) (own : Option Nat) (w : World) : SayRl lb own w w := ⟨Nat.le_refl _, fun _ _ _ _ => rfl⟩
theorem SayRl.drew (lb : Nat) (own : Option Nat) (w : World) : SayRl lb own w w.drew := ⟨Nat.le_refl _, fun _ _ _ _ => rfl⟩
theorem SayRl.trans {lb : Nat} {own : Option Nat} (a b c : World) (h : SayRl lb own a b) (k : SayRl lb own b c) : SayRl lb own a c :=
  ⟨Nat.le_trans h.1 k.1, fun p h1 h2 h3 => (k.2 p (Nat.lt_of_lt_of_le h1 h.1) h2 h3).trans (h.2 p h1 h2 h3)⟩
theorem SayRl.of_grown {lb : Nat} {own : Option Nat} {w w' : World} (g : w.grownBy w' own) : SayRl lb own w w' := ⟨g.size, fun p h1 h2 _ => World.cell?_of_block (g.block _ h1 (Ne.symm h2))⟩
theorem SayRl.set {lb : Nat} {own : Option Nat} (w : World) (v : Value) : SayRl lb own w (w.setCell ⟨lb, 4, none⟩ v) := by
  refine ⟨by simp [World.setCell], fun p h1 h2 h3 => ?_⟩
  by_cases hb : p.block = lb
  · obtain ⟨pb, po, ps⟩ := p
    dsimp only at hb
    subst hb
    rw [World.cell?_setCell_other]
    exact Ne.symm h3
  · exact World.cell?_of_block (setCell_heap_other _ _ _ (Ne.symm hb))
/-- One more is said. -/
structure SaidIn (wb : World) (base n : Nat) (sv : Value) (xs news : List Value) (gg cap : Nat) (w : World) : Prop where
  grew : wb.grownBy w sv.ownBlock
  own : w.ownsRow base 57 2 (.slice (some ⟨gg, 0, none⟩) (n + 1) cap) (n + 1) (xs ++ news)
  lies : sv.ownBlock = some gg ∨ wb.heap.size ≤ gg
  lt : gg < w.heap.size
/-- How far the region is: the list is made (ib), appended to (ia), stored (is), behind its load (il). -/
structure SayJ (wb : World) (lb base n : Nat) (sv : Value) (xs news : List Value) (il ib ia is dst : Nat) (listed : Array Bool) (a : Act) (w : World) : Prop where
  ab : listed.getD ia false = true → listed.getD ib false = true
  sa : listed.getD is false = true → listed.getD ia false = true ∧ listed.getD il false = true
  p0 : listed.getD ia false = false → wb.grownBy w none
  p1 : listed.getD ia false = true → listed.getD is false = false → ∃ gg cap, a.tmps.getD dst undef = .slice (some ⟨gg, 0, none⟩) (n + 1) cap ∧ SaidIn wb base n sv xs news gg cap w
  p2 : listed.getD is false = true → ∃ gg cap w1, SaidIn wb base n sv xs news gg cap w1 ∧ w = w1.setCell ⟨lb, 4, none⟩ (.slice (some ⟨gg, 0, none⟩) (n + 1) cap)
theorem getD_set_true {l : Array Bool} {i j : Nat} (h : l.getD j false = true) : (l.setIfInBounds i true).getD j false = true := by
  by_cases e : i = j
  · subst e
    simp only [Array.getD_eq_getD_getElem?] at h ⊢
    by_cases hl : i < l.size
    · simp [hl]
    · simp [hl] at h
  · rw [getD_set_ne false e]; exact h
theorem getD_set_here {l : Array Bool} {i : Nat} (h : i < l.size) : (l.setIfInBounds i true).getD i false = true := by simp [Array.getD_eq_getD_getElem?, h]
section
variable {wb w0 : World} {lb base n : Nat} {sv : Value} {xs news : List Value} {il ib ia is dst : Nat} {ops : Array Oper} {Q : Exit → Act → World → Prop} {shs : List Sh} {a0 : Act} {A : Array Edge} {i : Nat} {d : Option Tmp} {op : Op} {ty : TypeId} {pos : String} {G : Option (Nat × Bool)}
theorem SayJ.stay {listed : Array Bool} {a : Act} {w : World} (h : SayJ wb lb base n sv xs news il ib ia is dst listed a w) (hia : i ≠ ia) (his : i ≠ is) (hd : d ≠ some dst) (v : Value) : SayJ wb lb base n sv xs news il ib ia is dst (listed.setIfInBounds i true) (a.put d v) w := by
  have ea : (listed.setIfInBounds i true).getD ia false = listed.getD ia false := getD_set_ne false hia
  have es : (listed.setIfInBounds i true).getD is false = listed.getD is false := getD_set_ne false his
  have et : (a.put d v).tmps.getD dst undef = a.tmps.getD dst undef := by
    cases d with
    | none => rfl
    | some d0 => exact getD_put (fun e => hd (by rw [e]))
  exact ⟨fun k => getD_set_true (h.ab (by rwa [ea] at k)), fun k => (by rw [es] at k; rw [ea]; exact ⟨(h.sa k).1, getD_set_true (h.sa k).2⟩), fun k => h.p0 (by rwa [ea] at k),
    fun k1 k2 => (by rw [ea] at k1; rw [es] at k2; rw [et]; exact h.p1 k1 k2), fun k => h.p2 (by rwa [es] at k)⟩
/-- The Look's cell ahead of the store. -/
theorem SayJ.load4 {listed : Array Bool} {a : Act} {w : World} (h : SayJ wb lb base n sv xs news il ib ia is dst listed a w) (hne : sv.ownBlock ≠ some lb) (hlt : lb < wb.heap.size) (hl : listed.getD is false = false) (p : Addr) (hp : p.block = lb) : w.cell? p = wb.cell? p ∧ w.frozen? p = wb.frozen? p := by
  have : w.heap[lb]? = wb.heap[lb]? := by
    by_cases e : listed.getD ia false = true
    · obtain ⟨gg, cap, _, k⟩ := h.p1 e hl
      exact k.grew.block lb hlt (Ne.symm hne)
    · exact (h.p0 (by simpa using e)).block lb hlt (by simp)
  rw [← hp] at this
  exact ⟨World.cell?_of_block this, World.frozen?_of_block this⟩
/-- An operation that leaves the world. -/
theorem sj_pure {z : Value} (hia : i ≠ ia) (his : i ≠ is) (hd : d ≠ some dst)
    (hr : ∀ listed a w, SayJ wb lb base n sv xs news il ib ia is dst listed a w → listed.getD i false = false → RR.Env (SayRl lb sv.ownBlock) ops shs a0 w0 A a w → (execOp a.eval ⟨d, op, ty, pos, A, G⟩).run Tryd.prog w = .ok (.value z) w)
    (hg : guardIs ops shs A G = some true) (hs : shs.getD i (.fact fun _ _ => True) = .val z) : StepJ (SayJ wb lb base n sv xs news il ib ia is dst) (SayRl lb sv.ownBlock) Tryd.prog ops Q (shF shs) a0 w0 i ⟨d, op, ty, pos, A, G⟩ := by
  intro listed a w hls hlf hdep hsz hJ hw hsm hdp K hK
  have E : RR.Env (SayRl lb sv.ownBlock) ops shs a0 w0 A a w := ⟨hw, hsm, hdp⟩
  rw [if_pos (E.guard hg)]
  unfold Oper.wp
  rw [hr listed a w hJ hlf E]
  exact hK z w (SayRl.refl _ _ w) (by unfold shF; rw [hs]; rfl) (hJ.stay hia his hd z)
theorem sj_move {z : Value} (hia : i ≠ ia) (his : i ≠ is) (hd : d ≠ some dst) {x : Operand} (hg : guardIs ops shs A G = some true) (hx : opSh ops shs A a0 x = .val z) (hs : shs.getD i (.fact fun _ _ => True) = .val z) :
    StepJ (SayJ wb lb base n sv xs news il ib ia is dst) (SayRl lb sv.ownBlock) Tryd.prog ops Q (shF shs) a0 w0 i ⟨d, .move x, ty, pos, A, G⟩ :=
  sj_pure hia his hd (fun listed a w hJ _ E => by
    have hv : a.eval x = z := E.opv hx
    unfold execOp
    simp [hv]) hg hs
theorem sj_nil {p : Addr} (hia : i ≠ ia) (his : i ≠ is) (hd : d ≠ some dst) {x : Operand} (hg : guardIs ops shs A G = some true) (hx : opSh ops shs A a0 x = .val (.pointer (some p))) (hs : shs.getD i (.fact fun _ _ => True) = .val (.pointer (some p))) :
    StepJ (SayJ wb lb base n sv xs news il ib ia is dst) (SayRl lb sv.ownBlock) Tryd.prog ops Q (shF shs) a0 w0 i ⟨d, .nilCheck x, ty, pos, A, G⟩ :=
  sj_pure hia his hd (fun listed a w hJ _ E => by
    have hv : a.eval x = .pointer (some p) := E.opv hx
    unfold execOp
    simp [hv]) hg hs
theorem sj_field {t : TypeId} {k : Nat} {p q : Addr} (hf : ∀ w, (Instr.fieldAt t (.pointer (some p)) k).run Tryd.prog w = .ok (.pointer (some q)) w) (hia : i ≠ ia) (his : i ≠ is) (hd : d ≠ some dst) {x : Operand} (hg : guardIs ops shs A G = some true) (hx : opSh ops shs A a0 x = .val (.pointer (some p))) (hs : shs.getD i (.fact fun _ _ => True) = .val (.pointer (some q))) :
    StepJ (SayJ wb lb base n sv xs news il ib ia is dst) (SayRl lb sv.ownBlock) Tryd.prog ops Q (shF shs) a0 w0 i ⟨d, .fieldAddr t x k, ty, pos, A, G⟩ :=
  sj_pure hia his hd (fun listed a w hJ _ E => by
    have hv : a.eval x = .pointer (some p) := E.opv hx
    unfold execOp
    simp [hv, hf w]) hg hs
/-- A load of something that stays. -/
theorem sj_load {t : TypeId} {p : Addr} {z : Value} (hagg : ∀ w, (isAgg t).run Tryd.prog w = .ok false w) (hc : w0.cell? p = some z) (hno : sv.ownBlock ≠ some p.block) (h4 : p ≠ ⟨lb, 4, none⟩) (hia : i ≠ ia) (his : i ≠ is) (hd : d ≠ some dst) {x : Operand}
    (hg : guardIs ops shs A G = some true) (hx : opSh ops shs A a0 x = .val (.pointer (some p))) (hs : shs.getD i (.fact fun _ _ => True) = .val z) :
    StepJ (SayJ wb lb base n sv xs news il ib ia is dst) (SayRl lb sv.ownBlock) Tryd.prog ops Q (shF shs) a0 w0 i ⟨d, .load t x, ty, pos, A, G⟩ :=
  sj_pure hia his hd (fun listed a w hJ _ E => by
    have hv : a.eval x = .pointer (some p) := E.opv hx
    have hc2 : w.cell? p = some z := (E.grew.2 p (World.block_lt_of_cell? w0 p hc) hno h4).trans hc
    unfold execOp
    simp [hv, Instr.loadAt, Instr.sureAddr, loadVar, Sem.run_bind, hagg w, hc2]) hg hs
/-- The load of what is said till now. -/
theorem sj_load4 {t : TypeId} (hagg : ∀ w, (isAgg t).run Tryd.prog w = .ok false w) (hc : wb.cell? ⟨lb, 4, none⟩ = some sv) (hno : sv.ownBlock ≠ some lb) (hia : il ≠ ia) (his : il ≠ is) (hd : d ≠ some dst) {x : Operand}
    (hg : guardIs ops shs A G = some true) (hx : opSh ops shs A a0 x = .val (.pointer (some ⟨lb, 4, none⟩))) (hs : shs.getD il (.fact fun _ _ => True) = .val sv) :
    StepJ (SayJ wb lb base n sv xs news il ib ia is dst) (SayRl lb sv.ownBlock) Tryd.prog ops Q (shF shs) a0 w0 il ⟨d, .load t x, ty, pos, A, G⟩ :=
  sj_pure hia his hd (fun listed a w hJ hl E => by
    have hv : a.eval x = .pointer (some ⟨lb, 4, none⟩) := E.opv hx
    have hsf : listed.getD is false = false := by
      cases h : listed.getD is false with
      | false => rfl
      | true => rw [(hJ.sa h).2] at hl; cases hl
    have hc2 : w.cell? ⟨lb, 4, none⟩ = some sv := (hJ.load4 hno (World.block_lt_of_cell? wb _ hc) hsf ⟨lb, 4, none⟩ rfl).1.trans hc
    unfold execOp
    simp [hv, Instr.loadAt, Instr.sureAddr, loadVar, Sem.run_bind, hagg w, hc2]) hg hs
theorem sj_slice {t : TypeId} {s : ByteArray} {lo hi : Nat} (ht : Tryd.prog.underlying t = some .string) (h1 : lo ≤ hi) (h2 : hi ≤ s.size) (hia : i ≠ ia) (his : i ≠ is) (hd : d ≠ some dst) {x y z : Operand}
    (hg : guardIs ops shs A G = some true) (hx : opSh ops shs A a0 x = .val (.string s)) (hy : opSh ops shs A a0 y = .val (.int .i64 lo)) (hz : opSh ops shs A a0 z = .val (.int .i64 hi)) (hs : shs.getD i (.fact fun _ _ => True) = .val (.string (s.extract lo hi))) :
    StepJ (SayJ wb lb base n sv xs news il ib ia is dst) (SayRl lb sv.ownBlock) Tryd.prog ops Q (shF shs) a0 w0 i ⟨d, .slice t x (some y) (some z) none, ty, pos, A, G⟩ :=
  sj_pure hia his hd (fun listed a w hJ _ E => by
    have hv : a.eval x = .string s := E.opv hx
    have hv2 : a.eval y = .int .i64 lo := E.opv hy
    have hv3 : a.eval z = .int .i64 hi := E.opv hz
    have := run_slice_string (P := Tryd.prog) w t s .i64 .i64 lo hi ht (by omega) (by omega) (by omega)
    unfold execOp
    simp [hv, hv2, hv3, Instr.sliceAt, run_underlying ht, this]) hg hs
theorem build_gift (u v : ByteArray) (w : World) : (Instr.build 57 #[(0, .string u), (1, .string v)]).run Tryd.prog w = .ok (.agg #[.string u, .string v]) w := by kernel_rfl
theorem sj_gift {u v : ByteArray} (hia : i ≠ ia) (his : i ≠ is) (hd : d ≠ some dst) {x y : Operand} (hg : guardIs ops shs A G = some true) (hx : opSh ops shs A a0 x = .val (.string u)) (hy : opSh ops shs A a0 y = .val (.string v)) (hs : shs.getD i (.fact fun _ _ => True) = .val (.agg #[.string u, .string v])) :
    StepJ (SayJ wb lb base n sv xs news il ib ia is dst) (SayRl lb sv.ownBlock) Tryd.prog ops Q (shF shs) a0 w0 i ⟨d, .build 57 #[(0, x), (1, y)], ty, pos, A, G⟩ :=
  sj_pure hia his hd (fun listed a w hJ _ E => by
    have hv : a.eval x = .string u := E.opv hx
    have hw : a.eval y = .string v := E.opv hy
    unfold execOp
    simp only [List.map_toArray, List.map_cons, List.map_nil, hv, hw, Sem.run_bind, build_gift, Result.andThen_ok, Sem.run_pure]) hg hs
/-- A call that leaves the world. -/
theorem sj_call {f : FuncId} {args : Array Operand} {ats : Array TypeId} {z : Value} (hf : isGo Tryd.prog f = true) (hc : ∀ a w, RR.Env (SayRl lb sv.ownBlock) ops shs a0 w0 A a w → Calls Tryd.prog f (args.map a.eval) w fun e w' => e = .returned z ∧ w' = w)
    (hia : i ≠ ia) (his : i ≠ is) (hd : d ≠ some dst) (hg : guardIs ops shs A G = some true) (hs : shs.getD i (.fact fun _ _ => True) = .val z) :
    StepJ (SayJ wb lb base n sv xs news il ib ia is dst) (SayRl lb sv.ownBlock) Tryd.prog ops Q (shF shs) a0 w0 i ⟨d, .call { callee := .value (.func f), args := args, argTypes := ats }, ty, pos, A, G⟩ := by
  intro listed a w hls hlf hdep hsz hJ hw hsm hdp K hK
  have E : RR.Env (SayRl lb sv.ownBlock) ops shs a0 w0 A a w := ⟨hw, hsm, hdp⟩
  rw [if_pos (E.guard hg)]
  unfold Oper.wp
  rw [execOp_call_go, run_go hf, Array.append_empty, Array.empty_append]
  show Calls _ _ _ _ _
  refine (hc a w E).mono fun e w' ⟨he, hw'⟩ => ?_
  subst he
  subst hw'
  exact hK z w' (SayRl.refl _ _ _) (by unfold shF; rw [hs]; rfl) (hJ.stay hia his hd z)
/-- The new list of one gift. -/
def oneGift (wb : World) (lb : Nat) (own : Option Nat) (u v : ByteArray) : Sh := .fact fun z w => ∃ g, z = .slice (some ⟨g, 0, none⟩) 1 1 ∧ wb.heap.size ≤ g ∧ own ≠ some g ∧ g ≠ lb ∧ w.cell? ⟨g, 0, none⟩ = some (.string u) ∧ w.cell? ⟨g, 1, none⟩ = some (.string v)
theorem bslice_gift (u v : ByteArray) (w : World) : (Instr.buildSlice 26 1 #[(0, .agg #[.string u, .string v])]).run Tryd.prog w = .ok (.slice (some ⟨w.heap.size, 0, none⟩) 1 1) (w.alloc (.cells #[.string u, .string v] 57)) := by kernel_rfl
theorem sj_list {u v : ByteArray} (hown : ∀ b, sv.ownBlock = some b → b < wb.heap.size) (hlb : lb < wb.heap.size) (hia : ib ≠ ia) (his : ib ≠ is) (hd : d ≠ some dst) {x : Operand} (hg : guardIs ops shs A G = some true) (hx : opSh ops shs A a0 x = .val (.agg #[.string u, .string v])) (hs : shs.getD ib (.fact fun _ _ => True) = oneGift wb lb sv.ownBlock u v) :
    StepJ (SayJ wb lb base n sv xs news il ib ia is dst) (SayRl lb sv.ownBlock) Tryd.prog ops Q (shF shs) a0 w0 ib ⟨d, .buildSlice 26 1 #[(0, x)], ty, pos, A, G⟩ := by
  intro listed a w hls hlf hdep hsz hJ hw hsm hdp K hK
  have E : RR.Env (SayRl lb sv.ownBlock) ops shs a0 w0 A a w := ⟨hw, hsm, hdp⟩
  rw [if_pos (E.guard hg)]
  have hv : a.eval x = .agg #[.string u, .string v] := E.opv hx
  have haf : listed.getD ia false = false := by
    cases h : listed.getD ia false with
    | false => rfl
    | true => rw [hJ.ab h] at hlf; cases hlf
  have hgb := hJ.p0 haf
  have hsf : listed.getD is false = false := by
    cases h : listed.getD is false with
    | false => rfl
    | true => rw [(hJ.sa h).1] at haf; cases haf
  have hga : w.grownBy (w.alloc (.cells #[.string u, .string v] 57)) none := World.grownBy_alloc w _ _
  have hlb2 : lb < w.heap.size := Nat.lt_of_lt_of_le hlb hgb.size
  have ea : (listed.setIfInBounds ib true).getD ia false = false := by rw [getD_set_ne false hia]; exact haf
  have es : (listed.setIfInBounds ib true).getD is false = false := by rw [getD_set_ne false his]; exact hsf
  have := hK (.slice (some ⟨w.heap.size, 0, none⟩) 1 1) (w.alloc (.cells #[.string u, .string v] 57)) ⟨hga.size, fun p h1 _ _ => World.cell?_of_block (hga.block _ h1 (by simp))⟩
    (by
      unfold shF; rw [hs]
      have hb : (w.alloc (.cells #[.string u, .string v] 57)).heap[w.heap.size]? = some (.cells #[.string u, .string v] 57 (0, 0)) := heap_alloc_new w _
      exact ⟨_, rfl, hgb.size, fun e => by have := hown _ e; have := hgb.size; omega, by omega, by unfold World.cell?; rw [hb]; rfl, by unfold World.cell?; rw [hb]; rfl⟩)
    ⟨fun k => (by rw [ea] at k; cases k), fun k => (by rw [es] at k; cases k), fun _ => ⟨hga.os.trans hgb.os, hga.tape.trans hgb.tape, hga.output.trans hgb.output, Nat.le_trans hgb.size hga.size, fun k h1 h2 => (hga.block k (Nat.lt_of_lt_of_le h1 hgb.size) h2).trans (hgb.block k h1 h2)⟩, fun k => (by rw [ea] at k; cases k), fun k => (by rw [es] at k; cases k)⟩
  unfold Oper.wp execOp
  simp only [List.map_toArray, List.map_cons, List.map_nil, hv, Sem.run_bind, bslice_gift, Result.andThen_ok, Sem.run_pure]
  exact this
def depOn (A : Array Edge) (j : Nat) : Bool := A.toList.any fun e => Region.binds .any e && e.on == j
theorem depOn_listed {A : Array Edge} {j : Nat} {listed : Array Bool} (h : depOn A j = true) (hd : ∀ e ∈ A, Region.binds .any e = true → listed.getD e.on false = true) : listed.getD j false = true := by
  obtain ⟨e, he, hb⟩ := List.any_eq_true.1 h
  rw [Bool.and_eq_true, beq_iff_eq] at hb
  rw [← hb.2]
  exact hd e (by simpa using he) hb.1
/-- The append. -/
theorem sj_append {u v : ByteArray} (hdl : depOn A il = true) (hdb : depOn A ib = true) (hia : ia ≠ is) (hn : n ≤ 1000000000000) (hsv : wb.ownsRow base 57 2 sv n xs) (hnews : news = [.string u, .string v]) (hbase : base ≤ wb.heap.size) (hdst : dst < a0.tmps.size) (hils : ia < ops.size)
    {x y : Operand} (hg : guardIs ops shs A G = some true) (hx : opSh ops shs A a0 x = .val sv) (hy : opSh ops shs A a0 y = oneGift wb lb sv.ownBlock u v) (hs : shs.getD ia (.fact fun _ _ => True) = .fact fun _ _ => True) :
    StepJ (SayJ wb lb base n sv xs news il ib ia is dst) (SayRl lb sv.ownBlock) Tryd.prog ops Q (shF shs) a0 w0 ia ⟨some dst, .call { callee := .builtin .append, args := #[x, y], argTypes := #[26, 26] }, ty, pos, A, G⟩ := by
  intro listed a w hls hlf hdep hsz hJ hw hsm hdp K hK
  have E : RR.Env (SayRl lb sv.ownBlock) ops shs a0 w0 A a w := ⟨hw, hsm, hdp⟩
  rw [if_pos (E.guard hg)]
  have hv : a.eval x = sv := E.opv hx
  have hgb := hJ.p0 hlf
  have hsf : listed.getD is false = false := by
    cases h : listed.getD is false with
    | false => rfl
    | true => rw [(hJ.sa h).1] at hlf; cases hlf
  obtain ⟨g, hz, hg1, hg2, hg3, hg4, hg5⟩ : ∃ g, a.eval y = .slice (some ⟨g, 0, none⟩) 1 1 ∧ wb.heap.size ≤ g ∧ sv.ownBlock ≠ some g ∧ g ≠ lb ∧ w.cell? ⟨g, 0, none⟩ = some (.string u) ∧ w.cell? ⟨g, 1, none⟩ = some (.string v) := by
    have := E.op y
    rw [hy] at this
    exact this
  obtain ⟨i0, hi0, hz0, hz1, hz2⟩ := info_parts info_gift
  have hown : w.ownsRow base 57 2 sv n xs := World.ownsRow.kept hsv hgb (by cases sv.ownBlock <;> simp)
  subst hnews
  refine wp_append_lies w x y 26 (by rfl) base 57 i0 _ 2 32 Tryd.underlying26 hi0 hz0 hz1 hz2 rfl (by omega) sv n xs hv hown ⟨g, 0, none⟩ 1 1 [.string u, .string v] hz (by rfl) (fun j z hj => ?_) (by simp [Value.oneCell']) (by omega) (by unfold maxLen; omega) (by omega) (Nat.le_trans hbase hgb.size) w.heap.size rfl ?_
  · rcases j with _ | _ | j
    · simp at hj; subst hj; simpa [Addr.add] using hg4
    · simp at hj; subst hj; simpa [Addr.add] using hg5
    · simp at hj
  · intro gg cap w' hown' hgrow hat hlt
    have ea : (listed.setIfInBounds ia true).getD ia false = true := getD_set_here (by rw [hls]; exact hils)
    have es : (listed.setIfInBounds ia true).getD is false = false := by rw [getD_set_ne false hia]; exact hsf
    refine hK _ w' (SayRl.of_grown hgrow) (by unfold shF; rw [hs]; trivial) ⟨fun _ => getD_set_true (depOn_listed hdb hdep), fun k => (by rw [es] at k; cases k), fun k => (by rw [ea] at k; cases k), fun _ _ => ⟨gg, cap, ?_, ?_⟩, fun k => (by rw [es] at k; cases k)⟩
    · exact getD_put_same (by rw [hsz]; exact hdst)
    · refine ⟨⟨hgrow.os.trans hgb.os, hgrow.tape.trans hgb.tape, hgrow.output.trans hgb.output, Nat.le_trans hgb.size hgrow.size, fun k h1 h2 => (hgrow.block k (Nat.lt_of_lt_of_le h1 hgb.size) h2).trans (hgb.block k h1 (by simp))⟩, hown', ?_, hlt⟩
      rcases hat with h | h
      · exact Or.inl h
      · exact Or.inr (by rw [h]; exact hgb.size)
/-- The store. -/
theorem sj_store (hda : depOn A ia = true) (hdl : depOn A il = true) (hia : is ≠ ia) (hno : sv.ownBlock ≠ some lb) (hc : ∃ z, wb.cell? ⟨lb, 4, none⟩ = some z) (hfz : wb.frozen? ⟨lb, 4, none⟩ = false) (hisz : is < ops.size) (hsz4 : ∀ w, (sizeOf 26).run Tryd.prog w = .ok 1 w)
    {x : Operand} (hg : guardIs ops shs A G = some true) (hx : opSh ops shs A a0 x = .val (.pointer (some ⟨lb, 4, none⟩))) (hs : shs.getD is (.fact fun _ _ => True) = .fact fun _ _ => True) :
    StepJ (SayJ wb lb base n sv xs news il ib ia is dst) (SayRl lb sv.ownBlock) Tryd.prog ops Q (shF shs) a0 w0 is ⟨none, .store 26 x (.tmp dst), ty, pos, A, G⟩ := by
  intro listed a w hls hlf hdep hsz hJ hw hsm hdp K hK
  have E : RR.Env (SayRl lb sv.ownBlock) ops shs a0 w0 A a w := ⟨hw, hsm, hdp⟩
  rw [if_pos (E.guard hg)]
  have hv : a.eval x = .pointer (some ⟨lb, 4, none⟩) := E.opv hx
  have hat := depOn_listed hda hdep
  obtain ⟨gg, cap, hv2, hsaid⟩ := hJ.p1 hat hlf
  have hv2 : a.eval (.tmp dst) = .slice (some ⟨gg, 0, none⟩) (n + 1) cap := hv2
  obtain ⟨z, hc⟩ := hc
  have hl4 := hJ.load4 hno (World.block_lt_of_cell? wb _ hc) hlf ⟨lb, 4, none⟩ rfl
  have c4 : w.cell? ⟨lb, 4, none⟩ = some z := hl4.1.trans hc
  have f4 : w.frozen? ⟨lb, 4, none⟩ = false := hl4.2.trans hfz
  have ea : (listed.setIfInBounds is true).getD ia false = true := by rw [getD_set_ne false hia]; exact hat
  have es : (listed.setIfInBounds is true).getD is false = true := getD_set_here (by rw [hls]; exact hisz)
  have := hK undef (w.setCell ⟨lb, 4, none⟩ (.slice (some ⟨gg, 0, none⟩) (n + 1) cap)) (SayRl.set _ _) (by unfold shF; rw [hs]; trivial)
    ⟨fun _ => getD_set_true (hJ.ab hat), fun _ => ⟨ea, getD_set_true (depOn_listed hdl hdep)⟩, fun k => (by rw [ea] at k; cases k), fun _ k => (by rw [es] at k; cases k), fun _ => ⟨gg, cap, w, hsaid, rfl⟩⟩
  unfold Oper.wp execOp
  have hst := run_store Tryd.prog w ⟨lb, 4, none⟩ (.slice (some ⟨gg, 0, none⟩) (n + 1) cap) .plain rfl
  rw [c4] at hst
  simp only [f4] at hst
  have e0 : (⟨lb, 4, none⟩ : Addr).add 0 = ⟨lb, 4, none⟩ := by simp [Addr.add]
  simpa [hv, hv2, e0, Instr.storeAt, Instr.sureAddr, storeVar, storeCells, Sem.run_bind, Value.cells, hsz4 w, c4, f4, hst, Oper.upon] using this
theorem say_mono {u v : ByteArray} (hp : ∀ s ∈ shs, (∃ v, s = .val v) ∨ s = oneGift wb lb sv.ownBlock u v ∨ s = .fact fun _ _ => True) : ∀ i z w w', SayRl lb sv.ownBlock w w' → shF shs i z w → shF shs i z w' := by
  intro i z w w' g k
  unfold shF at k ⊢
  rcases Nat.lt_or_ge i shs.length with hi | hi
  · rw [List.getD_eq_getElem?_getD, List.getElem?_eq_getElem hi] at k ⊢
    rcases hp _ (List.getElem_mem hi) with ⟨u, e⟩ | e | e
    · rw [Option.getD_some, e] at k ⊢; exact k
    · rw [Option.getD_some, e] at k ⊢
      obtain ⟨gg, h1, h2, h3, h4, h5, h6⟩ := k
      have hlt := World.block_lt_of_cell? w _ h5
      exact ⟨gg, h1, h2, h3, h4, (g.2 _ hlt h3 (by simp)).trans h5, (g.2 ⟨gg, 1, none⟩ hlt h3 (by simp)).trans h6⟩
    · rw [Option.getD_some, e]; trivial
  · rw [List.getD_eq_getElem?_getD, List.getElem?_eq_none hi]; trivial
/-- Nothing has come up yet. -/
theorem say_start {m : Nat} (a : Act) (w : World) : SayJ w lb base n sv xs news il ib ia is dst (Array.replicate m false) a w := by
  have hz : ∀ j, (Array.replicate m false).getD j false = false := fun j => by
    simp only [Array.getD_eq_getD_getElem?, Array.getElem?_replicate]
    split <;> rfl
  exact ⟨fun k => (by rw [hz] at k; cases k), fun k => (by rw [hz] at k; cases k), fun _ => ⟨rfl, rfl, rfl, Nat.le_refl _, fun _ _ _ => rfl⟩, fun k => (by rw [hz] at k; cases k), fun k => (by rw [hz] at k; cases k)⟩
end
end Go.Proofs.YtcmdhgamlhnioaaDoor
/-! What Try does behind the kid of a gift that is said at once. -/
namespace Go.Proofs.YtcmdhgamlhnioaaDoor
open Go.RowKit RR
set_option linter.unusedVariables false
theorem field_look4 (b : Nat) (w : World) : (Instr.fieldAt 53 (.pointer (some ⟨b, 0, none⟩)) 4).run Tryd.prog w = .ok (.pointer (some ⟨b, 4, none⟩)) w := by
  have h1 : (Tryd.prog.info? 26).map (·.size) = some 1 := by kernel_rfl
  cases q1 : Tryd.prog.info? 26 with
  | none => rw [q1] at h1; cases h1
  | some i1 =>
    have s1 : i1.size = 1 := by simpa [q1] using h1
    simp [Instr.fieldAt, Instr.sureAddr, Sem.run_bind, run_underlying Tryd.underlying53, fieldPlace, sizeOf, typeInfo, q1, s1, Addr.add]
theorem field_look1 (b : Nat) (w : World) : (Instr.fieldAt 53 (.pointer (some ⟨b, 0, none⟩)) 1).run Tryd.prog w = .ok (.pointer (some ⟨b, 1, none⟩)) w := by
  have h1 : (Tryd.prog.info? 9).map (·.size) = some 1 := by kernel_rfl
  cases q1 : Tryd.prog.info? 9 with
  | none => rw [q1] at h1; cases h1
  | some i1 =>
    have s1 : i1.size = 1 := by simpa [q1] using h1
    simp [Instr.fieldAt, Instr.sureAddr, Sem.run_bind, run_underlying Tryd.underlying53, fieldPlace, sizeOf, typeInfo, q1, s1, Addr.add]
theorem field_pat3 (b : Nat) (w : World) : (Instr.fieldAt 25 (.pointer (some ⟨b, 0, none⟩)) 3).run Tryd.prog w = .ok (.pointer (some ⟨b, 3, none⟩)) w := by
  have h1 : (Tryd.prog.info? 9).map (·.size) = some 1 := by kernel_rfl
  cases q1 : Tryd.prog.info? 9 with
  | none => rw [q1] at h1; cases h1
  | some i1 =>
    have s1 : i1.size = 1 := by simpa [q1] using h1
    simp [Instr.fieldAt, Instr.sureAddr, Sem.run_bind, run_underlying Tryd.underlying25, fieldPlace, sizeOf, typeInfo, q1, s1, Addr.add]
theorem agg_no {t : TypeId} {d : TypeDesc} (h : Tryd.prog.underlying t = some d) (hd : d.isRow = false) (w : World) : (isAgg t).run Tryd.prog w = .ok false w := by
  unfold isAgg
  rw [Sem.run_bind, run_underlying h w]
  cases d <;> first | rfl | cases hd
theorem size_gifts (w : World) : (sizeOf 26).run Tryd.prog w = .ok 1 w := by kernel_rfl
theorem mixedS : Tryd.prog.follows .mixedOrders = true := by kernel_rfl
section
variable {γ : Type} {E : Go.Proofs.YtcmdhgamlhnioaaDoor.Env} {O : OutP γ} {w : World} {M : Nat → Prop} {s : LS γ}
set_option maxRecDepth 100000 in
set_option maxHeartbeats 4000000 in
theorem imm_clo (hO : OutOk E O) {p : Pat} {W : World} {b a : Nat} {kv : Value} {d lo : Nat} {g : FuncId} {lb : Array Value} {K : Cont γ}
    (hB : Boxed E.lb M W b p kv a (.func (.func g) #[] lb)) (hf5 : E.fuel ≤ 100000) (hL : E.S.size ≤ 65536) (hV : E.V ≤ 5000) (hK : ThenOk E O M W lo d a g lb K) :
    ThenOk E O M W lo (d + 1) a 38 #[.pointer (some ⟨b, 0, none⟩), .pointer (some ⟨b + 1, 0, none⟩), .pointer (some ⟨b + 1 + 1, 0, none⟩), .pointer (some ⟨b + 1 + 1 + 1, 0, none⟩)] (fun e h s => K e h { s with said := s.said ++ [(p.name, E.S.extract a e)] }) := by
  refine ⟨enters_of Tryd.func38 (by kernel_rfl) rfl, fun e h u he k k1 k2 k3 k4 => ?_, fun w' M' e gv h s t hs hg ha h0 h1 h2 hw h3 h4 => ?_⟩
  · have h4 := hK.okay e h { u with said := u.said ++ [(p.name, E.S.extract a e)] } he k k1 k2 k3 (by simp; omega)
    exact ⟨h4.ticks, h4.fuel, h4.ways, h4.stay, by have := h4.cost; simp at this; omega, fun e1 e2 => by have := h4.back e1 e2; simp at this; omega⟩
  have hB' := hB.kept t
  have c5 := hB'.c5
  have c7 := hB'.c7
  have c9 := hB'.c9
  obtain ⟨q0, q1, q2, q3, q4⟩ := hB'.fields
  have c1 := hs.text
  have eg := hK.enters
  obtain ⟨sv, ov, hl⟩ := hs
  have c4 : w'.cell? ⟨E.lb, 4, none⟩ = some sv := hl.cell rfl
  have f4 := hl.free 4
  have hlt0 := hl.hlt
  have hown := hl.said
  have hne := hl.ne_said
  obtain ⟨i0, hi0, hz0, hz1, hz2⟩ := info_parts info_gift
  have hn : s.said.length ≤ 1000000000000 := by omega
  obtain ⟨T, hTT⟩ : ∃ T, E.S.extract a e = T := ⟨_, rfl⟩
  have HT : Hid (∀ w3 M3, Turn M' M3 w' w3 → St E O w3 M3 { s with said := s.said ++ [(p.name, T)] } → Calls Tryd.prog g (#[.int .i64 e, gv] ++ lb) w3 fun r w4 => r = .returned (.int .i64 ((K e h { s with said := s.said ++ [(p.name, T)] }).1 : Nat)) ∧ ∃ M'', Turn M3 M'' w3 w4 ∧ St E O w4 M'' (K e h { s with said := s.said ++ [(p.name, T)] }).2) := fun w3 M3 t3 hs3 => by
    exact hK.calls w3 M3 e gv h _ (t.trans t3) hs3 (hg.kept t3) ha h0 h1 h2 hw (by simp only []; omega) (by simp only [List.length_append, List.length_singleton]; omega)
  show Calls Tryd.prog 38 #[.int .i64 e, gv, .pointer (some ⟨b, 0, none⟩), .pointer (some ⟨b + 1, 0, none⟩), .pointer (some ⟨b + 1 + 1, 0, none⟩), .pointer (some ⟨b + 1 + 1 + 1, 0, none⟩)] w' fun r w'' => r = .returned (.int .i64 ((K e h { s with said := s.said ++ [(p.name, E.S.extract a e)] }).1 : Nat)) ∧ ∃ M'', Turn M' M'' w' w'' ∧ St E O w'' M'' (K e h { s with said := s.said ++ [(p.name, E.S.extract a e)] }).2
  rw [hTT]
  obtain ⟨gp, gl, gc, rfl⟩ : ∃ p l c, gv = .slice p l c := by obtain ⟨p, c, e, _⟩ := (hg.1).len; exact ⟨_, _, _, e⟩
  obtain ⟨kr, hkr⟩ : ∃ kr, K e h { s with said := s.said ++ [(p.name, T)] } = kr := ⟨_, rfl⟩
  rw [hkr] at HT ⊢
  have HB := hidd hB'
  have H := hidd hl
  have i1 : (a : Int) ≤ (e : Int) := by omega
  have i2 : (e : Int) ≤ (E.S.size : Int) := by omega
  have i3 : (0 : Int) ≤ (a : Int) := by omega
  obtain ⟨lb0, hlb0⟩ : ∃ lb0, E.lb = lb0 := ⟨_, rfl⟩
  have HSay : Hid (∀ gg cap w1, SaidIn w'.drew E.w0.heap.size s.said.length sv (saidCells s.said) [.string p.name, .string T] gg cap w1 → ∃ M3, Turn M' M3 w' (w1.setCell ⟨E.lb, 4, none⟩ (.slice (some ⟨gg, 0, none⟩) (s.said.length + 1) cap)) ∧ St E O (w1.setCell ⟨E.lb, 4, none⟩ (.slice (some ⟨gg, 0, none⟩) (s.said.length + 1) cap)) M3 { s with said := s.said ++ [(p.name, T)] }) := fun gg cap w1 hsd => by
    obtain ⟨M3, h1, h2⟩ := (hl.grown hO ((Grew.refl w').drew)).say hO (x := (p.name, T)) hsd.grew hsd.own hsd.lies hsd.lt
    exact ⟨M3, (Turn.of_grew ((Grew.refl w').drew)).trans h2, _, _, h1⟩
  have hap : ∀ k, ¬ M' k → sv.ownBlock ≠ some k ∧ k ≠ E.lb := fun k hk => ⟨fun h => hk ((hl.may _).2 (Or.inr (Or.inr (Or.inl h)))), fun h => hk ((hl.may _).2 (Or.inl h))⟩
  have a5 := hap b (hB'.safe b (Nat.le_refl _) (by omega)).2
  have a6 := hap (b + 1) (hB'.safe _ (by omega) (by omega)).2
  have a7 := hap (b + 1 + 1) (hB'.safe _ (by omega) (by omega)).2
  have hsvlt : ∀ k, sv.ownBlock = some k → k < w'.heap.size := fun k h => (World.ownsRow.lt hown k h).2
  have hbase := hl.grew.size
  have HFacts := hidd (And.intro c5 (And.intro c7 (And.intro q3 (And.intro c1 (And.intro c4 (And.intro f4 (And.intro hlt0 (And.intro hown (And.intro hne (And.intro a5 (And.intro a6 (And.intro a7 (And.intro hsvlt (And.intro hbase (And.intro hn (And.intro ha (And.intro h0 hTT)))))))))))))))))
  clear hB hK hB' hkr hg hl h0 h1 h2 h3 h4 c5 c7 c9 q0 q1 q2 q3 q4 c1 c4 f4 hlt0 hown hne a5 a6 a7 hsvlt hbase hap hn ha hTT i1 i2 i3 hi0 hz0 hz1 hz2
  go_enter Tryd.func38, Tryd.ntmps38
  go_wp2_with fail
  obtain ⟨c5, c7, q3, c1, c4, f4, hlt0, hown, hne, a5, a6, a7, hsvlt, hbase, hn, ha, h0, hTT⟩ := HFacts.out
  refine RR.region_frame (J := SayJ w'.drew E.lb E.w0.heap.size s.said.length sv (saidCells s.said) [.string p.name, .string T] 4 15 16 19 25) (Rl := SayRl E.lb sv.ownBlock) [9, 10, 11, 12, 13, 14, 15, 16, 17, 18, 19, 20, 21, 22, 23, 24, 25, 26, 27] mixedS (SayRl.drew _ _) SayRl.trans
    [.val (.pointer (some ⟨E.lb, 0, none⟩)), .val (.pointer (some ⟨E.lb, 0, none⟩)), .val (.pointer (some ⟨E.lb, 0, none⟩)), .val (.pointer (some ⟨E.lb, 4, none⟩)), .val sv, .val (.pointer (some ⟨b + 1, 3, none⟩)), .val (.string p.name), .val (.pointer (some ⟨E.lb, 0, none⟩)), .val (.pointer (some ⟨E.lb, 0, none⟩)), .val (.pointer (some ⟨E.lb, 1, none⟩)), .val (.string E.S), .val (.int .i64 a), .val (.int .i64 e), .val (.string (E.S.extract a e)), .val (.agg #[.string p.name, .string (E.S.extract a e)]), oneGift w'.drew E.lb sv.ownBlock p.name (E.S.extract a e), .fact fun _ _ => True, .val (.pointer (some ⟨E.lb, 0, none⟩)), .val (.pointer (some ⟨E.lb, 4, none⟩)), .fact fun _ _ => True]
    (say_start _ _) (say_mono (wb := w'.drew) (u := p.name) (v := E.S.extract a e) ?_) rfl (by kernel_rfl)
    ⟨sj_load (agg_no Tryd.underlying51 rfl) c5 a5.1 (by simp) (by decide) (by decide) (by decide) (by kernel_rfl) rfl rfl,
     sj_load (agg_no Tryd.underlying51 rfl) c5 a5.1 (by simp) (by decide) (by decide) (by decide) (by kernel_rfl) rfl rfl,
     sj_nil (by decide) (by decide) (by decide) (by kernel_rfl) rfl rfl,
     sj_field (field_look4 _) (by decide) (by decide) (by decide) (by kernel_rfl) rfl rfl,
     sj_load4 (wb := w'.drew) (agg_no Tryd.underlying26 rfl) c4 hne (by decide) (by decide) (by decide) (by kernel_rfl) rfl rfl,
     sj_field (field_pat3 _) (by decide) (by decide) (by decide) (by kernel_rfl) rfl rfl,
     sj_load (agg_no Tryd.underlying9 rfl) q3 a6.1 (by simp) (by decide) (by decide) (by decide) (by kernel_rfl) rfl rfl,
     sj_load (agg_no Tryd.underlying51 rfl) c5 a5.1 (by simp) (by decide) (by decide) (by decide) (by kernel_rfl) rfl rfl,
     sj_nil (by decide) (by decide) (by decide) (by kernel_rfl) rfl rfl,
     sj_field (field_look1 _) (by decide) (by decide) (by decide) (by kernel_rfl) rfl rfl,
     sj_load (agg_no Tryd.underlying9 rfl) c1 hne (by simp) (by decide) (by decide) (by decide) (by kernel_rfl) rfl rfl,
     sj_load (agg_no Tryd.underlying3 rfl) c7 a7.1 (by simp) (by decide) (by decide) (by decide) (by kernel_rfl) rfl rfl,
     sj_move (by decide) (by decide) (by decide) (by kernel_rfl) rfl rfl,
     sj_slice Tryd.underlying9 h0 ha (by decide) (by decide) (by decide) (by kernel_rfl) rfl rfl rfl rfl,
     sj_gift (by decide) (by decide) (by decide) (by kernel_rfl) rfl rfl rfl,
     sj_list (wb := w'.drew) hsvlt hlt0 (by decide) (by decide) (by decide) (by kernel_rfl) rfl rfl,
     sj_append (wb := w'.drew) (by kernel_rfl) (by kernel_rfl) (by decide) hn hown (by rw [hTT]) hbase (by simp) (by decide) (by kernel_rfl) rfl rfl rfl,
     sj_nil (by decide) (by decide) (by decide) (by kernel_rfl) rfl rfl,
     sj_field (field_look4 _) (by decide) (by decide) (by decide) (by kernel_rfl) rfl rfl,
     sj_store (wb := w'.drew) (by kernel_rfl) (by kernel_rfl) (by decide) hne ⟨_, c4⟩ f4 (by decide) size_gifts (by kernel_rfl) rfl rfl, trivial⟩ ?_
  · intro s hs
    simp only [List.mem_cons, List.not_mem_nil, or_false] at hs
    rcases hs with rfl | rfl | rfl | rfl | rfl | rfl | rfl | rfl | rfl | rfl | rfl | rfl | rfl | rfl | rfl | rfl | rfl | rfl | rfl | rfl <;> first | exact Or.inl ⟨_, rfl⟩ | exact Or.inr (Or.inl rfl) | exact Or.inr (Or.inr rfl)
  intro xs listed a3 w3 hall hxs hJ hR ht
  obtain ⟨gg, cap, w1, hsaid, rfl⟩ := hJ.p2 (hall 19 (by decide))
  obtain ⟨M3, t3, s3⟩ := HSay.out gg cap w1 hsaid
  have HC := hidd (HT.out _ M3 t3 s3)
  have HB3 := HB.out.kept t3
  have c9 := HB3.c9
  have HT3 := hidd t3
  simp only [List.foldl_cons, List.foldl_nil, List.setIfInBounds_toArray, List.set_cons_succ, List.set_cons_zero]
  generalize (w1.setCell ⟨E.lb, 4, none⟩ (.slice (some ⟨gg, 0, none⟩) (s.said.length + 1) cap)) = W3 at HC c9 HT3 ⊢
  clear ht hJ hR hall hxs hsaid t3 s3 HB3 c5 c7 q3 c1 c4 f4 hlt0 hown hne a5 a6 a7 hsvlt hbase hn ha h0 hTT HFacts
  go_wp2_with (go_at_fn g; refine HC.out.mono ?_; rintro r w4 ⟨rfl, M4, t4, s4⟩; have H4 := hidd (And.intro (HT3.out.trans t4) s4); clear t4 s4)
  go_ret
  exact ⟨rfl, M4, H4.out.1, H4.out.2⟩
end
end Go.Proofs.YtcmdhgamlhnioaaDoor
