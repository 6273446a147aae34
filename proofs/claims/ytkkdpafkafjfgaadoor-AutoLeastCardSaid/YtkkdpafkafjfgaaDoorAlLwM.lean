/- AutoLeast: the walk. Conditions: the pattern lies in memory; the numbers' own bounds; the library's table of zeros. Printed by gen-lwm.py. -/
import Derived.Test.YtkkdpafkafjfgaaDoorAlLwN
import Derived.Test.YtkkdpafkafjfgaaDoorAlPLwA
import Derived.Deep.DeepCutAuto
namespace Go.Proofs.YtkkdpafkafjfgaaDoor
open Go.RowKit RR
set_option linter.unusedVariables false
set_option linter.unusedSimpArgs false
set_option maxRecDepth 100000
def numsV (T : Nat) : List Value := (List.range T).map fun s => .int .i64 (s : Nat)
theorem numsV_succ (T : Nat) : numsV (T + 1) = numsV T ++ [.int .i64 (T : Nat)] := by unfold numsV; rw [List.range_succ, List.map_append]; rfl
theorem numsV_get {T i : Nat} (h : i < T) : (numsV T)[i]? = some (.int .i64 (i : Nat)) := by
  unfold numsV
  rw [List.getElem?_map, List.getElem?_range h]; rfl
structure Cms (W wr : World) (cb n T : Nat) (qv : Value) : Prop where
  grew : Grew W wr
  came : ArrAt wr cb 0 n fun s => .bool (decide (s < T))
  row : QRow wr (cb + 1) 3 1 qv T (numsV T)
  own : ∀ k, qv.ownBlock = some k → cb + 1 ≤ k ∧ k < wr.heap.size
  big : W.heap.size ≤ cb
theorem Cms.kept {W wr w' : World} {cb n T : Nat} {qv : Value} (h : Cms W wr cb n T qv) (g : Grew wr w') : Cms W w' cb n T qv :=
  ⟨h.grew.trans g, h.came.kept g, h.row.grew g, fun k hk => ⟨(h.own k hk).1, Nat.lt_of_lt_of_le (h.own k hk).2 g.size⟩, h.big⟩
theorem Cms.step {W wr : World} {cb n T : Nat} {qv : Value} (h : Cms W wr cb n T qv) (hT : T < n) (h8 : n ≤ 8192) (ty : TypeId) :
    ∃ v' w2, (Builtin.append_ #[37, 37] ty #[qv, .slice (some ⟨(wr.setCell ⟨cb, T, none⟩ (.bool true)).heap.size, 0, none⟩) 1 1]).run Tryd.prog ((wr.setCell ⟨cb, T, none⟩ (.bool true)).alloc (.cells #[.int .i64 (T : Nat)] 3)) = .ok v' w2 ∧ (∃ a cp, v' = .slice a (T + 1) cp) ∧ Cms W w2 cb n (T + 1) v' := by
  have hcl := h.came.lt (by omega)
  have hbig := h.big
  have hsz : (wr.setCell ⟨cb, T, none⟩ (.bool true)).heap.size = wr.heap.size := by simp [World.setCell]
  obtain ⟨i0, hi0, hz0, hz1, hz2⟩ := intsI
  have hrow1 : QRow (wr.setCell ⟨cb, T, none⟩ (.bool true)) (cb + 1) 3 1 qv T (numsV T) := h.row.kept fun k hk hlt => q_set_other _ _ (by have := (h.own k hk).1; omega)
  have hrow2 := hrow1.grew ((Grew.refl _).alloc (.cells #[.int .i64 (T : Nat)] 3))
  obtain ⟨v', w2, a1, a2, a3, a4⟩ := QRow.append (P := Tryd.prog) (t := 37) Tryd.underlying37 hi0 hz0 hz1 hz2 rfl hrow2 (by rw [World.size_alloc]; omega) (wr.setCell ⟨cb, T, none⟩ (.bool true)).heap.size 1 [.int .i64 (T : Nat)] rfl (fun j u hu => by
    unfold World.cell?
    dsimp only
    rw [heap_alloc_new _ _]
    cases j with
    | zero => simpa using hu
    | succ j => simp at hu) (fun u hu => by rw [List.mem_singleton] at hu; rw [hu]; rfl) (by unfold maxLen; omega) (by omega) ty
  have hown : ∀ b, qv.ownBlock = some b → cb + 1 ≤ b := fun b hb => (h.own b hb).1
  have g1 : Grew W (wr.setCell ⟨cb, T, none⟩ (.bool true)) := h.grew.setCell (p := ⟨cb, T, none⟩) hbig _
  refine ⟨v', w2, a1, ?_, grew_grown (g1.alloc _) a3 fun b e => by have := hown b e; omega, ?_, ?_, fun b hb => ?_, hbig⟩
  · obtain ⟨_, a, cp, e, _⟩ := a2; exact ⟨a, cp, e⟩
  · have hc1 := (h.came.set0 T hT (.bool true)).alloc (.cells #[.int .i64 (T : Nat)] 3)
    refine (arr_block hc1 (a3.block _ (by rw [World.size_alloc]; omega) (fun e => by have := hown _ e.symm; omega))).congr fun j hj => ?_
    by_cases e : j = T
    · rw [if_pos e, e, decide_eq_true (Nat.lt_succ_self T)]
    · rw [if_neg e]
      by_cases e2 : j < T
      · rw [decide_eq_true e2, decide_eq_true (by omega)]
      · rw [decide_eq_false e2, decide_eq_false (by omega)]
  · rw [numsV_succ]; exact a2
  · have hs2 := a3.size
    rw [World.size_alloc] at hs2
    rcases a4 with e | e
    · rw [e] at hb
      have := h.own b hb
      exact ⟨this.1, by omega⟩
    · rw [e] at hb; cases hb
      obtain ⟨b', _, _, e2, _, hlt, _⟩ := a2.at (by omega)
      rw [e2] at e; cases e
      exact ⟨by rw [World.size_alloc]; omega, hlt⟩
theorem info_boolM : (Tryd.prog.info? 4).map (fun i => (i.zero, i.size, i.bytes)) = some (some (.bool false), 1, 1) := by kernel_rfl
theorem make_bools (n : Nat) (hn : n ≤ 8192) (w : World) : ∃ w', (Instr.makeSlice 28 (.int .i64 (n : Int)) (.int .i64 (n : Int))).run Tryd.prog w = .ok (.slice (some ⟨w.heap.size, 0, none⟩) n n) w' ∧ ArrAt w' w.heap.size 0 n (fun _ => .bool false) ∧ Grew w w' := by
  obtain ⟨i0, hi, hz0, hz1, hz2⟩ := info_parts info_boolM
  exact make_row 28 4 i0 (.bool false) Tryd.underlying28 hi hz0 hz1 rfl n (by rw [hz2]; omega) (by unfold maxLen; omega) w
theorem int_eql (a b : Int) {x y : Operand} (w : World) : (do eqGuard .eql 3 x y (.int .i64 a) (.int .i64 b); binOp .eql 3 (.int .i64 a) (.int .i64 b) : Sem Value).run Tryd.prog w = .ok (.bool (a == b)) w := by
  simp [eqGuard, binOp, Op.intCmp]
theorem oper_load_autM {o : Oper} {a : Act} {w : World} {K : Act → World → Prop} {Q : Exit → Act → World → Prop} {x : Operand} (ho : o.op = .load 30 x) {b : Nat} {av : Array Value} (hx : a.eval x = .pointer (some ⟨b, 0, none⟩)) (hA : w.heap[b]? = some (.cells av 30 (0, 0))) (hs : av.size = 258)
    (h : K (a.put o.dst (.agg av)) w) : Oper.wp Tryd.prog o a w K Q := by
  have hl := run_loadVar_row (P := Tryd.prog) w b 30 30 av (0, 0) _ hA Tryd.underlying30 rfl (by rw [hs]; exact info_aut)
  unfold Oper.wp execOp
  simp only [ho, hx, Instr.loadAt, Instr.sureAddr, Sem.run_bind, Sem.run_pure, Result.andThen_ok, hl]
  exact h
def SlotJ (k0 k1 d : Nat) (z : Value) (listed : Array Bool) (a : Act) (w : World) : Prop := (listed.getD k1 false = true → listed.getD k0 false = true) ∧ (listed.getD k1 false = false → a.tmps.getD d undef = z)
section
variable {k0 k1 d : Nat} {z : Value} {P : Program} {ops : Array Oper} {Q : Exit → Act → World → Prop} {shs : List Sh} {a0 : Act} {w0 : World} {A : Array Edge} {i : Nat} {dd : Option Tmp} {op : Op} {ty : TypeId} {pos : String} {G : Option (Nat × Bool)}
theorem slot_start {m : Nat} {a : Act} (w : World) (h : a.tmps.getD d undef = z) : SlotJ k0 k1 d z (Array.replicate m false) a w := by
  have hz : ∀ j, (Array.replicate m false).getD j false = false := fun j => by
    simp only [Array.getD_eq_getD_getElem?, Array.getElem?_replicate]
    split <;> rfl
  exact ⟨fun k => (by rw [hz] at k; cases k), fun _ => h⟩
theorem slot_keep (h1 : i ≠ k1) (hd : dd ≠ some d) (h : StepOk Grew P ops Q (shF shs) a0 w0 i ⟨dd, op, ty, pos, A, G⟩) : StepJ (SlotJ k0 k1 d z) Grew P ops Q (shF shs) a0 w0 i ⟨dd, op, ty, pos, A, G⟩ :=
  h.keeps fun listed a w v w' hs hl hJ hr => ⟨fun k => lset_true (hJ.1 (by rwa [lset_ne h1] at k)), fun k => by
    have et : (a.put dd v).tmps.getD d undef = a.tmps.getD d undef := by
      cases dd with
      | none => rfl
      | some d0 => exact getD_put (fun e => hd (by rw [e]))
    rw [lset_ne h1] at k
    exact et.trans (hJ.2 k)⟩
theorem slot_read (h1 : k0 ≠ k1) (hd : dd ≠ some d) (hg : guardIs ops shs A G = some true) (hs : shs.getD k0 (.fact fun _ _ => True) = .val z) : StepJ (SlotJ k0 k1 d z) Grew P ops Q (shF shs) a0 w0 k0 ⟨dd, .move (.tmp d), ty, pos, A, G⟩ := by
  intro listed a w hls hlf hdep hsz hJ hw hsm hdp K hK
  have E : RR.Env Grew ops shs a0 w0 A a w := ⟨hw, hsm, hdp⟩
  rw [if_pos (E.guard hg)]
  have hl1 : listed.getD k1 false = false := by
    cases k : listed.getD k1 false with
    | false => rfl
    | true => rw [hJ.1 k] at hlf; cases hlf
  have hv : a.eval (.tmp d) = z := hJ.2 hl1
  have et : (a.put dd z).tmps.getD d undef = a.tmps.getD d undef := by
    cases dd with
    | none => rfl
    | some d0 => exact getD_put (fun e => hd (by rw [e]))
  have := hK z w (Grew.refl w) (by unfold shF; rw [hs]; rfl) ⟨fun k => lset_true (hJ.1 (by rwa [lset_ne h1] at k)), fun k => et.trans (hJ.2 hl1)⟩
  unfold Oper.wp execOp
  simpa [hv, Oper.upon] using this
theorem slot_write {x : Operand} {u : Value} (hk : k1 < ops.size) (h1 : k0 ≠ k1) (hdep1 : onDep A k0 = true) (hg : guardIs ops shs A G = some true) (hx : opSh ops shs A a0 x = .val u) (hs : shs.getD k1 (.fact fun _ _ => True) = .val u) : StepJ (SlotJ k0 k1 d z) Grew P ops Q (shF shs) a0 w0 k1 ⟨dd, .assign x, ty, pos, A, G⟩ := by
  intro listed a w hls hlf hdep hsz hJ hw hsm hdp K hK
  have E : RR.Env Grew ops shs a0 w0 A a w := ⟨hw, hsm, hdp⟩
  rw [if_pos (E.guard hg)]
  have hv : a.eval x = u := E.opv hx
  have hl0 := onDep_listed hdep1 hdep
  have := hK u w (Grew.refl w) (by unfold shF; rw [hs]; rfl) ⟨fun _ => lset_true hl0, fun k => (by rw [lset_here (by rw [hls]; exact hk)] at k; cases k)⟩
  unfold Oper.wp execOp
  simpa [hv, Oper.upon] using this
end
abbrev MakeEndL (w : World) (p : Pat) : Ending → World → Prop := fun e w' => ∃ v, e = .returned (.tuple #[.agg v, .int .i64 (makeErr p)]) ∧ Grew w w' ∧ v.size = 258 ∧ v.all (·.oneCell') = true ∧ MkN w.heap.size w' v p
theorem cells_le (C : RA) : clsN C ≤ 256 := clsN_le C
set_option maxHeartbeats 8000000 in
theorem AutoLeast_walk (p : Pat) (kv : Value) (x y : Int) (w : World) (hp : PatV w kv p) (hx : bdI x) (hy : bdI y) (hT : TabZ32 w) :
    Calls Tryd.prog 4 #[.agg (p.cells kv), .int .i64 x, .int .i64 y] w fun e w' => e = .returned (.bool true) ∧ Grew w w' := by
  have hz := zero_aut
  have HAl : Hid (∀ w1, Grew w w1 → Calls Tryd.prog 13 #[] w1 fun e w' => e = .returned (.bool true) ∧ Grew w1 w') := fun w1 g => Alive_any w1 (hT.kept g)
  have hb1 := heap_alloc_new w (.cells (p.cells kv) 24)
  have hg := (Grew.refl w).alloc (.cells (p.cells kv) 24)
  obtain ⟨W0, hW0⟩ : ∃ W, w.alloc (.cells (p.cells kv) 24) = W := ⟨_, rfl⟩
  rw [hW0] at hb1 hg
  obtain ⟨pb, hpb⟩ : ∃ pb, w.heap.size = pb := ⟨_, rfl⟩
  rw [hpb] at hb1
  have HB := hidd (And.intro hb1 hg)
  have HFp : Hid (∀ w1, Grew W0 w1 → Calls Tryd.prog 10 #[.agg #[.int .i64 p.kind, .string p.text, .int .i64 p.n, .string p.name, kv]] w1 (MakeEndL w1 p)) := fun w1 g => make_mk (hp.kept (hg.trans g)) (hT.kept (hg.trans g))
  have HBx := hidd hx
  have HBy := hidd hy
  clear hb1 hg hp hT hx hy
  unfold Pat.cells at hW0 ⊢
  go_enter Tryd.func4, Tryd.ntmps4
  go_wp2_with (rw [hW0])
  refine (HAl.out _ HB.out.2).mono ?_; rintro e w1 ⟨rfl, g1⟩
  have HG1 := hidd g1
  have a0 : w1.cell? ⟨pb, 0, none⟩ = some (.int .i64 p.kind) := cell_of (heap_kept g1 HB.out.1) 0
  have a1 : w1.cell? ⟨pb, 1, none⟩ = some (.string p.text) := cell_of (heap_kept g1 HB.out.1) 1
  have a2 : w1.cell? ⟨pb, 2, none⟩ = some (.int .i64 p.n) := cell_of (heap_kept g1 HB.out.1) 2
  have a3 : w1.cell? ⟨pb, 3, none⟩ = some (.string p.name) := cell_of (heap_kept g1 HB.out.1) 3
  have a4 : w1.cell? ⟨pb, 4, none⟩ = some (kv) := cell_of (heap_kept g1 HB.out.1) 4
  clear g1 hW0 HAl
  go_wp2_with fail
  refine (HFp.out _ HG1.out).mono ?_; rintro e w2 ⟨v5, rfl, g2, z1, z2, m5⟩
  obtain ⟨b, hb5⟩ : ∃ b, w2.heap.size = b := ⟨_, rfl⟩
  have HZ5 : Hid ((w2.alloc (.cells zAut 30)).heap[b]? = some (.cells zAut 30 (0, 0))) := by rw [← hb5]; exact heap_alloc_new w2 _
  obtain ⟨W2, hW5⟩ : ∃ W, (w2.alloc (.cells zAut 30)).setRow b v5 = W := ⟨_, rfl⟩
  have gw5 : Grew w2 W2 := by rw [← hW5]; exact setRow_grew ((Grew.refl w2).alloc _) (by omega) v5
  have hh5 := setRow_heap _ b _ v5 _ _ HZ5.out
  rw [hW5] at hh5
  have HS5 := hidd (And.intro z1 z2)
  have HM5 := hidd (And.intro hh5 (m5.at.kept gw5))
  have HG2 := hidd (HB.out.2.trans (HG1.out.trans (g2.trans gw5)))
  clear z1 z2 m5 g2 gw5 hh5 HG1 a0 a1 a2 a3 a4 HFp HB hpb
  obtain ⟨ep, hep⟩ : ∃ ep, makeErr p = ep := ⟨_, rfl⟩
  have HEp := hidd hep
  rw [hep]
  clear hep
  go_upto_region 4 with (refine wpList_store_aut (b := b) rfl rfl rfl rfl HZ5.out zAut_size HS5.out.1 HS5.out.2 ?_)
  try rw [hW5]
  clear hb5 hW5 HZ5
  by_cases hp0 : ep = 0
  rotate_left
  · have k1 : (ep != 0) = true := by simpa using hp0
    go_wp2_with fail
    go_ret
    exact ⟨rfl, HG2.out⟩
  subst hp0
  -- the canonical automaton
  obtain ⟨_, _, B, na, nc', ea, ec, hve, hAt, _, hIs⟩ := HM5.out.2
  have hI := hIs HEp.out
  obtain ⟨C, hC, hBC⟩ := hI.can
  have hn1 := hI.right.n1
  have hw0 : wrongA B = 0 := wrongA_zero.2 hI.right
  subst hBC
  rw [autOf_n] at hn1
  have HW : Hid (∀ w1, Grew W2 w1 → Calls Tryd.prog 14 #[.agg v5] w1 fun e w' => e = .returned (.int .i64 0) ∧ Grew w1 w') := fun w1 g => by
    have := AWrong_any (autOf C) na ea nc' ec w1 (hAt.kept g)
    rw [hw0, ← hve] at this; exact this
  have HAp : Hid (∀ w1 (X Y : Nat), Grew W2 w1 → X < C.n → Y < C.n → X ≠ Y → Calls Tryd.prog 15 #[.agg v5, .int .i64 (X : Nat), .int .i64 (Y : Nat)] w1 fun e w' => e = .returned (.bool true) ∧ Grew w1 w') := fun w1 X Y g h1 h2 h3 => by
    have := Apart_any C hC hn1 na ea nc' ec X Y h1 h2 h3 w1 (hAt.kept g)
    rw [← hve] at this; exact this
  have hbx : Box W2 b (autOf C) na nc' ea ec := by
    have hh := HM5.out.1
    rw [hve] at hh
    refine ⟨?_, ?_, fun j hj => ⟨?_, ?_⟩⟩
    · rw [cell_of hh]; exact autB_next _ _ _ _ _
    · rw [cell_of hh]; exact autB_ends _ _ _ _ _
    · rw [Nat.zero_add, cell_of hh]; exact autB_cls _ _ _ _ _ hj
    · unfold World.frozen?; dsimp only; rw [hh]; simp
  obtain ⟨nb, no, eb, eo, rb, ro, rc, hA⟩ := canAt_of ⟨hbx, hAt⟩ hC.ok
  have HC := hidd hC
  have HA := hidd hA
  have HHb := hidd HM5.out.1
  have HSz := hidd HS5.out
  obtain ⟨n, hn⟩ : ∃ n, C.n = n := ⟨_, rfl⟩
  obtain ⟨m, hm⟩ : ∃ m, clsN C = m := ⟨_, rfl⟩
  have hm256 : m ≤ 256 := by rw [← hm]; exact cells_le C
  have hm0 : 0 < m := by rw [← hm]; exact clsN_pos C
  have hn8 : n ≤ 8192 := by rw [← hn]; exact hn1
  have hn0 : 0 < n := by rw [← hn]; exact hC.ok.pos
  have HN := hidd (And.intro hn hm)
  clear HM5 HS5 HEp hve hAt hIs hI hC hw0 hbx hA hn hm hn1
  go_wp2_with (refine wpList_load_aut (b := b) rfl rfl rfl HHb.out HSz.out.1 ?_)
  refine (HW.out _ (Grew.refl _)).mono ?_; rintro e w3 ⟨rfl, g3⟩
  have HG3 := hidd g3
  have HA3 := hidd (HA.out.kept g3)
  obtain ⟨w4, hmk, hca, g4⟩ := make_bools n hn8 w3
  have hcl := hca.lt hn0
  obtain ⟨cb, hcb⟩ : ∃ cb, w3.heap.size = cb := ⟨_, rfl⟩
  rw [hcb] at hmk hca hcl
  have d1 := HA3.out.nx
  rw [HN.out.1] at d1
  have cf := hca.free0 0 hn0
  have cc := hca.at0 0 hn0
  have HS0 : Hid (Cms W2 ((w4.setCell ⟨cb, 0, none⟩ (.bool true)).alloc (.cells #[.int .i64 0] 3)) cb n 1 (.slice (some ⟨(w4.setCell ⟨cb, 0, none⟩ (.bool true)).heap.size, 0, none⟩) 1 1)) := by
    have hsz : (w4.setCell ⟨cb, 0, none⟩ (.bool true)).heap.size = w4.heap.size := by simp [World.setCell]
    have hcW : W2.heap.size ≤ cb := by rw [← hcb]; exact g3.size
    refine ⟨((g3.trans g4).setCell (p := ⟨cb, 0, none⟩) hcW _).alloc _, ((hca.set0 0 hn0 (.bool true)).alloc _).congr fun j hj => ?_, QRow.made (base := cb + 1) (e := 3) (size := 1) _ #[.int .i64 0] 1 (by omega) (by unfold maxLen; omega) rfl, fun k hk => ?_, hcW⟩
    · by_cases e : j = 0
      · rw [if_pos e, e]; rfl
      · rw [if_neg e, decide_eq_false (by omega)]
    · cases hk
      rw [World.size_alloc]
      exact ⟨by show cb + 1 ≤ (w4.setCell ⟨cb, 0, none⟩ (.bool true)).heap.size; omega, Nat.lt_succ_self _⟩
  have HT0 : Hid (Cmt C 1 0 0) := Cmt.start HC.out.ok
  clear g3 g4 hca HW
  go_wp2_with fail
  clear d1 cf cc hmk
  have hsz4 : (w4.setCell ⟨cb, 0, none⟩ (.bool true)).heap.size = w4.heap.size := by simp [World.setCell]
  rw [hsz4] at HS0
  try rw [hsz4]
  generalize (w4.setCell ⟨cb, 0, none⟩ (.bool true)).alloc (.cells #[.int .i64 0] 3) = W5 at HS0 ⊢
  obtain ⟨lb0, hlb0⟩ : ∃ l, w4.heap.size = l := ⟨_, rfl⟩
  rw [hlb0] at HS0 ⊢
  have HG2c := hidd HG2.out
  clear hsz4 hcl hlb0 hcb HG3 HA3 hz
  have HA5 : Hid (∀ wr qv T, Cms W2 wr cb n T qv → CanAt wr b C nb no nc' eb eo ec rb ro rc) := fun wr qv T h => HA.out.kept h.grew
  go_loopw [10, 11] (fun s10 s11 wr => ∃ i T la lc, s11 = .int .i64 (i : Nat) ∧ s10 = .slice la T lc ∧ i ≤ T ∧ T ≤ n ∧ Hid (Cms W2 wr cb n T (.slice la T lc) ∧ Cmt C T i 0)) (fun _ s11 _ => n - (intOf s11).toNat)
  case atStart => exact ⟨0, 1, _, _, rfl, rfl, by omega, hn0, HS0.out, HT0.out⟩
  case round =>
    obtain ⟨i, T, la, lc, rfl, rfl, hiT, hTn, KS⟩ := hrel
    clear HS0 HT0
    obtain ⟨hS, hM⟩ := KS.out
    by_cases hlt : i < T
    · have kl : decide ((i : Int) < (T : Int)) = true := decide_eq_true (by omega)
      obtain ⟨lb, lo, lc', e, _, _, _, _, hlc⟩ := hS.row.at (by omega)
      cases e
      have c0 := hlc i _ (by omega) (numsV_get hlt)
      have hin : i < n := by omega
      have hA := HA5.out _ _ _ hS
      have d1 := hA.nx
      rw [HN.out.1] at d1
      have d2 := hA.row i (by rw [HN.out.1]; exact hin)
      rw [HN.out.2] at d2
      have HS := hidd hS
      have HM := hidd hM
      clear KS hS hM hlc hA
      go_upto_region 14 with fail
      refine frameR [43, 44, 45, 46, 47, 48, 49, 50, 51, 52] mixed drew_grew grew_tr
        [.val (.pointer (some ⟨b, 256, none⟩)), .val (.slice (some ⟨nb, no, none⟩) n nc'), .val (.slice (some ⟨lb, lo, none⟩) T lc), .val (.int .i64 (i : Nat)), .val (.pointer (some ⟨lb, lo + i, none⟩)), .val (.int .i64 (i : Nat)), .val (.pointer (some ⟨nb, no + i, none⟩)), .val (.slice (some ⟨rb i, ro i, none⟩) m (rc i)), .val (.int .i64 (m : Nat)), .val (.int .i64 0)]
        (vals_mono (by simp)) (by kernel_rfl) (by kernel_rfl)
        ⟨sg_field (field_aut1 b) (by kernel_rfl) rfl rfl, sg_load (p := ⟨b, 256, none⟩) (fun wx g => load_one agg_rowsl (g.keeps d1)) (by kernel_rfl) rfl rfl,
         st_move Grew.refl (by kernel_rfl) rfl, st_move Grew.refl (by kernel_rfl) rfl, sg_index (idx_ints hlt) (by kernel_rfl) rfl rfl rfl, sg_load (p := ⟨lb, lo + i, none⟩) (fun wx g => load_one agg_int (g.keeps c0)) (by kernel_rfl) rfl rfl,
         sg_index (idx_rows hin) (by kernel_rfl) rfl rfl rfl, sg_load (p := ⟨nb, no + i, none⟩) (fun wx g => load_one agg_ints (g.keeps d2)) (by kernel_rfl) rfl rfl,
         sg_len Tryd.underlying37 (by kernel_rfl) rfl rfl, st_move Grew.refl (by kernel_rfl) rfl, trivial⟩ ?_
      intro xs w6 g6 hts
      have e50 : xs 50 = .slice (some ⟨rb i, ro i, none⟩) m (rc i) := hts 7 _ 50 rfl rfl
      have e51 : xs 51 = .int .i64 (m : Nat) := hts 8 _ 51 rfl rfl
      have e52 : xs 52 = .int .i64 0 := hts 9 _ 52 rfl rfl
      have HI0 : Hid (Cms W2 w6 cb n T (.slice (some ⟨lb, lo, none⟩) T lc) ∧ Cmt C T i 0) := ⟨HS.out.kept g6, HM.out⟩
      simp only [List.foldl_cons, List.foldl_nil, List.setIfInBounds_toArray, List.set_cons_succ, List.set_cons_zero, e50, e51, e52]
      clear hts g6 e50 e51 e52 d1 d2 c0 kl HS HM
      go_wp2_with fail
      obtain ⟨w0, rfl⟩ : ∃ w0, w0 = wr := ⟨_, rfl⟩
      go_loopw [10, 52] (fun s10 s52 wr => ∃ k T la lc, s52 = .int .i64 (k : Nat) ∧ k ≤ m ∧ s10 = .slice la T lc ∧ i < T ∧ T ≤ n ∧ Hid (Cms W2 wr cb n T (.slice la T lc) ∧ Cmt C T i k)) (fun _ s52 _ => m - (intOf s52).toNat)
      case atStart => exact ⟨0, T, _, _, rfl, by omega, rfl, hlt, hTn, HI0.out⟩
      case round =>
        obtain ⟨k, T2, la2, lc2, rfl, hk, rfl, hiT2, hTn2, JS⟩ := hrel
        clear HI0
        obtain ⟨hS, hM⟩ := JS.out
        by_cases hkm : k < m
        · have kl : decide ((k : Int) < (m : Int)) = true := decide_eq_true (by omega)
          have hkC : k < clsN C := by rw [HN.out.2]; exact hkm
          obtain ⟨t, ht⟩ : ∃ t, C.nx i (fstC C k) = t := ⟨_, rfl⟩
          have htn : t < n := by rw [← ht, ← HN.out.1]; exact HC.out.ok.nx _ _ (by rw [HN.out.1]; exact hin) (fstC_lt C hkC)
          have d4 := (HA5.out _ _ _ hS).cell i k (by rw [HN.out.1]; exact hin) hkC
          rw [ht] at d4
          have cc := hS.came.at0 t htn
          have cf := hS.came.free0 t htn
          have hle := hM.next HC.out (by rw [HN.out.1]; exact hin) hkC
          rw [ht] at hle
          have HS := hidd hS
          have HM := hidd hM
          have HTt := hidd ht
          have HkC := hidd hkC
          clear JS hS hM ht hkC
          by_cases htT : t < T2
          · rw [decide_eq_true htT] at cc
            have HMn := hidd (HM.out.old (by rw [HTt.out]; exact htT))
            go_wp2_with fail
            exact ⟨⟨k + 1, T2, _, _, by simp, by omega, rfl, hiT2, hTn2, HS.out, HMn.out⟩, by simp [intOf]; omega⟩
          · obtain rfl : t = T2 := by omega
            rw [decide_eq_false htT] at cc
            obtain ⟨h1, h2⟩ := HM.out.new HC.out (by rw [HN.out.1]; exact hin) HkC.out HTt.out
            rw [HN.out.1] at h1
            have HMn := hidd h2
            have kt : ((t : Int) != (t : Int)) = false := by simp
            obtain ⟨v', w9, hap, ⟨va, vc, rfl⟩, hS9⟩ := HS.out.step h1 hn8 37
            have HS9 := hidd hS9
            have hszc : (wr.setCell ⟨cb, t, none⟩ (.bool true)).heap.size = wr.heap.size := by simp [World.setCell]
            rw [hszc] at hap
            clear h1 h2 hS9 htT hle
            go_wp2_with (first | (at_builtin; refine wpList_append_eq rfl rfl rfl rfl hap ?_))
            exact ⟨⟨k + 1, t + 1, _, _, by simp, by omega, rfl, by omega, htn, HS9.out, HMn.out⟩, by simp [intOf]; omega⟩
        · obtain rfl : k = m := by omega
          have kl : decide ((k : Int) < (k : Int)) = false := decide_eq_false (by omega)
          have HS := hidd hS
          have HMn : Hid (Cmt C T2 (i + 1) 0) := by
            have hm2 : Cmt C T2 i (clsN C) := by rw [HN.out.2]; exact hM
            exact hm2.rowed (by rw [HN.out.1]; exact hin)
          clear JS hS hM
          go_wp2_with fail
          exact ⟨⟨i + 1, T2, _, _, by simp, rfl, by omega, hTn2, HS.out, HMn.out⟩, by simp [intOf]; omega⟩
    · obtain rfl : i = T := by omega
      have kl : decide ((i : Int) < (i : Int)) = false := decide_eq_false (by omega)
      have hiN : n = i := Eq.symm <| by rw [← HN.out.1]; exact hM.all HC.out (Nat.le_refl _)
      subst hiN
      have hA := HA5.out _ _ _ hS
      have d1 := hA.nx
      rw [HN.out.1] at d1
      have d2 := hA.row 0 (by rw [HN.out.1]; exact hn0)
      rw [HN.out.2, Nat.add_zero] at d2
      have HG := hidd hS.grew
      have HAr := hidd hA
      have HHr := hidd (heap_kept hS.grew HHb.out)
      have ki : ((n : Int) != (n : Int)) = false := by simp
      clear KS hS hM hA HA5 HHb
      by_cases hx0 : x < 0
      · have r1 : decide ((0 : Int) ≤ x) = false := decide_eq_false (by omega)
        have q1 : decide (x < 0) = true := decide_eq_true hx0
        go_wp2_with fail
        go_ret
        exact ⟨rfl, HG2c.out.trans HG.out⟩
      have r1 : decide ((0 : Int) ≤ x) = true := decide_eq_true (by omega)
      by_cases hy0 : y < 0
      · have r2 : decide ((0 : Int) ≤ y) = false := decide_eq_false (by omega)
        have q1 : decide (x < 0) = false := decide_eq_false (by omega)
        have q2 : decide (y < 0) = true := decide_eq_true hy0
        go_wp2_with fail
        go_ret
        exact ⟨rfl, HG2c.out.trans HG.out⟩
      obtain ⟨X, rfl⟩ : ∃ X : Nat, x = X := ⟨x.toNat, by omega⟩
      obtain ⟨Y, rfl⟩ : ∃ Y : Nat, y = Y := ⟨y.toNat, by omega⟩
      clear r1 hx0 hy0
      have r1 : decide ((0 : Int) ≤ (X : Int)) = true := decide_eq_true (by omega)
      have r2 : decide ((0 : Int) ≤ (Y : Int)) = true := decide_eq_true (by omega)
      by_cases f3 : X < m
      rotate_left
      · have r3 : decide ((X : Int) < (m : Int)) = false := decide_eq_false (by omega)
        have q1 : decide ((X : Int) < 0) = false := decide_eq_false (by omega)
        have q2 : decide ((Y : Int) < 0) = false := decide_eq_false (by omega)
        by_cases g3 : X < n
        rotate_left
        · have q3 : decide (n ≤ X) = true := decide_eq_true (by omega)
          go_wp2_with fail
          go_ret
          exact ⟨rfl, HG2c.out.trans HG.out⟩
        have q3 : decide (n ≤ X) = false := decide_eq_false (by omega)
        by_cases g4 : Y < n
        rotate_left
        · have q4 : decide (n ≤ Y) = true := decide_eq_true (by omega)
          go_wp2_with fail
          go_ret
          exact ⟨rfl, HG2c.out.trans HG.out⟩
        have q4 : decide (n ≤ Y) = false := decide_eq_false (by omega)
        by_cases g5 : X = Y
        · subst g5
          have q5 : ((X : Int) == (X : Int)) = true := by simp
          go_wp2_with fail
          go_ret
          exact ⟨rfl, HG2c.out.trans HG.out⟩
        have q5 : ((X : Int) == (Y : Int)) = false := by simp; omega
        go_wp2_with fail
        refine oper_load_autM (b := b) rfl rfl HHr.out HSz.out.1 ?_
        go_wp2_with fail
        refine (HAp.out _ X Y HG.out (by rw [HN.out.1]; exact g3) (by rw [HN.out.1]; exact g4) g5).mono ?_; rintro e w9 ⟨rfl, g9⟩
        have HG9 := hidd (HG.out.trans g9)
        clear g9
        go_wp2_with fail
        go_ret
        exact ⟨rfl, HG2c.out.trans HG9.out⟩
      have r3 : decide ((X : Int) < (m : Int)) = true := decide_eq_true (by omega)
      by_cases f4 : Y < m
      rotate_left
      · have r4 : decide ((Y : Int) < (m : Int)) = false := decide_eq_false (by omega)
        have g5 : X ≠ Y := by omega
        have q1 : decide ((X : Int) < 0) = false := decide_eq_false (by omega)
        have q2 : decide ((Y : Int) < 0) = false := decide_eq_false (by omega)
        by_cases g3 : X < n
        rotate_left
        · have q3 : decide (n ≤ X) = true := decide_eq_true (by omega)
          go_wp2_with fail
          go_ret
          exact ⟨rfl, HG2c.out.trans HG.out⟩
        have q3 : decide (n ≤ X) = false := decide_eq_false (by omega)
        by_cases g4 : Y < n
        rotate_left
        · have q4 : decide (n ≤ Y) = true := decide_eq_true (by omega)
          go_wp2_with fail
          go_ret
          exact ⟨rfl, HG2c.out.trans HG.out⟩
        have q4 : decide (n ≤ Y) = false := decide_eq_false (by omega)
        have q5 : ((X : Int) == (Y : Int)) = false := by simp; omega
        go_wp2_with fail
        refine oper_load_autM (b := b) rfl rfl HHr.out HSz.out.1 ?_
        go_wp2_with fail
        refine (HAp.out _ X Y HG.out (by rw [HN.out.1]; exact g3) (by rw [HN.out.1]; exact g4) g5).mono ?_; rintro e w9 ⟨rfl, g9⟩
        have HG9 := hidd (HG.out.trans g9)
        clear g9
        go_wp2_with fail
        go_ret
        exact ⟨rfl, HG2c.out.trans HG9.out⟩
      have r4 : decide ((Y : Int) < (m : Int)) = true := decide_eq_true (by omega)
      by_cases f5 : X = Y
      · subst f5
        have r5 : ((X : Int) != (X : Int)) = false := by simp
        clear r2 r4
        have q1 : decide ((X : Int) < 0) = false := decide_eq_false (by omega)
        have q2 : decide ((X : Int) < 0) = false := decide_eq_false (by omega)
        by_cases g3 : X < n
        rotate_left
        · have q3 : decide (n ≤ X) = true := decide_eq_true (by omega)
          go_wp2_with fail
          go_ret
          exact ⟨rfl, HG2c.out.trans HG.out⟩
        have q3 : decide (n ≤ X) = false := decide_eq_false (by omega)
        have q4 : decide (n ≤ X) = false := decide_eq_false (by omega)
        have q5 : ((X : Int) == (X : Int)) = true := by simp
        go_wp2_with fail
        go_ret
        exact ⟨rfl, HG2c.out.trans HG.out⟩
      have r5 : ((X : Int) != (Y : Int)) = true := by simp; omega
      go_wp2_with fail
      clear d1 d2 r1 r2 r3 r4 r5
      go_loopw [15, 108] (fun s15 s108 wq => ∃ (s : Bool) (r : Nat), s15 = .bool s ∧ s108 = .int .i64 (r : Nat) ∧ r ≤ n ∧ Hid (Grew W2 wq ∧ CanAt wq b C nb no nc' eb eo ec rb ro rc ∧ wq.heap[b]? = some (.cells v5 30 (0, 0)) ∧ (s = true → ∀ q, q < r → C.nx q (fstC C X) = C.nx q (fstC C Y)))) (fun _ s108 _ => n - (intOf s108).toNat)
      case atStart => exact ⟨true, 0, rfl, rfl, by omega, HG.out, HAr.out, HHr.out, fun _ q hq => absurd hq (Nat.not_lt_zero q)⟩
      case round =>
        obtain ⟨s, r, rfl, rfl, hr, JS⟩ := hrel
        clear HG HAr HHr
        by_cases hrn : r < n
        · have kl : decide ((r : Int) < (n : Int)) = true := decide_eq_true (by omega)
          obtain ⟨hg, hA, hh, hs⟩ := JS.out
          have d3 := hA.row r (by rw [HN.out.1]; exact hrn)
          rw [HN.out.2] at d3
          have d4 := hA.cell r X (by rw [HN.out.1]; exact hrn) (by rw [HN.out.2]; exact f3)
          have d5 := hA.cell r Y (by rw [HN.out.1]; exact hrn) (by rw [HN.out.2]; exact f4)
          obtain ⟨q1, hq1⟩ : ∃ q, C.nx r (fstC C X) = q := ⟨_, rfl⟩
          obtain ⟨q2, hq2⟩ : ∃ q, C.nx r (fstC C Y) = q := ⟨_, rfl⟩
          rw [hq1] at d4
          rw [hq2] at d5
          have HQ := hidd (And.intro hq1 hq2)
          clear hg hA hh hq1 hq2
          cases s with
          | true =>
            go_upto_region 31 with fail
            refine RR.region_frame (J := SlotJ 0 12 15 (.bool true)) [112, 113, 114, 115, 116, 117, 118, 119, 120, 121, 122, 123, 15] mixed drew_grew grew_tr
              [.val (.bool true), .val (.bool true), .val (.slice (some ⟨rb r, ro r, none⟩) m (rc r)), .val (.int .i64 (X : Nat)), .val (.pointer (some ⟨rb r, ro r + X, none⟩)), .val (.int .i64 (q1 : Nat)), .val (.slice (some ⟨rb r, ro r, none⟩) m (rc r)), .val (.int .i64 (Y : Nat)), .val (.pointer (some ⟨rb r, ro r + Y, none⟩)), .val (.int .i64 (q2 : Nat)), .val (.bool ((q1 : Int) == (q2 : Int))), .val (.bool ((q1 : Int) == (q2 : Int))), .val (.bool ((q1 : Int) == (q2 : Int)))]
              (slot_start _ rfl) (vals_mono (by simp)) (by kernel_rfl) (by kernel_rfl)
              ⟨slot_read (by decide) (by decide) (by kernel_rfl) rfl, slot_keep (by decide) (by decide) (st_move Grew.refl (by kernel_rfl) rfl), slot_keep (by decide) (by decide) (st_move Grew.refl (by kernel_rfl) rfl), slot_keep (by decide) (by decide) (st_move Grew.refl (by kernel_rfl) rfl), slot_keep (by decide) (by decide) (sg_index (idx_ints f3) (by kernel_rfl) rfl rfl rfl), slot_keep (by decide) (by decide) (sg_load (p := ⟨rb r, ro r + X, none⟩) (fun wx g => load_one agg_int (g.keeps d4)) (by kernel_rfl) rfl rfl),
               slot_keep (by decide) (by decide) (st_move Grew.refl (by kernel_rfl) rfl), slot_keep (by decide) (by decide) (st_move Grew.refl (by kernel_rfl) rfl), slot_keep (by decide) (by decide) (sg_index (idx_ints f4) (by kernel_rfl) rfl rfl rfl), slot_keep (by decide) (by decide) (sg_load (p := ⟨rb r, ro r + Y, none⟩) (fun wx g => load_one agg_int (g.keeps d5)) (by kernel_rfl) rfl rfl),
               slot_keep (by decide) (by decide) (st_num Grew.refl (int_eql q1 q2) (by kernel_rfl) rfl rfl rfl), slot_keep (by decide) (by decide) (st_pick Grew.refl (by kernel_rfl) rfl rfl), slot_write (by exact (show (12 : Nat) < 13 by decide)) (by decide) (by decide) (by kernel_rfl) rfl rfl, trivial⟩ ?_
            intro xs listed a1 w6 hall hxs hJ g6 hts0
            have e15 : xs 15 = .bool ((q1 : Int) == (q2 : Int)) := by
              obtain ⟨v, h1, h2⟩ := hts0 12 _ rfl
              rw [h2 15 rfl]; exact h1
            have hts := hts0
            clear hall hxs hJ hts0
            simp only [List.foldl_cons, List.foldl_nil, List.setIfInBounds_toArray, List.set_cons_succ, List.set_cons_zero, e15]
            have HJn : Hid (Grew W2 w6 ∧ CanAt w6 b C nb no nc' eb eo ec rb ro rc ∧ w6.heap[b]? = some (.cells v5 30 (0, 0)) ∧ (((q1 : Int) == (q2 : Int)) = true → ∀ q, q < r + 1 → C.nx q (fstC C X) = C.nx q (fstC C Y))) :=
              ⟨JS.out.1.trans g6, JS.out.2.1.kept g6, heap_kept g6 JS.out.2.2.1, fun h q hq => by
                rcases Nat.lt_or_ge q r with hl | hl
                · exact hs rfl q hl
                · obtain rfl : q = r := by omega
                  rw [HQ.out.1, HQ.out.2]
                  have : (q1 : Int) = (q2 : Int) := by simpa using h
                  omega⟩
            obtain ⟨z, hz⟩ : ∃ z, ((q1 : Int) == (q2 : Int)) = z := ⟨_, rfl⟩
            rw [hz] at HJn ⊢
            clear hts g6 e15 d3 d4 d5 JS hz hs
            go_wp2_with fail
            exact ⟨⟨z, r + 1, rfl, by simp, by omega, HJn.out⟩, by simp [intOf]; omega⟩
          | false =>
            go_upto_region 31 with fail
            refine RR.region_frame (J := SlotJ 0 12 15 (.bool false)) [112, 113, 114, 115, 116, 117, 118, 119, 120, 121, 122, 123, 15] mixed drew_grew grew_tr
              [.val (.bool false), .val (.bool false), .val undef, .val undef, .val undef, .val undef, .val undef, .val undef, .val undef, .val undef, .val undef, .val (.bool false), .val (.bool false)]
              (slot_start _ rfl) (vals_mono (by simp)) (by kernel_rfl) (by kernel_rfl)
              ⟨slot_read (by decide) (by decide) (by kernel_rfl) rfl, slot_keep (by decide) (by decide) (st_move Grew.refl (by kernel_rfl) rfl), slot_keep (by decide) (by decide) (st_skip (by kernel_rfl) Grew.refl rfl), slot_keep (by decide) (by decide) (st_skip (by kernel_rfl) Grew.refl rfl), slot_keep (by decide) (by decide) (st_skip (by kernel_rfl) Grew.refl rfl), slot_keep (by decide) (by decide) (st_skip (by kernel_rfl) Grew.refl rfl),
               slot_keep (by decide) (by decide) (st_skip (by kernel_rfl) Grew.refl rfl), slot_keep (by decide) (by decide) (st_skip (by kernel_rfl) Grew.refl rfl), slot_keep (by decide) (by decide) (st_skip (by kernel_rfl) Grew.refl rfl), slot_keep (by decide) (by decide) (st_skip (by kernel_rfl) Grew.refl rfl),
               slot_keep (by decide) (by decide) (st_skip (by kernel_rfl) Grew.refl rfl), slot_keep (by decide) (by decide) (st_pickF Grew.refl (by kernel_rfl) rfl rfl), slot_write (by exact (show (12 : Nat) < 13 by decide)) (by decide) (by decide) (by kernel_rfl) rfl rfl, trivial⟩ ?_
            intro xs listed a1 w6 hall hxs hJ g6 hts0
            have e15 : xs 15 = .bool false := by
              obtain ⟨v, h1, h2⟩ := hts0 12 _ rfl
              rw [h2 15 rfl]; exact h1
            have hts := hts0
            clear hall hxs hJ hts0
            simp only [List.foldl_cons, List.foldl_nil, List.setIfInBounds_toArray, List.set_cons_succ, List.set_cons_zero, e15]
            have HJn : Hid (Grew W2 w6 ∧ CanAt w6 b C nb no nc' eb eo ec rb ro rc ∧ w6.heap[b]? = some (.cells v5 30 (0, 0)) ∧ (false = true → ∀ q, q < r + 1 → C.nx q (fstC C X) = C.nx q (fstC C Y))) :=
              ⟨JS.out.1.trans g6, JS.out.2.1.kept g6, heap_kept g6 JS.out.2.2.1, fun h => by cases h⟩
            clear hts g6 e15 d3 d4 d5 JS hs
            go_wp2_with fail
            exact ⟨⟨false, r + 1, rfl, by simp, by omega, HJn.out⟩, by simp [intOf]; omega⟩
        · obtain rfl : r = n := by omega
          have kl : decide ((r : Int) < (r : Int)) = false := decide_eq_false (by omega)
          obtain ⟨hg, hA, hh, hs⟩ := JS.out
          cases s with
          | true => exact absurd (cols_apart C (by rw [HN.out.2]; exact f3) (by rw [HN.out.2]; exact f4) fun q hq => hs rfl q (by rw [← HN.out.1]; exact hq)) f5
          | false =>
            have HG := hidd hg
            have HHr := hidd hh
            have g5 := f5
            clear JS hg hA hh hs
            have q1 : decide ((X : Int) < 0) = false := decide_eq_false (by omega)
            have q2 : decide ((Y : Int) < 0) = false := decide_eq_false (by omega)
            by_cases g3 : X < r
            rotate_left
            · have q3 : decide (r ≤ X) = true := decide_eq_true (by omega)
              go_wp2_with fail
              go_ret
              exact ⟨rfl, HG2c.out.trans HG.out⟩
            have q3 : decide (r ≤ X) = false := decide_eq_false (by omega)
            by_cases g4 : Y < r
            rotate_left
            · have q4 : decide (r ≤ Y) = true := decide_eq_true (by omega)
              go_wp2_with fail
              go_ret
              exact ⟨rfl, HG2c.out.trans HG.out⟩
            have q4 : decide (r ≤ Y) = false := decide_eq_false (by omega)
            have q5 : ((X : Int) == (Y : Int)) = false := by simp; omega
            go_wp2_with fail
            refine oper_load_autM (b := b) rfl rfl HHr.out HSz.out.1 ?_
            go_wp2_with fail
            refine (HAp.out _ X Y HG.out (by rw [HN.out.1]; exact g3) (by rw [HN.out.1]; exact g4) g5).mono ?_; rintro e w9 ⟨rfl, g9⟩
            have HG9 := hidd (HG.out.trans g9)
            clear g9
            go_wp2_with fail
            go_ret
            exact ⟨rfl, HG2c.out.trans HG9.out⟩
end Go.Proofs.YtkkdpafkafjfgaaDoor
