/- tune: measure at a text. -/
import Derived.Test.YtmcfoefhenmjeaaDoorTnBnd
import Derived.Test.YtmcfoefhenmjeaaDoorTnMerge
import Derived.Test.YtmcfoefhenmjeaaDoorTnTwo
/-! tune: measure, kind by kind. Printed. -/
namespace Go.Proofs.YtmcfoefhenmjeaaDoor
open Go.RowKit
set_option linter.unusedVariables false
def foldB (f : Bd → Bd → Bd) : List Bd → Bd
  | [] => ⟨0, 0, false⟩
  | b :: l => l.foldl f b
def measK (k : Int) (t : ByteArray) (n : Int) (bs : List Bd) : Bd :=
  if k = 1 then ⟨t.size, t.size, false⟩
  else if k = 2 then ⟨n, n, false⟩
  else if k = 3 ∨ k = 4 then ⟨1, 1, false⟩
  else if k = 5 ∨ k = 14 then ⟨1, -1, false⟩
  else if k = 10 ∨ k = 11 ∨ k = 16 ∨ k = 23 then ⟨0, 0, false⟩
  else if k = 15 ∨ k = 17 then ⟨0, 0, true⟩
  else if k = 18 then foldB thenB bs
  else if k = 19 then foldB orB bs
  else if k = 20 then (if (foldB thenB bs).never = true ∨ (foldB thenB bs).most = 0 then ⟨0, 0, false⟩ else ⟨0, -1, false⟩)
  else if k = 21 ∨ k = 22 then foldB thenB bs
  else ⟨0, -1, false⟩
mutual
def measureP : Pat → Bd
  | .mk k t n m l => measK k t n (measureL l)
def measureL : List Pat → List Bd
  | [] => []
  | p :: l => measureP p :: measureL l
end
theorem measureL_map : ∀ l : List Pat, measureL l = l.map measureP
  | [] => rfl
  | p :: l => by rw [measureL, measureL_map l]; rfl
def MeasEnd (b : Bd) (w : World) (e : Ending) (w' : World) : Prop := e = .returned (.agg b.cells) ∧ Grew w w'
structure MeasIn (p : Pat) (b o : Nat) (kv : Value) (w : World) : Prop where
  node : NodeAt w b o p kv
  right : NodeOk p
  kids : 0 < p.kids.length → ∃ b' o' c, kv = .slice (some ⟨b', o', none⟩) p.kids.length c ∧ p.kids.length ≤ c ∧ c ≤ maxLen ∧ ∀ i, i < p.kids.length → ∀ w', Grew w w' → Calls Tryd.prog 30 #[.pointer (some ⟨b', o' + i * 5, none⟩)] w' (MeasEnd (measureP (p.kids.getD i Pat.zero)) w')
  ok : ∀ i, i < p.kids.length → BdOk (measureP (p.kids.getD i Pat.zero))
theorem setBd_heap {w : World} {b : Nat} {v0 v1 v2 u0 u1 u2 : Value} {t : TypeId} (h : w.heap[b]? = some (.cells #[v0, v1, v2] t (0, 0))) :
    (((w.setCell ⟨b, 0, none⟩ u0).setCell ⟨b, 1, none⟩ u1).setCell ⟨b, 2, none⟩ u2).heap[b]? = some (.cells #[u0, u1, u2] t (0, 0)) := by
  rw [setCell_heap_same (setCell_heap_same (setCell_heap_same h 0 u0) 1 u1) 2 u2]; rfl
theorem setBd_grew {w0 w : World} {b : Nat} (g : Grew w0 w) (hb : w0.heap.size ≤ b) (u0 u1 u2 : Value) : Grew w0 (((w.setCell ⟨b, 0, none⟩ u0).setCell ⟨b, 1, none⟩ u1).setCell ⟨b, 2, none⟩ u2) :=
  ((g.setCell hb _).setCell hb _).setCell hb _
theorem three_cells {w : World} {b : Nat} {v0 v1 v2 : Value} {t : TypeId} (h : w.heap[b]? = some (.cells #[v0, v1, v2] t (0, 0))) :
    (w.cell? ⟨b, 0, none⟩ = some v0 ∧ w.cell? ⟨b, 1, none⟩ = some v1 ∧ w.cell? ⟨b, 2, none⟩ = some v2) ∧ ∀ o, w.frozen? ⟨b, o, none⟩ = false := by
  refine ⟨⟨?_, ?_, ?_⟩, fun o => by simp [World.frozen?, h]⟩ <;> simp [World.cell?, h]
end Go.Proofs.YtmcfoefhenmjeaaDoor
/-! tune: measure at a text and at a number: a region of open order that stores. -/
namespace Go.Proofs.YtmcfoefhenmjeaaDoor
open Go.RowKit
set_option linter.unusedVariables false
section
open RR
variable {b o bs : Nat} {D : Obj} {ops : Array Oper} {Q : Exit → Act → World → Prop} {shs : List Sh} {a0 : Act} {w0 : World} {A : Array Edge} {i : Nat} {d : Option Tmp} {op : Op} {ty : TypeId} {pos : String} {G : Option (Nat × Bool)}
theorem om_pure {z : Value} (hr : ∀ a w, Env (OneRl bs D) ops shs a0 w0 A a w → (execOp a.eval ⟨d, op, ty, pos, A, G⟩).run Tryd.prog w = .ok (.value z) w) (hg : guardIs ops shs A G = some true) (hs : shs.getD i (.fact fun _ _ => True) = .val z) : StepOk (OneRl bs D) Tryd.prog ops Q (shF shs) a0 w0 i ⟨d, op, ty, pos, A, G⟩ :=
  st_run hg fun a w E K hK => by
    have := hK z w (OneRl.refl _ _ w) (by unfold shF; rw [hs]; rfl)
    unfold Oper.wp
    rw [hr a w E]
    exact this
theorem om_nil {p : Addr} {x : Operand} (hg : guardIs ops shs A G = some true) (hx : opSh ops shs A a0 x = .val (.pointer (some p))) (hs : shs.getD i (.fact fun _ _ => True) = .val (.pointer (some p))) : StepOk (OneRl bs D) Tryd.prog ops Q (shF shs) a0 w0 i ⟨d, .nilCheck x, ty, pos, A, G⟩ :=
  om_pure (fun a w E => by
    have hv : a.eval x = .pointer (some p) := E.opv hx
    unfold execOp
    simp [hv]) hg hs
theorem om_field (n : Nat) (hn : n = 1 ∨ n = 2) {x : Operand} (hg : guardIs ops shs A G = some true) (hx : opSh ops shs A a0 x = .val (.pointer (some ⟨b, o, none⟩))) (hs : shs.getD i (.fact fun _ _ => True) = .val (.pointer (some ⟨b, o + n, none⟩))) : StepOk (OneRl bs D) Tryd.prog ops Q (shF shs) a0 w0 i ⟨d, .fieldAddr 24 x n, ty, pos, A, G⟩ :=
  om_pure (fun a w E => by
    have hv : a.eval x = .pointer (some ⟨b, o, none⟩) := E.opv hx
    have hi1 : (Tryd.prog.info? 9).map (·.size) = some 1 := by kernel_rfl
    have hi2 : (Tryd.prog.info? 3).map (·.size) = some 1 := by kernel_rfl
    cases hq1 : Tryd.prog.info? 9 with
    | none => rw [hq1] at hi1; cases hi1
    | some i1 =>
      cases hq2 : Tryd.prog.info? 3 with
      | none => rw [hq2] at hi2; cases hi2
      | some i2 =>
        have hs1 : i1.size = 1 := by simpa [hq1] using hi1
        have hs2 : i2.size = 1 := by simpa [hq2] using hi2
        unfold execOp
        rcases hn with rfl | rfl <;> simp [hv, Instr.fieldAt, Instr.sureAddr, Sem.run_bind, run_underlying Tryd.underlying24, fieldPlace, sizeOf, typeInfo, hq1, hq2, hs1, hs2, Addr.add]) hg hs
theorem om_cell (hlt : bs < w0.heap.size) (hne : b ≠ bs) {w : World} (g : OneRl bs D w0 w) {v : Value} (hc : w0.cell? ⟨b, o, none⟩ = some v) : w.cell? ⟨b, o, none⟩ = some v := by
  have := (g hlt).1.block b (lt_of_cell hc) (fun e => hne (Option.some.inj e))
  unfold World.cell? at hc ⊢
  rw [this]; exact hc
theorem om_loadS (hlt : bs < w0.heap.size) (hne : b ≠ bs) {t : ByteArray} (hc : w0.cell? ⟨b, o, none⟩ = some (.string t)) {x : Operand} (hg : guardIs ops shs A G = some true) (hx : opSh ops shs A a0 x = .val (.pointer (some ⟨b, o, none⟩))) (hs : shs.getD i (.fact fun _ _ => True) = .val (.string t)) : StepOk (OneRl bs D) Tryd.prog ops Q (shF shs) a0 w0 i ⟨d, .load 9 x, ty, pos, A, G⟩ :=
  st_run hg fun a w E K hK => by
    have hv : a.eval x = .pointer (some ⟨b, o, none⟩) := E.opv hx
    have := hK (.string t) w (OneRl.refl _ _ w) (by unfold shF; rw [hs]; rfl)
    have hc := om_cell hlt hne E.grew hc
    have hagg : (isAgg 9).run Tryd.prog w = .ok false w := by
      unfold isAgg
      rw [Sem.run_bind, run_underlying Tryd.underlying9 w]; rfl
    unfold Oper.wp execOp
    simpa [hv, Instr.loadAt, Instr.sureAddr, loadVar, Sem.run_bind, hagg, hc, Oper.upon] using this
theorem om_loadI (hlt : bs < w0.heap.size) (hne : b ≠ bs) {n : Int} (hc : w0.cell? ⟨b, o, none⟩ = some (.int .i64 n)) {x : Operand} (hg : guardIs ops shs A G = some true) (hx : opSh ops shs A a0 x = .val (.pointer (some ⟨b, o, none⟩))) (hs : shs.getD i (.fact fun _ _ => True) = .val (.int .i64 n)) : StepOk (OneRl bs D) Tryd.prog ops Q (shF shs) a0 w0 i ⟨d, .load 3 x, ty, pos, A, G⟩ :=
  st_run hg fun a w E K hK => by
    have hv : a.eval x = .pointer (some ⟨b, o, none⟩) := E.opv hx
    have := hK (.int .i64 n) w (OneRl.refl _ _ w) (by unfold shF; rw [hs]; rfl)
    have hc := om_cell hlt hne E.grew hc
    have hagg : (isAgg 3).run Tryd.prog w = .ok false w := by
      unfold isAgg
      rw [Sem.run_bind, run_underlying Tryd.underlying3 w]; rfl
    unfold Oper.wp execOp
    simpa [hv, Instr.loadAt, Instr.sureAddr, loadVar, Sem.run_bind, hagg, hc, Oper.upon] using this
theorem build_bd (u v : Int) (w : World) : (Instr.build 60 #[(0, .int .i64 u), (1, .int .i64 v)]).run Tryd.prog w = .ok (.agg #[.int .i64 u, .int .i64 v, .bool false]) w := by kernel_rfl
theorem om_build {u v : Int} {x y : Operand} (hg : guardIs ops shs A G = some true) (hx : opSh ops shs A a0 x = .val (.int .i64 u)) (hy : opSh ops shs A a0 y = .val (.int .i64 v)) (hs : shs.getD i (.fact fun _ _ => True) = .val (.agg #[.int .i64 u, .int .i64 v, .bool false])) : StepOk (OneRl bs D) Tryd.prog ops Q (shF shs) a0 w0 i ⟨d, .build 60 #[(0, x), (1, y)], ty, pos, A, G⟩ :=
  om_pure (fun a w E => by
    have hv : a.eval x = .int .i64 u := E.opv hx
    have hw : a.eval y = .int .i64 v := E.opv hy
    unfold execOp
    simp only [List.map_toArray, List.map_cons, List.map_nil, hv, hw, Sem.run_bind, build_bd, Result.andThen_ok, Sem.run_pure]) hg hs
theorem om_store {u v : Int} (hb : w0.heap[bs]? = some (.cells #[.int .i64 0, .int .i64 0, .bool false] 60 (0, 0))) {x y : Operand} (hg : guardIs ops shs A G = some true) (hx : opSh ops shs A a0 x = .val (.pointer (some ⟨bs, 0, none⟩))) (hy : opSh ops shs A a0 y = .val (.agg #[.int .i64 u, .int .i64 v, .bool false])) (hs : shs.getD i (.fact fun _ _ => True) = .fact fun _ w => w.heap[bs]? = some (.cells #[.int .i64 u, .int .i64 v, .bool false] 60 (0, 0))) : StepOk (OneRl bs (.cells #[.int .i64 u, .int .i64 v, .bool false] 60 (0, 0))) Tryd.prog ops Q (shF shs) a0 w0 i ⟨d, .store 60 x y, ty, pos, A, G⟩ :=
  st_run hg fun a w E K hK => by
    have hlt : bs < w0.heap.size := lt_of_block hb
    have hv : a.eval x = .pointer (some ⟨bs, 0, none⟩) := E.opv hx
    have hv2 : a.eval y = .agg #[.int .i64 u, .int .i64 v, .bool false] := E.opv hy
    have hcur : ∃ cur : Array Value, w.heap[bs]? = some (.cells cur 60 (0, 0)) ∧ cur.size = 3 := by
      rcases (E.grew hlt).2 with k | k
      · exact ⟨_, by rw [k]; exact hb, rfl⟩
      · exact ⟨_, k, rfl⟩
    obtain ⟨cur, hc1, hc2⟩ := hcur
    have hone : ∀ z ∈ (#[Value.int .i64 u, .int .i64 v, .bool false] : Array Value).toList, z.oneCell' = true := by
      intro z hz
      simp only [List.mem_cons, List.not_mem_nil, or_false] at hz
      rcases hz with rfl | rfl | rfl <;> rfl
    have hst := run_storeCells_at (P := Tryd.prog) bs 0 60 (#[Value.int .i64 u, .int .i64 v, .bool false] : Array Value).toList 0 cur w hc1 (by rw [hc2]; exact Nat.le_refl _) hone
    have hrow : (cur.toList.take (0 + 0) ++ (#[Value.int .i64 u, .int .i64 v, .bool false] : Array Value).toList ++ cur.toList.drop (0 + 0 + (#[Value.int .i64 u, .int .i64 v, .bool false] : Array Value).toList.length)).toArray = #[Value.int .i64 u, .int .i64 v, .bool false] := by
      rw [List.drop_eq_nil_of_le (by rw [Array.length_toList, hc2]; exact Nat.le_refl _), List.append_nil]
      simp
    rw [hrow] at hst
    have := hK undef (w.setRow bs #[.int .i64 u, .int .i64 v, .bool false]) (fun _ => ⟨⟨rfl, rfl, rfl, by simp, fun k hk hne => setRow_other w bs k _ (fun e => hne (by rw [e]))⟩, Or.inr (setRow_heap w bs cur _ _ _ hc1)⟩) (by unfold shF; rw [hs]; exact setRow_heap w bs cur _ _ _ hc1)
    unfold Oper.wp execOp
    simpa [hv, hv2, Instr.storeAt, Instr.sureAddr, storeVar, Sem.run_bind, Value.cells, hst, Oper.upon] using this
theorem om_mono {D : Obj} {bs : Nat} {shs : List RR.Sh} (hp : ∀ s ∈ shs, (∃ v, s = .val v) ∨ s = .fact fun _ w' => w'.heap[bs]? = some D) : ∀ i v w w', OneRl bs D w w' → RR.shF shs i v w → RR.shF shs i v w' := by
  intro i v w w' g k
  unfold RR.shF at k ⊢
  rcases Nat.lt_or_ge i shs.length with hi | hi
  · rw [List.getD_eq_getElem?_getD, List.getElem?_eq_getElem hi] at k ⊢
    rcases hp _ (List.getElem_mem hi) with ⟨u, e⟩ | e
    · rw [Option.getD_some, e] at k ⊢; exact k
    · rw [Option.getD_some, e] at k ⊢
      have k : w.heap[bs]? = some D := k
      rcases (g (Array.getElem?_eq_some_iff.1 k).1).2 with g2 | g2
      · exact g2.trans k
      · exact g2
  · rw [List.getD_eq_getElem?_getD, List.getElem?_eq_none hi] at k ⊢; exact k
end
set_option maxRecDepth 100000 in
set_option maxHeartbeats 2000000 in
theorem meas_k1 (t : ByteArray) (n : Int) (m : ByteArray) (l : List Pat) (b o : Nat) (kv : Value) (w : World) (h : MeasIn (.mk 1 t n m l) b o kv w) : Calls Tryd.prog 30 #[.pointer (some ⟨b, o, none⟩)] w (MeasEnd (measureP (.mk 1 t n m l)) w) := by
  have HX : Hid (measureP (.mk 1 t n m l) = ⟨t.size, t.size, false⟩) := by
    refine hidd ?_
    rw [measureP]; rfl
  rw [HX.out]
  have hne : b ≠ w.heap.size := by have : b < w.heap.size := lt_of_cell h.node.c0; omega
  obtain ⟨c0, c1, c2, c3, c4, _, _, _, _⟩ := h.node.kept ((Grew.refl w).alloc (.cells #[.int .i64 0, .int .i64 0, .bool false] 60))
  have cc : (w.alloc (.cells #[.int .i64 0, .int .i64 0, .bool false] 60)).cell? ⟨b, o + 1, none⟩ = some (.string t) := c1
  have hlt : w.heap.size < (w.alloc (.cells #[.int .i64 0, .int .i64 0, .bool false] 60)).heap.size := by simp
  have hz : (w.alloc (.cells #[.int .i64 0, .int .i64 0, .bool false] 60)).heap[w.heap.size]? = some (.cells #[.int .i64 0, .int .i64 0, .bool false] 60 (0, 0)) := heap_alloc_new w _
  have HH := hidd (And.intro hne (And.intro cc (And.intro hlt hz)))
  clear h hne cc hlt hz c1 c2 c3 c4
  go_enter Tryd.func30, Tryd.ntmps30
  go_wp2_with fail
  obtain ⟨hne, cc, hlt, hz⟩ := HH.out
  refine RR.region_told (Rl := OneRl w.heap.size (.cells #[.int .i64 t.size, .int .i64 t.size, .bool false] 60 (0, 0))) mixed (OneRl.drew _ _) OneRl.trans [.val (.pointer (some ⟨b, o, none⟩)), .val (.pointer (some ⟨b, o, none⟩)), .val (.pointer (some ⟨b, o + 1, none⟩)), .val (.string t), .val (.int .i64 t.size), .val (.pointer (some ⟨b, o, none⟩)), .val (.pointer (some ⟨b, o, none⟩)), .val (.pointer (some ⟨b, o + 1, none⟩)), .val (.string t), .val (.int .i64 t.size), .val (.agg #[.int .i64 t.size, .int .i64 t.size, .bool false]), .fact fun _ w' => w'.heap[w.heap.size]? = some (.cells #[.int .i64 t.size, .int .i64 t.size, .bool false] 60 (0, 0))] ?_ (by kernel_rfl)
    ⟨RR.st_move (OneRl.refl _ _) (by kernel_rfl) rfl, om_nil (by kernel_rfl) rfl rfl, om_field 1 (Or.inl rfl) (by kernel_rfl) rfl rfl, om_loadS hlt hne cc (by kernel_rfl) rfl rfl, so_len rfl (by kernel_rfl) rfl rfl, RR.st_move (OneRl.refl _ _) (by kernel_rfl) rfl, om_nil (by kernel_rfl) rfl rfl, om_field 1 (Or.inl rfl) (by kernel_rfl) rfl rfl, om_loadS hlt hne cc (by kernel_rfl) rfl rfl, so_len rfl (by kernel_rfl) rfl rfl, om_build (by kernel_rfl) rfl rfl rfl, om_store hz (by kernel_rfl) rfl rfl rfl, trivial⟩ ?_
  · refine om_mono ?_
    intro s hs
    simp only [List.mem_cons, List.not_mem_nil, or_false] at hs
    rcases hs with rfl | rfl | rfl | rfl | rfl | rfl | rfl | rfl | rfl | rfl | rfl | rfl <;> first | exact Or.inl ⟨_, rfl⟩ | exact Or.inr rfl
  intro a1 w1 g1 hdf hsz hsm ht
  obtain ⟨v9, k9, _⟩ := ht 11 _ rfl
  have k9 : w1.heap[w.heap.size]? = some (.cells #[.int .i64 t.size, .int .i64 t.size, .bool false] 60 (0, 0)) := k9
  have e2 : a1.tmps.getD 2 undef = .pointer (some ⟨w.heap.size, 0, none⟩) := hsm 2 (none_dst (by kernel_rfl))
  have hG := one_grew ((Grew.refl w).alloc (.cells #[.int .i64 0, .int .i64 0, .bool false] 60)) (g1 hlt).1 (Nat.le_refl _)
  have HR := hidd (And.intro k9 hG)
  clear ht hsm hsz g1 k9 hG hne cc hlt hz HH
  obtain ⟨tm, df⟩ := a1
  dsimp only at e2 hdf
  subst hdf
  have HE := hidd e2
  clear e2
  go_wp2_with fail
  exact bodyPost_ret (results_bd rfl HE.out HR.out.1 rfl) rfl ⟨rfl, HR.out.2⟩
end Go.Proofs.YtmcfoefhenmjeaaDoor
