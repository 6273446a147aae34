/- The classes of bytes, in memory; the automaton that is handed back. -/
import Derived.Test.YtkkdpafkafjfgaaDoorMkAuLp
namespace Go.Proofs.YtkkdpafkafjfgaaDoor
open Go.RowKit RR
set_option linter.unusedVariables false
set_option maxRecDepth 100000
structure NxAt (w : World) (B nb l : Nat) (vs : Nat → Value) (rf : Nat → List Value) : Prop where
  arr : ArrAt w nb 0 l vs
  row : ∀ i, i < l → QRow w B 3 1 (vs i) (rf i).length (rf i)
  own : ∀ i, i < l → ∀ k, (vs i).ownBlock = some k → k ≠ nb ∧ B ≤ k ∧ k < w.heap.size
  sep : ∀ i j, i < l → j < l → i ≠ j → ∀ k, (vs i).ownBlock = some k → (vs j).ownBlock ≠ some k
  lo : B ≤ nb
section
variable {w w1 w' : World} {B nb l i : Nat} {vs : Nat → Value} {rf : Nat → List Value}
theorem NxAt.above (h : NxAt w B nb l vs rf) (hl : 0 < l) (hs : w.heap.size ≤ w'.heap.size) (hk : ∀ k, B ≤ k → k < w.heap.size → w'.heap[k]? = w.heap[k]?) : NxAt w' B nb l vs rf :=
  ⟨arr_block h.arr (hk nb h.lo (h.arr.lt hl)), fun i hi => (h.row i hi).kept fun k hk2 hlt => hk k (h.own i hi k hk2).2.1 hlt, fun i hi k hk2 => by obtain ⟨a, b, c⟩ := h.own i hi k hk2; exact ⟨a, b, by omega⟩, h.sep, h.lo⟩
theorem NxAt.kept (h : NxAt w B nb l vs rf) (hl : 0 < l) (g : Grew w w') : NxAt w' B nb l vs rf := h.above hl g.size fun k _ hk => g.block k hk
def NxApp (w : World) (B : Nat) (v0 : Value) (n : Nat) (xs : List Value) (v : Value) (w' : World) : Prop := QRow w' B 3 1 v n xs ∧ ∀ k, v.ownBlock = some k → v0.ownBlock = some k ∨ w.heap.size ≤ k ∧ k < w'.heap.size
theorem NxAt.run (h : NxAt w B nb l vs rf) (hi : i < l) {wx : World} (g : Grew w wx) (hB : B ≤ w.heap.size) (hm : (rf i).length ≤ 9000) {x : Value} (hx1 : x.oneCell' = true) {k : Nat} (hk : wx.cell? ⟨k, 0, none⟩ = some x) (cp : Nat) (ty : TypeId) :
    ∃ v w1, (Builtin.append_ #[37, 37] ty #[vs i, .slice (some ⟨k, 0, none⟩) 1 cp]).run Tryd.prog wx = .ok v w1 ∧ NxApp w B (vs i) ((rf i).length + 1) (rf i ++ [x]) v w1 ∧ wx.grownBy w1 (vs i).ownBlock := by
  obtain ⟨i0, hi0, hz0, hz1, hz2⟩ := intsI
  obtain ⟨v', w2, a1, a2, a3, a4⟩ := QRow.append (P := Tryd.prog) Tryd.underlying37 hi0 hz0 hz1 hz2 rfl ((h.row i hi).grew g) (Nat.le_trans hB g.size) k cp [x] rfl (fun j u hu => by
    cases j with
    | zero => rw [hk]; simpa using hu
    | succ j => simp at hu) (fun u hu => by rw [List.mem_singleton] at hu; rw [hu]; exact hx1) (by unfold maxLen; omega) (by omega) ty
  refine ⟨v', w2, a1, ⟨a2, fun k hk => ?_⟩, a3⟩
  rcases a4 with e | e
  · exact Or.inl (by rw [← e]; exact hk)
  · rw [e] at hk; cases hk
    obtain ⟨b', _, _, e2, _, hlt2, _⟩ := a2.at (by omega)
    rw [e2] at e; cases e
    exact Or.inr ⟨g.size, hlt2⟩
theorem NxAt.push (h : NxAt w B nb l vs rf) (hi : i < l) (hB : B ≤ w.heap.size) {x v : Value} (hA : NxApp w B (vs i) ((rf i).length + 1) (rf i ++ [x]) v w1) (g : w.grownBy w1 (vs i).ownBlock) :
    NxAt (w1.setCell ⟨nb, i, none⟩ v) B nb l (fun j => if j = i then v else vs j) (fun j => if j = i then rf i ++ [x] else rf j) := by
  obtain ⟨hq, ho⟩ := hA
  have hnb := h.arr.lt (by omega)
  have hbk : w1.heap[nb]? = w.heap[nb]? := g.block nb hnb (fun e => (h.own i hi nb e.symm).1 rfl)
  have hsz : (w1.setCell ⟨nb, i, none⟩ v).heap.size = w1.heap.size := by simp [World.setCell]
  have hgs := g.size
  have hlo := h.lo
  have hv : ∀ k, v.ownBlock = some k → k ≠ nb ∧ B ≤ k ∧ k < w1.heap.size := fun k hk => by
    rcases ho k hk with e | ⟨e1, e2⟩
    · obtain ⟨p1, p2, p3⟩ := h.own i hi k e; exact ⟨p1, p2, by omega⟩
    · exact ⟨by omega, by omega, e2⟩
  have hne : ∀ j, j < l → j ≠ i → ∀ k, (vs j).ownBlock = some k → v.ownBlock ≠ some k := fun j hj hji k hk e => by
    rcases ho k e with e2 | ⟨e1, _⟩
    · exact h.sep i j hi hj (Ne.symm hji) k e2 hk
    · have := (h.own j hj k hk).2.2; omega
  refine ⟨(arr_block h.arr hbk).set0 i hi v, fun j hj => ?_, fun j hj k hk => ?_, fun j j2 hj hj2 hjj k hk => ?_, hlo⟩
  · by_cases e : j = i
    · subst e
      rw [if_pos rfl, if_pos rfl, List.length_append]
      exact hq.kept fun k hk _ => q_set_other _ _ (Ne.symm (hv k hk).1)
    · rw [if_neg e, if_neg e]
      refine (h.row j hj).kept fun k hk hlt => ?_
      rw [q_set_other _ _ (Ne.symm (h.own j hj k hk).1), g.block k hlt (fun e2 => h.sep i j hi hj (Ne.symm e) k e2.symm hk)]
  · rw [hsz]
    by_cases e : j = i
    · subst e
      rw [if_pos rfl] at hk
      exact hv k hk
    · rw [if_neg e] at hk
      obtain ⟨p1, p2, p3⟩ := h.own j hj k hk
      exact ⟨p1, p2, by omega⟩
  · by_cases e : j = i
    · subst e
      rw [if_pos rfl] at hk
      rw [if_neg (Ne.symm hjj)]
      exact fun e2 => hne j2 hj2 (Ne.symm hjj) k e2 hk
    · rw [if_neg e] at hk
      by_cases e2 : j2 = i
      · subst e2
        rw [if_pos rfl]
        exact hne j hj e k hk
      · rw [if_neg e2]
        exact h.sep j j2 hj hj2 hjj k hk
end
theorem info_sl : ∃ i0, Tryd.prog.info? 37 = some i0 ∧ i0.zero = some (.slice none 0 0) ∧ i0.size = 1 ∧ i0.bytes = 24 := info_parts (show (Tryd.prog.info? 37).map (fun i => (i.zero, i.size, i.bytes)) = some (some (.slice none 0 0), 1, 24) by kernel_rfl)
theorem make_sls (n : Nat) (hn : n ≤ 8192) (w : World) : ∃ w', (Instr.makeSlice 27 (.int .i64 (n : Int)) (.int .i64 (n : Int))).run Tryd.prog w = .ok (.slice (some ⟨w.heap.size, 0, none⟩) n n) w' ∧ ArrAt w' w.heap.size 0 n (fun _ => .slice none 0 0) ∧ Grew w w' := by
  obtain ⟨i0, hi, hz0, hz1, hz2⟩ := info_sl
  exact make_row 27 37 i0 (.slice none 0 0) Tryd.underlying27 hi hz0 hz1 rfl n (by rw [hz2]; omega) (by unfold maxLen; omega) w
def clF (cls : Nat → Int) (nb l : Nat) (ev : Value) (j : Nat) : Value := if j < 256 then .int .i64 (cls j) else if j = 256 then .slice (some ⟨nb, 0, none⟩) l l else ev
structure ClSt (rs : Nat) (w4 wr : World) (ab nb l : Nat) (ev : Value) (cls : Nat → Int) (vs : Nat → Value) (rf : Nat → List Value) : Prop where
  below : Below (rs + 1) w4 wr
  keep : ∀ k, k < w4.heap.size → k ≠ ab → wr.heap[k]? = w4.heap[k]?
  arr : ArrAt wr ab 0 258 (clF cls nb l ev)
  nx : NxAt wr w4.heap.size nb l vs rf
  lo : rs + 1 ≤ ab ∧ ab < w4.heap.size ∧ 0 < l
section
variable {rs : Nat} {w4 wr w' w1 : World} {ab nb l : Nat} {ev : Value} {cls : Nat → Int} {vs : Nat → Value} {rf : Nat → List Value}
theorem ClSt.big (h : ClSt rs w4 wr ab nb l ev cls vs rf) : rs + 1 ≤ wr.heap.size := by have := h.lo; have := h.below.size; omega
theorem ClSt.kept (h : ClSt rs w4 wr ab nb l ev cls vs rf) (g : Grew wr w') : ClSt rs w4 w' ab nb l ev cls vs rf :=
  ⟨h.below.trans (Below.mono g h.big), fun k hk hne => (g.block k (Nat.lt_of_lt_of_le hk h.below.size)).trans (h.keep k hk hne), h.arr.kept g, h.nx.kept h.lo.2.2 g, h.lo⟩
theorem ClSt.setc (h : ClSt rs w4 wr ab nb l ev cls vs rf) {c : Nat} (hc : c < 256) (x : Int) : ClSt rs w4 (wr.setCell ⟨ab, c, none⟩ (.int .i64 x)) ab nb l ev (fun j => if j = c then x else cls j) vs rf := by
  have hsz : (wr.setCell ⟨ab, c, none⟩ (.int .i64 x)).heap.size = wr.heap.size := by simp [World.setCell]
  have hlo := h.lo
  refine ⟨h.below.setCell (p := ⟨ab, c, none⟩) hlo.1 _, fun k hk hne => (q_set_other _ _ (Ne.symm hne)).trans (h.keep k hk hne), (h.arr.set0 c (by omega) _).congr fun j hj => ?_, h.nx.above hlo.2.2 (by rw [hsz]; exact Nat.le_refl _) fun k hk _ => q_set_other _ _ (by omega), hlo⟩
  unfold clF
  dsimp only
  by_cases e : j = c
  · subst e; rw [if_pos rfl, if_pos hc, if_pos rfl]
  · rw [if_neg e]
    by_cases e2 : j < 256
    · rw [if_pos e2, if_pos e2, if_neg e]
    · rw [if_neg e2, if_neg e2]
theorem ClSt.push (h : ClSt rs w4 wr ab nb l ev cls vs rf) {i : Nat} (hi : i < l) {x v : Value} (hA : NxApp wr w4.heap.size (vs i) ((rf i).length + 1) (rf i ++ [x]) v w1) (g : wr.grownBy w1 (vs i).ownBlock) :
    ClSt rs w4 (w1.setCell ⟨nb, i, none⟩ v) ab nb l ev cls (fun j => if j = i then v else vs j) (fun j => if j = i then rf i ++ [x] else rf j) := by
  have hlo := h.lo
  have hnl := h.nx.lo
  have hws := h.below.size
  have hk : ∀ k, k < w4.heap.size → (w1.setCell ⟨nb, i, none⟩ v).heap[k]? = wr.heap[k]? := fun k hk => by
    rw [q_set_other _ _ (by omega), g.block k (by omega) (fun e => by have := (h.nx.own i hi k e.symm).2.1; omega)]
  have hsz : (w1.setCell ⟨nb, i, none⟩ v).heap.size = w1.heap.size := by simp [World.setCell]
  refine ⟨h.below.trans ⟨?_, ?_, ?_, by rw [hsz]; exact g.size, fun k hk2 => hk k (by omega)⟩, fun k hk2 hne => (hk k hk2).trans (h.keep k hk2 hne), arr_block h.arr (hk ab hlo.2.1), h.nx.push hi h.below.size hA g, hlo⟩
  · simpa [World.setCell] using g.os
  · simpa [World.setCell] using g.tape
  · simpa [World.setCell] using g.output
theorem ClSt.congr {cls' : Nat → Int} {rf' : Nat → List Value} (h : ClSt rs w4 wr ab nb l ev cls vs rf) (e : ∀ j, j < 256 → cls j = cls' j) (e2 : ∀ i, i < l → rf i = rf' i) : ClSt rs w4 wr ab nb l ev cls' vs rf' :=
  ⟨h.below, h.keep, h.arr.congr fun j _ => by
    unfold clF
    by_cases hj : j < 256
    · rw [if_pos hj, if_pos hj, e j hj]
    · rw [if_neg hj, if_neg hj], ⟨h.nx.arr, fun i hi => by rw [← e2 i hi]; exact h.nx.row i hi, h.nx.own, h.nx.sep, h.nx.lo⟩, h.lo⟩
section
variable {P : Program} {wb w0 : World} {g : Nat} {Fin : World → Prop} {mk : List Nat} {is : Nat} {ops : Array Oper} {Q : Exit → Act → World → Prop} {shs : List Sh} {a0 : Act} {A : Array Edge} {i : Nat} {d : Option Tmp} {op : Op} {ty : TypeId} {pos : String} {G : Option (Nat × Bool)}
theorem hj_free {z : Value} (his : i ≠ is) (hr : ∀ a w, RR.Env (NoRl g) ops shs a0 w0 A a w → (execOp a.eval ⟨d, op, ty, pos, A, G⟩).run P w = .ok (.value z) w)
    (hg : guardIs ops shs A G = some true) (hs : shs.getD i (.fact fun _ _ => True) = .val z) : StepJ (StJ wb Fin mk is) (NoRl g) P ops Q (shF shs) a0 w0 i ⟨d, op, ty, pos, A, G⟩ := by
  intro listed a w hls hlf hdep hsz hJ hw hsm hdp K hK
  have E : RR.Env (NoRl g) ops shs a0 w0 A a w := ⟨hw, hsm, hdp⟩
  rw [if_pos (E.guard hg)]
  unfold Oper.wp
  rw [hr a w E]
  have es : (listed.setIfInBounds i true).getD is false = listed.getD is false := lset_ne his
  exact hK z w (NoRl.refl _ _) (by unfold shF; rw [hs]; rfl) ⟨fun k j hj => lset_true (hJ.ab (by rwa [es] at k) j hj), fun k => hJ.p0 (by rwa [es] at k), fun k => hJ.p1 (by rwa [es] at k)⟩
theorem hj_field' {t : TypeId} {k : Nat} {p r : Addr} (hf : ∀ w, (Instr.fieldAt t (.pointer (some p)) k).run P w = .ok (.pointer (some r)) w) (his : i ≠ is) {x : Operand} (hg : guardIs ops shs A G = some true) (hx : opSh ops shs A a0 x = .val (.pointer (some p))) (hs : shs.getD i (.fact fun _ _ => True) = .val (.pointer (some r))) :
    StepJ (StJ wb Fin mk is) (NoRl g) P ops Q (shF shs) a0 w0 i ⟨d, .fieldAddr t x k, ty, pos, A, G⟩ :=
  hj_free his (fun a w E => by
    have hv : a.eval x = .pointer (some p) := E.opv hx
    unfold execOp
    simp [hv, hf w]) hg hs
end
theorem NoRl.set (g : Nat) (w : World) (o : Nat) (v : Value) : NoRl g w (w.setCell ⟨g, o, none⟩ v) :=
  ⟨by simp [World.setCell], fun p _ h2 => by
    by_cases hs : p.spot = none
    · exact setCell_cell_other _ _ _ _ (.inl (Ne.symm h2))
    · exact World.cell?_setCell_other _ _ _ _ (fun e => h2 (by rw [← e]))⟩
def adV : Value → Option Addr | .slice a _ _ => a | _ => none
def cpV : Value → Nat | .slice _ _ c => c | _ => 0
theorem NxAt.rows {C : RA} {B : Nat} (h : NxAt wr B nb C.n vs (fun i => (fsts (colA C) 256).map fun d => Value.int .i64 (C.nx i d : Nat))) : RowsAt wr (some ⟨nb, 0, none⟩) (autOf C).next := by
  have hz : ∀ i, i < C.n → (autOf C).next.getD i [] = (fsts (colA C) 256).map fun c => (C.nx i c : Int) := fun i hi => autOf_row hi
  have hv : ∀ i, i < C.n → ∃ a cp, vs i = .slice a (fsts (colA C) 256).length cp := fun i hi => by
    obtain ⟨_, a, cp, e, _⟩ := h.row i hi
    rw [List.length_map] at e
    exact ⟨a, cp, e⟩
  have hra : ∀ i, i < C.n → vs i = .slice (adV (vs i)) (fsts (colA C) 256).length (cpV (vs i)) := fun i hi => by
    obtain ⟨a, cp, e⟩ := hv i hi
    rw [e]; rfl
  refine ⟨fun i => adV (vs i), fun i => cpV (vs i), Or.inr ⟨nb, 0, rfl, fun i hi => ?_⟩, fun i hi => ?_⟩
  · rw [autOf_n] at hi
    refine (h.arr.at i hi).trans ?_
    show some (vs i) = some (.slice (adV (vs i)) ((autOf C).next.getD i []).length (cpV (vs i)))
    rw [hz i hi, List.length_map]
    exact congrArg some (hra i hi)
  · rw [autOf_n] at hi
    show SlAt wr (adV (vs i)) ((autOf C).next.getD i []).length fun j => .int .i64 (((autOf C).next.getD i []).getD j 0)
    rw [hz i hi, List.length_map]
    rcases Nat.eq_zero_or_pos (fsts (colA C) 256).length with h0 | h0
    · exact Or.inl h0
    · have hq := h.row i hi
      obtain ⟨b, o, c2, e2, _, _, _, _, hc⟩ := hq.at (by rw [List.length_map]; exact h0)
      refine Or.inr ⟨b, o, by rw [e2]; rfl, fun j hj => ?_⟩
      show wr.cell? ⟨b, o + j, none⟩ = some (.int .i64 (((fsts (colA C) 256).map fun c => (C.nx i c : Int)).getD j 0))
      rw [getD_map_lt _ hj 0]
      exact hc j (.int .i64 (C.nx i ((fsts (colA C) 256).getD j 0) : Nat)) (by rw [List.length_map]; omega) (by rw [List.getElem?_map, List.getD_eq_getElem?_getD, List.getElem?_eq_getElem hj]; rfl)
theorem cl_value {C : RA} {nb : Nat} {ea : Option Addr} {ec : Nat} : ((List.range 258).map (clF (fun j => (numb (colA C) 256 j : Nat)) nb C.n (.slice ea C.n ec))).toArray = autB (autOf C) (some ⟨nb, 0, none⟩) C.n ea ec := by
  apply Array.ext_getElem?
  intro j
  by_cases h : j < 258
  · rw [List.getElem?_toArray, List.getElem?_map, List.getElem?_range h]
    show some (clF (fun j => (numb (colA C) 256 j : Nat)) nb C.n (.slice ea C.n ec) j) = _
    unfold clF
    by_cases h1 : j < 256
    · rw [if_pos h1, autB_cls _ _ _ _ _ h1]
      unfold autOf
      dsimp only
      rw [getD_map_range _ h1]
    · rw [if_neg h1]
      by_cases h2 : j = 256
      · subst h2
        rw [if_pos rfl, autB_next, autOf_n]
      · rw [if_neg h2]
        have : j = 257 := by omega
        subst this
        rw [autB_ends, autOf_ne]
  · rw [Array.getElem?_eq_none (by simp; omega), Array.getElem?_eq_none (by rw [autB_size]; omega)]
end
theorem fsts_seen {α : Type} [DecidableEq α] (f : Nat → α) {c d : Nat} (hd : d < c) (e : f d = f c) : fsts f (c + 1) = fsts f c := by
  rw [fsts, if_pos (List.mem_map.2 ⟨d, List.mem_range.2 hd, e⟩)]
theorem fsts_fresh {α : Type} [DecidableEq α] (f : Nat → α) {c : Nat} (h : ∀ d, d < c → f d ≠ f c) : fsts f (c + 1) = fsts f c ++ [c] := by
  rw [fsts, if_neg fun hm => by obtain ⟨d, hd, e⟩ := List.mem_map.1 hm; exact h d (List.mem_range.1 hd) e]
theorem numb_fresh {α : Type} [DecidableEq α] (f : Nat → α) {c n : Nat} (hc : c < n) (h : ∀ d, d < c → f d ≠ f c) : numb f n c = (fsts f c).length := by
  rw [numb_at f hc, if_neg fun hm => by obtain ⟨d, hd, e⟩ := List.mem_map.1 (mem_uniq.1 hm); exact h d (List.mem_range.1 hd) e, uniq_fsts, List.length_map]
theorem numb_seen {α : Type} [DecidableEq α] (f : Nat → α) {c d n : Nat} (hc : c < n) (hd : d < n) (e : f d = f c) : numb f n d = numb f n c := (numb_iff f hd hc).2 e
theorem colA_iff {C : RA} {c d : Nat} : colA C c = colA C d ↔ ∀ s, s < C.n → C.nx s c = C.nx s d :=
  ⟨fun e s hs => colA_nx e hs, fun h => List.map_congr_left fun s hs => h s (List.mem_range.1 hs)⟩
theorem fsts_le {α : Type} [DecidableEq α] (f : Nat → α) : ∀ n, (fsts f n).length ≤ n
  | 0 => Nat.le_refl _
  | n + 1 => by
    rw [fsts]
    split
    · exact Nat.le_succ_of_le (fsts_le f n)
    · rw [List.length_append]; exact Nat.succ_le_succ (fsts_le f n)
theorem index_ar {b o i : Nat} (h : i < 256) (w : World) : (Instr.indexAt 26 (.pointer (some ⟨b, o, none⟩)) (.int .i64 (i : Nat))).run Tryd.prog w = .ok (.pointer (some ⟨b, o + i, none⟩)) w := by
  have hl : Tryd.prog.arrayLen 26 = 256 := by kernel_rfl
  have hu : Tryd.prog.elem 26 = 3 := by kernel_rfl
  have := run_indexAt_array (P := Tryd.prog) (w := w) 26 ⟨b, o, none⟩ .i64 (i : Int) (by rw [hl, hu]; exact Tryd.underlying26)
  rw [hl, if_pos ⟨by omega, by omega⟩, hu] at this
  simp only [this, size_of info_int w, Result.andThen_ok, Int.toNat_natCast, addr_addV, Nat.mul_one]
theorem field_aut0 (b : Nat) (w : World) : (Instr.fieldAt 30 (.pointer (some ⟨b, 0, none⟩)) 0).run Tryd.prog w = .ok (.pointer (some ⟨b, 0, none⟩)) w := by kernel_rfl
theorem agg_ints (w : World) : (isAgg 37).run Tryd.prog w = .ok false w := run_isAgg Tryd.underlying37 w
theorem agg_rowsl (w : World) : (isAgg 27).run Tryd.prog w = .ok false w := run_isAgg Tryd.underlying27 w
theorem agg_int (w : World) : (isAgg 3).run Tryd.prog w = .ok false w := run_isAgg Tryd.underlying3 w
theorem build_int (x : Int) (w : World) : (Instr.buildSlice 37 1 #[(0, .int .i64 x)]).run Tryd.prog w = .ok (.slice (some ⟨w.heap.size, 0, none⟩) 1 1) (w.alloc (.cells #[.int .i64 x] 3)) := by kernel_rfl
theorem store_one {t : TypeId} {w : World} {p : Addr} {z v : Value} (hsz : ∀ w, (sizeOf t).run Tryd.prog w = .ok 1 w) (hc : w.cell? p = some z) (hf : w.frozen? p = false) (h1 : v.oneCell' = true) (h2 : v.cells = #[v]) : (Instr.storeAt t (.pointer (some p)) v).run Tryd.prog w = .ok () (w.setCell p v) := by
  have hst := run_store Tryd.prog w p v .plain h1
  rw [hc] at hst
  simp only [hf] at hst
  have e0 : p.add 0 = p := by cases p; simp [Addr.add]
  simpa [e0, Instr.storeAt, Instr.sureAddr, storeVar, storeCells, Sem.run_bind, h2, hsz w, hc, hf] using hst
theorem storeCells_others (b : Nat) : ∀ (l : List Value) (i : Nat) (w w' : World), (∀ j, j < l.length → (w.cell? ⟨b, i + j, none⟩).isSome ∧ w.frozen? ⟨b, i + j, none⟩ = false) → (∀ v ∈ l, v.oneCell' = true) →
    (storeCells ⟨b, 0, none⟩ l i).run Tryd.prog w = .ok () w' → ∀ k, k ≠ b → w'.heap[k]? = w.heap[k]?
  | [], i, w, w', _, _, h, k, hk => by unfold storeCells at h; cases h; rfl
  | v :: l, i, w, w', h, hv, hr, k, hk => by
    obtain ⟨h0, h1⟩ := h 0 (by simp)
    rw [Nat.add_zero] at h0 h1
    obtain ⟨u, hu⟩ := Option.isSome_iff_exists.1 h0
    unfold storeCells at hr
    rw [addr_addV, Nat.zero_add, Sem.run_bind, run_store _ _ _ _ _ (hv v (by simp)), hu] at hr
    simp only [h1, Bool.false_eq_true, if_false, Result.andThen] at hr
    rw [storeCells_others b l (i + 1) (w.setCell ⟨b, i, none⟩ v) w' (fun j hj => by
      obtain ⟨c1, c2⟩ := h (j + 1) (by simpa using hj)
      rw [show i + (j + 1) = i + 1 + j by omega] at c1 c2
      refine ⟨by rw [setCell_cell_other _ _ _ _ (.inr (by simp; omega))]; exact c1, by rw [setCell_frozen]; exact c2⟩) (fun x hx => hv x (by simp [hx])) hr k hk]
    exact q_set_other _ _ (Ne.symm hk)
theorem storeVar_others {w w' : World} {b n : Nat} {f0 f : Nat → Value} (h : ArrAt w b 0 n f0) {ty : TypeId} (hi : (Tryd.prog.info? ty).map (·.size) = some n) (h1 : ∀ j, j < n → (f j).oneCell' = true)
    (hr : (storeVar ty ⟨b, 0, none⟩ (.agg (((List.range n).map f).toArray))).run Tryd.prog w = .ok () w') : ∀ k, k ≠ b → w'.heap[k]? = w.heap[k]? := by
  refine storeCells_others b ((List.range n).map f) 0 w w' (fun j hj => by
    have := h j (by simpa using hj)
    rw [this.1]; exact ⟨rfl, this.2⟩) (fun v hv => by
    obtain ⟨j, hj, rfl⟩ := List.mem_map.1 hv
    exact h1 j (List.mem_range.1 hj)) ?_
  cases hq : Tryd.prog.info? ty with
  | none => rw [hq] at hi; cases hi
  | some i =>
    have hs : i.size = n := by simpa [hq] using hi
    simpa [storeVar, Sem.run_bind, sizeOf, typeInfo, hq, hs, Value.cells] using hr
theorem run_load_aut {w : World} {b : Nat} {f : Nat → Value} (h : ArrAt w b 0 258 f) : (loadVar 30 ⟨b, 0, none⟩).run Tryd.prog w = .ok (.agg (((List.range 258).map f).toArray)) w :=
  run_loadVar_arrA h Tryd.underlying30 rfl info_aut
section
variable {ops : Array Oper} {rest : List Oper} {o : Oper} {a : Act} {w : World} {Q : Exit → Act → World → Prop}
theorem wpList_load_autF (hgd : o.guard = none) {x : Operand} (ho : o.op = .load 30 x) {b : Nat} {f : Nat → Value} (hx : a.eval x = .pointer (some ⟨b, 0, none⟩)) (hA : ArrAt w b 0 258 f) {av : Array Value} (hav : ((List.range 258).map f).toArray = av)
    (h : wpList Tryd.prog ops Q rest (a.put o.dst (.agg av)) w) : wpList Tryd.prog ops Q (o :: rest) a w := by
  refine wpList_plain hgd fun _ hK => ?_
  subst hav
  unfold Oper.wp execOp
  simp only [ho, hx, Instr.loadAt, Instr.sureAddr, Sem.run_bind, Sem.run_pure, Result.andThen_ok, run_load_aut hA]
  exact hK _ _ h
theorem wpList_store_autF (hgd : o.guard = none) {x y : Operand} (ho : o.op = .store 30 x y) {b : Nat} {f0 f : Nat → Value} {av : Array Value} (hx : a.eval x = .pointer (some ⟨b, 0, none⟩)) (hy : a.eval y = .agg av) (hA : ArrAt w b 0 258 f0) (hav : ((List.range 258).map f).toArray = av) (h1 : ∀ j, j < 258 → (f j).oneCell' = true)
    (h : ∀ w', ArrAt w' b 0 258 f → Below b w w' → (∀ k, k ≠ b → w'.heap[k]? = w.heap[k]?) → wpList Tryd.prog ops Q rest (a.put o.dst undef) w') : wpList Tryd.prog ops Q (o :: rest) a w := by
  refine wpList_plain hgd fun _ hK => ?_
  obtain ⟨w', k1, k2, k3⟩ := run_storeVar_arrA (f := f) hA info_aut h1
  have k4 := storeVar_others hA info_aut h1 k1
  rw [hav] at k1
  unfold Oper.wp execOp
  simp only [ho, hx, hy, Instr.storeAt, Instr.sureAddr, Sem.run_bind, Sem.run_pure, Result.andThen_ok, k1]
  exact hK _ _ (h w' k2 k3 k4)
end
theorem results_aut {fn : Func} {p : Tmp} (h : fn.results = #[.cell p 30]) {w : World} {tmps : Array Value} {rb : Nat} {f : Nat → Value} (hp : tmps.getD p undef = .pointer (some ⟨rb, 0, none⟩)) (hA : ArrAt w rb 0 258 f) {av : Array Value} (hav : ((List.range 258).map f).toArray = av) :
    (results fn tmps).run Tryd.prog w = .ok (.agg av) w := by
  rw [results_cellA h, hp]
  have h := run_load_aut hA
  rw [hav] at h
  simp [asAddr, h]
end Go.Proofs.YtkkdpafkafjfgaaDoor
