/- Smallest: the rows of classes, in memory, and what is handed back. -/
import Derived.Test.YtkkdpafkafjfgaaTwSlF
namespace Go.Proofs.Ytkkdpafkafjfgaa
open Go.RowKit RR
set_option linter.unusedVariables false
set_option linter.unusedSimpArgs false
set_option maxRecDepth 100000
def rowK (C : RA) (i : Nat) : List Value := (fsts (colA C) 256).map fun d => Value.int .i64 (C.nx i d : Nat)
theorem rowK_len (C : RA) (i : Nat) : (rowK C i).length = (fsts (colA C) 256).length := by unfold rowK; rw [List.length_map]
structure RowS (W w5 wr : World) (ab : Nat) (ev : Value) (C : RA) (k : Nat) (nxv : Value) (vs : Nat → Value) : Prop where
  grew : Grew W wr
  keep : ∀ j, j < w5.heap.size → j ≠ ab → wr.heap[j]? = w5.heap[j]?
  size : w5.heap.size ≤ wr.heap.size
  arr : ArrAt wr ab 0 258 (clG (fun j => (numb (colA C) 256 j : Nat)) nxv ev)
  next : QRow wr w5.heap.size 41 1 nxv k ((List.range k).map vs)
  rows : ∀ i, i < k → QRow wr w5.heap.size 3 1 (vs i) (rowK C i).length (rowK C i)
  ownr : ∀ i, i < k → ∀ j, (vs i).ownBlock = some j → w5.heap.size ≤ j ∧ j < wr.heap.size ∧ nxv.ownBlock ≠ some j
  owno : ∀ j, nxv.ownBlock = some j → w5.heap.size ≤ j ∧ j < wr.heap.size
  lo : W.heap.size ≤ ab ∧ ab < w5.heap.size
section
variable {W w5 wr w' wa : World} {ab : Nat} {ev : Value} {C : RA} {k : Nat} {nxv : Value} {vs : Nat → Value}
theorem RowS.kept (h : RowS W w5 wr ab ev C k nxv vs) (g : Grew wr w') : RowS W w5 w' ab ev C k nxv vs :=
  ⟨h.grew.trans g, fun j hj hne => (g.block j (Nat.lt_of_lt_of_le hj h.size)).trans (h.keep j hj hne), Nat.le_trans h.size g.size, h.arr.kept g, h.next.grew g, fun i hi => (h.rows i hi).grew g, fun i hi j hj => by obtain ⟨a, b, c⟩ := h.ownr i hi j hj; exact ⟨a, Nat.lt_of_lt_of_le b g.size, c⟩, fun j hj => by obtain ⟨a, b⟩ := h.owno j hj; exact ⟨a, Nat.lt_of_lt_of_le b g.size⟩, h.lo⟩
theorem row_step {lv : Value} {j : Nat} {xs : List Value} (h : QRow wr wa.heap.size 3 1 lv j xs) (hG : Grew wa wr) (ho : ∀ k, lv.ownBlock = some k → wa.heap.size ≤ k ∧ k < wr.heap.size) (x : Nat) (hj : j ≤ 9000) (ty : TypeId) :
    ∃ v' w7, (Builtin.append_ #[41, 41] ty #[lv, .slice (some ⟨wr.heap.size, 0, none⟩) 1 1]).run Try.prog (wr.alloc (.cells #[.int .i64 (x : Nat)] 3)) = .ok v' w7 ∧ (∃ a cp, v' = .slice a (j + 1) cp) ∧ QRow w7 wa.heap.size 3 1 v' (j + 1) (xs ++ [.int .i64 (x : Nat)]) ∧ Grew wa w7 ∧ ∀ k, v'.ownBlock = some k → wa.heap.size ≤ k ∧ k < w7.heap.size := by
  obtain ⟨i0, hi0, hz0, hz1, hz2⟩ := intsI
  obtain ⟨v', w7, a1, a2, a3, a4⟩ := QRow.append (P := Try.prog) (t := 41) Try.underlying41 hi0 hz0 hz1 hz2 rfl (h.grew ((Grew.refl wr).alloc (.cells #[.int .i64 (x : Nat)] 3))) (by rw [World.size_alloc]; have := hG.size; omega) wr.heap.size 1 [.int .i64 (x : Nat)] rfl (fun j u hu => by
    unfold World.cell?
    dsimp only
    rw [heap_alloc_new wr _]
    cases j with
    | zero => simpa using hu
    | succ j => simp at hu) (fun u hu => by rw [List.mem_singleton] at hu; rw [hu]; rfl) (by unfold maxLen; omega) (by omega) ty
  have hs7 := a3.size
  rw [World.size_alloc] at hs7
  refine ⟨v', w7, a1, ?_, a2, grew_grown (hG.alloc _) a3 fun b e => (ho b e).1, fun k hk => ?_⟩
  · obtain ⟨_, a, cp, e, _⟩ := a2; exact ⟨a, cp, e⟩
  · rcases a4 with e | e
    · rw [e] at hk
      obtain ⟨p1, p2⟩ := ho k hk
      exact ⟨p1, by omega⟩
    · rw [e] at hk; cases hk
      obtain ⟨b', _, _, e2, hb1, hlt, _⟩ := a2.at (by omega)
      rw [e2] at e; cases e
      exact ⟨hb1, hlt⟩
theorem RowS.push (h : RowS W w5 wa ab ev C k nxv vs) {lv : Value} (hG : Grew wa wr) (hq : QRow wr wa.heap.size 3 1 lv (rowK C k).length (rowK C k)) (ho : ∀ j, lv.ownBlock = some j → wa.heap.size ≤ j ∧ j < wr.heap.size) (h1 : lv.oneCell' = true) (hk : k ≤ 9000) (ty : TypeId) :
    ∃ v' w7, (Builtin.append_ #[23, 23] ty #[nxv, .slice (some ⟨wr.heap.size, 0, none⟩) 1 1]).run Try.prog (wr.alloc (.cells #[lv] 41)) = .ok v' w7 ∧ (∃ a cp, v' = .slice a (k + 1) cp) ∧ w7.cell? ⟨ab, 256, none⟩ = some nxv ∧ w7.frozen? ⟨ab, 256, none⟩ = false ∧
      RowS W w5 (w7.setCell ⟨ab, 256, none⟩ v') ab ev C (k + 1) v' (fun i => if i = k then lv else vs i) := by
  obtain ⟨i0, hi0, hz0, hz1, hz2⟩ := info_sl
  have hK := h.kept hG
  obtain ⟨v', w7, a1, a2, a3, a4⟩ := QRow.append (P := Try.prog) (t := 23) Try.underlying23 hi0 hz0 hz1 hz2 rfl (hK.next.grew ((Grew.refl wr).alloc (.cells #[lv] 41))) (by rw [World.size_alloc]; have := hK.size; omega) wr.heap.size 1 [lv] rfl (fun j u hu => by
    unfold World.cell?
    dsimp only
    rw [heap_alloc_new wr _]
    cases j with
    | zero => simpa using hu
    | succ j => simp at hu) (fun u hu => by rw [List.mem_singleton] at hu; rw [hu]; exact h1) (by unfold maxLen; omega) (by omega) ty
  have hs7 := a3.size
  rw [World.size_alloc] at hs7
  have hsw := hK.size
  have hsa := h.size
  have hga := hG.size
  have hlo := h.lo
  have hk7 : ∀ j, j < wr.heap.size → nxv.ownBlock ≠ some j → w7.heap[j]? = wr.heap[j]? := fun j h1 h2 => by
    rw [a3.block j (by rw [World.size_alloc]; omega) (Ne.symm h2), heap_alloc_old _ _ h1]
  have hna : nxv.ownBlock ≠ some ab := fun e => by have := (hK.owno ab e).1; omega
  have hab7 := hk7 ab (by omega) hna
  have hA7 := arr_block hK.arr hab7
  have c256 := hA7.at0 256 (by omega)
  have e256 : clG (fun j => ((numb (colA C) 256 j : Nat) : Int)) nxv ev 256 = nxv := by unfold clG; rw [if_neg (by omega), if_pos rfl]
  rw [e256] at c256
  have hnew : ∀ j, v'.ownBlock = some j → (nxv.ownBlock = some j ∨ wr.heap.size ≤ j) ∧ w5.heap.size ≤ j ∧ j < w7.heap.size := fun j hj => by
    rcases a4 with e | e
    · rw [e] at hj
      obtain ⟨p1, p2⟩ := hK.owno j hj
      exact ⟨Or.inl hj, p1, by omega⟩
    · rw [e] at hj; cases hj
      obtain ⟨b', _, _, e2, hb1, hlt, _⟩ := a2.at (by omega)
      rw [e2] at e; cases e
      exact ⟨Or.inr (by rw [World.size_alloc]; omega), hb1, hlt⟩
  have hszc : (w7.setCell ⟨ab, 256, none⟩ v').heap.size = w7.heap.size := by simp [World.setCell]
  have hnl : ∀ j, lv.ownBlock = some j → nxv.ownBlock ≠ some j := fun j hj e => by
    have := (h.owno j e).2
    have := (ho j hj).1
    omega
  have hkc : ∀ j, j < wr.heap.size → nxv.ownBlock ≠ some j → j ≠ ab → (w7.setCell ⟨ab, 256, none⟩ v').heap[j]? = wr.heap[j]? := fun j h1 h2 h3 => by
    rw [q_set_other _ _ (Ne.symm h3)]; exact hk7 j h1 h2
  refine ⟨v', w7, a1, ?_, c256, hA7.free0 256 (by omega), (grew_grown (hK.grew.alloc _) a3 fun b e => ?_).setCell (p := ⟨ab, 256, none⟩) hlo.1 _, fun j hj hne => ?_, by rw [hszc]; omega, (hA7.set0 256 (by omega) _).congr fun j _ => ?_, ?_, fun i hi => ?_, fun i hi j hj => ?_, fun j hj => ?_, hlo⟩
  · obtain ⟨_, a, cp, e, _⟩ := a2; exact ⟨a, cp, e⟩
  · have := (hK.owno b e).1; omega
  · rw [hkc j (by omega) (fun e => by have := (hK.owno j e).1; omega) hne]
    exact hK.keep j hj hne
  · unfold clG
    by_cases e : j = 256
    · subst e; rw [if_pos rfl, if_neg (by omega), if_pos rfl]
    · rw [if_neg e]
      by_cases h2 : j < 256
      · rw [if_pos h2, if_pos h2]
      · rw [if_neg h2, if_neg h2, if_neg e, if_neg e]
  · have e : (List.range (k + 1)).map (fun i => if i = k then lv else vs i) = (List.range k).map vs ++ [lv] := by
      rw [List.range_succ, List.map_append, List.map_singleton, if_pos rfl]
      congr 1
      exact List.map_congr_left fun i hi => by rw [if_neg (by have := List.mem_range.1 hi; omega)]
    rw [e]
    exact a2.kept fun j hj _ => q_set_other _ _ (by have := (hnew j hj).2.1; omega)
  · by_cases e : i = k
    · subst e
      rw [if_pos rfl]
      have hq5 : QRow wr w5.heap.size 3 1 lv (rowK C i).length (rowK C i) := hq.rebase fun j hj => by have := (ho j hj).1; omega
      exact hq5.kept fun j hj hlt => hkc j hlt (hnl j hj) (by have := (ho j hj).1; omega)
    · rw [if_neg e]
      have hik : i < k := by omega
      exact (hK.rows i hik).kept fun j hj hlt => hkc j hlt (hK.ownr i hik j hj).2.2 (by have := (hK.ownr i hik j hj).1; omega)
  · rw [hszc]
    by_cases e : i = k
    · subst e
      rw [if_pos rfl] at hj
      obtain ⟨p1, p2⟩ := ho j hj
      refine ⟨by omega, by omega, fun e2 => ?_⟩
      rcases (hnew j e2).1 with e3 | e3
      · exact hnl j hj e3
      · omega
    · rw [if_neg e] at hj
      have hik : i < k := by omega
      obtain ⟨p1, p2, p3⟩ := hK.ownr i hik j hj
      refine ⟨p1, by omega, fun e2 => ?_⟩
      rcases (hnew j e2).1 with e3 | e3
      · exact p3 e3
      · omega
  · rw [hszc]; exact (hnew j hj).2
theorem RowS.rowsAt (h : RowS W w5 wr ab ev C C.n nxv vs) (hp : 0 < C.n) {w8 : World} (hk : ∀ j, w5.heap.size ≤ j → j < wr.heap.size → w8.heap[j]? = wr.heap[j]?) : ∃ nb no, nxv = .slice (some ⟨nb, no, none⟩) C.n (cpV nxv) ∧ RowsAt w8 (some ⟨nb, no, none⟩) (autOf C).next := by
  obtain ⟨nb, no, nc, e, hb, hl, _, _, hcell⟩ := h.next.at hp
  have hz : ∀ i, i < C.n → (autOf C).next.getD i [] = (fsts (colA C) 256).map fun c => (C.nx i c : Int) := fun i hi => autOf_row hi
  have hv : ∀ i, i < C.n → ∃ a cp, vs i = .slice a (fsts (colA C) 256).length cp := fun i hi => by
    obtain ⟨_, a, cp, e, _⟩ := h.rows i hi
    rw [rowK_len] at e
    exact ⟨a, cp, e⟩
  have hra : ∀ i, i < C.n → vs i = .slice (adV (vs i)) (fsts (colA C) 256).length (cpV (vs i)) := fun i hi => by
    obtain ⟨a, cp, e⟩ := hv i hi
    rw [e]; rfl
  refine ⟨nb, no, by rw [e]; rfl, fun i => adV (vs i), fun i => cpV (vs i), Or.inr ⟨nb, no, rfl, fun i hi => ?_⟩, fun i hi => ?_⟩
  · rw [autOf_n] at hi
    show w8.cell? ⟨nb, no + i, none⟩ = some (.slice (adV (vs i)) ((autOf C).next.getD i []).length (cpV (vs i)))
    rw [World.cell?_of_block (a := ⟨nb, no + i, none⟩) (hk nb hb hl), hcell i (vs i) (by omega) (by rw [List.getElem?_map, List.getElem?_range hi]; rfl), hz i hi, List.length_map]
    exact congrArg some (hra i hi)
  · rw [autOf_n] at hi
    show SlAt w8 (adV (vs i)) ((autOf C).next.getD i []).length fun j => .int .i64 (((autOf C).next.getD i []).getD j 0)
    rw [hz i hi, List.length_map]
    rcases Nat.eq_zero_or_pos (fsts (colA C) 256).length with h0 | h0
    · exact Or.inl h0
    · have hq := h.rows i hi
      obtain ⟨b, o, c2, e2, hb2, hl2, _, _, hc⟩ := hq.at (by rw [rowK_len]; exact h0)
      refine Or.inr ⟨b, o, by rw [e2]; rfl, fun j hj => ?_⟩
      show w8.cell? ⟨b, o + j, none⟩ = some (.int .i64 (((fsts (colA C) 256).map fun c => (C.nx i c : Int)).getD j 0))
      rw [getD_map_lt _ hj 0, World.cell?_of_block (a := ⟨b, o + j, none⟩) (hk b hb2 hl2)]
      exact hc j (.int .i64 (C.nx i ((fsts (colA C) 256).getD j 0) : Nat)) (by rw [rowK_len]; omega) (by unfold rowK; rw [List.getElem?_map, List.getD_eq_getElem?_getD, List.getElem?_eq_getElem hj]; rfl)
theorem clG_value {nb no nc : Nat} {ea : Option Addr} {ec : Nat} : ((List.range 258).map (clG (fun j => (numb (colA C) 256 j : Nat)) (.slice (some ⟨nb, no, none⟩) C.n nc) (.slice ea C.n ec))).toArray = autB (autOf C) (some ⟨nb, no, none⟩) nc ea ec := by
  apply Array.ext_getElem?
  intro j
  by_cases h : j < 258
  · rw [List.getElem?_toArray, List.getElem?_map, List.getElem?_range h]
    show some (clG (fun j => (numb (colA C) 256 j : Nat)) (.slice (some ⟨nb, no, none⟩) C.n nc) (.slice ea C.n ec) j) = _
    unfold clG
    by_cases h1 : j < 256
    · rw [if_pos h1, autB_cls _ _ _ _ _ h1]
      unfold autOf
      dsimp only
      rw [getD_map_range _ h1]
    · rw [if_neg h1]
      by_cases h2 : j = 256
      · subst h2
        rw [if_pos rfl, autB_next, autOf_n]
      · rw [if_neg h2]
        have : j = 257 := by omega
        subst this
        rw [autB_ends, autOf_ne]
  · rw [Array.getElem?_eq_none (by simp; omega), Array.getElem?_eq_none (by rw [autB_size]; omega)]
end
end Go.Proofs.Ytkkdpafkafjfgaa
