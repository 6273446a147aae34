/- Smallest: the rows of classes, in memory, and what is handed back. -/
import Derived.Test.YtkkdpafkafjfgaaDoorMkPNtC
import Derived.Test.YtkkdpafkafjfgaaDoorMkNtH
namespace Go.Proofs.YtkkdpafkafjfgaaDoor
open Go.RowKit RR
set_option linter.unusedVariables false
set_option linter.unusedSimpArgs false
set_option maxRecDepth 100000
def rowK (C : RA) (i : Nat) : List Value := (fsts (colA C) 256).map fun d => Value.int .i64 (C.nx i d : Nat)
theorem rowK_len (C : RA) (i : Nat) : (rowK C i).length = (fsts (colA C) 256).length := by unfold rowK; rw [List.length_map]
structure RowS (W w5 wr : World) (ab : Nat) (ev : Value) (C : RA) (k : Nat) (nxv : Value) (vs : Nat → Value) : Prop where
  grew : Grew W wr
  keep : ∀ j, j < w5.heap.size → j ≠ ab → wr.heap[j]? = w5.heap[j]?
  size : w5.heap.size ≤ wr.heap.size
  arr : ArrAt wr ab 0 258 (clG (fun j => (numb (colA C) 256 j : Nat)) nxv ev)
  next : QRow wr w5.heap.size 37 1 nxv k ((List.range k).map vs)
  rows : ∀ i, i < k → QRow wr w5.heap.size 3 1 (vs i) (rowK C i).length (rowK C i)
  ownr : ∀ i, i < k → ∀ j, (vs i).ownBlock = some j → w5.heap.size ≤ j ∧ j < wr.heap.size ∧ nxv.ownBlock ≠ some j
  owno : ∀ j, nxv.ownBlock = some j → w5.heap.size ≤ j ∧ j < wr.heap.size
  lo : W.heap.size ≤ ab ∧ ab < w5.heap.size
section
variable {W w5 wr w' wa : World} {ab : Nat} {ev : Value} {C : RA} {k : Nat} {nxv : Value} {vs : Nat → Value}
theorem RowS.kept (h : RowS W w5 wr ab ev C k nxv vs) (g : Grew wr w') : RowS W w5 w' ab ev C k nxv vs :=
  ⟨h.grew.trans g, fun j hj hne => (g.block j (Nat.lt_of_lt_of_le hj h.size)).trans (h.keep j hj hne), Nat.le_trans h.size g.size, h.arr.kept g, h.next.grew g, fun i hi => (h.rows i hi).grew g, fun i hi j hj => by obtain ⟨a, b, c⟩ := h.ownr i hi j hj; exact ⟨a, Nat.lt_of_lt_of_le b g.size, c⟩, fun j hj => by obtain ⟨a, b⟩ := h.owno j hj; exact ⟨a, Nat.lt_of_lt_of_le b g.size⟩, h.lo⟩
theorem row_step {lv : Value} {j : Nat} {xs : List Value} (h : QRow wr wa.heap.size 3 1 lv j xs) (hG : Grew wa wr) (ho : ∀ k, lv.ownBlock = some k → wa.heap.size ≤ k ∧ k < wr.heap.size) (x : Nat) (hj : j ≤ 9000) (ty : TypeId) :
    ∃ v' w7, (Builtin.append_ #[37, 37] ty #[lv, .slice (some ⟨wr.heap.size, 0, none⟩) 1 1]).run Tryd.prog (wr.alloc (.cells #[.int .i64 (x : Nat)] 3)) = .ok v' w7 ∧ (∃ a cp, v' = .slice a (j + 1) cp) ∧ QRow w7 wa.heap.size 3 1 v' (j + 1) (xs ++ [.int .i64 (x : Nat)]) ∧ Grew wa w7 ∧ ∀ k, v'.ownBlock = some k → wa.heap.size ≤ k ∧ k < w7.heap.size := by
  obtain ⟨i0, hi0, hz0, hz1, hz2⟩ := intsI
  obtain ⟨v', w7, a1, a2, a3, a4⟩ := QRow.append (P := Tryd.prog) (t := 37) Tryd.underlying37 hi0 hz0 hz1 hz2 rfl (h.grew ((Grew.refl wr).alloc (.cells #[.int .i64 (x : Nat)] 3))) (by rw [World.size_alloc]; have := hG.size; omega) wr.heap.size 1 [.int .i64 (x : Nat)] rfl (fun j u hu => by
    unfold World.cell?
    dsimp only
    rw [heap_alloc_new wr _]
    cases j with
    | zero => simpa using hu
    | succ j => simp at hu) (fun u hu => by rw [List.mem_singleton] at hu; rw [hu]; rfl) (by unfold maxLen; omega) (by omega) ty
  have hs7 := a3.size
  rw [World.size_alloc] at hs7
  refine ⟨v', w7, a1, ?_, a2, grew_grown (hG.alloc _) a3 fun b e => (ho b e).1, fun k hk => ?_⟩
  · obtain ⟨_, a, cp, e, _⟩ := a2; exact ⟨a, cp, e⟩
  · rcases a4 with e | e
    · rw [e] at hk
      obtain ⟨p1, p2⟩ := ho k hk
      exact ⟨p1, by omega⟩
    · rw [e] at hk; cases hk
      obtain ⟨b', _, _, e2, hb1, hlt, _⟩ := a2.at (by omega)
      rw [e2] at e; cases e
      exact ⟨hb1, hlt⟩
theorem RowS.push (h : RowS W w5 wa ab ev C k nxv vs) {lv : Value} (hG : Grew wa wr) (hq : QRow wr wa.heap.size 3 1 lv (rowK C k).length (rowK C k)) (ho : ∀ j, lv.ownBlock = some j → wa.heap.size ≤ j ∧ j < wr.heap.size) (h1 : lv.oneCell' = true) (hk : k ≤ 9000) (ty : TypeId) :
    ∃ v' w7, (Builtin.append_ #[27, 27] ty #[nxv, .slice (some ⟨wr.heap.size, 0, none⟩) 1 1]).run Tryd.prog (wr.alloc (.cells #[lv] 37)) = .ok v' w7 ∧ (∃ a cp, v' = .slice a (k + 1) cp) ∧ w7.cell? ⟨ab, 256, none⟩ = some nxv ∧ w7.frozen? ⟨ab, 256, none⟩ = false ∧
      RowS W w5 (w7.setCell ⟨ab, 256, none⟩ v') ab ev C (k + 1) v' (fun i => if i = k then lv else vs i) := by
  obtain ⟨i0, hi0, hz0, hz1, hz2⟩ := info_sl
  have hK := h.kept hG
  obtain ⟨v', w7, a1, a2, a3, a4⟩ := QRow.append (P := Tryd.prog) (t := 27) Tryd.underlying27 hi0 hz0 hz1 hz2 rfl (hK.next.grew ((Grew.refl wr).alloc (.cells #[lv] 37))) (by rw [World.size_alloc]; have := hK.size; omega) wr.heap.size 1 [lv] rfl (fun j u hu => by
    unfold World.cell?
    dsimp only
    rw [heap_alloc_new wr _]
    cases j with
    | zero => simpa using hu
    | succ j => simp at hu) (fun u hu => by rw [List.mem_singleton] at hu; rw [hu]; exact h1) (by unfold maxLen; omega) (by omega) ty
  have hs7 := a3.size
  rw [World.size_alloc] at hs7
  have hsw := hK.size
  have hsa := h.size
  have hga := hG.size
  have hlo := h.lo
  have hk7 : ∀ j, j < wr.heap.size → nxv.ownBlock ≠ some j → w7.heap[j]? = wr.heap[j]? := fun j h1 h2 => by
    rw [a3.block j (by rw [World.size_alloc]; omega) (Ne.symm h2), heap_alloc_old _ _ h1]
  have hna : nxv.ownBlock ≠ some ab := fun e => by have := (hK.owno ab e).1; omega
  have hab7 := hk7 ab (by omega) hna
  have hA7 := arr_block hK.arr hab7
  have c256 := hA7.at0 256 (by omega)
  have e256 : clG (fun j => ((numb (colA C) 256 j : Nat) : Int)) nxv ev 256 = nxv := by unfold clG; rw [if_neg (by omega), if_pos rfl]
  rw [e256] at c256
  have hnew : ∀ j, v'.ownBlock = some j → (nxv.ownBlock = some j ∨ wr.heap.size ≤ j) ∧ w5.heap.size ≤ j ∧ j < w7.heap.size := fun j hj => by
    rcases a4 with e | e
    · rw [e] at hj
      obtain ⟨p1, p2⟩ := hK.owno j hj
      exact ⟨Or.inl hj, p1, by omega⟩
    · rw [e] at hj; cases hj
      obtain ⟨b', _, _, e2, hb1, hlt, _⟩ := a2.at (by omega)
      rw [e2] at e; cases e
      exact ⟨Or.inr (by rw [World.size_alloc]; omega), hb1, hlt⟩
  have hszc : (w7.setCell ⟨ab, 256, none⟩ v').heap.size = w7.heap.size := by simp [World.setCell]
  have hnl : ∀ j, lv.ownBlock = some j → nxv.ownBlock ≠ some j := fun j hj e => by
    have := (h.owno j e).2
    have := (ho j hj).1
    omega
  have hkc : ∀ j, j < wr.heap.size → nxv.ownBlock ≠ some j → j ≠ ab → (w7.setCell ⟨ab, 256, none⟩ v').heap[j]? = wr.heap[j]? := fun j h1 h2 h3 => by
    rw [q_set_other _ _ (Ne.symm h3)]; exact hk7 j h1 h2
  refine ⟨v', w7, a1, ?_, c256, hA7.free0 256 (by omega), (grew_grown (hK.grew.alloc _) a3 fun b e => ?_).setCell (p := ⟨ab, 256, none⟩) hlo.1 _, fun j hj hne => ?_, by rw [hszc]; omega, (hA7.set0 256 (by omega) _).congr fun j _ => ?_, ?_, fun i hi => ?_, fun i hi j hj => ?_, fun j hj => ?_, hlo⟩
  · obtain ⟨_, a, cp, e, _⟩ := a2; exact ⟨a, cp, e⟩
  · have := (hK.owno b e).1; omega
  · rw [hkc j (by omega) (fun e => by have := (hK.owno j e).1; omega) hne]
    exact hK.keep j hj hne
  · unfold clG
    by_cases e : j = 256
    · subst e; rw [if_pos rfl, if_neg (by omega), if_pos rfl]
    · rw [if_neg e]
      by_cases h2 : j < 256
      · rw [if_pos h2, if_pos h2]
      · rw [if_neg h2, if_neg h2, if_neg e, if_neg e]
  · have e : (List.range (k + 1)).map (fun i => if i = k then lv else vs i) = (List.range k).map vs ++ [lv] := by
      rw [List.range_succ, List.map_append, List.map_singleton, if_pos rfl]
      congr 1
      exact List.map_congr_left fun i hi => by rw [if_neg (by have := List.mem_range.1 hi; omega)]
    rw [e]
    exact a2.kept fun j hj _ => q_set_other _ _ (by have := (hnew j hj).2.1; omega)
  · by_cases e : i = k
    · subst e
      rw [if_pos rfl]
      have hq5 : QRow wr w5.heap.size 3 1 lv (rowK C i).length (rowK C i) := hq.rebase fun j hj => by have := (ho j hj).1; omega
      exact hq5.kept fun j hj hlt => hkc j hlt (hnl j hj) (by have := (ho j hj).1; omega)
    · rw [if_neg e]
      have hik : i < k := by omega
      exact (hK.rows i hik).kept fun j hj hlt => hkc j hlt (hK.ownr i hik j hj).2.2 (by have := (hK.ownr i hik j hj).1; omega)
  · rw [hszc]
    by_cases e : i = k
    · subst e
      rw [if_pos rfl] at hj
      obtain ⟨p1, p2⟩ := ho j hj
      refine ⟨by omega, by omega, fun e2 => ?_⟩
      rcases (hnew j e2).1 with e3 | e3
      · exact hnl j hj e3
      · omega
    · rw [if_neg e] at hj
      have hik : i < k := by omega
      obtain ⟨p1, p2, p3⟩ := hK.ownr i hik j hj
      refine ⟨p1, by omega, fun e2 => ?_⟩
      rcases (hnew j e2).1 with e3 | e3
      · exact p3 e3
      · omega
  · rw [hszc]; exact (hnew j hj).2
theorem RowS.rowsAt (h : RowS W w5 wr ab ev C C.n nxv vs) (hp : 0 < C.n) {w8 : World} (hk : ∀ j, w5.heap.size ≤ j → j < wr.heap.size → w8.heap[j]? = wr.heap[j]?) : ∃ nb no, nxv = .slice (some ⟨nb, no, none⟩) C.n (cpV nxv) ∧ RowsAt w8 (some ⟨nb, no, none⟩) (autOf C).next := by
  obtain ⟨nb, no, nc, e, hb, hl, _, _, hcell⟩ := h.next.at hp
  have hz : ∀ i, i < C.n → (autOf C).next.getD i [] = (fsts (colA C) 256).map fun c => (C.nx i c : Int) := fun i hi => autOf_row hi
  have hv : ∀ i, i < C.n → ∃ a cp, vs i = .slice a (fsts (colA C) 256).length cp := fun i hi => by
    obtain ⟨_, a, cp, e, _⟩ := h.rows i hi
    rw [rowK_len] at e
    exact ⟨a, cp, e⟩
  have hra : ∀ i, i < C.n → vs i = .slice (adV (vs i)) (fsts (colA C) 256).length (cpV (vs i)) := fun i hi => by
    obtain ⟨a, cp, e⟩ := hv i hi
    rw [e]; rfl
  refine ⟨nb, no, by rw [e]; rfl, fun i => adV (vs i), fun i => cpV (vs i), Or.inr ⟨nb, no, rfl, fun i hi => ?_⟩, fun i hi => ?_⟩
  · rw [autOf_n] at hi
    show w8.cell? ⟨nb, no + i, none⟩ = some (.slice (adV (vs i)) ((autOf C).next.getD i []).length (cpV (vs i)))
    rw [World.cell?_of_block (a := ⟨nb, no + i, none⟩) (hk nb hb hl), hcell i (vs i) (by omega) (by rw [List.getElem?_map, List.getElem?_range hi]; rfl), hz i hi, List.length_map]
    exact congrArg some (hra i hi)
  · rw [autOf_n] at hi
    show SlAt w8 (adV (vs i)) ((autOf C).next.getD i []).length fun j => .int .i64 (((autOf C).next.getD i []).getD j 0)
    rw [hz i hi, List.length_map]
    rcases Nat.eq_zero_or_pos (fsts (colA C) 256).length with h0 | h0
    · exact Or.inl h0
    · have hq := h.rows i hi
      obtain ⟨b, o, c2, e2, hb2, hl2, _, _, hc⟩ := hq.at (by rw [rowK_len]; exact h0)
      refine Or.inr ⟨b, o, by rw [e2]; rfl, fun j hj => ?_⟩
      show w8.cell? ⟨b, o + j, none⟩ = some (.int .i64 (((fsts (colA C) 256).map fun c => (C.nx i c : Int)).getD j 0))
      rw [getD_map_lt _ hj 0, World.cell?_of_block (a := ⟨b, o + j, none⟩) (hk b hb2 hl2)]
      exact hc j (.int .i64 (C.nx i ((fsts (colA C) 256).getD j 0) : Nat)) (by rw [rowK_len]; omega) (by unfold rowK; rw [List.getElem?_map, List.getD_eq_getElem?_getD, List.getElem?_eq_getElem hj]; rfl)
theorem clG_value {nb no nc : Nat} {ea : Option Addr} {ec : Nat} : ((List.range 258).map (clG (fun j => (numb (colA C) 256 j : Nat)) (.slice (some ⟨nb, no, none⟩) C.n nc) (.slice ea C.n ec))).toArray = autB (autOf C) (some ⟨nb, no, none⟩) nc ea ec := by
  apply Array.ext_getElem?
  intro j
  by_cases h : j < 258
  · rw [List.getElem?_toArray, List.getElem?_map, List.getElem?_range h]
    show some (clG (fun j => (numb (colA C) 256 j : Nat)) (.slice (some ⟨nb, no, none⟩) C.n nc) (.slice ea C.n ec) j) = _
    unfold clG
    by_cases h1 : j < 256
    · rw [if_pos h1, autB_cls _ _ _ _ _ h1]
      unfold autOf
      dsimp only
      rw [getD_map_range _ h1]
    · rw [if_neg h1]
      by_cases h2 : j = 256
      · subst h2
        rw [if_pos rfl, autB_next, autOf_n]
      · rw [if_neg h2]
        have : j = 257 := by omega
        subst this
        rw [autB_ends, autOf_ne]
  · rw [Array.getElem?_eq_none (by simp; omega), Array.getElem?_eq_none (by rw [autB_size]; omega)]
end
end Go.Proofs.YtkkdpafkafjfgaaDoor

namespace Go.Proofs.YtkkdpafkafjfgaaDoor
open Go.RowKit RR
set_option linter.unusedVariables false
set_option linter.unusedSimpArgs false
set_option maxRecDepth 100000
def encB' : Enc Tryd.prog 9 (List Bool) where
  enc S := .string (keyB S)
  D S := S.length ≤ 100000
  key S h := ⟨_, Go.WideMaps.keyOf_string_mk Tryd.underlying9 (by have : (keyB S).size = S.length := keyL_len S; rw [this]; unfold maxLen; omega)⟩
  inj x y _ _ h := by injection h with h; exact keyB_inj h
theorem keyB' : Maps.Keyed Tryd.prog 9 := Maps.string_keyed Tryd.underlying9
abbrev LEnt := List Bool × Nat × Nat
def lentC (m : Nat) (x : LEnt) : List Value := [.slice (some ⟨x.2.1, 0, none⟩) m x.2.2]
def enL (x : LEnt) : Bool := inB x.1 1
def Lens (w wr : World) (m : Nat) (ks : List LEnt) (Ft : Nat → Prop) : Prop := ∀ x ∈ ks, x.1.length = m ∧ BoolsAt wr x.2.1 x.1 ∧ w.heap.size ≤ x.2.1 ∧ x.2.1 < wr.heap.size ∧ ¬ Ft x.2.1
abbrev SetSo (m : Nat) (w wr : World) (mb rb : Nat) (ks : List LEnt) (rows : List (Nat → Nat)) (me : Nat) (lv nv ev : Value) (O : Obj) : Prop := ExSo encB' 28 1 (lentC m) enL w wr mb rb (ks.map (·.1)) ks rows me lv nv ev O
def ixOf {α : Type} [DecidableEq α] (l : List α) (x : α) : Nat := l.idxOf x
theorem ixOf_pre {α : Type} [DecidableEq α] {l : List α} {x : α} (h : x ∈ l) (y : α) : ixOf (l ++ [y]) x = ixOf l x := idx_pre h
def DoneI (N : NetP) (kS : List (List Bool)) (dl : List (List Bool × Value)) : Prop := ∀ x ∈ dl, closeB N x.1 ∈ kS ∧ x.2 = .int .i64 (ixOf kS (closeB N x.1) : Nat)
theorem DoneI.more {N : NetP} {kS : List (List Bool)} {dl : List (List Bool × Value)} (h : DoneI N kS dl) (y : List Bool) : DoneI N (kS ++ [y]) dl := fun x hx => by
  obtain ⟨h1, h2⟩ := h x hx
  exact ⟨List.mem_append_left _ h1, by rw [ixOf_pre h1]; exact h2⟩
theorem DoneI.put {N : NetP} {kS : List (List Bool)} {dl : List (List Bool × Value)} (h : DoneI N kS dl) {Q : List Bool} (hm : closeB N Q ∈ kS) : DoneI N kS (dl ++ [(Q, .int .i64 (ixOf kS (closeB N Q) : Nat))]) := fun x hx => by
  rcases List.mem_append.1 hx with hx | hx
  · exact h x hx
  · rw [List.mem_singleton] at hx; subst hx; exact ⟨hm, rfl⟩
structure SetMem (m : Nat) (w wr : World) (mb rb g0 db : Nat) (c : Nat) (ks : List LEnt) (rows : List (Nat → Nat)) (me : Nat) (row : Nat → Nat) (dl : List (List Bool × Value)) (lv nv ev : Value) (O : Obj) : Prop where
  so : SetSo m w wr mb rb ks rows me lv nv ev O
  arr : ArrAt wr g0 0 256 fun j => .int .i64 ((if j < c then row j else 0 : Nat) : Int)
  fg : ¬ Foot mb rb lv nv ev g0
  dm : KMap encB' wr db dl
  fd : ¬ Foot mb rb lv nv ev db
  ne : db ≠ g0
  lo : w.heap.size ≤ g0 ∧ w.heap.size ≤ db
  lens : Lens w wr m ks fun k => Foot mb rb lv nv ev k ∨ k = g0 ∨ k = db
theorem Lens.kept {w wr w' : World} {m : Nat} {ks : List LEnt} {Ft : Nat → Prop} (h : Lens w wr m ks Ft) (g : Grew wr w') : Lens w w' m ks Ft := fun x hx => by
  obtain ⟨h1, h2, h3, h4, h5⟩ := h x hx
  exact ⟨h1, ArrAt.kept h2 g, h3, Nat.lt_of_lt_of_le h4 g.size, h5⟩
section
variable {m : Nat} {w wr w' : World} {mb rb g0 db c : Nat} {ks : List LEnt} {rows : List (Nat → Nat)} {me : Nat} {row : Nat → Nat} {dl : List (List Bool × Value)} {lv nv ev : Value} {O : Obj}
theorem SetMem.kept (h : SetMem m w wr mb rb g0 db c ks rows me row dl lv nv ev O) (g : Grew wr w') : SetMem m w w' mb rb g0 db c ks rows me row dl lv nv ev O :=
  ⟨h.so.kept g, h.arr.kept g, h.fg, h.dm.kept g, h.fd, h.ne, h.lo, h.lens.kept g⟩
theorem SetMem.rowPut (h : SetMem m w wr mb rb g0 db c ks rows me row dl lv nv ev O) (hc : c < 256) (q : Nat) : SetMem m w (wr.setCell ⟨g0, c, none⟩ (.int .i64 (q : Nat))) mb rb g0 db (c + 1) ks rows me (fun d => if d = c then q else row d) dl lv nv ev O := by
  have hs : (wr.setCell ⟨g0, c, none⟩ (.int .i64 (q : Nat))).heap.size = wr.heap.size := by simp [World.setCell]
  refine ⟨h.so.same (h.so.grew.setCell (p := ⟨g0, c, none⟩) h.lo.1 _) (Nat.le_of_eq hs.symm) fun k hk => q_set_other _ _ (fun e => h.fg (e ▸ hk)), arr_next hc h.arr, h.fg, h.dm.block (q_set_other _ _ (Ne.symm h.ne)), h.fd, h.ne, h.lo, fun x hx => ?_⟩
  obtain ⟨h1, h2, h3, h4, h5⟩ := h.lens x hx
  exact ⟨h1, arr_block h2 (q_set_other _ _ (fun e => h5 (Or.inr (Or.inl e.symm)))), h3, by rw [hs]; exact h4, h5⟩
theorem SetMem.donePut (h : SetMem m w wr mb rb g0 db c ks rows me row dl lv nv ev O) {Q : List Bool} (hQ : Q.length ≤ 100000) (hn : Q ∉ dl.map (·.1)) (q : Nat) :
    ∃ w1, (Instr.mapUpdate 164 (.map (some db)) (.string (keyB Q)) (.int .i64 (q : Nat))).run Tryd.prog wr = .ok () w1 ∧ SetMem m w w1 mb rb g0 db c ks rows me row (dl ++ [(Q, .int .i64 (q : Nat))]) lv nv ev O ∧ w1.heap.size = wr.heap.size := by
  obtain ⟨w1, p1, p2, p3, p4⟩ := h.dm.put keyB' (t := 164) Tryd.underlying164 (x := Q) hQ hn (.int .i64 (q : Nat))
  have hk : ∀ k, k < wr.heap.size → k ≠ db → w1.heap[k]? = wr.heap[k]? := fun k hk hm => p3.block k hk (fun e => by injection e with e; exact hm e)
  refine ⟨w1, p1, ⟨h.so.same (grew_grown h.so.grew p3 fun b e => by injection e with e; rw [← e]; exact h.lo.2) (Nat.le_of_eq p4.symm) fun k hf => hk k (h.so.foot_lt hf) (fun e => h.fd (e ▸ hf)), arr_block h.arr (hk g0 (h.arr.lt (by omega)) (Ne.symm h.ne)), h.fg, p2, h.fd, h.ne, h.lo, fun x hx => ?_⟩, p4⟩
  obtain ⟨h1, h2, h3, h4, h5⟩ := h.lens x hx
  exact ⟨h1, arr_block h2 (hk _ h4 fun e => h5 (Or.inr (Or.inr e))), h3, by rw [p4]; exact h4, h5⟩
theorem SetMem.push (h : SetMem m w wr mb rb g0 db c ks rows me row dl lv nv ev O) {S : List Bool} {b cp : Nat} (hS : S.length = m) (hm : m ≤ 100000) (hn : S ∉ ks.map (·.1)) (hB : BoolsAt wr b S) (hb : w.heap.size ≤ b) (hbl : b < wr.heap.size) (hf : ¬ (Foot mb rb lv nv ev b ∨ b = g0 ∨ b = db)) (hl : ks.length ≤ 9000) (hr : me ≤ ks.length) (ty : TypeId) :
    ∃ w1, (Instr.mapUpdate 164 (.map (some mb)) (.string (keyB S)) (.int .i64 (ks.length : Nat))).run Tryd.prog wr = .ok () w1 ∧ w1.heap.size = wr.heap.size ∧
      ∃ va vc w2, (Builtin.append_ #[167, 167] ty #[lv, .slice (some ⟨w1.heap.size, 0, none⟩) 1 1]).run Tryd.prog (w1.alloc (.cells #[.slice (some ⟨b, 0, none⟩) m cp] 28)) = .ok (.slice va (ks.length + 1) vc) w2 ∧
        SetMem m w w2 mb rb g0 db c (ks ++ [(S, b, cp)]) rows me row dl (.slice va (ks.length + 1) vc) nv ev O := by
  obtain ⟨i0, hi0, z0, z1, z2⟩ : ∃ i0, Tryd.prog.info? 28 = some i0 ∧ i0.zero = some (.slice none 0 0) ∧ i0.size = 1 ∧ i0.bytes = 24 := info_parts (show (Tryd.prog.info? 28).map (fun i => (i.zero, i.size, i.bytes)) = some (some (.slice none 0 0), 1, 24) by kernel_rfl)
  obtain ⟨w1, hput, hs6, hk1, v', w2, hap, ⟨va, vc, rfl⟩, hS2, hall⟩ := h.so.add (mt := 164) (lt := 167) keyB' Tryd.underlying164 Tryd.underlying167 hi0 z0 z1 z2 rfl (x := (S, b, cp)) (y := S) (by show S.length ≤ 100000; omega) hn (by rw [List.length_map]) rfl (fun u hu => by
    unfold lentC at hu; rw [List.mem_singleton] at hu; rw [hu]; rfl) (by omega) (by omega) hr 28 ty
  refine ⟨w1, hput, hs6, va, vc, w2, by rw [hs6]; exact hap, ?_⟩
  have hgl := h.arr.lt (show 0 < 256 by omega)
  have hdl := h.dm.lt
  obtain ⟨a1, a2⟩ := hall g0 hgl h.fg
  obtain ⟨d1, d2⟩ := hall db hdl h.fd
  have hmap : (ks ++ [(S, b, cp)]).map (·.1) = ks.map (·.1) ++ [S] := by rw [List.map_append]; rfl
  have ent : ∀ (T : List Bool) (k : Nat), T.length = m → BoolsAt wr k T → w.heap.size ≤ k → k < wr.heap.size → ¬ (Foot mb rb lv nv ev k ∨ k = g0 ∨ k = db) → BoolsAt w2 k T ∧ k < w2.heap.size ∧ ¬ (Foot mb rb (.slice va (ks.length + 1) vc) nv ev k ∨ k = g0 ∨ k = db) := fun T k h1 h2 h3 h4 h5 => by
    obtain ⟨e1, e2⟩ := hall k h4 fun e => h5 (Or.inl e)
    refine ⟨arr_block h2 e1, ?_, fun hx => ?_⟩
    · rw [Array.getElem?_eq_getElem h4] at e1
      exact (Array.getElem?_eq_some_iff.1 e1).1
    · rcases hx with hx | hx
      · exact e2 hx
      · exact h5 (Or.inr hx)
  refine ⟨by unfold SetSo; rw [hmap]; exact hS2, arr_block h.arr a1, a2, h.dm.block d1, d2, h.ne, h.lo, fun x hx => ?_⟩
  rcases List.mem_append.1 hx with hx | hx
  · obtain ⟨h1, h2, h3, h4, h5⟩ := h.lens x hx
    obtain ⟨e1, e2, e3⟩ := ent x.1 x.2.1 h1 h2 h3 h4 h5
    exact ⟨h1, e1, h3, e2, e3⟩
  · rw [List.mem_singleton] at hx; subst hx
    obtain ⟨e1, e2, e3⟩ := ent S b hS hB hb hbl hf
    exact ⟨hS, e1, hb, e2, e3⟩
end
theorem SetSo.table {m : Nat} {w wr w' : World} {mb rb : Nat} {ks : List LEnt} {rows : List (Nat → Nat)} {lv nv ev : Value} {O : Obj} {first : List Bool} {st : List Bool → Nat → List Bool} {D : List Bool → Prop} {c : Nat} {row : Nat → Nat}
    (h : SetSo m w wr mb rb ks rows ks.length lv nv ev O) (hX : Exp first st D (ks.map (·.1)) rows ks.length c row) (hw : ∀ k, w.heap.size ≤ k → w'.heap[k]? = wr.heap[k]?) : TabIn w' (expA (fun S => inB S 1) first (ks.map (·.1)) rows) (.agg #[nv, ev]) := by
  have hl := hX.len
  have hn : (ks.map (·.1)).length = ks.length := List.length_map _
  have hp := hX.head.2
  rw [hn] at hp
  obtain ⟨nb, no, nc, e1, l1, _, _, _, hc⟩ := h.next.at (by omega)
  obtain ⟨eb, eo, ec, e2, l2, _, _, _, hc2⟩ := h.ends.at (by omega)
  rw [hl] at hc
  have hR : (expA (fun S => inB S 1) first (ks.map (·.1)) rows).n = ks.length := hn
  refine ⟨nb, no, nc, eb, eo, ec, by rw [e1, e2, hl, hR], fun s d hs hd => ?_, fun s hs => ?_⟩
  · have hs : s < ks.length := by rw [← hR]; exact hs
    rw [Nat.add_assoc, World.cell?_of_block (a := ⟨nb, no + (s * 256 + d), none⟩) (hw nb l1)]
    exact hc (s * 256 + d) _ (by have : (s + 1) * 256 ≤ ks.length * 256 := Nat.mul_le_mul_right _ hs; omega) (rowsC_get hd rows s (by omega))
  · have hs : s < ks.length := by rw [← hR]; exact hs
    rw [World.cell?_of_block (a := ⟨eb, eo + s, none⟩) (hw eb l2)]
    refine hc2 s _ (by omega) ?_
    rw [List.take_length, List.getElem?_map, List.getElem?_eq_getElem hs]
    show some (Value.bool (enL ks[s])) = some (.bool (inB ((ks.map (·.1)).getD s first) 1))
    rw [List.getD_eq_getElem?_getD, List.getElem?_map, List.getElem?_eq_getElem hs]; rfl
def nextJ (N : NetP) (S : List Bool) (c j : Nat) : List Bool := targB N.places ((N.arrows.take j).filter fun a => a.has c && inB S a.fr)
theorem nextJ_len (N : NetP) (S : List Bool) (c j : Nat) : (nextJ N S c j).length = N.places := onB_len _ _
theorem nextJ_zero (N : NetP) (S : List Bool) (c : Nat) : nextJ N S c 0 = onB N.places fun _ => false := rfl
theorem nextJ_done (N : NetP) (S : List Bool) (c : Nat) : nextJ N S c N.arrows.length = stepB N S c := by unfold nextJ stepB; rw [List.take_length]
theorem nextJ_not {N : NetP} {S : List Bool} {c j : Nat} {a : NArr} (ha : N.arrows[j]? = some a) (h : (a.has c && inB S a.fr) = false) : nextJ N S c (j + 1) = nextJ N S c j := by
  unfold nextJ
  rw [List.take_add_one, ha, List.filter_append]
  simp [h]
theorem nextJ_put {N : NetP} (ok : N.Ok) {S : List Bool} {c j : Nat} {a : NArr} (ha : N.arrows[j]? = some a) (h : (a.has c && inB S a.fr) = true) : nextJ N S c (j + 1) = putB (nextJ N S c j) a.to := by
  have hto : a.to < N.places := (ok a (List.mem_of_getElem? ha)).2
  have e : nextJ N S c (j + 1) = targB N.places (((N.arrows.take j).filter fun a => a.has c && inB S a.fr) ++ [a]) := by
    unfold nextJ
    rw [List.take_add_one, ha, List.filter_append]
    congr 2
    show [a].filter _ = [a]
    rw [List.filter_cons, if_pos h]; rfl
  rw [e]
  unfold putB
  rw [nextJ_len]
  unfold targB onB
  refine List.map_congr_left fun q hq => ?_
  have hq' := List.mem_range.1 hq
  have hin : inB (nextJ N S c j) q = ((N.arrows.take j).filter fun a => a.has c && inB S a.fr).any fun a => a.to == q := onB_in hq'
  rw [List.any_append, hin]
  by_cases e : q = a.to
  · subst e; simp
  · have : (a.to == q) = false := by simpa using Ne.symm e
    simp [e, this]
theorem Lens.move {w wr w' : World} {m : Nat} {ks : List LEnt} {Ft Ft' : Nat → Prop} (h : Lens w wr m ks Ft) (hk : ∀ k, k < wr.heap.size → ¬ Ft k → w'.heap[k]? = wr.heap[k]? ∧ ¬ Ft' k) : Lens w w' m ks Ft' := fun x hx => by
  obtain ⟨h1, h2, h3, h4, h5⟩ := h x hx
  obtain ⟨k1, k2⟩ := hk _ h4 h5
  refine ⟨h1, arr_block h2 k1, h3, ?_, k2⟩
  rw [Array.getElem?_eq_getElem h4] at k1
  exact (Array.getElem?_eq_some_iff.1 k1).1
theorem Lens.less {w wr : World} {m : Nat} {ks : List LEnt} {Ft Ft' : Nat → Prop} (h : Lens w wr m ks Ft) (hk : ∀ k, Ft' k → Ft k) : Lens w wr m ks Ft' := fun x hx => by
  obtain ⟨h1, h2, h3, h4, h5⟩ := h x hx
  exact ⟨h1, h2, h3, h4, fun hf => h5 (hk _ hf)⟩
theorem SetSo.pushOwn {m : Nat} {w wr : World} {mb rb : Nat} {ks : List LEnt} {rows : List (Nat → Nat)} {me : Nat} {lv nv ev : Value} {O : Obj} (h : SetSo m w wr mb rb ks rows me lv nv ev O) {row : Nat → Nat} (hk : rows.length ≤ 9000) {ty : TypeId} {v' : Value} {w2 : World}
    (hap : (Builtin.append_ #[90, 90] ty #[nv, .slice (some ⟨wr.heap.size, 0, none⟩) 1 1]).run Tryd.prog (wr.alloc (.cells (rowI fun c => (row c : Nat)) 26)) = .ok v' w2) : ∀ k, v'.ownBlock = some k → nv.ownBlock = some k ∨ wr.heap.size ≤ k := by
  obtain ⟨i0, hi0, hz0, hz1, hz2⟩ := info_rowx
  have h2 := ExSo.kept h ((Grew.refl wr).alloc (.cells (rowI fun c => (row c : Nat)) 26))
  obtain ⟨v'', w'', a1, a2, a3, a4⟩ := QRow.append (P := Tryd.prog) agg_rows hi0 hz0 hz1 hz2 (rowI_size _) h2.next h2.grew.size wr.heap.size 1 (rowI fun c => (row c : Nat)).toList (rowI_list _) (fun j u hu => by
    unfold World.cell?
    dsimp only
    rw [heap_alloc_new wr _]
    rw [Array.getElem?_toList] at hu
    exact hu) (fun u hu => by
    obtain ⟨j, _, rfl⟩ := List.mem_map.1 (show u ∈ (List.range 256).map fun j => Value.int .i64 ((row j : Nat) : Int) from hu)
    rfl) (by unfold maxLen; omega) (by omega) ty
  rw [hap] at a1
  injection a1 with e1 e2
  subst e1
  intro k hk2
  rcases a4 with e | e
  · exact Or.inl (by rw [← e]; exact hk2)
  · rw [e] at hk2; cases hk2
    rw [World.size_alloc]; exact Or.inr (Nat.le_succ _)
theorem SetSo.setRaw {m : Nat} {w wr : World} {mb rb : Nat} {ks : List LEnt} {rows : List (Nat → Nat)} {me : Nat} {lv nv ev : Value} {cs : Array Value} {T : TypeId} (h : SetSo m w wr mb rb ks rows me lv nv ev (.cells cs T (0, 0))) (o : Nat) (v : Value) :
    SetSo m w (wr.setCell ⟨rb, o, none⟩ v) mb rb ks rows me lv nv ev (.cells (cs.setIfInBounds o v) T (0, 0)) := by
  have hk : ∀ k, k ≠ rb → (wr.setCell ⟨rb, o, none⟩ v).heap[k]? = wr.heap[k]? := fun k hk => q_set_other _ _ (Ne.symm hk)
  have hsz : (wr.setCell ⟨rb, o, none⟩ v).heap.size = wr.heap.size := by simp [World.setCell]
  refine ⟨h.grew.setCell (p := ⟨rb, o, none⟩) h.lo.2.1 _, h.map.block (hk _ h.lo.2.2), h.list.kept fun k hk2 _ => hk k (h.ownl k hk2).2.1, q_set_same h.raw o v, h.next.kept fun k hk2 _ => hk k (h.ownn k hk2).2.1, h.ends.kept fun k hk2 _ => hk k (h.owne k hk2).2.1, h.lo, fun k hk2 => ?_, fun k hk2 => ?_, fun k hk2 => ?_, h.ln, h.ne⟩
  · rw [hsz]; exact h.ownl k hk2
  · rw [hsz]; exact h.ownn k hk2
  · rw [hsz]; exact h.owne k hk2
theorem lentC_flat (m : Nat) (ks : List LEnt) : ks.flatMap (lentC m) = ks.map fun x => Value.slice (some ⟨x.2.1, 0, none⟩) m x.2.2 := flat_one (fun x : LEnt => Value.slice (some ⟨x.2.1, 0, none⟩) m x.2.2) ks
end Go.Proofs.YtkkdpafkafjfgaaDoor
