/- Numbering by coming to, in memory. -/
import Derived.Test.YtkkdpafkafjfgaaDoorMkPAuEy
namespace Go.Proofs.YtkkdpafkafjfgaaDoor
open Go.RowKit RR
set_option linter.unusedVariables false
set_option maxRecDepth 100000
set_option linter.unusedSectionVars false
def AutNew (B : Nat) (w' : World) (A : Aut) (na ea : Option Addr) : Prop := ∀ w'', w'.heap.size ≤ w''.heap.size → (∀ k, B ≤ k → k < w'.heap.size → w''.heap[k]? = w'.heap[k]?) → AutAt w'' A na ea
theorem AutNew.at {B : Nat} {w' : World} {A : Aut} {na ea : Option Addr} (h : AutNew B w' A na ea) : AutAt w' A na ea := h w' (Nat.le_refl _) fun _ _ _ => rfl
def AutEnd (R : RA) (w : World) : Ending → World → Prop := fun e w' => ∃ A na nc ea ec, e = .returned (.agg (autB A na nc ea ec)) ∧ LeastOf R A ∧ AutNew w.heap.size w' A na ea ∧ Grew w w'
theorem autAt_of {w : World} {C : RA} (ok : C.Ok) (hn : C.n ≤ 8192) {na ea : Option Addr} (h1 : RowsAt w na (autOf C).next) (h2 : SlAt w ea C.n fun i => .bool (C.en i)) : AutAt w (autOf C) na ea := by
  have hR := autOf_right ok hn
  have hf : ∀ c, c < 256 → ((autOf C).next.getD 0 []).length ≤ 256 := fun c hc => by
    rw [autOf_row ok.pos, List.length_map]
    have h := (fsts_numb (colA C) hc).1
    have := nodup_lt 256 (l := fsts (colA C) 256) ?_ (fsts_lt _ 256)
    · exact this
    · rw [List.nodup_iff_pairwise_ne, List.pairwise_iff_getElem]
      intro i j hi hj hij e
      have h1 := uniq_nodup ((List.range 256).map (colA C))
      rw [uniq_fsts] at h1
      have h2 := nodup_of_map _ h1
      rw [List.nodup_iff_pairwise_ne, List.pairwise_iff_getElem] at h2
      exact h2 i j hi hj hij e
  have hb : ∀ x : Int, 0 ≤ x → x ≤ 8192 → bdI x := fun x h1 h2 => ⟨by omega, by omega⟩
  refine ⟨autOf_c C, fun j hj => ?_, h1, ?_, ?_, ?_, fun i hi => ?_, fun i hi j hj => ?_⟩
  · have := hR.cl (autOf_c C) hj
    have := hf 0 (by omega)
    exact hb _ (by omega) (by omega)
  · rw [autOf_ne]
    exact h2.congr fun i hi => by unfold autOf; dsimp only; rw [getD_map_range _ hi]
  · rw [autOf_n]; unfold maxLen; omega
  · rw [autOf_ne]; unfold maxLen; omega
  · have := (hR.row _ (getD_memL (d := []) hi)).1
    have := hf 0 (by omega)
    unfold maxLen; omega
  · have h3 := (hR.row _ (getD_memL (d := []) hi)).2 _ (getD_memL (d := 0) hj)
    rw [autOf_n] at h3
    exact hb _ h3.1 (by omega)
def zAut : Array Value := (rowI fun _ => 0) ++ #[.slice none 0 0, .slice none 0 0]
theorem zero_aut (w : World) : (zeroValue 30).run Tryd.prog w = .ok (.agg zAut) w := run_zero (by kernel_rfl) w
def aCells (ev : Value) : Array Value := (rowI fun _ => 0) ++ #[.slice none 0 0, ev]
theorem aCells_size (ev : Value) : (aCells ev).size = 258 := by unfold aCells; rw [Array.size_append, rowI_size]; rfl
theorem aCells_end (ev : Value) : (aCells ev)[257]? = some ev := by
  unfold aCells; rw [Array.getElem?_append_right (by rw [rowI_size]; omega), rowI_size]; rfl
theorem aCells_set (ev v : Value) : (aCells ev).setIfInBounds 257 v = aCells v := by
  apply Array.ext_getElem?
  intro j
  by_cases e : j = 257
  · subst e
    rw [Array.getElem?_setIfInBounds_self_of_lt (by rw [aCells_size]; omega), aCells_end]
  · rw [Array.getElem?_setIfInBounds_ne (Ne.symm e)]
    unfold aCells
    by_cases h : j < 256
    · rw [Array.getElem?_append_left (by rw [rowI_size]; exact h), Array.getElem?_append_left (by rw [rowI_size]; exact h)]
    · rw [Array.getElem?_append_right (by rw [rowI_size]; omega), Array.getElem?_append_right (by rw [rowI_size]; omega), rowI_size]
      by_cases h2 : j = 256
      · subst h2; rfl
      · have : 2 ≤ j - 256 := by omega
        rw [Array.getElem?_eq_none (by simpa using this), Array.getElem?_eq_none (by simpa using this)]
structure NuP (R : RA) (g : Nat → Nat) (ord T : List Nat) (rows : List (Nat → Nat)) (k c : Nat) (row : Nat → Nat) : Prop where
  bfs : Bfs R g ord T
  len : T.length = 256 * k + c
  rl : rows.length = k
  old : ∀ s, s < k → ∀ d, d < 256 → (rows.getD s fun _ => 0) d = T.getD (256 * s + d) 0
  new : ∀ d, d < c → row d = T.getD (256 * k + d) 0
  klt : k ≤ ord.length
section
variable {R : RA} {g : Nat → Nat} {ord T : List Nat} {rows : List (Nat → Nat)} {k c : Nat} {row : Nat → Nat}
theorem NuP.start (ok : R.Ok) (g : Nat → Nat) : NuP R g [0] [] [] 0 0 (fun _ => 0) := ⟨Bfs.start ok g, rfl, rfl, fun s hs => by omega, fun d hd => by omega, by simp⟩
theorem NuP.at (h : NuP R g ord T rows k c row) (hc : c < 256) : T.length / 256 = k ∧ T.length % 256 = c := by rw [h.len]; omega
theorem map_getD {α : Type} (f : Nat → α) {l : List Nat} {i : Nat} (h : i < l.length) : (l.map f)[i]? = some (f (l.getD i 0)) := by
  rw [List.getElem?_map, List.getD_eq_getElem?_getD, List.getElem?_eq_getElem h]; rfl
theorem NuP.add {o2 : List Nat} {v : Nat} (h : NuP R g ord T rows k c row) (hc : c < 256) (hb : Bfs R g o2 (T ++ [v])) (hl : ord.length ≤ o2.length) : NuP R g o2 (T ++ [v]) rows k (c + 1) (fun d => if d = c then v else row d) := by
  refine ⟨hb, by rw [List.length_append, h.len]; simp; omega, h.rl, fun s hs d hd => ?_, fun d hd => ?_, Nat.le_trans h.klt hl⟩
  · rw [getD_snoc_lt (by rw [h.len]; omega)]; exact h.old s hs d hd
  · by_cases e : d = c
    · subst e
      rw [if_pos rfl]
      have := getD_snoc_eq T v
      rw [h.len] at this
      exact this.symm
    · rw [if_neg e, getD_snoc_lt (by rw [h.len]; omega)]; exact h.new d (by omega)
theorem NuP.seen (h : NuP R g ord T rows k c row) (hk : k < ord.length) (hc : c < 256) (hm : g (R.nx (ord.getD k 0) c) ∈ ord.map g) :
    NuP R g ord (T ++ [(ord.map g).idxOf (g (R.nx (ord.getD k 0) c))]) rows k (c + 1) (fun d => if d = c then (ord.map g).idxOf (g (R.nx (ord.getD k 0) c)) else row d) := by
  obtain ⟨e1, e2⟩ := h.at hc
  have hj := idx_lt hm
  rw [List.length_map] at hj
  refine h.add hc (h.bfs.old (by rw [e1]; exact hk) hj ?_) (Nat.le_refl _)
  rw [e1, e2]
  have h1 := idx_get hm
  rw [map_getD g hj] at h1
  exact Option.some.inj h1
theorem NuP.fresh (ok : R.Ok) (h : NuP R g ord T rows k c row) (hk : k < ord.length) (hc : c < 256) (hm : g (R.nx (ord.getD k 0) c) ∉ ord.map g) :
    NuP R g (ord ++ [R.nx (ord.getD k 0) c]) (T ++ [ord.length]) rows k (c + 1) (fun d => if d = c then ord.length else row d) := by
  obtain ⟨e1, e2⟩ := h.at hc
  have := h.bfs.new ok (by rw [e1]; exact hk) (by rw [e1, e2]; exact hm)
  rw [e1, e2] at this
  exact h.add hc this (by rw [List.length_append]; omega)
theorem NuP.rowed (h : NuP R g ord T rows k 256 row) (hk : k < ord.length) : NuP R g ord T (rows ++ [row]) (k + 1) 0 (fun _ => 0) := by
  refine ⟨h.bfs, by rw [h.len]; omega, by rw [List.length_append, h.rl]; rfl, fun s hs d hd => ?_, fun d hd => by omega, hk⟩
  by_cases e : s < k
  · rw [List.getD_eq_getElem?_getD (l := rows ++ [row]), List.getElem?_append_left (by rw [h.rl]; exact e), ← List.getD_eq_getElem?_getD]
    exact h.old s e d hd
  · have : s = k := by omega
    subst this
    rw [List.getD_eq_getElem?_getD (l := rows ++ [row]), List.getElem?_append_right (by rw [h.rl]; exact Nat.le_refl _), h.rl, Nat.sub_self]
    exact h.new d hd
theorem NuP.ord_le (h : NuP R g ord T rows k c row) : ord.length ≤ R.n := nodup_lt R.n (nodup_of_map g h.bfs.dis) h.bfs.lt
theorem NuP.made (h : NuP R g ord T rows ord.length 0 row) : Made R g ord (bfsA R ord T) := h.bfs.made (by rw [h.len]; rfl)
theorem NuP.least (ok : R.Ok) (hg : Groups R g) (h : NuP R g ord T rows ord.length 0 row) : LeastOf R (autOf (bfsA R ord T)) ∧ (bfsA R ord T).Ok := ⟨h.made.least ok hg, (h.made.can ok hg).1.ok⟩
end
section
variable {α β : Type} [DecidableEq α] {P : Program} {kt : TypeId} {E : Enc P kt β} {et : TypeId} {esz : Nat} {cells : α → List Value} {en : α → Bool} {w wr w' : World} {mb rb : Nat} {ks : List α} {rows : List (Nat → Nat)} {lv nv ev : Value} {kz : List β} {me : Nat} {O : Obj}
theorem ExSo.pushRow (h : ExSo E et esz cells en w wr mb rb kz ks rows me lv nv ev O) {row : Nat → Nat} (hk : rows.length ≤ 9000) (ty : TypeId) :
    ∃ v' w2, (Builtin.append_ #[90, 90] ty #[nv, .slice (some ⟨wr.heap.size, 0, none⟩) 1 1]).run Tryd.prog (wr.alloc (.cells (rowI fun c => (row c : Nat)) 26)) = .ok v' w2 ∧ (∃ a cp, v' = .slice a (rows.length + 1) cp) ∧ ExSo E et esz cells en w w2 mb rb kz ks (rows ++ [row]) me lv v' ev O ∧
      ∀ k, k < wr.heap.size → ¬ Foot mb rb lv nv ev k → w2.heap[k]? = wr.heap[k]? := by
  obtain ⟨i0, hi0, hz0, hz1, hz2⟩ := info_rowx
  have h2 := h.kept ((Grew.refl wr).alloc (.cells (rowI fun c => (row c : Nat)) 26))
  obtain ⟨v', w2, a1, a2, a3, a4⟩ := QRow.append (P := Tryd.prog) agg_rows hi0 hz0 hz1 hz2 (rowI_size _) h2.next h2.grew.size wr.heap.size 1 (rowI fun c => (row c : Nat)).toList (rowI_list _) (fun j u hu => by
    unfold World.cell?
    dsimp only
    rw [heap_alloc_new wr _]
    rw [Array.getElem?_toList] at hu
    exact hu) (fun u hu => by
    obtain ⟨j, _, rfl⟩ := List.mem_map.1 (show u ∈ (List.range 256).map fun j => Value.int .i64 ((row j : Nat) : Int) from hu)
    rfl) (by unfold maxLen; omega) (by omega) ty
  rw [← rowsC_snoc] at a2
  have hs2 := a3.size
  rw [World.size_alloc] at hs2
  have hall : ∀ k, k < wr.heap.size → nv.ownBlock ≠ some k → w2.heap[k]? = wr.heap[k]? := fun k hk hq => by
    rw [a3.block k (by rw [World.size_alloc]; omega) (fun e => hq e.symm), heap_alloc_old _ _ hk]
  have hnl : (∀ k, v'.ownBlock = some k → nv.ownBlock = some k ∨ wr.heap.size ≤ k ∧ k < w2.heap.size) := fun k hk => by
    rcases a4 with e | e
    · exact Or.inl (by rw [← e]; exact hk)
    · rw [e] at hk; cases hk
      obtain ⟨b', _, _, e2, _, hlt2, _⟩ := a2.at (by omega)
      rw [e2] at e; cases e
      exact Or.inr ⟨by rw [World.size_alloc]; omega, hlt2⟩
  have hm := h.map.lt
  have hrb := (Array.getElem?_eq_some_iff.1 h.raw).1
  refine ⟨v', w2, a1, ?_, ⟨grew_grown h2.grew a3 fun b e => (h.ownn b e).2.2.1, ?_, ?_, ?_, ?_, ?_, h.lo, fun k hk => ?_, fun k hk => ?_, fun k hk => ?_, fun k hk => ?_, fun k hk => ?_⟩, fun k hk hf => hall k hk (fun e => hf (Or.inr (Or.inr (Or.inr (Or.inl e)))))⟩
  · obtain ⟨_, a, cp, e, _⟩ := a2; exact ⟨a, cp, e⟩
  · exact h.map.block (hall mb hm (fun e => (h.ownn _ e).1 rfl))
  · exact h.list.kept fun k hk hlt => hall k hlt (h.ln k hk).1
  · rw [hall rb hrb (fun e => (h.ownn _ e).2.1 rfl)]; exact h.raw
  · rw [List.length_append]; exact a2
  · exact h.ends.kept fun k hk hlt => hall k hlt (fun e => h.ne k e hk)
  · obtain ⟨p1, p2, p3, p4⟩ := h.ownl k hk; exact ⟨p1, p2, p3, by omega⟩
  · rcases hnl k hk with e | ⟨e1, e2⟩
    · obtain ⟨p1, p2, p3, p4⟩ := h.ownn k e; exact ⟨p1, p2, p3, by omega⟩
    · have := h.grew.size
      exact ⟨by omega, by omega, by omega, e2⟩
  · obtain ⟨p1, p2, p3, p4⟩ := h.owne k hk; exact ⟨p1, p2, p3, by omega⟩
  · refine ⟨fun e => ?_, (h.ln k hk).2⟩
    rcases hnl k e with e2 | ⟨e1, _⟩
    · exact (h.ln k hk).1 e2
    · have := (h.ownl k hk).2.2.2; omega
  · intro e
    rcases hnl k hk with e2 | ⟨e1, _⟩
    · exact h.ne k e2 e
    · have := (h.owne k e).2.2.2; omega
def EndApp (w wb : World) (ev : Value) (n : Nat) (xs : List Value) (v : Value) (w' : World) : Prop := QRow w' w.heap.size 4 1 v n xs ∧ ∀ k, v.ownBlock = some k → ev.ownBlock = some k ∨ wb.heap.size ≤ k ∧ k < w'.heap.size
theorem ExSo.pushEnd (h : ExSo E et esz cells en w wr mb rb kz ks rows me lv nv ev O) {x : α} (hx : ks[me]? = some x) {v : Value} {w1 : World} (hA : EndApp w wr ev (me + 1) (((ks.take me).map fun x => Value.bool (en x)) ++ [.bool (en x)]) v w1) (g : wr.grownBy w1 ev.ownBlock) {o : Nat} {cs : Array Value} {T : TypeId} (hO : O = .cells cs T (0, 0)) :
    ExSo E et esz cells en w (w1.setCell ⟨rb, o, none⟩ v) mb rb kz ks rows (me + 1) lv nv v (.cells (cs.setIfInBounds o v) T (0, 0)) := by
  obtain ⟨hq, ho⟩ := hA
  have hm := h.map.lt
  have hrb := (Array.getElem?_eq_some_iff.1 h.raw).1
  have hall : ∀ k, k < wr.heap.size → ev.ownBlock ≠ some k → k ≠ rb → (w1.setCell ⟨rb, o, none⟩ v).heap[k]? = wr.heap[k]? := fun k hk hq hr => by
    rw [q_set_other o v (Ne.symm hr), g.block k hk (fun e => hq e.symm)]
  have hsz : (w1.setCell ⟨rb, o, none⟩ v).heap.size = w1.heap.size := by simp [World.setCell]
  have hgs := g.size
  have hw := h.grew.size
  have hvr : ∀ k, v.ownBlock = some k → k ≠ mb ∧ k ≠ rb ∧ w.heap.size ≤ k ∧ k < w1.heap.size := fun k hk => by
    rcases ho k hk with e | ⟨e1, e2⟩
    · obtain ⟨p1, p2, p3, p4⟩ := h.owne k e; exact ⟨p1, p2, p3, by omega⟩
    · exact ⟨by omega, by omega, by omega, e2⟩
  refine ⟨(grew_grown h.grew g fun b e => (h.owne b e).2.2.1).setCell (p := ⟨rb, o, none⟩) h.lo.2.1 _, ?_, ?_, ?_, ?_, ?_, h.lo, fun k hk => ?_, fun k hk => ?_, fun k hk => ?_, fun k hk => ?_, fun k hk => ?_⟩
  · exact h.map.block (hall mb hm (fun e => (h.owne _ e).1 rfl) h.lo.2.2)
  · exact h.list.kept fun k hk hlt => hall k hlt (h.ln k hk).2 (h.ownl k hk).2.1
  · have h1 : w1.heap[rb]? = some (.cells cs T (0, 0)) := by rw [g.block rb hrb (fun e => (h.owne _ e.symm).2.1 rfl), h.raw, hO]
    exact q_set_same h1 o v
  · exact h.next.kept fun k hk hlt => hall k hlt (h.ne k hk) (h.ownn k hk).2.1
  · have e : ks.take (me + 1) = ks.take me ++ [x] := by rw [List.take_add_one, hx]; rfl
    rw [e, List.map_append]
    exact hq.kept fun k hk _ => q_set_other o v (Ne.symm (hvr k hk).2.1)
  · obtain ⟨p1, p2, p3, p4⟩ := h.ownl k hk; exact ⟨p1, p2, p3, by omega⟩
  · obtain ⟨p1, p2, p3, p4⟩ := h.ownn k hk; exact ⟨p1, p2, p3, by omega⟩
  · obtain ⟨p1, p2, p3, p4⟩ := hvr k hk; exact ⟨p1, p2, p3, by omega⟩
  · refine ⟨(h.ln k hk).1, fun e => ?_⟩
    rcases ho k e with e2 | ⟨e1, _⟩
    · exact (h.ln k hk).2 e2
    · have := (h.ownl k hk).2.2.2; omega
  · intro e
    rcases ho k e with e2 | ⟨e1, _⟩
    · exact h.ne k hk e2
    · have := (h.ownn k hk).2.2.2; omega
theorem ExSo.endRun (h : ExSo E et esz cells en w wr mb rb kz ks rows me lv nv ev O) {wx : World} (g : Grew wr wx) (hm : me ≤ 9000) {x : α} {k : Nat} (hk : wx.cell? ⟨k, 0, none⟩ = some (.bool (en x))) (cp : Nat) (ty : TypeId) :
    ∃ v w1, (Builtin.append_ #[28, 28] ty #[ev, .slice (some ⟨k, 0, none⟩) 1 cp]).run Tryd.prog wx = .ok v w1 ∧ EndApp w wr ev (me + 1) (((ks.take me).map fun x => Value.bool (en x)) ++ [.bool (en x)]) v w1 ∧ wx.grownBy w1 ev.ownBlock := by
  obtain ⟨j0, hj0, jz0, jz1, jz2⟩ := info_boolx
  obtain ⟨v', w2, a1, a2, a3, a4⟩ := QRow.append (P := Tryd.prog) Tryd.underlying28 hj0 jz0 jz1 jz2 rfl (h.ends.grew g) (Nat.le_trans h.grew.size g.size) k cp [.bool (en x)] rfl (fun j u hu => by
    cases j with
    | zero => rw [hk]; simpa using hu
    | succ j => simp at hu) (fun u hu => by rw [List.mem_singleton] at hu; rw [hu]; rfl) (by unfold maxLen; omega) (by omega) ty
  refine ⟨v', w2, a1, ⟨a2, fun k hk => ?_⟩, a3⟩
  rcases a4 with e | e
  · exact Or.inl (by rw [← e]; exact hk)
  · rw [e] at hk; cases hk
    obtain ⟨b', _, _, e2, _, hlt2, _⟩ := a2.at (by omega)
    rw [e2] at e; cases e
    exact Or.inr ⟨g.size, hlt2⟩
end
section
variable {P : Program} {ops : Array Oper} {Q : Exit → Act → World → Prop} {shs : List Sh} {a0 : Act} {w0 : World} {A : Array Edge} {i : Nat} {d : Option Tmp} {op : Op} {ty : TypeId} {pos : String} {G : Option (Nat × Bool)}
theorem sg_pure {z : Value} (hr : ∀ a w, RR.Env Grew ops shs a0 w0 A a w → (execOp a.eval ⟨d, op, ty, pos, A, G⟩).run P w = .ok (.value z) w) (hg : guardIs ops shs A G = some true) (hs : shs.getD i (.fact fun _ _ => True) = .val z) :
    StepOk Grew P ops Q (shF shs) a0 w0 i ⟨d, op, ty, pos, A, G⟩ :=
  st_run hg fun a w E K hK => by
    have := hK z w (Grew.refl w) (by unfold shF; rw [hs]; rfl)
    unfold Oper.wp
    rw [hr a w E]
    exact this
theorem sg_nil {p : Addr} {x : Operand} (hg : guardIs ops shs A G = some true) (hx : opSh ops shs A a0 x = .val (.pointer (some p))) (hs : shs.getD i (.fact fun _ _ => True) = .val (.pointer (some p))) :
    StepOk Grew P ops Q (shF shs) a0 w0 i ⟨d, .nilCheck x, ty, pos, A, G⟩ :=
  sg_pure (fun a w E => by
    have hv : a.eval x = .pointer (some p) := E.opv hx
    unfold execOp
    simp [hv]) hg hs
theorem sg_field {t : TypeId} {k : Nat} {p r : Addr} (hf : ∀ w, (Instr.fieldAt t (.pointer (some p)) k).run P w = .ok (.pointer (some r)) w) {x : Operand} (hg : guardIs ops shs A G = some true) (hx : opSh ops shs A a0 x = .val (.pointer (some p))) (hs : shs.getD i (.fact fun _ _ => True) = .val (.pointer (some r))) :
    StepOk Grew P ops Q (shF shs) a0 w0 i ⟨d, .fieldAddr t x k, ty, pos, A, G⟩ :=
  sg_pure (fun a w E => by
    have hv : a.eval x = .pointer (some p) := E.opv hx
    unfold execOp
    simp [hv, hf w]) hg hs
theorem sg_index {t : TypeId} {u v z : Value} (hrun : ∀ w, (Instr.indexAt t u v).run P w = .ok z w) {x y : Operand} (hg : guardIs ops shs A G = some true) (hx : opSh ops shs A a0 x = .val u) (hy : opSh ops shs A a0 y = .val v) (hs : shs.getD i (.fact fun _ _ => True) = .val z) :
    StepOk Grew P ops Q (shF shs) a0 w0 i ⟨d, .indexAddr t x y, ty, pos, A, G⟩ :=
  sg_pure (fun a w E => by
    have hv : a.eval x = u := E.opv hx
    have hw : a.eval y = v := E.opv hy
    unfold execOp
    simp [hv, hw, hrun w]) hg hs
theorem sg_load {t : TypeId} {p : Addr} {z : Value} (hrun : ∀ w, Grew w0 w → (Instr.loadAt t (.pointer (some p))).run P w = .ok z w) {x : Operand} (hg : guardIs ops shs A G = some true) (hx : opSh ops shs A a0 x = .val (.pointer (some p))) (hs : shs.getD i (.fact fun _ _ => True) = .val z) :
    StepOk Grew P ops Q (shF shs) a0 w0 i ⟨d, .load t x, ty, pos, A, G⟩ :=
  sg_pure (fun a w E => by
    have hv : a.eval x = .pointer (some p) := E.opv hx
    unfold execOp
    simp [hv, hrun w E.grew]) hg hs
end
section
variable {P : Program} {wb w0 : World} {q : Addr} {own : Option Nat} {App : Value → World → Prop} {mk : List Nat} {il ia is dst : Nat} {ops : Array Oper} {Q : Exit → Act → World → Prop} {shs : List Sh} {a0 : Act} {A : Array Edge} {i : Nat} {d : Option Tmp} {op : Op} {ty : TypeId} {pos : String} {G : Option (Nat × Bool)}
theorem gj_index {t : TypeId} {u v z : Value} (hrun : ∀ w, (Instr.indexAt t u v).run P w = .ok z w) (hia : i ≠ ia) (his : i ≠ is) (hd : d ≠ some dst) {x y : Operand} (hg : guardIs ops shs A G = some true) (hx : opSh ops shs A a0 x = .val u) (hy : opSh ops shs A a0 y = .val v) (hs : shs.getD i (.fact fun _ _ => True) = .val z) :
    StepJ (ApJ wb q own App mk il ia is dst) (ApRl q own) P ops Q (shF shs) a0 w0 i ⟨d, .indexAddr t x y, ty, pos, A, G⟩ :=
  gj_pure hia his hd (fun listed a w hJ _ E => by
    have hv : a.eval x = u := E.opv hx
    have hw : a.eval y = v := E.opv hy
    unfold execOp
    simp [hv, hw, hrun w]) hg hs
def OneNew (wb : World) (u : Value) (v : Value) (w : World) : Prop := ∃ k, v = .slice (some ⟨k, 0, none⟩) 1 1 ∧ wb.heap.size ≤ k ∧ w.cell? ⟨k, 0, none⟩ = some u
theorem OneNew.mono {u : Value} (hq : q.block < wb.heap.size) (ho : ∀ k, own = some k → k < wb.heap.size) (v : Value) (w w' : World) (g : ApRl q own w w') (h : OneNew wb u v w) : OneNew wb u v w' := by
  obtain ⟨k, h1, h2, h3⟩ := h
  refine ⟨k, h1, h2, ?_⟩
  rw [g.2 ⟨k, 0, none⟩ (lt_of_cell h3) (fun e => by have := ho k e; omega) (fun e => by have := congrArg Addr.block e; simp only at this; omega)]
  exact h3
theorem gj_one {t e : TypeId} {u : Value} (hrun : ∀ w, (Instr.buildSlice t 1 #[(0, u)]).run P w = .ok (.slice (some ⟨w.heap.size, 0, none⟩) 1 1) (w.alloc (.cells #[u] e))) (hi : i ∈ mk) (hia : i ≠ ia) (his : i ≠ is) (hd : d ≠ some dst) {x : Operand}
    (hg : guardIs ops shs A G = some true) (hx : opSh ops shs A a0 x = .val u) (hs : shs.getD i (.fact fun _ _ => True) = .fact (OneNew wb u)) :
    StepJ (ApJ wb q own App mk il ia is dst) (ApRl q own) P ops Q (shF shs) a0 w0 i ⟨d, .buildSlice t 1 #[(0, x)], ty, pos, A, G⟩ :=
  gj_make hi hia his hd (fun a w h E => by
    have hv : a.eval x = u := E.opv hx
    refine ⟨.slice (some ⟨w.heap.size, 0, none⟩) 1 1, w.alloc (.cells #[u] e), ?_, (Grew.refl w).alloc _, ?_⟩
    · unfold execOp
      simp [hv, hrun w]
    · unfold shF; rw [hs]
      exact ⟨w.heap.size, rfl, h.size, by rw [World.cell?_alloc_mark]; rfl⟩) hg
end
theorem load_rowO {w : World} {b k : Nat} {f : Nat → Int} (h : ∀ j, j < 256 → w.cell? ⟨b, k + j, none⟩ = some (.int .i64 (f j))) : (Instr.loadAt 26 (.pointer (some ⟨b, k, none⟩))).run Tryd.prog w = .ok (.agg (rowI f)) w := by
  have hl := run_loadVar_off (f := fun j => .int .i64 (f j)) h Tryd.underlying26 rfl info_cls
  simp only [Instr.loadAt, Instr.sureAddr, Sem.run_bind, Sem.run_pure, Result.andThen_ok, hl]
  rfl
theorem field_aut1 (b : Nat) (w : World) : (Instr.fieldAt 30 (.pointer (some ⟨b, 0, none⟩)) 1).run Tryd.prog w = .ok (.pointer (some ⟨b, 256, none⟩)) w := by kernel_rfl
theorem field_aut2 (b : Nat) (w : World) : (Instr.fieldAt 30 (.pointer (some ⟨b, 0, none⟩)) 2).run Tryd.prog w = .ok (.pointer (some ⟨b, 257, none⟩)) w := by kernel_rfl
end Go.Proofs.YtkkdpafkafjfgaaDoor
