/- The document's Bare: a pattern with what its kinds have alone, in new memory. Printed. -/
import Derived.Test.YtglfdfeideeeaaaDoorRegAT
import Derived.Test.YtglfdfeideeeaaaDoorTnMerge
import Derived.Test.YtglfdfeideeeaaaDoorScWC
import Derived.Test.YtglfdfeideeeaaaDoorPT6Door
import Derived.Deep.MidRow
namespace Go.Proofs.YtglfdfeideeeaaaDoor
open Go.RowKit RR
set_option linter.unusedVariables false
structure BareSt (w : World) (p : Pat) (kv : Value) (W : World) (t : ByteArray) (n : Int) (m : ByteArray) (v : Value) : Prop where
  grew : Grew w W
  box : W.heap[w.heap.size]? = some (.cells #[.int .i64 p.kind, .string p.text, .int .i64 p.n, .string p.name, kv] 24 (0, 0))
  res : W.heap[w.heap.size + 1]? = some (.cells #[.int .i64 0, .string ⟨#[]⟩, .int .i64 0, .string ⟨#[]⟩, .slice none 0 0] 24 (0, 0))
  out : W.heap[w.heap.size + 1 + 1]? = some (.cells #[.int .i64 p.kind, .string t, .int .i64 n, .string m, v] 24 (0, 0))
theorem BareSt.start (w : World) (p : Pat) (kv : Value) : BareSt w p kv (((w.alloc (.cells #[.int .i64 p.kind, .string p.text, .int .i64 p.n, .string p.name, kv] 24)).alloc (.cells #[.int .i64 0, .string ⟨#[]⟩, .int .i64 0, .string ⟨#[]⟩, .slice none 0 0] 24)).alloc (.cells #[.int .i64 p.kind, .string ⟨#[]⟩, .int .i64 0, .string ⟨#[]⟩, .slice none 0 0] 24)) ⟨#[]⟩ 0 ⟨#[]⟩ (.slice none 0 0) :=
  ⟨(((Grew.refl w).alloc _).alloc _).alloc _, heap_more (heap_more (heap_alloc_new w _)), heap_more (heap_second w _ _), heap_third w _ _ _⟩
section
variable {w W W' : World} {p : Pat} {kv : Value} {t : ByteArray} {n : Int} {m : ByteArray} {v : Value}
theorem BareSt.kept (h : BareSt w p kv W t n m v) (g : Grew W W') : BareSt w p kv W' t n m v := ⟨h.grew.trans g, heap_kept g h.box, heap_kept g h.res, heap_kept g h.out⟩
theorem BareSt.low (h : BareSt w p kv W t n m v) : w.heap.size + 1 + 1 < W.heap.size := (Array.getElem?_eq_some_iff.1 h.out).1
theorem BareSt.cells (h : BareSt w p kv W t n m v) : (W.cell? ⟨w.heap.size, 0, none⟩ = some (.int .i64 p.kind) ∧ W.cell? ⟨w.heap.size, 1, none⟩ = some (.string p.text) ∧ W.cell? ⟨w.heap.size, 2, none⟩ = some (.int .i64 p.n) ∧ W.cell? ⟨w.heap.size, 3, none⟩ = some (.string p.name) ∧ W.cell? ⟨w.heap.size, 4, none⟩ = some kv) ∧
    (W.cell? ⟨w.heap.size + 1 + 1, 1, none⟩ = some (.string t) ∧ W.cell? ⟨w.heap.size + 1 + 1, 2, none⟩ = some (.int .i64 n) ∧ W.cell? ⟨w.heap.size + 1 + 1, 3, none⟩ = some (.string m) ∧ W.cell? ⟨w.heap.size + 1 + 1, 4, none⟩ = some v) ∧
    (W.frozen? ⟨w.heap.size + 1 + 1, 1, none⟩ = false ∧ W.frozen? ⟨w.heap.size + 1 + 1, 2, none⟩ = false ∧ W.frozen? ⟨w.heap.size + 1 + 1, 3, none⟩ = false ∧ W.frozen? ⟨w.heap.size + 1 + 1, 4, none⟩ = false) := by
  obtain ⟨b, _⟩ := five_cells h.box
  obtain ⟨⟨o0, o1, o2, o3, o4⟩, of⟩ := five_cells h.out
  exact ⟨b, ⟨o1, o2, o3, o4⟩, of 1, of 2, of 3, of 4⟩
theorem BareSt.setT (h : BareSt w p kv W t n m v) (u : ByteArray) : BareSt w p kv (W.setCell ⟨w.heap.size + 1 + 1, 1, none⟩ (.string u)) u n m v :=
  ⟨h.grew.setCell (by simp; omega) _, by rw [setCell_heap_other _ _ _ (by omega)]; exact h.box, by rw [setCell_heap_other _ _ _ (by omega)]; exact h.res, by rw [setCell_heap_same h.out]; rfl⟩
theorem BareSt.setN (h : BareSt w p kv W t n m v) (u : Int) : BareSt w p kv (W.setCell ⟨w.heap.size + 1 + 1, 2, none⟩ (.int .i64 u)) t u m v :=
  ⟨h.grew.setCell (by simp; omega) _, by rw [setCell_heap_other _ _ _ (by omega)]; exact h.box, by rw [setCell_heap_other _ _ _ (by omega)]; exact h.res, by rw [setCell_heap_same h.out]; rfl⟩
theorem BareSt.setM (h : BareSt w p kv W t n m v) (u : ByteArray) : BareSt w p kv (W.setCell ⟨w.heap.size + 1 + 1, 3, none⟩ (.string u)) t n u v :=
  ⟨h.grew.setCell (by simp; omega) _, by rw [setCell_heap_other _ _ _ (by omega)]; exact h.box, by rw [setCell_heap_other _ _ _ (by omega)]; exact h.res, by rw [setCell_heap_same h.out]; rfl⟩
theorem BareSt.setV (h : BareSt w p kv W t n m v) (u : Value) : BareSt w p kv (W.setCell ⟨w.heap.size + 1 + 1, 4, none⟩ u) t n m u :=
  ⟨h.grew.setCell (by simp; omega) _, by rw [setCell_heap_other _ _ _ (by omega)]; exact h.box, by rw [setCell_heap_other _ _ _ (by omega)]; exact h.res, by rw [setCell_heap_same h.out]; rfl⟩
theorem BareSt.grown {own : Option Nat} (h : BareSt w p kv W t n m v) (g : W.grownBy W' own) (ho : ∀ b, own = some b → w.heap.size + 1 + 1 < b) : BareSt w p kv W' t n m v := by
  have hlow := h.low
  have hk : ∀ b, b ≤ w.heap.size + 1 + 1 → W'.heap[b]? = W.heap[b]? := fun b hb => g.block b (by omega) (fun e => by have := ho b e.symm; omega)
  refine ⟨?_, (hk _ (by omega)).trans h.box, (hk _ (by omega)).trans h.res, (hk _ (by omega)).trans h.out⟩
  have hsz := h.grew.size
  exact h.grew.below (B := w.heap.size) ⟨g.os, g.tape, g.output, g.size, fun k hk' => hk k (by omega)⟩ (Nat.le_refl _)
end
theorem field_pat4 (b : Nat) (w : World) : (Instr.fieldAt 24 (.pointer (some ⟨b, 0, none⟩)) 4).run Tryd.prog w = .ok (.pointer (some ⟨b, 4, none⟩)) w := by
  have h1 : (Tryd.prog.info? 22).map (·.size) = some 1 := by kernel_rfl
  cases q1 : Tryd.prog.info? 22 with
  | none => rw [q1] at h1; cases h1
  | some i1 =>
    have s1 : i1.size = 1 := by simpa [q1] using h1
    simp [Instr.fieldAt, Instr.sureAddr, Sem.run_bind, run_underlying Tryd.underlying24, fieldPlace, sizeOf, typeInfo, q1, s1, Addr.add]
theorem mixedA : Tryd.prog.follows .mixedOrders = true := by kernel_rfl
theorem size_pats (w : World) : (sizeOf 22).run Tryd.prog w = .ok 1 w := by kernel_rfl
theorem agg_pats (w : World) : (isAgg 22).run Tryd.prog w = .ok false w := by kernel_rfl
theorem build_pat1 (k n : Int) (t m : ByteArray) (v : Value) (w : World) : (Instr.buildSlice 22 1 #[(0, .agg #[.int .i64 k, .string t, .int .i64 n, .string m, v])]).run Tryd.prog w = .ok (.slice (some ⟨w.heap.size, 0, none⟩) 1 1) (w.alloc (.cells #[.int .i64 k, .string t, .int .i64 n, .string m, v] 24)) := by kernel_rfl
theorem load_pat_at {w : World} {b : Nat} {p : Pat} {kv : Value} (hc : ∀ j v, (p.cells kv)[j]? = some v → w.cell? ⟨b, j, none⟩ = some v) : (Instr.loadAt 24 (.pointer (some ⟨b, 0, none⟩))).run Tryd.prog w = .ok (.agg (p.cells kv)) w := by
  have hi : (Tryd.prog.info? 24).map (·.size) = some (p.cells kv).toList.length := info_pat5
  refine run_loadAt_mid w b 0 24 (p.cells kv).toList _ (fun j v hj => ?_) Tryd.underlying24 (by rfl) hi
  rw [Nat.zero_add]
  exact hc j v (by rw [← hj, Array.getElem?_toList])
theorem ap_pq {q : Addr} {own : Option Nat} {w w' : World} (h : ApRl q own w w') {N : Nat} (ho : ∀ b, own = some b → b < N) (hq : q.block < N) {kv : Value} {p : Pat} (k : PQ w (fun b => N ≤ b) kv p) : PQ w' (fun b => N ≤ b) kv p :=
  k.keep (fun b o v hb hc => by
    rw [h.2 ⟨b, o, none⟩ (lt_of_cell hc) (fun e => by have := ho _ e; simp at this; omega) (fun e => by rw [← e] at hq; simp at hq; omega)]
    exact hc) (fun _ h _ => h)
def bareF (N : Nat) (x : Pat) : Sh := .fact fun z w => ∃ a n c, z = .agg #[.int .i64 x.kind, .string x.text, .int .i64 x.n, .string x.name, .slice a n c] ∧ PQ w (fun b => N ≤ b) (.slice a n c) x
def oneF (N : Nat) (x : Pat) : Sh := .fact fun z w => ∃ g kv, z = .slice (some ⟨g, 0, none⟩) 1 1 ∧ N ≤ g ∧ (∀ j, j < 5 → w.cell? ⟨g, j, none⟩ = (x.cells kv)[j]?) ∧ PQ w (fun b => N ≤ b) kv x
theorem list_at {w : World} {N g : Nat} {kv : Value} {x : Pat} (hc : ∀ j, j < 5 → w.cell? ⟨g, j, none⟩ = (x.cells kv)[j]?) (hq : PQ w (fun b => N ≤ b) kv x) (hg : N ≤ g) : ListIn w (fun b => N ≤ b) (.slice (some ⟨g, 0, none⟩) 1 1) [x] := by
  refine ⟨Or.inr ⟨g, 0, 1, [kv], rfl, by simp, by simp, by unfold maxLen; omega, rfl, fun j hj => ?_, fun i hi => ?_⟩⟩
  · rw [Nat.zero_add, hc j (by simpa using hj)]
    show (x.cells kv)[j]? = (patCells [x] [kv])[j]?
    rw [show patCells [x] [kv] = (x.cells kv).toList from List.append_nil _, Array.getElem?_toList]
  · have : i = 0 := by simp at hi; omega
    subst this
    exact hq
theorem fact_bare {q : Addr} {own : Option Nat} {N : Nat} {x : Pat} (ho : ∀ b, own = some b → b < N) (hq : q.block < N) : (∃ v, bareF N x = .val v) ∨ ∃ f, bareF N x = .fact f ∧ ∀ z w w', ApRl q own w w' → f z w → f z w' :=
  Or.inr ⟨_, rfl, fun z w w' h ⟨a, n, c, h1, h2⟩ => ⟨a, n, c, h1, ap_pq h ho hq h2⟩⟩
theorem fact_one {q : Addr} {own : Option Nat} {N : Nat} {x : Pat} (ho : ∀ b, own = some b → b < N) (hq : q.block < N) : (∃ v, oneF N x = .val v) ∨ ∃ f, oneF N x = .fact f ∧ ∀ z w w', ApRl q own w w' → f z w → f z w' :=
  Or.inr ⟨_, rfl, fun z w w' h ⟨g, kv, h1, h2, h3, h4⟩ => ⟨g, kv, h1, h2, fun j hj => by
    have hlt : j < (x.cells kv).size := hj
    have hc := h3 j hj
    rw [Array.getElem?_eq_getElem hlt] at hc ⊢
    rw [h.2 ⟨g, j, none⟩ (lt_of_cell hc) (fun e => by have := ho _ e; simp at this; omega) (fun e => by rw [← e] at hq; simp at hq; omega)]
    exact hc, ap_pq h ho hq h4⟩⟩
theorem fact_true {q : Addr} {own : Option Nat} : (∃ v, Sh.fact (fun _ _ => True) = .val v) ∨ ∃ f, Sh.fact (fun _ _ => True) = .fact f ∧ ∀ z w w', ApRl q own w w' → f z w → f z w' := Or.inr ⟨_, rfl, fun _ _ _ _ _ => trivial⟩
theorem bare_take {l : List Pat} {i : Nat} (h : i < l.length) : (l.map bareQ).take (i + 1) = (l.map bareQ).take i ++ [bareQ (l.getD i Pat.zero)] := by
  rw [take_getD (by rw [List.length_map]; exact h), List.getD_eq_getElem?_getD, List.getElem?_map, List.getD_eq_getElem?_getD, List.getElem?_eq_getElem h]; rfl
theorem grown_cell (w : World) (b o : Nat) (v : Value) : w.grownBy (w.setCell ⟨b, o, none⟩ v) (some b) := ⟨rfl, rfl, rfl, by simp [World.setCell], fun k _ hne => setCell_heap_other _ _ _ (fun e => hne (by rw [e]))⟩
def BareEnd (N : Nat) (q : Pat) (w : World) (e : Ending) (w' : World) : Prop := ∃ a n c, e = .returned (.agg #[.int .i64 q.kind, .string q.text, .int .i64 q.n, .string q.name, .slice a n c]) ∧ PatsOwn w' N N (.slice a n c) q.kids ∧ PQ w' (fun b => N ≤ b) (.slice a n c) q ∧ Grew w w'
theorem bare_end (X : Pat) {a : Option Addr} {n c N N0 rb : Nat} {w0 w' : World} (ho : PatsOwn w' N N (.slice a n c) X.kids) (h : PQ w' (fun b => N ≤ b) (.slice a n c) X) (hb : rb < N) (h0 : N0 ≤ N) (g : Grew w0 w') (hr : w0.heap.size ≤ rb) (u0 u1 u2 u3 u4 : Value) :
    BareEnd N0 X w0 (.returned (.agg (X.cells (.slice a n c)))) (((((w'.setCell ⟨rb, 0, none⟩ u0).setCell ⟨rb, 1, none⟩ u1).setCell ⟨rb, 2, none⟩ u2).setCell ⟨rb, 3, none⟩ u3).setCell ⟨rb, 4, none⟩ u4) := by
  obtain ⟨v, e, h2, h3⟩ := own_end X (N0 := N0) (w0 := w0) h hb h0 g hr u0 u1 u2 u3 u4
  cases e
  refine ⟨a, n, c, rfl, PatsOwn.mono (ho.grownOther (r := some rb) ?_ fun b e => ?_) h0 h0, h2, h3⟩
  · exact grownBy_tr (grownBy_tr (grownBy_tr (grownBy_tr (grown_cell _ _ _ _) (grown_cell _ _ _ _)) (grown_cell _ _ _ _)) (grown_cell _ _ _ _)) (grown_cell _ _ _ _)
  · cases e
    exact ⟨hb, fun k => by have := ho.blocks _ k; omega⟩
structure BareIn (p : Pat) (kv : Value) (w : World) : Prop where
  pat : PatV w kv p
  nodes : nodesP p ≤ 4096
  kids : ∀ q ∈ p.kids, ∀ kv w', Grew w w' → PatV w' kv q → Calls Tryd.prog 45 #[.agg (q.cells kv)] w' (BareEnd w'.heap.size (bareQ q) w')
theorem bare_kid {q : Pat} {kv : Value} {w : World} (h : Calls Tryd.prog 45 #[.agg (q.cells kv)] w (BareEnd w.heap.size (bareQ q) w)) :
    Calls Tryd.prog 45 #[.agg (q.cells kv)] w fun e w' => ∃ a n c, e = .returned (.agg #[.int .i64 (bareQ q).kind, .string (bareQ q).text, .int .i64 (bareQ q).n, .string (bareQ q).name, .slice a n c]) ∧ PQ w' (fun b => w.heap.size ≤ b) (.slice a n c) (bareQ q) ∧ Grew w w' := by
  refine Calls.mono h ?_
  rintro e w' ⟨a, n, c, rfl, _, hq, hg⟩
  exact ⟨a, n, c, rfl, hq, hg⟩
theorem bare_pq {W : World} {B N : Nat} {v : Value} {l : List Pat} (h : PatsOwn W B N v l) (hNB : N ≤ B) {p : Pat} (hp : NumsOk p) (hk : p.kids = l) : PQ W (fun b => N ≤ b) v p := by
  rcases Nat.eq_zero_or_pos l.length with h0 | h0
  · obtain ⟨a, c, e⟩ := h.len
    rw [e, h0]
    exact .leaf p a c hp (by rw [hk]; exact List.eq_nil_of_length_eq_zero h0)
  · exact own_node h hNB hp hk h0
theorem bareQ_mk (p : Pat) : bareQ p = .mk p.kind (bareText p.kind p.text) (bareNum p.kind p.n) (bareName p.kind p.name) (p.kids.map bareQ) := by
  obtain ⟨k, t, n, m, l⟩ := p
  rw [bareQ, bareL_map]; rfl
set_option maxRecDepth 100000 in
set_option maxHeartbeats 16000000 in
theorem bare_at (p : Pat) (kv : Value) (w : World) (h : BareIn p kv w) : Calls Tryd.prog 45 #[.agg (p.cells kv)] w (BareEnd w.heap.size (bareQ p) w) := by
  have hb := bareQ_mk p
  have hkq := h.pat.pq.list
  have hnl : p.kids.length ≤ 4095 := by
    have h1 := h.nodes
    obtain ⟨k, t, n, m, l⟩ := p
    rw [nodesP] at h1
    have := length_le_nodes l
    show l.length ≤ 4095
    omega
  obtain ⟨a, c, rfl, hlm⟩ := hkq.len
  have HKd := hidd (fun i (hi : i < p.kids.length) w' (g : Grew w w') kv' (hv : PatV w' kv' (p.kids.getD i Pat.zero)) => bare_kid (h.kids (p.kids.getD i Pat.zero) (by rw [List.getD_eq_getElem?_getD, List.getElem?_eq_getElem hi]; exact List.getElem_mem hi) kv' w' g hv))
  have HLq := hidd hkq
  have HPn := hidd (And.intro h.pat.hk (And.intro h.pat.hn (And.intro h.pat.ht h.pat.hm)))
  obtain ⟨X0, hX0⟩ : ∃ X, bareQ p = X := ⟨_, rfl⟩
  rw [hX0] at hb ⊢
  have S0 := hidd (BareSt.start w p (.slice a p.kids.length c))
  unfold maxLen at hlm
  rw [cells_eq]
  have hcs : (p.kind = 1) ∨ (p.kind = 3 ∨ p.kind = 4 ∨ p.kind = 5 ∨ p.kind = 6 ∨ p.kind = 7) ∨ (p.kind = 2 ∨ p.kind = 8 ∨ p.kind = 9 ∨ p.kind = 10 ∨ p.kind = 11) ∨ (p.kind = 21 ∨ p.kind = 22 ∨ p.kind = 23 ∨ p.kind = 24) ∨ (p.kind ≠ 1 ∧ p.kind ≠ 2 ∧ p.kind ≠ 3 ∧ p.kind ≠ 4 ∧ p.kind ≠ 5 ∧ p.kind ≠ 6 ∧ p.kind ≠ 7 ∧ p.kind ≠ 8 ∧ p.kind ≠ 9 ∧ p.kind ≠ 10 ∧ p.kind ≠ 11 ∧ p.kind ≠ 21 ∧ p.kind ≠ 22 ∧ p.kind ≠ 23 ∧ p.kind ≠ 24) := by omega
  clear hkq h hX0
  rcases hcs with hk | hk | hk | hk | hk
  have HbX : Hid (X0 = .mk p.kind p.text 0 ⟨#[]⟩ (p.kids.map bareQ)) := by rw [hb]; unfold bareText bareNum bareName; rw [if_pos (by omega), if_neg (by omega), if_neg (by omega)]; rfl
  have k1 : (p.kind == 1) = true := by rw [hk]; rfl
  have x1 : isTx p.kind = false := by unfold isTx; rw [hk]; rfl
  have x2 : isNb p.kind = false := by unfold isNb; rw [hk]; rfl
  have x3 : [(21 : Int), 22, 23, 24].contains p.kind = false := by rw [hk]; rfl
  have HTx : Hid (∀ w1, Calls Tryd.prog 63 #[.int .i64 p.kind] w1 fun e w' => e = .returned (.bool false) ∧ Grew w1 w') := fun w1 => by have := texts_any p.kind w1; rw [x1] at this; exact this
  have HNb : Hid (∀ w1, Calls Tryd.prog 64 #[.int .i64 p.kind] w1 fun e w' => e = .returned (.bool false) ∧ Grew w1 w') := fun w1 => by have := numbers_any p.kind w1; rw [x2] at this; exact this
  have HIn : Hid (∀ w1, Calls Tryd.prog 65 #[.int .i64 p.kind, .slice (some ⟨w1.heap.size, 0, none⟩) 4 4] (w1.alloc (.cells #[.int .i64 21, .int .i64 22, .int .i64 23, .int .i64 24] 3)) fun e w' => e = .returned (.bool false) ∧ Grew w1 w') := fun w1 => by have := in_later p.kind [21, 22, 23, 24] (by decide) w1 (Grew.refl w1); rw [x3] at this; exact this
  clear hk hb x1 x2 x3
  go_enter Tryd.func45, Tryd.ntmps45
  go_wp2_with fail
  have S1 : Hid (BareSt w p (.slice a p.kids.length c) (((w.alloc (.cells #[.int .i64 p.kind, .string p.text, .int .i64 p.n, .string p.name, .slice a p.kids.length c] 24)).alloc (.cells #[.int .i64 0, .string ⟨#[]⟩, .int .i64 0, .string ⟨#[]⟩, .slice none 0 0] 24)).alloc (.cells #[.int .i64 p.kind, .string p.text, .int .i64 0, .string ⟨#[]⟩, .slice none 0 0] 24)) p.text 0 ⟨#[]⟩ (.slice none 0 0)) := ⟨(((Grew.refl w).alloc _).alloc _).alloc _, heap_more (heap_more (heap_alloc_new w _)), heap_more (heap_second w _ _), heap_third w _ _ _⟩
  refine (HNb.out _).mono ?_; rintro e w2 ⟨rfl, g2⟩
  have S3 := hidd (S1.out.kept g2)
  clear g2 S1 HNb
  obtain ⟨⟨c0, c1, c2, c3, c4⟩, ⟨o1, o2, o3, o4⟩, f1, f2, f3, f4⟩ := S3.out.cells
  go_wp2_with fail
  clear c0 c1 c2 c3 c4 o1 o2 o3 o4 f1 f2 f3 f4
  refine (HIn.out _).mono ?_; rintro e w3 ⟨rfl, g3⟩
  have S4 := hidd (S3.out.kept g3)
  clear g3 S3 HIn
  obtain ⟨⟨c0, c1, c2, c3, c4⟩, ⟨o1, o2, o3, o4⟩, f1, f2, f3, f4⟩ := S4.out.cells
  go_wp2_with fail
  clear c0 c1 c2 c3 c4 o1 o2 o3 o4 f1 f2 f3 f4
  obtain ⟨T, N, M, SF, HPP, rfl⟩ : ∃ T N M, Hid (BareSt w p (.slice a p.kids.length c) _ T N M (.slice none 0 0)) ∧ Hid (NumsOk (.mk p.kind T N M (p.kids.map bareQ))) ∧ X0 = .mk p.kind T N M (p.kids.map bareQ) := ⟨p.text, 0, ⟨#[]⟩, S4, ⟨HPn.out.1, zero_in, HPn.out.2.2.1, none_size⟩, HbX.out⟩
  clear HbX S4
  rotate_left
  have HbX : Hid (X0 = .mk p.kind p.text 0 ⟨#[]⟩ (p.kids.map bareQ)) := by rw [hb]; unfold bareText bareNum bareName; rw [if_pos (by omega), if_neg (by omega), if_neg (by omega)]; rfl
  have k1 : (p.kind == 1) = false := beq_eq_false_iff_ne.2 (by omega)
  have x1 : isTx p.kind = true := by unfold isTx; rcases hk with e | e | e | e | e <;> rw [e] <;> rfl
  have x2 : isNb p.kind = false := by unfold isNb; rcases hk with e | e | e | e | e <;> rw [e] <;> rfl
  have x3 : [(21 : Int), 22, 23, 24].contains p.kind = false := by rcases hk with e | e | e | e | e <;> rw [e] <;> rfl
  have HTx : Hid (∀ w1, Calls Tryd.prog 63 #[.int .i64 p.kind] w1 fun e w' => e = .returned (.bool true) ∧ Grew w1 w') := fun w1 => by have := texts_any p.kind w1; rw [x1] at this; exact this
  have HNb : Hid (∀ w1, Calls Tryd.prog 64 #[.int .i64 p.kind] w1 fun e w' => e = .returned (.bool false) ∧ Grew w1 w') := fun w1 => by have := numbers_any p.kind w1; rw [x2] at this; exact this
  have HIn : Hid (∀ w1, Calls Tryd.prog 65 #[.int .i64 p.kind, .slice (some ⟨w1.heap.size, 0, none⟩) 4 4] (w1.alloc (.cells #[.int .i64 21, .int .i64 22, .int .i64 23, .int .i64 24] 3)) fun e w' => e = .returned (.bool false) ∧ Grew w1 w') := fun w1 => by have := in_later p.kind [21, 22, 23, 24] (by decide) w1 (Grew.refl w1); rw [x3] at this; exact this
  clear hk hb x1 x2 x3
  go_enter Tryd.func45, Tryd.ntmps45
  go_wp2_with fail
  refine (HTx.out _).mono ?_; rintro e w1 ⟨rfl, g1⟩
  have S2 := hidd (S0.out.kept g1)
  clear g1 S0 HTx
  obtain ⟨⟨c0, c1, c2, c3, c4⟩, ⟨o1, o2, o3, o4⟩, f1, f2, f3, f4⟩ := S2.out.cells
  go_wp2_with fail
  clear c0 c1 c2 c3 c4 o1 o2 o3 o4 f1 f2 f3 f4
  have T1 := hidd (S2.out.setT p.text)
  generalize w1.setCell ⟨w.heap.size + 1 + 1, 1, none⟩ (.string p.text) = W1 at T1 ⊢
  clear S2
  refine (HNb.out _).mono ?_; rintro e w2 ⟨rfl, g2⟩
  have S3 := hidd (T1.out.kept g2)
  clear g2 T1 HNb
  obtain ⟨⟨c0, c1, c2, c3, c4⟩, ⟨o1, o2, o3, o4⟩, f1, f2, f3, f4⟩ := S3.out.cells
  go_wp2_with fail
  clear c0 c1 c2 c3 c4 o1 o2 o3 o4 f1 f2 f3 f4
  refine (HIn.out _).mono ?_; rintro e w3 ⟨rfl, g3⟩
  have S4 := hidd (S3.out.kept g3)
  clear g3 S3 HIn
  obtain ⟨⟨c0, c1, c2, c3, c4⟩, ⟨o1, o2, o3, o4⟩, f1, f2, f3, f4⟩ := S4.out.cells
  go_wp2_with fail
  clear c0 c1 c2 c3 c4 o1 o2 o3 o4 f1 f2 f3 f4
  obtain ⟨T, N, M, SF, HPP, rfl⟩ : ∃ T N M, Hid (BareSt w p (.slice a p.kids.length c) _ T N M (.slice none 0 0)) ∧ Hid (NumsOk (.mk p.kind T N M (p.kids.map bareQ))) ∧ X0 = .mk p.kind T N M (p.kids.map bareQ) := ⟨p.text, 0, ⟨#[]⟩, S4, ⟨HPn.out.1, zero_in, HPn.out.2.2.1, none_size⟩, HbX.out⟩
  clear HbX S4
  rotate_left
  have HbX : Hid (X0 = .mk p.kind ⟨#[]⟩ p.n ⟨#[]⟩ (p.kids.map bareQ)) := by rw [hb]; unfold bareText bareNum bareName; rw [if_neg (by omega), if_pos (by omega), if_neg (by omega)]; rfl
  have k1 : (p.kind == 1) = false := beq_eq_false_iff_ne.2 (by omega)
  have x1 : isTx p.kind = false := by unfold isTx; rcases hk with e | e | e | e | e <;> rw [e] <;> rfl
  have x2 : isNb p.kind = true := by unfold isNb; rcases hk with e | e | e | e | e <;> rw [e] <;> rfl
  have x3 : [(21 : Int), 22, 23, 24].contains p.kind = false := by rcases hk with e | e | e | e | e <;> rw [e] <;> rfl
  have HTx : Hid (∀ w1, Calls Tryd.prog 63 #[.int .i64 p.kind] w1 fun e w' => e = .returned (.bool false) ∧ Grew w1 w') := fun w1 => by have := texts_any p.kind w1; rw [x1] at this; exact this
  have HNb : Hid (∀ w1, Calls Tryd.prog 64 #[.int .i64 p.kind] w1 fun e w' => e = .returned (.bool true) ∧ Grew w1 w') := fun w1 => by have := numbers_any p.kind w1; rw [x2] at this; exact this
  have HIn : Hid (∀ w1, Calls Tryd.prog 65 #[.int .i64 p.kind, .slice (some ⟨w1.heap.size, 0, none⟩) 4 4] (w1.alloc (.cells #[.int .i64 21, .int .i64 22, .int .i64 23, .int .i64 24] 3)) fun e w' => e = .returned (.bool false) ∧ Grew w1 w') := fun w1 => by have := in_later p.kind [21, 22, 23, 24] (by decide) w1 (Grew.refl w1); rw [x3] at this; exact this
  clear hk hb x1 x2 x3
  go_enter Tryd.func45, Tryd.ntmps45
  go_wp2_with fail
  refine (HTx.out _).mono ?_; rintro e w1 ⟨rfl, g1⟩
  have S2 := hidd (S0.out.kept g1)
  clear g1 S0 HTx
  obtain ⟨⟨c0, c1, c2, c3, c4⟩, ⟨o1, o2, o3, o4⟩, f1, f2, f3, f4⟩ := S2.out.cells
  go_wp2_with fail
  clear c0 c1 c2 c3 c4 o1 o2 o3 o4 f1 f2 f3 f4
  refine (HNb.out _).mono ?_; rintro e w2 ⟨rfl, g2⟩
  have S3 := hidd (S2.out.kept g2)
  clear g2 S2 HNb
  obtain ⟨⟨c0, c1, c2, c3, c4⟩, ⟨o1, o2, o3, o4⟩, f1, f2, f3, f4⟩ := S3.out.cells
  go_wp2_with fail
  clear c0 c1 c2 c3 c4 o1 o2 o3 o4 f1 f2 f3 f4
  have T2 := hidd (S3.out.setN p.n)
  have HI2 := HIn.out (w2.setCell ⟨w.heap.size + 1 + 1, 2, none⟩ (.int .i64 p.n))
  rw [show (w2.setCell ⟨w.heap.size + 1 + 1, 2, none⟩ (.int .i64 p.n)).heap.size = w2.heap.size from by simp [World.setCell]] at HI2
  replace HI2 := hidd HI2
  generalize w2.setCell ⟨w.heap.size + 1 + 1, 2, none⟩ (.int .i64 p.n) = W2 at T2 HI2 ⊢
  clear S3
  refine (HI2.out).mono ?_; rintro e w3 ⟨rfl, g3⟩
  have S4 := hidd (T2.out.kept g3)
  clear g3 T2 HIn
  obtain ⟨⟨c0, c1, c2, c3, c4⟩, ⟨o1, o2, o3, o4⟩, f1, f2, f3, f4⟩ := S4.out.cells
  go_wp2_with fail
  clear c0 c1 c2 c3 c4 o1 o2 o3 o4 f1 f2 f3 f4
  obtain ⟨T, N, M, SF, HPP, rfl⟩ : ∃ T N M, Hid (BareSt w p (.slice a p.kids.length c) _ T N M (.slice none 0 0)) ∧ Hid (NumsOk (.mk p.kind T N M (p.kids.map bareQ))) ∧ X0 = .mk p.kind T N M (p.kids.map bareQ) := ⟨⟨#[]⟩, p.n, ⟨#[]⟩, S4, ⟨HPn.out.1, HPn.out.2.1, none_size, none_size⟩, HbX.out⟩
  clear HbX S4
  rotate_left
  have HbX : Hid (X0 = .mk p.kind ⟨#[]⟩ 0 p.name (p.kids.map bareQ)) := by rw [hb]; unfold bareText bareNum bareName; rw [if_neg (by omega), if_neg (by omega), if_pos (by omega)]; rfl
  have k1 : (p.kind == 1) = false := beq_eq_false_iff_ne.2 (by omega)
  have x1 : isTx p.kind = false := by unfold isTx; rcases hk with e | e | e | e <;> rw [e] <;> rfl
  have x2 : isNb p.kind = false := by unfold isNb; rcases hk with e | e | e | e <;> rw [e] <;> rfl
  have x3 : [(21 : Int), 22, 23, 24].contains p.kind = true := by rcases hk with e | e | e | e <;> rw [e] <;> rfl
  have HTx : Hid (∀ w1, Calls Tryd.prog 63 #[.int .i64 p.kind] w1 fun e w' => e = .returned (.bool false) ∧ Grew w1 w') := fun w1 => by have := texts_any p.kind w1; rw [x1] at this; exact this
  have HNb : Hid (∀ w1, Calls Tryd.prog 64 #[.int .i64 p.kind] w1 fun e w' => e = .returned (.bool false) ∧ Grew w1 w') := fun w1 => by have := numbers_any p.kind w1; rw [x2] at this; exact this
  have HIn : Hid (∀ w1, Calls Tryd.prog 65 #[.int .i64 p.kind, .slice (some ⟨w1.heap.size, 0, none⟩) 4 4] (w1.alloc (.cells #[.int .i64 21, .int .i64 22, .int .i64 23, .int .i64 24] 3)) fun e w' => e = .returned (.bool true) ∧ Grew w1 w') := fun w1 => by have := in_later p.kind [21, 22, 23, 24] (by decide) w1 (Grew.refl w1); rw [x3] at this; exact this
  clear hk hb x1 x2 x3
  go_enter Tryd.func45, Tryd.ntmps45
  go_wp2_with fail
  refine (HTx.out _).mono ?_; rintro e w1 ⟨rfl, g1⟩
  have S2 := hidd (S0.out.kept g1)
  clear g1 S0 HTx
  obtain ⟨⟨c0, c1, c2, c3, c4⟩, ⟨o1, o2, o3, o4⟩, f1, f2, f3, f4⟩ := S2.out.cells
  go_wp2_with fail
  clear c0 c1 c2 c3 c4 o1 o2 o3 o4 f1 f2 f3 f4
  refine (HNb.out _).mono ?_; rintro e w2 ⟨rfl, g2⟩
  have S3 := hidd (S2.out.kept g2)
  clear g2 S2 HNb
  obtain ⟨⟨c0, c1, c2, c3, c4⟩, ⟨o1, o2, o3, o4⟩, f1, f2, f3, f4⟩ := S3.out.cells
  go_wp2_with fail
  clear c0 c1 c2 c3 c4 o1 o2 o3 o4 f1 f2 f3 f4
  refine (HIn.out _).mono ?_; rintro e w3 ⟨rfl, g3⟩
  have S4 := hidd (S3.out.kept g3)
  clear g3 S3 HIn
  obtain ⟨⟨c0, c1, c2, c3, c4⟩, ⟨o1, o2, o3, o4⟩, f1, f2, f3, f4⟩ := S4.out.cells
  go_wp2_with fail
  clear c0 c1 c2 c3 c4 o1 o2 o3 o4 f1 f2 f3 f4
  have T3 := hidd (S4.out.setM p.name)
  generalize w3.setCell ⟨w.heap.size + 1 + 1, 3, none⟩ (.string p.name) = W3 at T3 ⊢
  clear S4
  obtain ⟨T, N, M, SF, HPP, rfl⟩ : ∃ T N M, Hid (BareSt w p (.slice a p.kids.length c) _ T N M (.slice none 0 0)) ∧ Hid (NumsOk (.mk p.kind T N M (p.kids.map bareQ))) ∧ X0 = .mk p.kind T N M (p.kids.map bareQ) := ⟨⟨#[]⟩, 0, p.name, T3, ⟨HPn.out.1, zero_in, none_size, HPn.out.2.2.2⟩, HbX.out⟩
  clear HbX T3
  rotate_left
  have HbX : Hid (X0 = .mk p.kind ⟨#[]⟩ 0 ⟨#[]⟩ (p.kids.map bareQ)) := by rw [hb]; unfold bareText bareNum bareName; rw [if_neg (by omega), if_neg (by omega), if_neg (by omega)]; rfl
  have k1 : (p.kind == 1) = false := beq_eq_false_iff_ne.2 (by omega)
  have x1 : isTx p.kind = false := by unfold isTx; simp; omega
  have x2 : isNb p.kind = false := by unfold isNb; simp; omega
  have x3 : [(21 : Int), 22, 23, 24].contains p.kind = false := by simp; omega
  have HTx : Hid (∀ w1, Calls Tryd.prog 63 #[.int .i64 p.kind] w1 fun e w' => e = .returned (.bool false) ∧ Grew w1 w') := fun w1 => by have := texts_any p.kind w1; rw [x1] at this; exact this
  have HNb : Hid (∀ w1, Calls Tryd.prog 64 #[.int .i64 p.kind] w1 fun e w' => e = .returned (.bool false) ∧ Grew w1 w') := fun w1 => by have := numbers_any p.kind w1; rw [x2] at this; exact this
  have HIn : Hid (∀ w1, Calls Tryd.prog 65 #[.int .i64 p.kind, .slice (some ⟨w1.heap.size, 0, none⟩) 4 4] (w1.alloc (.cells #[.int .i64 21, .int .i64 22, .int .i64 23, .int .i64 24] 3)) fun e w' => e = .returned (.bool false) ∧ Grew w1 w') := fun w1 => by have := in_later p.kind [21, 22, 23, 24] (by decide) w1 (Grew.refl w1); rw [x3] at this; exact this
  clear hk hb x1 x2 x3
  go_enter Tryd.func45, Tryd.ntmps45
  go_wp2_with fail
  refine (HTx.out _).mono ?_; rintro e w1 ⟨rfl, g1⟩
  have S2 := hidd (S0.out.kept g1)
  clear g1 S0 HTx
  obtain ⟨⟨c0, c1, c2, c3, c4⟩, ⟨o1, o2, o3, o4⟩, f1, f2, f3, f4⟩ := S2.out.cells
  go_wp2_with fail
  clear c0 c1 c2 c3 c4 o1 o2 o3 o4 f1 f2 f3 f4
  refine (HNb.out _).mono ?_; rintro e w2 ⟨rfl, g2⟩
  have S3 := hidd (S2.out.kept g2)
  clear g2 S2 HNb
  obtain ⟨⟨c0, c1, c2, c3, c4⟩, ⟨o1, o2, o3, o4⟩, f1, f2, f3, f4⟩ := S3.out.cells
  go_wp2_with fail
  clear c0 c1 c2 c3 c4 o1 o2 o3 o4 f1 f2 f3 f4
  refine (HIn.out _).mono ?_; rintro e w3 ⟨rfl, g3⟩
  have S4 := hidd (S3.out.kept g3)
  clear g3 S3 HIn
  obtain ⟨⟨c0, c1, c2, c3, c4⟩, ⟨o1, o2, o3, o4⟩, f1, f2, f3, f4⟩ := S4.out.cells
  go_wp2_with fail
  clear c0 c1 c2 c3 c4 o1 o2 o3 o4 f1 f2 f3 f4
  obtain ⟨T, N, M, SF, HPP, rfl⟩ : ∃ T N M, Hid (BareSt w p (.slice a p.kids.length c) _ T N M (.slice none 0 0)) ∧ Hid (NumsOk (.mk p.kind T N M (p.kids.map bareQ))) ∧ X0 = .mk p.kind T N M (p.kids.map bareQ) := ⟨⟨#[]⟩, 0, ⟨#[]⟩, S4, ⟨HPn.out.1, zero_in, none_size, none_size⟩, HbX.out⟩
  clear HbX S4
  rotate_left
  all_goals
    go_loopw [36] (fun s36 wr => ∃ i : Nat, s36 = .int .i64 i ∧ i ≤ p.kids.length ∧ Hid (∃ va vn vc, BareSt w p (.slice a p.kids.length c) wr T N M (.slice va vn vc) ∧ PatsOwn wr (w.heap.size + 1 + 1 + 1) (w.heap.size + 1 + 1 + 1) (.slice va vn vc) ((p.kids.map bareQ).take i))) (fun s36 _ => p.kids.length - (intOf s36).toNat)
    case atStart => exact ⟨0, rfl, by omega, none, 0, 0, SF.out, PatsOwn.nil _ _ _⟩
    case round =>
      obtain ⟨i, rfl, hi, HD⟩ := hrel
      clear SF
      obtain ⟨va, vn, vc, hS, hO⟩ := HD.out
      have HS := hidd hS
      have HO := hidd hO
      by_cases hlt : i < p.kids.length
      · obtain ⟨b, o, kk, rfl, hnd, hq⟩ := (HLq.out.kept hS.grew).at hlt
        obtain ⟨ka, kn, kc, rfl⟩ := hq.form
        have HQ := hidd hq
        have HT := hidd (bare_take hlt)
        have HC := hidd (fun w' (g : Grew w w') (hv : PatV w' (.slice ka kn kc) (p.kids.getD i Pat.zero)) => HKd.out i hlt w' g (.slice ka kn kc) hv)
        have hln : ((p.kids.map bareQ).take i).length = i := by rw [List.length_take, List.length_map]; omega
        obtain ⟨r, hr⟩ : ∃ r, p.kids.getD i Pat.zero = r := ⟨_, rfl⟩
        rw [hr] at hnd HT HC HQ
        obtain ⟨x, hx⟩ : ∃ x, bareQ r = x := ⟨_, rfl⟩
        rw [hx] at HT HC
        obtain ⟨L, hL⟩ : ∃ L, (p.kids.map bareQ).take i = L := ⟨_, rfl⟩
        rw [hL] at HT HO hln
        have HLn := hidd hln
        obtain ⟨c0, c1, c2, c3, c4, _, _, _, _⟩ := hnd
        have kl : decide ((i : Int) < (p.kids.length : Int)) = true := decide_eq_true (by omega)
        clear hr hx hL hq hS hO HD hln
        go_wp2_with fail
        have g0 : Grew wr (wr.alloc (.cells #[.int .i64 r.kind, .string r.text, .int .i64 r.n, .string r.name, .slice ka kn kc] 24)) := (Grew.refl wr).alloc _
        have HS2 := hidd (HS.out.kept g0)
        have HO2 := hidd (HO.out.kept g0)
        have HQ2 := hidd (HQ.out.kept g0)
        have HB2 := hidd (heap_alloc_new wr (.cells #[.int .i64 r.kind, .string r.text, .int .i64 r.n, .string r.name, .slice ka kn kc] 24))
        have hlow := HS.out.low
        have hown : ∀ g, (Value.slice va vn vc).ownBlock = some g → w.heap.size + 1 + 1 + 1 ≤ g ∧ g < wr.heap.size := HO.out.blocks
        clear HS HO HQ g0 c0 c1 c2 c3 c4
        generalize wr.alloc (.cells #[.int .i64 r.kind, .string r.text, .int .i64 r.n, .string r.name, .slice ka kn kc] 24) = W0 at HS2 HO2 HQ2 HB2 ⊢
        have hW0 : wr.heap.size < W0.heap.size := (Array.getElem?_eq_some_iff.1 HB2.out).1
        have htb : ∀ j v, (r.cells (.slice ka kn kc))[j]? = some v → W0.cell? ⟨wr.heap.size, j, none⟩ = some v := fun j v hj => by
          unfold World.cell?
          dsimp only
          rw [HB2.out]
          exact hj
        obtain ⟨tb, htb0⟩ : ∃ tb, wr.heap.size = tb := ⟨_, rfl⟩
        rw [htb0] at htb hW0 hown hlow ⊢
        obtain ⟨_, ⟨_, _, _, o4⟩, _, _, _, f4⟩ := HS2.out.cells
        obtain ⟨ow, how⟩ : ∃ ow, (Value.slice va vn vc).ownBlock = ow := ⟨_, rfl⟩
        rw [how] at hown
        have hoq : ow ≠ some (w.heap.size + 1 + 1) := fun e => by have := hown _ e; omega
        have hoN : ∀ g, ow = some g → g < W0.heap.size := fun g e => by have := hown g e; omega
        have gd : Grew W0 W0.drew := (Grew.refl W0).drew
        refine RR.region_frame (J := ApJ W0.drew ⟨w.heap.size + 1 + 1, 4, none⟩ ow (fun v' w' => (∃ a' n' c', v' = .slice a' n' c') ∧ PatsOwn w' (w.heap.size + 1 + 1 + 1) (w.heap.size + 1 + 1 + 1) v' (L ++ [x])) [3, 4] 1 5 7 45) (Rl := ApRl ⟨w.heap.size + 1 + 1, 4, none⟩ ow) [40, 41, 42, 43, 44, 45, 46] mixedA (ApRl.drew _ _) ApRl.trans
          [.val (.pointer (some ⟨w.heap.size + 1 + 1, 4, none⟩)), .val (.slice va vn vc), .val (.agg #[.int .i64 r.kind, .string r.text, .int .i64 r.n, .string r.name, .slice ka kn kc]), bareF W0.heap.size x, oneF W0.heap.size x, .fact fun _ _ => True, .val (.pointer (some ⟨w.heap.size + 1 + 1, 4, none⟩)), .fact fun _ _ => True]
          (ap_start _ _) (ap_mono ?_) rfl (by kernel_rfl)
          ⟨gj_field (field_pat4 _) (by decide) (by decide) (by decide) (by kernel_rfl) rfl rfl,
           gj_row (wb := W0.drew) agg_pats o4 hoq (by decide) (by decide) (by decide) (by kernel_rfl) rfl rfl,
           gj_load (p := ⟨tb, 0, none⟩) (fun w' hR => load_pat_at (p := r) (kv := .slice ka kn kc) fun j v hj => ?_) (by decide) (by decide) (by decide) (by kernel_rfl) rfl rfl,
           gj_call1 (by kernel_rfl) (by decide) (by decide) (by decide) (by decide) ?_ (by kernel_rfl),
           gj_make (by decide) (by decide) (by decide) (by decide) ?_ (by kernel_rfl),
           gj_append (by decide) (by decide) (by simp) (by decide) ?_ (by kernel_rfl) rfl,
           gj_field (field_pat4 _) (by decide) (by decide) (by decide) (by kernel_rfl) rfl rfl,
           gj_store (wb := W0.drew) (by kernel_rfl) (by kernel_rfl) (by decide) hoq rfl ⟨_, o4⟩ f4 (by decide) (fun v' w' h => ?_) (by kernel_rfl) rfl rfl size_pats, trivial⟩ ?_
        · intro s hs
          have h1 : ∀ g, ow = some g → g < W0.heap.size := hoN
          have h2 : w.heap.size + 1 + 1 < W0.heap.size := by omega
          simp only [List.mem_cons, List.not_mem_nil, or_false] at hs
          rcases hs with rfl | rfl | rfl | rfl | rfl | rfl | rfl | rfl
          · exact Or.inl ⟨_, rfl⟩
          · exact Or.inl ⟨_, rfl⟩
          · exact Or.inl ⟨_, rfl⟩
          · exact fact_bare h1 h2
          · exact fact_one h1 h2
          · exact fact_true
          · exact Or.inl ⟨_, rfl⟩
          · exact fact_true
        · rw [hR.2 ⟨tb, j, none⟩ hW0 (fun e => absurd (hown _ e).2 (Nat.lt_irrefl _)) (fun e => by have := congrArg Addr.block e; simp only at this; omega)]
          exact htb j v hj
        · intro a1 w1 hg E
          have hv : a1.eval (.tmp 42) = .agg #[.int .i64 r.kind, .string r.text, .int .i64 r.n, .string r.name, .slice ka kn kc] := E.opv rfl
          rw [hv]
          refine (HC.out w1 ((HS2.out.grew.trans gd).trans hg) ((HQ2.out.kept (gd.trans hg)).patV)).mono ?_
          rintro e w' ⟨qa, qn, qc, rfl, hq, hg'⟩
          exact ⟨_, rfl, hg', qa, qn, qc, rfl, hq.mono fun b hb _ => Nat.le_trans hg.size hb⟩
        · intro a1 w1 hg E
          obtain ⟨qa, qn, qc, hv, hq⟩ : ∃ a n c, a1.eval (.tmp 43) = .agg #[.int .i64 x.kind, .string x.text, .int .i64 x.n, .string x.name, .slice a n c] ∧ PQ w1 (fun b => W0.heap.size ≤ b) (.slice a n c) x := E.op (.tmp 43)
          refine ⟨_, _, ?_, (Grew.refl w1).alloc (.cells #[.int .i64 x.kind, .string x.text, .int .i64 x.n, .string x.name, .slice qa qn qc] 24), w1.heap.size, .slice qa qn qc, rfl, hg.size, fun j hj => ?_, hq.kept ((Grew.refl w1).alloc _)⟩
          · unfold execOp
            simp only [List.map_toArray, List.map_cons, List.map_nil, hv, Sem.run_bind, build_pat1, Result.andThen_ok, Sem.run_pure]
          · rw [World.cell?_alloc_mark]; rfl
        · intro a1 w1 hg E
          have hv : a1.eval (.tmp 41) = .slice va vn vc := E.opv rfl
          obtain ⟨g, kv2, hz, hg1, hg2, hg3⟩ : ∃ g kv, a1.eval (.tmp 44) = .slice (some ⟨g, 0, none⟩) 1 1 ∧ W0.heap.size ≤ g ∧ (∀ j, j < 5 → w1.cell? ⟨g, j, none⟩ = (x.cells kv)[j]?) ∧ PQ w1 (fun b => W0.heap.size ≤ b) kv x := E.op (.tmp 44)
          rw [hv, hz]
          have hgs := hg.size
          obtain ⟨v', w', hap, ho, _, hgr⟩ := pats_append (HO2.out.kept (gd.trans hg)) (by have : W0.drew.heap.size = W0.heap.size := rfl; omega) (m := [x]) (list_at hg2 hg3 hg1) (by simp) (fun b hb _ => ⟨by omega, fun e => by rw [how] at e; have := hown _ e; omega⟩) (by rw [HLn.out]; simp; omega) 22
          refine ⟨v', w', hap, ⟨?_, ho⟩, by rw [← how]; exact hgr⟩
          obtain ⟨a', c', e⟩ := ho.len
          exact ⟨_, _, _, e⟩
        · obtain ⟨⟨a', n', c', e⟩, _⟩ := h
          rw [e]; exact ⟨rfl, rfl⟩
        intro xs listed a3 w3 hall hxs hJ hR ht
        obtain ⟨v', w1, ⟨⟨a', n', c', rfl⟩, happ⟩, hgr, rfl⟩ := hJ.p2 (hall 7 (by decide))
        have HE : Hid (BareSt w p (.slice (some ⟨b, o, none⟩) p.kids.length c) (w1.setCell ⟨w.heap.size + 1 + 1, 4, none⟩ (.slice a' n' c')) T N M (.slice a' n' c') ∧ PatsOwn (w1.setCell ⟨w.heap.size + 1 + 1, 4, none⟩ (.slice a' n' c')) (w.heap.size + 1 + 1 + 1) (w.heap.size + 1 + 1 + 1) (.slice a' n' c') ((p.kids.map bareQ).take (i + 1))) := by
          refine ⟨((HS2.out.kept gd).grown hgr fun g hg => by have := hown g hg; omega).setV _, ?_⟩
          rw [HT.out]
          exact happ.grownOther (r := some (w.heap.size + 1 + 1)) (grown_cell _ _ _ _) fun g hg => by
            cases hg
            exact ⟨by omega, fun e => by have := happ.blocks _ e; omega⟩
        clear ht hJ hR hall hxs happ hgr HS2 HO2 HQ2 HB2 htb hown hW0 hoq hoN gd
        simp only [List.foldl_cons, List.foldl_nil, List.setIfInBounds_toArray, List.set_cons_succ, List.set_cons_zero]
        generalize w1.setCell ⟨w.heap.size + 1 + 1, 4, none⟩ (.slice a' n' c') = W3 at HE ⊢
        go_wp2_with fail
        go_roundw
        case rel => exact ⟨i + 1, by go_num, by omega, a', n', c', HE.out⟩
        case measure => simp [intOf]; omega
      · have hie : i = p.kids.length := by omega
        have kl : decide ((i : Int) < (p.kids.length : Int)) = false := decide_eq_false (by omega)
        have HE := hidd hO
        rw [show (p.kids.map bareQ).take i = p.kids.map bareQ from by rw [hie, show p.kids.length = (p.kids.map bareQ).length from (List.length_map _).symm, List.take_length]] at HE
        clear hS hO HO HD hie HKd HLq
        have hlow := HS.out.low
        obtain ⟨⟨b0, b1, b2, b3, b4⟩, bf⟩ := five_cells HS.out.out
        obtain ⟨⟨z0, z1, z2, z3, z4⟩, zf⟩ := five_cells HS.out.res
        have HQ : Hid (PQ wr (fun b => w.heap.size + 1 + 1 + 1 ≤ b) (.slice va vn vc) (.mk p.kind T N M (p.kids.map bareQ))) := bare_pq HE.out (Nat.le_refl _) HPP.out rfl
        go_wp2_with fail
        exact bodyPost_ret (results_pat (rb := w.heap.size + 1) rfl rfl (setPat_heap HS.out.res) rfl) rfl (bare_end (.mk p.kind T N M (p.kids.map bareQ)) HE.out HQ.out (by omega) (by omega) HS.out.grew (by omega) _ _ _ _ _)
theorem nodes_pos6 (p : Pat) : 0 < nodesP p := by
  obtain ⟨k, t, n, m, l⟩ := p
  rw [nodesP]; omega
theorem nodes_mem6 {q : Pat} : ∀ {l : List Pat}, q ∈ l → nodesP q ≤ nodesL l
  | [], h => by simp at h
  | p :: l, h => by
    rw [nodesL]
    rcases List.mem_cons.1 h with rfl | h
    · omega
    · have := nodes_mem6 h; omega
theorem bare_fuel : ∀ (f : Nat) (p : Pat) (kv : Value) (w : World), nodesP p ≤ f → PatV w kv p → nodesP p ≤ 4096 → Calls Tryd.prog 45 #[.agg (p.cells kv)] w (BareEnd w.heap.size (bareQ p) w)
  | 0, p, kv, w, hf, _, _ => by have := nodes_pos6 p; omega
  | f + 1, p, kv, w, hf, hv, hn => by
    refine bare_at p kv w ⟨hv, hn, fun q hq kv' w' g hv' => ?_⟩
    have h1 : nodesP q + 1 ≤ nodesP p := by
      obtain ⟨k, t, n, m, l⟩ := p
      have := nodes_mem6 (show q ∈ l from hq)
      rw [nodesP]; omega
    exact bare_fuel f q kv' w' (by omega) hv' (by omega)
theorem Bare_any (p : Pat) (kv : Value) (w : World) (hv : PatV w kv p) (hn : nodesP p ≤ 4096) : Calls Tryd.prog 45 #[.agg (p.cells kv)] w (BareEnd w.heap.size (bareQ p) w) := bare_fuel _ p kv w (Nat.le_refl _) hv hn
end Go.Proofs.YtglfdfeideeeaaaDoor
