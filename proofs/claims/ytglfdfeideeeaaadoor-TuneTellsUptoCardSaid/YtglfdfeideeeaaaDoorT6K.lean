/- The document's Simple at kinds that have kids: what it needs. Printed. -/
import Derived.Test.YtglfdfeideeeaaaDoorT6Z
import Derived.Test.YtglfdfeideeeaaaDoorRegAS
namespace Go.Proofs.YtglfdfeideeeaaaDoor
open Go.RowKit RR
set_option linter.unusedVariables false
theorem SimSt.grown {w W W' : World} {p : Pat} {kv : Value} {qb g : Nat} {k : Int} {t : ByteArray} {n : Int} {m : ByteArray} {v : Value} (h : SimSt w p kv qb W k t n m v) (hg : W.grownBy W' (some g)) (h1 : w.heap.size + 1 < g) (h2 : g ≠ qb) : SimSt w p kv qb W' k t n m v := by
  have hi := h.hi
  have hl := h.low
  have hz := h.grew.size
  have hk : ∀ b, b < W.heap.size → b ≠ g → W'.heap[b]? = W.heap[b]? := fun b hb hne => hg.block b hb (fun e => hne (by cases e; rfl))
  exact ⟨h.grew.below (B := w.heap.size) ⟨hg.os, hg.tape, hg.output, hg.size, fun b hb => hk b (by omega) (by omega)⟩ (Nat.le_refl _), hl, (hk _ (by omega) (by omega)).trans h.box, (hk _ (by omega) (by omega)).trans h.res, (hk _ hi (Ne.symm h2)).trans h.out⟩
def mixL (B : List Pat) (i : Nat) : List Pat := (B.take i).map simple ++ B.drop i
theorem mix_length (B : List Pat) (i : Nat) : (mixL B i).length = B.length := by
  unfold mixL
  rw [List.length_append, List.length_map, List.length_take, List.length_drop]; omega
theorem mix_at {B : List Pat} {i : Nat} (h : i < B.length) : (mixL B i).getD i Pat.zero = B.getD i Pat.zero := by
  unfold mixL
  rw [List.getD_eq_getElem?_getD, List.getD_eq_getElem?_getD, List.getElem?_append_right (by rw [List.length_map, List.length_take]; omega), List.length_map, List.length_take, Nat.min_eq_left (by omega), Nat.sub_self, List.getElem?_drop, Nat.add_zero]
theorem mix_next {B : List Pat} {i : Nat} (h : i < B.length) : (mixL B i).set i (simple (B.getD i Pat.zero)) = mixL B (i + 1) := by
  unfold mixL
  rw [List.set_append_right _ _ (by rw [List.length_map, List.length_take]; omega), List.length_map, List.length_take, Nat.min_eq_left (by omega), Nat.sub_self, List.drop_eq_getElem_cons h, List.set_cons_zero, take_getD h, List.map_append, List.append_assoc]
  rfl
theorem mix_end (l : List Pat) : mixL (l.map bareQ) (l.map bareQ).length = l.map simple := by
  unfold mixL
  rw [List.take_length, List.drop_length, List.append_nil, List.map_map]
  exact List.map_congr_left fun x _ => simple_bare x
theorem index_pats {g k m vc : Nat} (hk : k < m) (hm : m < 9223372036854775807) (w : World) : (Instr.indexAt 22 (.slice (some ⟨g, 0, none⟩) m vc) (.int .i64 (k : Int))).run Tryd.prog w = .ok (.pointer (some ⟨g, k * 5, none⟩)) w := by
  have hi := info_pat5
  have hu : Tryd.prog.elem 22 = 24 := by kernel_rfl
  cases hq : Tryd.prog.info? 24 with
  | none => rw [hq] at hi; cases hi
  | some ie =>
    have hsz : ie.size = 5 := by simpa [hq] using hi
    have := run_indexAt_slice (P := Tryd.prog) (w := w) 22 ⟨g, 0, none⟩ m vc .i64 (k : Int) (by rw [hu]; exact Tryd.underlying22)
    rw [if_pos ⟨by omega, by omega⟩, hu] at this
    have hz : (sizeOf 24).run Tryd.prog w = .ok 5 w := by simp [sizeOf, typeInfo, hq, hsz]
    simp only [this, hz, Result.andThen_ok, Int.toNat_natCast, addr_plus, Nat.zero_add]
theorem load_node {w : World} {b o : Nat} {p : Pat} {kv : Value} (hc : NodeAt w b o p kv) : (Instr.loadAt 24 (.pointer (some ⟨b, o, none⟩))).run Tryd.prog w = .ok (.agg #[.int .i64 p.kind, .string p.text, .int .i64 p.n, .string p.name, kv]) w := by
  have h := run_loadVar_mid (P := Tryd.prog) w b o 24 [.int .i64 p.kind, .string p.text, .int .i64 p.n, .string p.name, kv] _ (fun j v hj => by
    have hlt : j < 5 := by have := (List.getElem?_eq_some_iff.1 hj).1; simpa using this
    have hcj := hc.cell j hlt
    rw [cells_eq] at hcj
    rw [hcj]; simpa using hj) Tryd.underlying24 rfl info_pat5
  simp only [Instr.loadAt, Instr.sureAddr, Sem.run_bind, Sem.run_pure, Result.andThen_ok, h]
theorem store_node {w : World} {b o : Nat} {p : Pat} {kv : Value} (hc : NodeAt w b o p kv) (hf : ∀ j, w.frozen? ⟨b, j, none⟩ = false) (q : Pat) {a : Option Addr} {n c : Nat} : (Instr.storeAt 24 (.pointer (some ⟨b, o, none⟩)) (.agg #[.int .i64 q.kind, .string q.text, .int .i64 q.n, .string q.name, .slice a n c])).run Tryd.prog w = .ok () (setPat w b o q (.slice a n c)) := by
  have := run_storeAt_mid (P := Tryd.prog) w b o 24 #[.int .i64 q.kind, .string q.text, .int .i64 q.n, .string q.name, .slice a n c] (fun j hj => ⟨by
    have hlt : j < 5 := hj
    have h1 : j < (p.cells kv).size := hlt
    rw [hc.cell j hlt, Array.getElem?_eq_getElem h1]; rfl, hf _⟩) info_pat5 (by simp [Value.oneCell'])
  rw [this]; rfl
def simF (N : Nat) (x : Pat) : Sh := .fact fun z w => ∃ a n c, z = .agg #[.int .i64 x.kind, .string x.text, .int .i64 x.n, .string x.name, .slice a n c] ∧ PQ w (fun b => N ≤ b) (.slice a n c) x
theorem no_pq {g : Nat} {w w' : World} (h : NoRl g w w') {N : Nat} (ho : g < N) {kv : Value} {p : Pat} (k : PQ w (fun b => N ≤ b) kv p) : PQ w' (fun b => N ≤ b) kv p :=
  k.keep (fun b o v hb hc => by
    rw [h.2 ⟨b, o, none⟩ (lt_of_cell hc) (by show b ≠ g; omega)]
    exact hc) (fun _ h _ => h)
theorem fact_sim {g N : Nat} {x : Pat} (ho : g < N) : (∃ v, simF N x = .val v) ∨ ∃ f, simF N x = .fact f ∧ ∀ z w w', NoRl g w w' → f z w → f z w' :=
  Or.inr ⟨_, rfl, fun z w w' h ⟨a, n, c, h1, h2⟩ => ⟨a, n, c, h1, no_pq h ho h2⟩⟩
theorem fact_true2 {g : Nat} : (∃ v, Sh.fact (fun _ _ => True) = .val v) ∨ ∃ f, Sh.fact (fun _ _ => True) = .fact f ∧ ∀ z w w', NoRl g w w' → f z w → f z w' := Or.inr ⟨_, rfl, fun _ _ _ _ _ => trivial⟩
def HiAt (w : World) (g M : Nat) (B : List Pat) (i : Nat) : Prop := ∀ j, j < i → ∃ kv, w.cell? ⟨g, j * 5 + 4, none⟩ = some kv ∧ PQ w (fun b => M ≤ b) kv (simple (B.getD j Pat.zero))
theorem HiAt.kept {w w' : World} {g M : Nat} {B : List Pat} {i : Nat} (h : HiAt w g M B i) (k : Grew w w') : HiAt w' g M B i := fun j hj => by
  obtain ⟨kv, h1, h2⟩ := h j hj
  exact ⟨kv, k.keeps h1, h2.kept k⟩
theorem HiAt.set {w : World} {g M : Nat} {B : List Pat} {i : Nat} (h : HiAt w g M B i) (hg : g < M) {y : Pat} {kv : Value} (hy : simple (B.getD i Pat.zero) = y) (hq : PQ w (fun b => M ≤ b) kv y) (hgr : w.grownBy (setPat w g (i * 5) y kv) (some g)) (hc : (w.cell? ⟨g, i * 5 + 4, none⟩).isSome = true) : HiAt (setPat w g (i * 5) y kv) g M B (i + 1) := fun j hj => by
  have hk : ∀ {u : Value} {x : Pat}, PQ w (fun b => M ≤ b) u x → PQ (setPat w g (i * 5) y kv) (fun b => M ≤ b) u x := fun hu => hu.grown hgr fun b hb e => by cases e; omega
  by_cases hji : j < i
  · obtain ⟨u, h1, h2⟩ := h j hji
    refine ⟨u, ?_, hk h2⟩
    unfold setPat
    rw [World.cell?_setCell_other _ _ _ _ (by simp <;> omega), World.cell?_setCell_other _ _ _ _ (by simp <;> omega), World.cell?_setCell_other _ _ _ _ (by simp <;> omega), World.cell?_setCell_other _ _ _ _ (by simp <;> omega), World.cell?_setCell_other _ _ _ _ (by simp <;> omega)]
    exact h1
  · have : j = i := by omega
    subst this
    refine ⟨kv, ?_, by rw [hy]; exact hk hq⟩
    obtain ⟨z, hz⟩ := Option.isSome_iff_exists.1 hc
    unfold setPat
    refine World.cell?_setCell_same (u := z) (h := ?_) ..
    · exact (by
      rw [World.cell?_setCell_other _ _ _ _ (by simp), World.cell?_setCell_other _ _ _ _ (by simp), World.cell?_setCell_other _ _ _ _ (by simp), World.cell?_setCell_other _ _ _ _ (by simp)]
      exact hz)
theorem HiAt.list {w : World} {B0 N g c M : Nat} {B L : List Pat} (h : HiAt w g M B B.length) (ho : PatsOwn w B0 N (.slice (some ⟨g, 0, none⟩) L.length c) L) (hL : L.length = B.length) (he : ∀ j, j < B.length → L.getD j Pat.zero = simple (B.getD j Pat.zero)) (hg : M ≤ g ∨ True) : ∃ kvs : List Value, kvs.length = L.length ∧ (∀ j, j < L.length * 5 → w.cell? ⟨g, 0 + j, none⟩ = (patCells L kvs)[j]?) ∧ ∀ i, i < L.length → PQ w (fun b => M ≤ b) (kvs.getD i undef) (L.getD i Pat.zero) := by
  obtain ⟨kvs, k1, k2, k3⟩ := ho.rep
  refine ⟨kvs, k1, fun j hj => by rw [Nat.zero_add]; exact World.ownsRow.cellAt k2 j hj, fun i hi => ?_⟩
  obtain ⟨kv, h1, h2⟩ := h i (by omega)
  have h3 := World.ownsRow.cellAt k2 (i * 5 + 4) (by omega)
  rw [h1, patCells_at L kvs i 4 k1 hi (by omega)] at h3
  have h4 : kv = kvs.getD i undef := by
    have : ((L.getD i Pat.zero).cells (kvs.getD i undef))[4]? = some (kvs.getD i undef) := rfl
    rw [this] at h3
    exact Option.some.inj h3
  rw [← h4, he i (by omega)]
  exact h2
structure SimKids (p : Pat) (kv : Value) (w : World) : Prop where
  pat : PatV w kv p
  right : errW p = 0
  nodes : nodesP p ≤ 4096
  kids : ∀ q, nodesP q < nodesP p → errW q = 0 → ∀ kv w', Grew w w' → PatV w' kv q → Calls Tryd.prog 14 #[.agg (q.cells kv)] w' (SingleEnd w'.heap.size (simple q) w')
theorem simR_kid {q : Pat} {kv : Value} {w : World} (h : Calls Tryd.prog 14 #[.agg (q.cells kv)] w (SingleEnd w.heap.size (simple q) w)) :
    Calls Tryd.prog 14 #[.agg #[.int .i64 q.kind, .string q.text, .int .i64 q.n, .string q.name, kv]] w fun e w' => ∃ a n c, e = .returned (.agg #[.int .i64 (simple q).kind, .string (simple q).text, .int .i64 (simple q).n, .string (simple q).name, .slice a n c]) ∧ PQ w' (fun b => w.heap.size ≤ b) (.slice a n c) (simple q) ∧ Grew w w' := by
  refine Calls.mono h ?_
  rintro e w' ⟨kv', rfl, hq, hg⟩
  obtain ⟨a, n, c, rfl⟩ := hq.form
  exact ⟨a, n, c, rfl, hq, hg⟩
theorem kid_nodes {p : Pat} {i : Nat} (h : i < p.kids.length) : nodesP (bareQ (p.kids.getD i Pat.zero)) < nodesP p := by
  obtain ⟨k, t, n, m, l⟩ := p
  have h : i < l.length := h
  have hm : l.getD i Pat.zero ∈ l := by rw [List.getD_eq_getElem?_getD, List.getElem?_eq_getElem h]; exact List.getElem_mem h
  have := nodes_mem6 hm
  show nodesP (bareQ (l.getD i Pat.zero)) < nodesP (.mk k t n m l)
  rw [bare_nodes, nodesP]; omega
theorem kid_right {p : Pat} (he : errW p = 0) {i : Nat} (h : i < p.kids.length) : errW (bareQ (p.kids.getD i Pat.zero)) = 0 :=
  bareQ_right _ (((errW_iff p).1 he).2 _ (by rw [List.getD_eq_getElem?_getD, List.getElem?_eq_getElem h]; exact List.getElem_mem h))
end Go.Proofs.YtglfdfeideeeaaaDoor
