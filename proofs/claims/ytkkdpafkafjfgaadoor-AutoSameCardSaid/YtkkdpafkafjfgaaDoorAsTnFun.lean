/- Patterns in memory, by which blocks they lie in; lists of them in a slice of one's own. No condition. -/
import Derived.Test.YtkkdpafkafjfgaaDoorAsTnRight
import Derived.Test.YtkkdpafkafjfgaaDoorAsScWrong
import Derived.Test.YtkkdpafkafjfgaaDoorAsPGlX
import Derived.Deep.AppendLies
import Derived.Laws.ResultCell
namespace Go.Proofs.YtkkdpafkafjfgaaDoor
open Go.RowKit
set_option linter.unusedVariables false
def patCells : List Pat → List Value → List Value
  | p :: l, v :: vs => (p.cells v).toList ++ patCells l vs
  | _, _ => []
theorem patCells_length : ∀ (l : List Pat) (vs : List Value), vs.length = l.length → (patCells l vs).length = l.length * 5
  | [], [], _ => rfl
  | [], v :: vs, h => by simp at h
  | p :: l, [], h => by simp at h
  | p :: l, v :: vs, h => by
    rw [patCells, List.length_append, patCells_length l vs (by simpa using h), List.length_cons]
    show 5 + _ = _; omega
theorem patCells_append : ∀ (l : List Pat) (vs : List Value) (m : List Pat) (us : List Value), vs.length = l.length → patCells (l ++ m) (vs ++ us) = patCells l vs ++ patCells m us
  | [], [], m, us, _ => rfl
  | [], v :: vs, m, us, h => by simp at h
  | p :: l, [], m, us, h => by simp at h
  | p :: l, v :: vs, m, us, h => by
    rw [List.cons_append, List.cons_append, patCells, patCells, patCells_append l vs m us (by simpa using h), List.append_assoc]
theorem patCells_at : ∀ (l : List Pat) (vs : List Value) (i j : Nat), vs.length = l.length → i < l.length → j < 5 → (patCells l vs)[i * 5 + j]? = ((l.getD i Pat.zero).cells (vs.getD i undef))[j]?
  | [], vs, i, j, _, h, _ => by simp at h
  | p :: l, [], i, j, h, _, _ => by simp at h
  | p :: l, v :: vs, 0, j, h, _, hj => by
    rw [patCells, Nat.zero_mul, Nat.zero_add, List.getElem?_append_left (by show j < 5; exact hj), Array.getElem?_toList]; rfl
  | p :: l, v :: vs, i + 1, j, h, hi, hj => by
    rw [patCells, List.getElem?_append_right (by show 5 ≤ _; omega)]
    have e : (i + 1) * 5 + j - (p.cells v).toList.length = i * 5 + j := by show (i + 1) * 5 + j - 5 = _; omega
    rw [e, patCells_at l vs i j (by simpa using h) (by simpa using hi) hj]; rfl
theorem patCells_take : ∀ (l : List Pat) (vs : List Value) (n : Nat), vs.length = l.length → (patCells l vs).take (n * 5) = patCells (l.take n) (vs.take n)
  | [], vs, n, h => by cases vs <;> simp [patCells]
  | p :: l, [], n, h => by simp at h
  | p :: l, v :: vs, 0, h => by simp [patCells]
  | p :: l, v :: vs, n + 1, h => by
    rw [List.take_succ_cons, List.take_succ_cons, patCells, patCells, ← patCells_take l vs n (by simpa using h), List.take_append]
    have e : (p.cells v).toList.length = 5 := rfl
    rw [e, List.take_of_length_le (by rw [e]; omega), show (n + 1) * 5 - 5 = n * 5 by omega]
theorem patCells_one (l : List Pat) (vs : List Value) : ∀ u ∈ patCells l vs, (∀ v ∈ vs, v.oneCell' = true) → u.oneCell' = true := by
  induction l generalizing vs with
  | nil => intro u hu; simp [patCells] at hu
  | cons p l ih =>
    cases vs with
    | nil => intro u hu; simp [patCells] at hu
    | cons v vs =>
      intro u hu hv
      rw [patCells] at hu
      rcases List.mem_append.1 hu with hu | hu
      · have hu : u ∈ [Value.int .i64 p.kind, .string p.text, .int .i64 p.n, .string p.name, v] := hu
        simp only [List.mem_cons, List.not_mem_nil, or_false] at hu
        rcases hu with rfl | rfl | rfl | rfl | rfl
        · rfl
        · rfl
        · rfl
        · rfl
        · exact hv _ (by simp)
      · exact ih vs u hu (fun x hx => hv x (by simp [hx]))
structure NumsOk (p : Pat) : Prop where
  hk : -9223372036854775808 ≤ p.kind ∧ p.kind ≤ 9223372036854775807
  hn : -9223372036854775808 ≤ p.n ∧ p.n ≤ 9223372036854775807
  ht : p.text.size ≤ maxLen
  hm : p.name.size ≤ maxLen
inductive PQ (w : World) (Q : Nat → Prop) : Value → Pat → Prop where
  | leaf (p : Pat) (a : Option Addr) (c : Nat) (hp : NumsOk p) (h0 : p.kids = []) : PQ w Q (.slice a 0 c) p
  | node (p : Pat) (b o c : Nat) (kvs : List Value) (hp : NumsOk p) (h0 : 0 < p.kids.length) (hc : p.kids.length ≤ c) (hc' : c ≤ maxLen) (hQ : Q b) (hlen : kvs.length = p.kids.length)
      (cs : ∀ j, j < p.kids.length * 5 → w.cell? ⟨b, o + j, none⟩ = (patCells p.kids kvs)[j]?) (hl : ∀ i, i < p.kids.length → PQ w Q (kvs.getD i undef) (p.kids.getD i Pat.zero)) : PQ w Q (.slice (some ⟨b, o, none⟩) p.kids.length c) p
theorem PQ.nums {w : World} {Q : Nat → Prop} {kv : Value} {p : Pat} (h : PQ w Q kv p) : NumsOk p := by cases h <;> assumption
theorem PQ.one {w : World} {Q : Nat → Prop} {kv : Value} {p : Pat} (h : PQ w Q kv p) : kv.oneCell' = true := by cases h <;> rfl
theorem PQ.keep {w w' : World} {Q Q' : Nat → Prop} (h1 : ∀ b o v, Q b → w.cell? ⟨b, o, none⟩ = some v → w'.cell? ⟨b, o, none⟩ = some v) (h2 : ∀ b, Q b → b < w.heap.size → Q' b) {kv : Value} {p : Pat} (h : PQ w Q kv p) : PQ w' Q' kv p := by
  induction h with
  | leaf p a c hp h0 => exact .leaf p a c hp h0
  | node p b o c kvs hp h0 hc hc' hQ hlen cs hl ih =>
    have hv : ∀ j, j < p.kids.length * 5 → ∃ v, w.cell? ⟨b, o + j, none⟩ = some v ∧ (patCells p.kids kvs)[j]? = some v := by
      intro j hj
      have hlt : j < (patCells p.kids kvs).length := by rw [patCells_length _ _ hlen]; exact hj
      exact ⟨_, by rw [cs j hj]; exact List.getElem?_eq_getElem hlt, List.getElem?_eq_getElem hlt⟩
    obtain ⟨v0, hv0, _⟩ := hv 0 (by omega)
    refine .node p b o c kvs hp h0 hc hc' (h2 b hQ (lt_of_cell hv0)) hlen (fun j hj => ?_) ih
    obtain ⟨v, h3, h4⟩ := hv j hj
    rw [h4]; exact h1 b _ v hQ h3
theorem PQ.kept {w w' : World} {Q : Nat → Prop} (g : Grew w w') {kv : Value} {p : Pat} (h : PQ w Q kv p) : PQ w' Q kv p := h.keep (fun _ _ _ _ h => g.keeps h) (fun _ h _ => h)
theorem PQ.mono {w : World} {Q Q' : Nat → Prop} (k : ∀ b, Q b → b < w.heap.size → Q' b) {kv : Value} {p : Pat} (h : PQ w Q kv p) : PQ w Q' kv p := h.keep (fun _ _ _ _ h => h) k
theorem PQ.lt {w : World} {Q : Nat → Prop} {kv : Value} {p : Pat} (h : PQ w Q kv p) : PQ w (fun b => Q b ∧ b < w.heap.size) kv p := h.mono fun b h1 h2 => ⟨h1, h2⟩
theorem PQ.grown {w w' : World} {Q : Nat → Prop} {row : Option Nat} (g : w.grownBy w' row) (hQ : ∀ b, Q b → row ≠ some b) {kv : Value} {p : Pat} (h : PQ w Q kv p) : PQ w' Q kv p :=
  h.keep (fun b o v hb hc => by
    have hlt := lt_of_cell hc
    unfold World.cell? at hc ⊢
    rw [g.block b hlt (Ne.symm (hQ b hb))]; exact hc) (fun _ h _ => h)
theorem cells5 {w : World} {b o : Nat} {l : List Pat} {kvs : List Value} (hlen : kvs.length = l.length) (cs : ∀ j, j < l.length * 5 → w.cell? ⟨b, o + j, none⟩ = (patCells l kvs)[j]?) {i : Nat} (hi : i < l.length) :
    ∀ j, j < 5 → w.cell? ⟨b, o + i * 5 + j, none⟩ = ((l.getD i Pat.zero).cells (kvs.getD i undef))[j]? := by
  intro j hj
  rw [Nat.add_assoc, cs (i * 5 + j) (by omega), patCells_at l kvs i j hlen hi hj]
theorem node_of {w : World} {b o : Nat} {p : Pat} {kv : Value} (hp : NumsOk p) (cs : ∀ j, j < 5 → w.cell? ⟨b, o + j, none⟩ = (p.cells kv)[j]?) : NodeAt w b o p kv :=
  ⟨cs 0 (by omega), cs 1 (by omega), cs 2 (by omega), cs 3 (by omega), cs 4 (by omega), hp.hk, hp.hn, hp.ht, hp.hm⟩
theorem PQ.kidsAt {w : World} {Q : Nat → Prop} {kv : Value} {p : Pat} (h : PQ w Q kv p) : KidsAt w kv p.kids := by
  induction h with
  | leaf p a c hp h0 => rw [h0]; exact Or.inl ⟨a, c, rfl, rfl⟩
  | node p b o c kvs hp h0 hc hc' hQ hlen cs hl ih =>
    exact Or.inr ⟨b, o, c, rfl, h0, hc, hc', fun i hi => .shut (node_of (hl i hi).nums (cells5 hlen cs hi)) (ih i hi)⟩
theorem PQ.patV {w : World} {Q : Nat → Prop} {kv : Value} {p : Pat} (h : PQ w Q kv p) : PatV w kv p := ⟨h.kidsAt, h.nums.hk, h.nums.hn, h.nums.ht, h.nums.hm⟩
theorem NodeAt.cell {w : World} {b o : Nat} {p : Pat} {kv : Value} (h : NodeAt w b o p kv) : ∀ j, j < 5 → w.cell? ⟨b, o + j, none⟩ = (p.cells kv)[j]? := by
  intro j hj
  match j, hj with
  | 0, _ => exact h.c0
  | 1, _ => exact h.c1
  | 2, _ => exact h.c2
  | 3, _ => exact h.c3
  | 4, _ => exact h.c4
theorem NodeAt.nums {w : World} {b o : Nat} {p : Pat} {kv : Value} (h : NodeAt w b o p kv) : NumsOk p := ⟨h.hk, h.hn, h.ht, h.hm⟩
theorem PatAt.pq {w : World} {b o : Nat} {p : Pat} (h : PatAt w b o p) : ∃ kv, NodeAt w b o p kv ∧ PQ w (fun b => b < w.heap.size) kv p := by
  induction h with
  | leaf b o k t n m a c c0 c1 c2 c3 c4 hk hn ht hm => exact ⟨_, ⟨c0, c1, c2, c3, c4, hk, hn, ht, hm⟩, .leaf (.mk k t n m []) a c ⟨hk, hn, ht, hm⟩ rfl⟩
  | node b o k t n m l b' o' c c0 c1 c2 c3 c4 hk hn ht hm h0 hc hc' hl ih =>
    obtain ⟨kvs, hlen, hq⟩ := choose_below undef (n := l.length) (Q := fun i kv => NodeAt w b' (o' + i * 5) (l.getD i Pat.zero) kv ∧ PQ w (fun b => b < w.heap.size) kv (l.getD i Pat.zero)) (fun i hi => ih i hi)
    refine ⟨_, ⟨c0, c1, c2, c3, c4, hk, hn, ht, hm⟩, .node (.mk k t n m l) b' o' c kvs ⟨hk, hn, ht, hm⟩ h0 hc hc' (by have := (hq 0 h0).1.c0; exact lt_of_cell this) hlen (fun j hj => ?_) (fun i hi => (hq i hi).2)⟩
    have hj5 : j < l.length * 5 := hj
    have e : j = (j / 5) * 5 + j % 5 := by omega
    have hi : j / 5 < l.length := by omega
    have := (hq (j / 5) hi).1.cell (j % 5) (by omega)
    rw [Nat.add_assoc, ← e] at this
    show _ = (patCells l kvs)[j]?
    rw [this, ← patCells_at l kvs (j / 5) (j % 5) hlen hi (by omega), ← e]
theorem KidsAt.pq {w : World} {kv : Value} {p : Pat} (hp : NumsOk p) (h : KidsAt w kv p.kids) : PQ w (fun b => b < w.heap.size) kv p := by
  rcases h with ⟨a, c, rfl, h0⟩ | ⟨b, o, c, rfl, h0, hc, hc', hl⟩
  · exact .leaf p a c hp h0
  · obtain ⟨kvs, hlen, hq⟩ := choose_below undef (n := p.kids.length) (Q := fun i kv => NodeAt w b (o + i * 5) (p.kids.getD i Pat.zero) kv ∧ PQ w (fun b => b < w.heap.size) kv (p.kids.getD i Pat.zero)) (fun i hi => (hl i hi).pq)
    refine .node p b o c kvs hp h0 hc hc' (by have := (hq 0 h0).1.c0; exact lt_of_cell this) hlen (fun j hj => ?_) (fun i hi => (hq i hi).2)
    have e : j = (j / 5) * 5 + j % 5 := by omega
    have hi : j / 5 < p.kids.length := by omega
    have := (hq (j / 5) hi).1.cell (j % 5) (by omega)
    rw [Nat.add_assoc, ← e] at this
    rw [this, ← patCells_at p.kids kvs (j / 5) (j % 5) hlen hi (by omega), ← e]
theorem PatV.pq {w : World} {kv : Value} {p : Pat} (h : PatV w kv p) : PQ w (fun b => b < w.heap.size) kv p := KidsAt.pq ⟨h.hk, h.hn, h.ht, h.hm⟩ h.kids
structure ListIn (w : World) (Q : Nat → Prop) (v : Value) (l : List Pat) : Prop where
  rep : (∃ a c, v = .slice a 0 c ∧ l = []) ∨ ∃ (b o c : Nat) (kvs : List Value), v = .slice (some ⟨b, o, none⟩) l.length c ∧ 0 < l.length ∧ l.length ≤ c ∧ c ≤ maxLen ∧ kvs.length = l.length ∧
    (∀ j, j < l.length * 5 → w.cell? ⟨b, o + j, none⟩ = (patCells l kvs)[j]?) ∧ ∀ i, i < l.length → PQ w Q (kvs.getD i undef) (l.getD i Pat.zero)
theorem ListIn.kept {w w' : World} {Q : Nat → Prop} (g : Grew w w') {v : Value} {l : List Pat} (h : ListIn w Q v l) : ListIn w' Q v l := by
  rcases h.rep with h | ⟨b, o, c, kvs, h1, h2, h3, h4, h5, h6, h7⟩
  · exact ⟨Or.inl h⟩
  · refine ⟨Or.inr ⟨b, o, c, kvs, h1, h2, h3, h4, h5, fun j hj => ?_, fun i hi => (h7 i hi).kept g⟩⟩
    have hlt : j < (patCells l kvs).length := by rw [patCells_length _ _ h5]; exact hj
    have := h6 j hj
    rw [List.getElem?_eq_getElem hlt] at this ⊢
    exact g.keeps this
theorem ListIn.mono {w : World} {Q Q' : Nat → Prop} (k : ∀ b, Q b → b < w.heap.size → Q' b) {v : Value} {l : List Pat} (h : ListIn w Q v l) : ListIn w Q' v l := by
  rcases h.rep with h | ⟨b, o, c, kvs, h1, h2, h3, h4, h5, h6, h7⟩
  · exact ⟨Or.inl h⟩
  · exact ⟨Or.inr ⟨b, o, c, kvs, h1, h2, h3, h4, h5, h6, fun i hi => (h7 i hi).mono k⟩⟩
theorem ListIn.len {w : World} {Q : Nat → Prop} {v : Value} {l : List Pat} (h : ListIn w Q v l) : ∃ a c, v = .slice a l.length c ∧ l.length ≤ maxLen := by
  rcases h.rep with ⟨a, c, h, e⟩ | ⟨b, o, c, kvs, h1, h2, h3, h4, _⟩
  · exact ⟨a, c, by rw [e]; exact h, by rw [e]; simp⟩
  · exact ⟨_, c, h1, by omega⟩
theorem ListIn.at {w : World} {Q : Nat → Prop} {a : Option Addr} {n c : Nat} {l : List Pat} (h : ListIn w Q (.slice a n c) l) {i : Nat} (hi : i < l.length) :
    ∃ b o kv, a = some ⟨b, o, none⟩ ∧ NodeAt w b (o + i * 5) (l.getD i Pat.zero) kv ∧ PQ w Q kv (l.getD i Pat.zero) := by
  rcases h.rep with ⟨_, _, _, e⟩ | ⟨b, o, c, kvs, h1, h2, h3, h4, h5, h6, h7⟩
  · rw [e] at hi; simp at hi
  · cases h1
    exact ⟨b, o, kvs.getD i undef, rfl, node_of (h7 i hi).nums (cells5 h5 h6 hi), h7 i hi⟩
theorem PQ.list {w : World} {Q : Nat → Prop} {kv : Value} {p : Pat} (h : PQ w Q kv p) : ListIn w Q kv p.kids := by
  cases h with
  | leaf _ a c hp h0 => exact ⟨Or.inl ⟨a, c, rfl, h0⟩⟩
  | node _ b o c kvs hp h0 hc hc' hQ hlen cs hl => exact ⟨Or.inr ⟨b, o, c, kvs, rfl, h0, hc, hc', hlen, cs, hl⟩⟩
structure PatsOwn (w : World) (B N : Nat) (v : Value) (l : List Pat) : Prop where
  rep : ∃ kvs : List Value, kvs.length = l.length ∧ w.ownsRow B 24 5 v l.length (patCells l kvs) ∧ ∀ i, i < l.length → PQ w (fun b => N ≤ b ∧ v.ownBlock ≠ some b) (kvs.getD i undef) (l.getD i Pat.zero)
theorem PatsOwn.nil (w : World) (B N : Nat) : PatsOwn w B N (.slice none 0 0) [] := ⟨⟨[], rfl, World.ownsRow_nil w B _ 5, fun i hi => by simp at hi⟩⟩
theorem PatsOwn.kept {w w' : World} {B N : Nat} {v : Value} {l : List Pat} (g : Grew w w') (h : PatsOwn w B N v l) : PatsOwn w' B N v l := by
  obtain ⟨kvs, h1, h2, h3⟩ := h.rep
  exact ⟨kvs, h1, World.ownsRow.kept h2 ⟨g.os, g.tape, g.output, g.size, fun k hk _ => g.block k hk⟩ (row := none) (by cases v.ownBlock <;> simp), fun i hi => (h3 i hi).kept g⟩
theorem PatsOwn.len {w : World} {B N : Nat} {v : Value} {l : List Pat} (h : PatsOwn w B N v l) : ∃ a c, v = .slice a l.length c := by
  obtain ⟨kvs, h1, h2, h3⟩ := h.rep
  rcases h2.2 with ⟨h4, h5⟩ | ⟨g, cap, cur, h4, _⟩
  · exact ⟨none, 0, by rw [h4, h5]⟩
  · exact ⟨_, _, h4⟩
theorem PatsOwn.list {w : World} {B N : Nat} {v : Value} {l : List Pat} (h : PatsOwn w B N v l) : ListIn w (fun b => N ≤ b) v l := by
  obtain ⟨kvs, h1, h2, h3⟩ := h.rep
  rcases Nat.eq_zero_or_pos l.length with h0 | h0
  · obtain ⟨a, c, e⟩ := h.len
    exact ⟨Or.inl ⟨a, c, by rw [e, h0], List.eq_nil_of_length_eq_zero h0⟩⟩
  · have h2' := h2
    rcases h2.2 with ⟨h4, h5⟩ | ⟨g, cap, cur, h4, h5, h6, h7, h8, h9, h10⟩
    · omega
    · subst h4
      refine ⟨Or.inr ⟨g, 0, cap, kvs, rfl, h0, h7, h8, h1, fun j hj => ?_, fun i hi => (h3 i hi).mono fun b hb _ => hb.1⟩⟩
      rw [Nat.zero_add, World.ownsRow.cellAt h2' j hj]
theorem PatsOwn.blocks {w : World} {B N : Nat} {v : Value} {l : List Pat} (h : PatsOwn w B N v l) : ∀ b, v.ownBlock = some b → B ≤ b ∧ b < w.heap.size := by
  obtain ⟨kvs, h1, h2, h3⟩ := h.rep
  intro b hb
  have := World.ownsRow.lt h2 b hb
  exact ⟨this.1, this.2⟩
theorem info_pat : (Tryd.prog.info? 24).map (fun i => (i.zero, i.size, i.bytes)) = some (some (.agg #[.int .i64 0, .string ByteArray.empty, .int .i64 0, .string ByteArray.empty, .slice none 0 0]), 5, 72) := by kernel_rfl
theorem PatsOwn.grow {w w1 w' : World} {B N : Nat} {v v' : Value} {l m : List Pat} {us : List Value} (h : PatsOwn w B N v l) (g0 : Grew w w1) (hown : ∀ kvs, kvs.length = l.length → w1.ownsRow B 24 5 v l.length (patCells l kvs) → w'.ownsRow B 24 5 v' (l.length + m.length) (patCells l kvs ++ patCells m us))
    (g : w1.grownBy w' v.ownBlock) (hb : v'.ownBlock = v.ownBlock ∨ ∀ b, v'.ownBlock = some b → w1.heap.size ≤ b) (hu : us.length = m.length) (hm : ∀ i, i < m.length → PQ w1 (fun b => N ≤ b ∧ v.ownBlock ≠ some b) (us.getD i undef) (m.getD i Pat.zero)) : PatsOwn w' B N v' (l ++ m) := by
  obtain ⟨kvs, h1, h2, h3⟩ := (h.kept g0).rep
  have key : ∀ {kv : Value} {p : Pat}, PQ w1 (fun b => N ≤ b ∧ v.ownBlock ≠ some b) kv p → PQ w' (fun b => N ≤ b ∧ v'.ownBlock ≠ some b) kv p := by
    intro kv p hq
    refine ((hq.lt).grown g (fun b hb => hb.1.2)).mono fun b hb2 _ => ⟨hb2.1.1, fun e => ?_⟩
    rcases hb with hb | hb
    · exact hb2.1.2 (hb ▸ e)
    · have := hb b e; omega
  refine ⟨kvs ++ us, by rw [List.length_append, List.length_append, h1, hu], ?_, fun i hi => ?_⟩
  · rw [patCells_append l kvs m us h1, List.length_append]; exact hown kvs h1 h2
  · by_cases hil : i < l.length
    · rw [List.getD_eq_getElem?_getD, List.getD_eq_getElem?_getD, List.getElem?_append_left (by omega), List.getElem?_append_left hil, ← List.getD_eq_getElem?_getD, ← List.getD_eq_getElem?_getD]
      exact key (h3 i hil)
    · rw [List.length_append] at hi
      rw [List.getD_eq_getElem?_getD, List.getD_eq_getElem?_getD, List.getElem?_append_right (by omega), List.getElem?_append_right (by omega), h1, ← List.getD_eq_getElem?_getD, ← List.getD_eq_getElem?_getD]
      exact key (hm (i - l.length) (by omega))
end Go.Proofs.YtkkdpafkafjfgaaDoor
namespace Go.Proofs.YtkkdpafkafjfgaaDoor
open Go.RowKit
set_option linter.unusedVariables false
theorem results_cell {fn : Func} {p : Tmp} {ty : TypeId} (h : fn.results = #[.cell p ty]) (tmps : Array Value) (P : Program) (w : World) :
    (results fn tmps).run P w = ((asAddr (tmps.getD p undef)).run P w).andThen fun a w₁ => (loadVar ty a).run P w₁ := by
  simp only [results, h]
  simp [Sem.run_bind, Result.andThen]
theorem info_pat5 : (Tryd.prog.info? 24).map (·.size) = some 5 := by kernel_rfl
theorem load_pat {w : World} {rb : Nat} {cs : Array Value} (hg : w.heap[rb]? = some (.cells cs 24 (0, 0))) (hc : cs.size = 5) : (loadVar 24 ⟨rb, 0, none⟩).run Tryd.prog w = .ok (.agg cs) w :=
  run_loadVar_row (P := Tryd.prog) w rb 24 24 cs (0, 0) _ hg Tryd.underlying24 rfl (by rw [hc]; exact info_pat5)
theorem results_pat {fn : Func} {p : Tmp} (h : fn.results = #[.cell p 24]) {w : World} {tmps : Array Value} {rb : Nat} {cs : Array Value} (hp : tmps.getD p undef = .pointer (some ⟨rb, 0, none⟩)) (hg : w.heap[rb]? = some (.cells cs 24 (0, 0))) (hc : cs.size = 5) :
    (results fn tmps).run Tryd.prog w = .ok (.agg cs) w := by
  rw [results_cell h, hp]
  simp [asAddr, load_pat hg hc]
theorem results_pat2 {fn : Func} {p q : Tmp} (h : fn.results = #[.cell p 24, .tmp q]) {w : World} {tmps : Array Value} {rb : Nat} {cs : Array Value} {v : Value} (hp : tmps.getD p undef = .pointer (some ⟨rb, 0, none⟩)) (hq : tmps.getD q undef = v) (hg : w.heap[rb]? = some (.cells cs 24 (0, 0))) (hc : cs.size = 5) :
    (results fn tmps).run Tryd.prog w = .ok (.tuple #[.agg cs, v]) w := by
  have hp' : tmps[p]?.getD undef = .pointer (some ⟨rb, 0, none⟩) := by simpa using hp
  have hq' : tmps[q]?.getD undef = v := by simpa using hq
  simp [results, h, hp', hq', asAddr, load_pat hg hc]
theorem cells_eq (p : Pat) (kv : Value) : p.cells kv = #[.int .i64 p.kind, .string p.text, .int .i64 p.n, .string p.name, kv] := rfl
theorem is_any (p : Pat) (kv : Value) (k : Int) (w : World) : Calls Tryd.prog 78 #[.agg (p.cells kv), .int .i64 k] w fun e w' => e = .returned (.bool (p.kind == k)) ∧ Grew w w' := by
  rw [cells_eq]
  go_enter Tryd.func78, Tryd.ntmps78
  go_wp2_with fail
  go_ret
  exact ⟨rfl, (Grew.refl w).alloc _⟩
theorem nums_lit {t : ByteArray} (h : t.size ≤ maxLen) : NumsOk (litP t) := ⟨⟨by show (-9223372036854775808 : Int) ≤ 1; omega, by show (1 : Int) ≤ 9223372036854775807; omega⟩, ⟨by show (-9223372036854775808 : Int) ≤ 0; omega, by show (0 : Int) ≤ 9223372036854775807; omega⟩, h, Nat.zero_le _⟩
theorem empty_iff (p : Pat) : emptyP p = (p.kind == 1 && p.text.toList.isEmpty) := by
  unfold emptyP
  congr 1
  rw [Lib.toList_data, size_data]
  cases p.text.data.toList <;> rfl
theorem empty_any (p : Pat) (kv : Value) (w : World) : Calls Tryd.prog 82 #[.agg (p.cells kv)] w fun e w' => e = .returned (.bool (emptyP p)) ∧ Grew w w' := by
  rw [cells_eq]
  have HE := hidd (empty_iff p)
  by_cases h1 : p.kind = 1
  · have k1 : (p.kind == 1) = true := by simp [h1]
    rw [k1, Bool.true_and] at HE
    go_enter Tryd.func82, Tryd.ntmps82
    go_wp2_with fail
    all_goals go_ret
    all_goals exact ⟨by rw [HE.out]; rfl, (Grew.refl w).alloc _⟩
  · have k1 : (p.kind == 1) = false := by simp [h1]
    rw [k1, Bool.false_and] at HE
    go_enter Tryd.func82, Tryd.ntmps82
    go_wp2_with fail
    go_ret
    exact ⟨by rw [HE.out]; rfl, (Grew.refl w).alloc _⟩
theorem fail_test (p : Pat) (kv : Value) (w : World) : Calls Tryd.prog 88 #[.agg (p.cells kv)] w fun e w' => e = .returned (.bool (failB p)) ∧ Grew w w' := by
  have HI := fun w => is_any p kv 15 w
  rw [cells_eq] at HI ⊢
  go_enter Tryd.func88, Tryd.ntmps88
  go_wp2_with fail
  refine (HI _).mono ?_; rintro e w1 ⟨rfl, g1⟩
  go_wp2_with fail
  go_ret
  exact ⟨rfl, ((Grew.refl w).alloc _).trans g1⟩
theorem abort_test (p : Pat) (kv : Value) (w : World) : Calls Tryd.prog 89 #[.agg (p.cells kv)] w fun e w' => e = .returned (.bool (abortB p)) ∧ Grew w w' := by
  have HI := fun w => is_any p kv 17 w
  rw [cells_eq] at HI ⊢
  go_enter Tryd.func89, Tryd.ntmps89
  go_wp2_with fail
  refine (HI _).mono ?_; rintro e w1 ⟨rfl, g1⟩
  go_wp2_with fail
  go_ret
  exact ⟨rfl, ((Grew.refl w).alloc _).trans g1⟩
theorem ends_test (p : Pat) (kv : Value) (w : World) : Calls Tryd.prog 84 #[.agg (p.cells kv)] w fun e w' => e = .returned (.bool (endsB p)) ∧ Grew w w' := by
  have HI := fun w => is_any p kv 15 w
  have HI2 := fun w => is_any p kv 17 w
  have HE : Hid (endsB p = (p.kind == 15 || p.kind == 17)) := rfl
  rw [cells_eq] at HI HI2 ⊢
  by_cases h : p.kind = 15
  · have k1 : (p.kind == 15) = true := by simp [h]
    rw [k1] at HI HE
    clear h k1
    go_enter Tryd.func84, Tryd.ntmps84
    go_wp2_with fail
    refine (HI _).mono ?_; rintro e w1 ⟨rfl, g1⟩
    go_wp2_with fail
    go_ret
    exact ⟨by rw [HE.out]; rfl, ((Grew.refl w).alloc _).trans g1⟩
  · have k1 : (p.kind == 15) = false := by simp [h]
    rw [k1] at HI HE
    clear h k1
    have HB : Hid (∀ w1, Grew (w.alloc (.cells #[.int .i64 p.kind, .string p.text, .int .i64 p.n, .string p.name, kv] 24)) w1 → ∀ j, j < 5 → w1.cell? ⟨w.heap.size, j, none⟩ = #[Value.int .i64 p.kind, .string p.text, .int .i64 p.n, .string p.name, kv][j]?) := by
      intro w1 g j hj
      rw [g.cell (by simp), World.cell?_alloc_mark]
    go_enter Tryd.func84, Tryd.ntmps84
    go_wp2_with fail
    refine (HI _).mono ?_; rintro e w1 ⟨rfl, g1⟩
    have c0 := HB.out w1 g1 0 (by omega)
    have c1 := HB.out w1 g1 1 (by omega)
    have c2 := HB.out w1 g1 2 (by omega)
    have c3 := HB.out w1 g1 3 (by omega)
    have c4 := HB.out w1 g1 4 (by omega)
    have G1 := hidd (((Grew.refl w).alloc _).trans g1)
    clear g1
    simp only [List.getElem?_toArray, List.getElem?_cons_zero, List.getElem?_cons_succ] at c0 c1 c2 c3 c4
    go_wp2_with fail
    refine (HI2 _).mono ?_; rintro e w2 ⟨rfl, g2⟩
    go_wp2_with fail
    go_ret
    exact ⟨by rw [HE.out]; rfl, G1.out.trans g2⟩
end Go.Proofs.YtkkdpafkafjfgaaDoor
