/- Smallest: numbering, in memory: the closure's boxes beside the rows and the ends. -/
import Derived.Test.YtkkdpafkafjfgaaDoorMkSlC
namespace Go.Proofs.YtkkdpafkafjfgaaDoor
open Go.RowKit RR
set_option linter.unusedVariables false
set_option linter.unusedSimpArgs false
set_option maxRecDepth 100000
abbrev ExN (R : RA) (W wr : World) (mb ab : Nat) (g : Nat → Nat) (ord : List Nat) (rows : List (Nat → Nat)) (me : Nat) (lv nv ev : Value) : Prop :=
  ExSo encI 3 1 (fun x : Nat => [.int .i64 (x : Nat)]) R.en W wr mb ab (ord.map g) ord rows me lv nv ev (.cells (aCells ev) 30 (0, 0))
structure Cst (R : RA) (W wr : World) (nb ob mb gb q n ab : Nat) (g : Nat → Nat) (ord : List Nat) (rows : List (Nat → Nat)) (me : Nat) (lv nv ev : Value) : Prop where
  ex : ExN R W wr mb ab g ord rows me lv nv ev
  spl : Spl W wr gb q n g
  num : wr.heap[nb]? = some (.cells #[.map (some mb)] 152 (0, 0))
  ordb : wr.heap[ob]? = some (.cells #[lv] 37 (0, 0))
  lo : W.heap.size ≤ nb ∧ W.heap.size ≤ ob
  out : ∀ k, Foot mb ab lv nv ev k → k ≠ nb ∧ k ≠ ob ∧ k ≠ gb ∧ k ≠ q
  ne : ob ≠ nb ∧ ob ≠ gb ∧ ob ≠ q
def FootC (nb ob mb gb q ab : Nat) (lv nv ev : Value) (k : Nat) : Prop := Foot mb ab lv nv ev k ∨ k = nb ∨ k = ob ∨ k = gb ∨ k = q
section
variable {R : RA} {W wr w' : World} {nb ob mb gb q n ab : Nat} {g : Nat → Nat} {ord : List Nat} {rows : List (Nat → Nat)} {me : Nat} {lv nv ev : Value}
theorem Cst.same (h : Cst R W wr nb ob mb gb q n ab g ord rows me lv nv ev) (gW : Grew W w') (hs : wr.heap.size ≤ w'.heap.size) (hk : ∀ k, FootC nb ob mb gb q ab lv nv ev k → w'.heap[k]? = wr.heap[k]?) : Cst R W w' nb ob mb gb q n ab g ord rows me lv nv ev :=
  ⟨h.ex.same gW hs fun k hf => hk k (Or.inl hf), ⟨gW, (hk gb (Or.inr (Or.inr (Or.inr (Or.inl rfl))))).trans h.spl.box, arr_block h.spl.arr (hk q (Or.inr (Or.inr (Or.inr (Or.inr rfl))))), h.spl.lo⟩, (hk nb (Or.inr (Or.inl rfl))).trans h.num, (hk ob (Or.inr (Or.inr (Or.inl rfl)))).trans h.ordb, h.lo, h.out, h.ne⟩
theorem Cst.foot_lt (h : Cst R W wr nb ob mb gb q n ab g ord rows me lv nv ev) (hp : 0 < n) {k : Nat} (hk : FootC nb ob mb gb q ab lv nv ev k) : k < wr.heap.size := by
  rcases hk with hk | rfl | rfl | rfl | rfl
  · exact h.ex.foot_lt hk
  · exact (Array.getElem?_eq_some_iff.1 h.num).1
  · exact (Array.getElem?_eq_some_iff.1 h.ordb).1
  · exact h.spl.blt
  · exact h.spl.arr.lt hp
theorem Cst.kept (h : Cst R W wr nb ob mb gb q n ab g ord rows me lv nv ev) (hp : 0 < n) (k : Grew wr w') : Cst R W w' nb ob mb gb q n ab g ord rows me lv nv ev :=
  h.same (h.ex.grew.trans k) k.size fun j hj => k.block j (h.foot_lt hp hj)
theorem flat_oneN (l : List Nat) : (l.flatMap fun x : Nat => [Value.int .i64 (x : Nat)]) = l.map fun x => .int .i64 (x : Nat) := by
  induction l with
  | nil => rfl
  | cons a l ih => rw [List.flatMap_cons, ih]; rfl
theorem Cst.see (h : Cst R W wr nb ob mb gb q n ab g ord rows me lv nv ev) : See W wr nb ob mb gb q n g ord lv := by
  have hm := h.out mb (Or.inl rfl)
  refine ⟨h.spl, h.num, h.ex.map, h.ordb, ?_, ⟨h.lo.1, h.lo.2, h.ex.lo.1⟩, ⟨h.ne.1, h.ne.2.1, h.ne.2.2, hm.1, hm.2.2.1, hm.2.2.2, hm.2.1⟩, fun k hk => ?_⟩
  · have := h.ex.list
    rw [flat_oneN] at this
    exact this
  · obtain ⟨p1, p2, p3, p4⟩ := h.ex.ownl k hk
    obtain ⟨o1, o2, o3, o4⟩ := h.out k (Or.inr (Or.inr (Or.inl hk)))
    exact ⟨p3, p4, o1, o2, o3, o4, p1⟩
theorem Cst.came {s : Nat} {lv' : Value} (h : Cst R W wr nb ob mb gb q n ab g ord rows me lv nv ev) (hS : See W w' nb ob mb gb q n g (ord ++ [s]) lv') (hC : Came wr w' mb ob lv lv') (hme : me ≤ ord.length) :
    Cst R W w' nb ob mb gb q n ab g (ord ++ [s]) rows me lv' nv ev ∧ ∀ k, k < wr.heap.size → ¬ FootC nb ob mb gb q ab lv nv ev k → w'.heap[k]? = wr.heap[k]? ∧ ¬ FootC nb ob mb gb q ab lv' nv ev k := by
  obtain ⟨c1, c2, c3⟩ := hC
  have hX := h.ex
  have hab := (Array.getElem?_eq_some_iff.1 hX.raw).1
  have oab := h.out ab (Or.inr (Or.inl rfl))
  have hkeep : ∀ k, k < wr.heap.size → k ≠ mb → k ≠ ob → lv.ownBlock ≠ some k → w'.heap[k]? = wr.heap[k]? := c2
  have hn : ∀ k, nv.ownBlock = some k → w'.heap[k]? = wr.heap[k]? := fun k hk => by
    obtain ⟨p1, p2, p3, p4⟩ := hX.ownn k hk
    exact hkeep k p4 p1 (h.out k (Or.inr (Or.inr (Or.inr (Or.inl hk))))).2.1 fun e => (hX.ln k e).1 hk
  have he : ∀ k, ev.ownBlock = some k → w'.heap[k]? = wr.heap[k]? := fun k hk => by
    obtain ⟨p1, p2, p3, p4⟩ := hX.owne k hk
    exact hkeep k p4 p1 (h.out k (Or.inr (Or.inr (Or.inr (Or.inr hk))))).2.1 fun e => (hX.ln k e).2 hk
  have hl' : ∀ k, lv'.ownBlock = some k → k ≠ mb ∧ k ≠ ab ∧ W.heap.size ≤ k ∧ k < w'.heap.size := fun k hk => by
    obtain ⟨p1, p2, p3, p4, p5, p6, p7⟩ := hS.own k hk
    refine ⟨p7, ?_, p1, p2⟩
    rcases c3 k hk with e | e
    · exact (hX.ownl k e).2.1
    · omega
  have hln : ∀ k, lv'.ownBlock = some k → nv.ownBlock ≠ some k ∧ ev.ownBlock ≠ some k := fun k hk => by
    rcases c3 k hk with e | e
    · exact hX.ln k e
    · exact ⟨fun e2 => by have := (hX.ownn k e2).2.2.2; omega, fun e2 => by have := (hX.owne k e2).2.2.2; omega⟩
  refine ⟨⟨⟨hS.spl.grew, hS.map, ?_, ?_, hX.next.kept fun k hk _ => hn k hk, ?_, hX.lo, hl', fun k hk => ?_, fun k hk => ?_, hln, hX.ne⟩, hS.spl, hS.num, hS.ordb, h.lo, fun k hk => ?_, h.ne⟩, fun k hk hf => ⟨?_, fun hf2 => ?_⟩⟩
  · have := hS.row
    rw [flat_oneN]
    exact this
  · rw [hkeep ab hab (Ne.symm hX.lo.2.2) oab.2.1 fun e => (hX.ownl ab e).2.1 rfl]; exact hX.raw
  · rw [List.take_append_of_le_length hme]
    exact hX.ends.kept fun k hk _ => he k hk
  · obtain ⟨p1, p2, p3, p4⟩ := hX.ownn k hk; exact ⟨p1, p2, p3, by omega⟩
  · obtain ⟨p1, p2, p3, p4⟩ := hX.owne k hk; exact ⟨p1, p2, p3, by omega⟩
  · rcases hk with hk | hk | hk | hk | hk
    · exact h.out k (Or.inl hk)
    · exact h.out k (Or.inr (Or.inl hk))
    · obtain ⟨p1, p2, p3, p4, p5, p6, p7⟩ := hS.own k hk
      exact ⟨p3, p4, p5, p6⟩
    · exact h.out k (Or.inr (Or.inr (Or.inr (Or.inl hk))))
    · exact h.out k (Or.inr (Or.inr (Or.inr (Or.inr hk))))
  · exact hkeep k hk (fun e => hf (Or.inl (Or.inl e))) (fun e => hf (Or.inr (Or.inr (Or.inl e)))) fun e => hf (Or.inl (Or.inr (Or.inr (Or.inl e))))
  · rcases hf2 with (e | e | e | e | e) | e
    · exact hf (Or.inl (Or.inl e))
    · exact hf (Or.inl (Or.inr (Or.inl e)))
    · rcases c3 k e with e2 | e2
      · exact hf (Or.inl (Or.inr (Or.inr (Or.inl e2))))
      · omega
    · exact hf (Or.inl (Or.inr (Or.inr (Or.inr (Or.inl e)))))
    · exact hf (Or.inl (Or.inr (Or.inr (Or.inr (Or.inr e)))))
    · exact hf (Or.inr e)
theorem Cst.pushRow (h : Cst R W wr nb ob mb gb q n ab g ord rows me lv nv ev) (hp : 0 < n) {row : Nat → Nat} (hk : rows.length ≤ 9000) (ty : TypeId) :
    ∃ v' w2, (Builtin.append_ #[90, 90] ty #[nv, .slice (some ⟨wr.heap.size, 0, none⟩) 1 1]).run Tryd.prog (wr.alloc (.cells (rowI fun c => (row c : Nat)) 26)) = .ok v' w2 ∧ (∃ a cp, v' = .slice a (rows.length + 1) cp) ∧ Cst R W w2 nb ob mb gb q n ab g ord (rows ++ [row]) me lv v' ev := by
  obtain ⟨i0, hi0, hz0, hz1, hz2⟩ := info_rowx
  have hX := h.ex
  have h2 := hX.kept ((Grew.refl wr).alloc (.cells (rowI fun c => (row c : Nat)) 26))
  obtain ⟨v', w2, a1, a2, a3, a4⟩ := QRow.append (P := Tryd.prog) agg_rows hi0 hz0 hz1 hz2 (rowI_size _) h2.next h2.grew.size wr.heap.size 1 (rowI fun c => (row c : Nat)).toList (rowI_list _) (fun j u hu => by
    unfold World.cell?
    dsimp only
    rw [heap_alloc_new wr _]
    rw [Array.getElem?_toList] at hu
    exact hu) (fun u hu => by
    obtain ⟨j, _, rfl⟩ := List.mem_map.1 (show u ∈ (List.range 256).map fun j => Value.int .i64 ((row j : Nat) : Int) from hu)
    rfl) (by unfold maxLen; omega) (by omega) ty
  rw [← rowsC_snoc] at a2
  have hs2 := a3.size
  rw [World.size_alloc] at hs2
  have hall : ∀ k, k < wr.heap.size → nv.ownBlock ≠ some k → w2.heap[k]? = wr.heap[k]? := fun k hk hq => by
    rw [a3.block k (by rw [World.size_alloc]; omega) (fun e => hq e.symm), heap_alloc_old _ _ hk]
  have hnl : (∀ k, v'.ownBlock = some k → nv.ownBlock = some k ∨ wr.heap.size ≤ k ∧ k < w2.heap.size) := fun k hk => by
    rcases a4 with e | e
    · exact Or.inl (by rw [← e]; exact hk)
    · rw [e] at hk; cases hk
      obtain ⟨b', _, _, e2, _, hlt2, _⟩ := a2.at (by omega)
      rw [e2] at e; cases e
      exact Or.inr ⟨by rw [World.size_alloc]; omega, hlt2⟩
  have hm := hX.map.lt
  have hrb := (Array.getElem?_eq_some_iff.1 hX.raw).1
  have hgW : Grew W w2 := grew_grown h2.grew a3 fun b e => (hX.ownn b e).2.2.1
  have hnb := h.foot_lt hp (k := nb) (Or.inr (Or.inl rfl))
  have hob := h.foot_lt hp (k := ob) (Or.inr (Or.inr (Or.inl rfl)))
  have hgb := h.foot_lt hp (k := gb) (Or.inr (Or.inr (Or.inr (Or.inl rfl))))
  have hqb := h.foot_lt hp (k := q) (Or.inr (Or.inr (Or.inr (Or.inr rfl))))
  have hno : ∀ k, nv.ownBlock = some k → k ≠ nb ∧ k ≠ ob ∧ k ≠ gb ∧ k ≠ q := fun k hk => h.out k (Or.inr (Or.inr (Or.inr (Or.inl hk))))
  refine ⟨v', w2, a1, ?_, ⟨⟨hgW, ?_, ?_, ?_, ?_, ?_, hX.lo, fun k hk => ?_, fun k hk => ?_, fun k hk => ?_, fun k hk => ?_, fun k hk => ?_⟩, ⟨hgW, ?_, ?_, h.spl.lo⟩, ?_, ?_, h.lo, fun k hk => ?_, h.ne⟩⟩
  · obtain ⟨_, a, cp, e, _⟩ := a2; exact ⟨a, cp, e⟩
  · exact hX.map.block (hall mb hm (fun e => (hX.ownn _ e).1 rfl))
  · exact hX.list.kept fun k hk hlt => hall k hlt (hX.ln k hk).1
  · rw [hall ab hrb (fun e => (hX.ownn _ e).2.1 rfl)]; exact hX.raw
  · rw [List.length_append]; exact a2
  · exact hX.ends.kept fun k hk hlt => hall k hlt (fun e => hX.ne k e hk)
  · obtain ⟨p1, p2, p3, p4⟩ := hX.ownl k hk; exact ⟨p1, p2, p3, by omega⟩
  · rcases hnl k hk with e | ⟨e1, e2⟩
    · obtain ⟨p1, p2, p3, p4⟩ := hX.ownn k e; exact ⟨p1, p2, p3, by omega⟩
    · have := hX.grew.size
      exact ⟨by omega, by omega, by omega, e2⟩
  · obtain ⟨p1, p2, p3, p4⟩ := hX.owne k hk; exact ⟨p1, p2, p3, by omega⟩
  · refine ⟨fun e => ?_, (hX.ln k hk).2⟩
    rcases hnl k e with e2 | ⟨e1, _⟩
    · exact (hX.ln k hk).1 e2
    · have := (hX.ownl k hk).2.2.2; omega
  · intro e
    rcases hnl k hk with e2 | ⟨e1, _⟩
    · exact hX.ne k e2 e
    · have := (hX.owne k e).2.2.2; omega
  · rw [hall gb hgb (fun e => (hno gb e).2.2.1 rfl)]; exact h.spl.box
  · exact arr_block h.spl.arr (hall q hqb (fun e => (hno q e).2.2.2 rfl))
  · rw [hall nb hnb (fun e => (hno nb e).1 rfl)]; exact h.num
  · rw [hall ob hob (fun e => (hno ob e).2.1 rfl)]; exact h.ordb
  · rcases hk with hk | hk | hk | hk | hk
    · exact h.out k (Or.inl hk)
    · exact h.out k (Or.inr (Or.inl hk))
    · exact h.out k (Or.inr (Or.inr (Or.inl hk)))
    · rcases hnl k hk with e | ⟨e1, _⟩
      · exact hno k e
      · exact ⟨by omega, by omega, by omega, by omega⟩
    · exact h.out k (Or.inr (Or.inr (Or.inr (Or.inr hk))))
theorem Cst.pushEnd (h : Cst R W wr nb ob mb gb q n ab g ord rows me lv nv ev) (hp : 0 < n) {x : Nat} (hx : ord[me]? = some x) {v : Value} {w1 : World} (hA : EndApp W wr ev (me + 1) (((ord.take me).map fun x => Value.bool (R.en x)) ++ [.bool (R.en x)]) v w1) (gg : wr.grownBy w1 ev.ownBlock) :
    Cst R W (w1.setCell ⟨ab, 257, none⟩ v) nb ob mb gb q n ab g ord rows (me + 1) lv nv v := by
  have hX := h.ex
  have hE := hX.pushEnd hx hA gg rfl (o := 257)
  rw [aCells_set] at hE
  have heo : ∀ k, ev.ownBlock = some k → k ≠ nb ∧ k ≠ ob ∧ k ≠ gb ∧ k ≠ q := fun k hk => h.out k (Or.inr (Or.inr (Or.inr (Or.inr hk))))
  have oab := h.out ab (Or.inr (Or.inl rfl))
  have hk : ∀ k, k < wr.heap.size → ev.ownBlock ≠ some k → k ≠ ab → (w1.setCell ⟨ab, 257, none⟩ v).heap[k]? = wr.heap[k]? := fun k h1 h2 h3 => by
    rw [q_set_other _ _ (Ne.symm h3)]; exact gg.block k h1 (Ne.symm h2)
  have hnb := h.foot_lt hp (k := nb) (Or.inr (Or.inl rfl))
  have hob := h.foot_lt hp (k := ob) (Or.inr (Or.inr (Or.inl rfl)))
  have hgb := h.foot_lt hp (k := gb) (Or.inr (Or.inr (Or.inr (Or.inl rfl))))
  have hqb := h.foot_lt hp (k := q) (Or.inr (Or.inr (Or.inr (Or.inr rfl))))
  refine ⟨hE, ⟨hE.grew, ?_, ?_, h.spl.lo⟩, ?_, ?_, h.lo, fun k hk2 => ?_, h.ne⟩
  · rw [hk gb hgb (fun e => (heo gb e).2.2.1 rfl) (Ne.symm oab.2.2.1)]; exact h.spl.box
  · exact arr_block h.spl.arr (hk q hqb (fun e => (heo q e).2.2.2 rfl) (Ne.symm oab.2.2.2))
  · rw [hk nb hnb (fun e => (heo nb e).1 rfl) (Ne.symm oab.1)]; exact h.num
  · rw [hk ob hob (fun e => (heo ob e).2.1 rfl) (Ne.symm oab.2.1)]; exact h.ordb
  · rcases hk2 with e | e | e | e | e
    · exact h.out k (Or.inl e)
    · exact h.out k (Or.inr (Or.inl e))
    · exact h.out k (Or.inr (Or.inr (Or.inl e)))
    · exact h.out k (Or.inr (Or.inr (Or.inr (Or.inl e))))
    · rcases hA.2 k e with e2 | ⟨e2, _⟩
      · exact heo k e2
      · exact ⟨by omega, by omega, by omega, by omega⟩
end
end Go.Proofs.YtkkdpafkafjfgaaDoor
