/- Rows of cells in memory, as functions of the place: what a store, a new block, a draw and a call leave of them. No condition. -/
import Derived.Test.YtkkdpafkafjfgaaDoorWwPBase
import Derived.OwnWalk
import Derived.Deep.AppendSrc
import Derived.Laws.AppendOwn
namespace Go.Proofs.YtkkdpafkafjfgaaDoor
open Go.RowKit
set_option linter.unusedVariables false
def ArrAt (w : World) (b off n : Nat) (f : Nat → Value) : Prop := ∀ j, j < n → w.cell? ⟨b, off + j, none⟩ = some (f j) ∧ w.frozen? ⟨b, off + j, none⟩ = false
theorem ArrAt.at {w : World} {b off n : Nat} {f : Nat → Value} (h : ArrAt w b off n f) (j : Nat) (hj : j < n) : w.cell? ⟨b, off + j, none⟩ = some (f j) := (h j hj).1
theorem ArrAt.free {w : World} {b off n : Nat} {f : Nat → Value} (h : ArrAt w b off n f) (j : Nat) (hj : j < n) : w.frozen? ⟨b, off + j, none⟩ = false := (h j hj).2
theorem ArrAt.at0 {w : World} {b n : Nat} {f : Nat → Value} (h : ArrAt w b 0 n f) (j : Nat) (hj : j < n) : w.cell? ⟨b, j, none⟩ = some (f j) := by simpa using (h j hj).1
theorem ArrAt.free0 {w : World} {b n : Nat} {f : Nat → Value} (h : ArrAt w b 0 n f) (j : Nat) (hj : j < n) : w.frozen? ⟨b, j, none⟩ = false := by simpa using (h j hj).2
theorem ArrAt.lt {w : World} {b off n : Nat} {f : Nat → Value} (h : ArrAt w b off n f) (hn : 0 < n) : b < w.heap.size := lt_of_cell (h 0 hn).1
theorem ArrAt.drew {w : World} {b off n : Nat} {f : Nat → Value} (h : ArrAt w b off n f) : ArrAt w.drew b off n f := h
theorem ArrAt.drewN {w : World} {b off n : Nat} {f : Nat → Value} (h : ArrAt w b off n f) (k : Nat) : ArrAt (w.drewN k) b off n f := h
theorem ArrAt.alloc {w : World} {b off n : Nat} {f : Nat → Value} (h : ArrAt w b off n f) (o : Obj) : ArrAt (w.alloc o) b off n f := by
  intro j hj
  have hb : b < w.heap.size := lt_of_cell (h j hj).1
  have g := (Grew.refl w).alloc o
  exact ⟨by rw [g.cell hb]; exact (h j hj).1, by rw [g.frozen hb]; exact (h j hj).2⟩
theorem ArrAt.kept {w w' : World} {b off n : Nat} {f : Nat → Value} (h : ArrAt w b off n f) (g : Grew w w') : ArrAt w' b off n f := by
  intro j hj
  have hb : b < w.heap.size := lt_of_cell (h j hj).1
  exact ⟨by rw [g.cell hb]; exact (h j hj).1, by rw [g.frozen hb]; exact (h j hj).2⟩
theorem ArrAt.below {w w' : World} {b off n B : Nat} {f : Nat → Value} (h : ArrAt w b off n f) (g : Below B w w') (hb : b < B) : ArrAt w' b off n f := by
  intro j hj
  exact ⟨by rw [g.cell (p := ⟨b, off + j, none⟩) hb]; exact (h j hj).1, by rw [g.frozen (p := ⟨b, off + j, none⟩) hb]; exact (h j hj).2⟩
theorem ArrAt.congr {w : World} {b off n : Nat} {f g : Nat → Value} (h : ArrAt w b off n f) (k : ∀ j, j < n → f j = g j) : ArrAt w b off n g :=
  fun j hj => ⟨by rw [← k j hj]; exact (h j hj).1, (h j hj).2⟩
theorem ArrAt.mono {w : World} {b off n m : Nat} {f : Nat → Value} (h : ArrAt w b off n f) (k : m ≤ n) : ArrAt w b off m f := fun j hj => h j (by omega)
theorem setCell_cell_same {w : World} {p : Addr} {v u : Value} (hs : p.spot = none) (h : w.cell? p = some u) : (w.setCell p v).cell? p = some v := by
  obtain ⟨b, o, sp⟩ := p
  simp only at hs; subst hs
  unfold World.cell? at h ⊢
  cases hh : w.heap[b]? with
  | none => simp only [hh] at h; simp at h
  | some ob =>
    simp only [hh] at h
    cases ob <;> simp only at h
    case cells c e fr =>
      have hlt : o < c.size := by
        rcases Nat.lt_or_ge o c.size with hl | hl
        · exact hl
        · simp [Array.getElem?_eq_none hl] at h
      simp [World.setCell, Array.getElem?_modify, hh, hlt]
    all_goals simp at h
theorem setCell_cell_other (w : World) (p q : Addr) (v : Value) (h : p.block ≠ q.block ∨ p.off ≠ q.off) : (w.setCell p v).cell? q = w.cell? q := by
  unfold World.cell?
  by_cases hb : p.block = q.block
  · have ho : p.off ≠ q.off := by
      rcases h with h | h
      · exact absurd hb h
      · exact h
    simp only [World.setCell, Array.getElem?_modify, hb]
    cases hh : w.heap[q.block]? with
    | none => simp
    | some ob =>
      cases ob <;> simp only [if_true, Option.map_some]
      case cells c e fr =>
        by_cases hs : p.spot.isSome = true
        · simp [hs]
        · simp [hs, ho]
  · simp only [World.setCell, Array.getElem?_modify, hb, if_false]
theorem setCell_frozen (w : World) (p q : Addr) (v : Value) : (w.setCell p v).frozen? q = w.frozen? q := by
  unfold World.frozen?
  simp only [World.setCell, Array.getElem?_modify]
  by_cases hb : p.block = q.block
  · simp only [hb, if_true]
    cases hh : w.heap[q.block]? with
    | none => rfl
    | some ob => cases ob <;> rfl
  · simp [hb]
theorem ArrAt.set {w : World} {b off n : Nat} {f : Nat → Value} (h : ArrAt w b off n f) (i : Nat) (hi : i < n) (v : Value) :
    ArrAt (w.setCell ⟨b, off + i, none⟩ v) b off n (fun j => if j = i then v else f j) := by
  intro j hj
  refine ⟨?_, by rw [setCell_frozen]; exact (h j hj).2⟩
  by_cases e : j = i
  · subst e; rw [setCell_cell_same rfl (h j hj).1]; simp
  · rw [setCell_cell_other _ _ _ _ (.inr (by simp; omega))]; simpa [e] using (h j hj).1
theorem ArrAt.set0 {w : World} {b n : Nat} {f : Nat → Value} (h : ArrAt w b 0 n f) (i : Nat) (hi : i < n) (v : Value) :
    ArrAt (w.setCell ⟨b, i, none⟩ v) b 0 n (fun j => if j = i then v else f j) := by
  have := h.set i hi v
  rwa [Nat.zero_add] at this
theorem ArrAt.other {w : World} {b off n : Nat} {f : Nat → Value} (h : ArrAt w b off n f) (p : Addr) (hp : p.block ≠ b) (v : Value) : ArrAt (w.setCell p v) b off n f := by
  intro j hj
  exact ⟨by rw [setCell_cell_other _ _ _ _ (.inl hp)]; exact (h j hj).1, by rw [setCell_frozen]; exact (h j hj).2⟩
theorem ArrAt.new (w : World) (C : Array Value) (t : TypeId) (n : Nat) (f : Nat → Value) (h : ∀ j, j < n → C[j]? = some (f j)) : ArrAt (w.alloc (.cells C t)) w.heap.size 0 n f := by
  intro j hj
  rw [Nat.zero_add, World.cell?_alloc_mark, World.frozen?_alloc_mark]
  exact ⟨h j hj, by simp⟩
theorem Below.setCell' {B : Nat} {w : World} {p : Addr} (hp : B ≤ p.block) (u : Value) : Below B w (w.setCell p u) := Below.setCell (Below.refl _ _) hp u
theorem Grew.of_grownBy {w w' : World} (h : w.grownBy w' none) : Grew w w' := ⟨h.os, h.tape, h.output, h.size, fun k hk => h.block k hk (by simp)⟩
theorem make_row (t e : TypeId) (i : TypeInfo) (z : Value) (ht : Tryd.prog.underlying t = some (.slice e)) (hi : Tryd.prog.info? e = some i) (hz : i.zero = some z) (hs : i.size = 1) (hc : z.cells = #[z])
    (n : Nat) (hb : i.bytes * n ≤ 281474976710656) (hn : n ≤ maxLen) (w : World) :
    ∃ w', (Instr.makeSlice t (.int .i64 (n : Int)) (.int .i64 (n : Int))).run Tryd.prog w = .ok (.slice (some ⟨w.heap.size, 0, none⟩) n n) w' ∧ ArrAt w' w.heap.size 0 n (fun _ => z) ∧ Grew w w' := by
  obtain ⟨w', h1, h2, h3⟩ := run_make_full (P := Tryd.prog) w w.heap.size t e i z 1 ht hi hz hs .i64 .i64 n hb hn (Nat.le_refl _)
  refine ⟨w', h1, fun j hj => ⟨?_, ?_⟩, Grew.of_grownBy h3⟩
  · rw [Nat.zero_add, h2.cellAt j (by omega), hc]
    simp [madeCells, hj, Nat.mod_one]
  · rw [Nat.zero_add, h2.frozenAt]
end Go.Proofs.YtkkdpafkafjfgaaDoor

namespace Go.Proofs.YtkkdpafkafjfgaaDoor
open Go.RowKit
set_option linter.unusedVariables false
def QRow (w : World) (base : Nat) (e : TypeId) (size : Nat) (v : Value) (n : Nat) (xs : List Value) : Prop :=
  xs.length = n * size ∧ ∃ a cap, v = .slice a n cap ∧ n ≤ cap ∧ cap ≤ maxLen ∧
    (0 < cap → ∃ b off cur, a = some ⟨b, off, none⟩ ∧ base ≤ b ∧ w.heap[b]? = some (.cells cur e (0, 0)) ∧ off + cap * size ≤ cur.size ∧ ∀ j, j < n * size → cur[off + j]? = xs[j]?)
theorem q_set_same {w : World} {b : Nat} {cs : Array Value} {t : TypeId} (h : w.heap[b]? = some (.cells cs t (0, 0))) (i : Nat) (u : Value) : (w.setCell ⟨b, i, none⟩ u).heap[b]? = some (.cells (cs.setIfInBounds i u) t (0, 0)) := by
  simp [World.setCell, Array.getElem?_modify, h]
theorem q_set_other {w : World} {b b' : Nat} (o : Nat) (u : Value) (h : b ≠ b') : (w.setCell ⟨b, o, none⟩ u).heap[b']? = w.heap[b']? := by
  simp [World.setCell, Array.getElem?_modify, h]
section
variable {P : Program} {w w' : World} {base : Nat} {e : TypeId} {size : Nat} {v : Value} {n : Nat} {xs : List Value}
theorem QRow.made (w : World) (cur : Array Value) (n : Nat) (hb : base ≤ w.heap.size) (hm : n ≤ maxLen) (hs : cur.size = n * size) : QRow (w.alloc (.cells cur e)) base e size (.slice (some ⟨w.heap.size, 0, none⟩) n n) n cur.toList :=
  ⟨by rw [Array.length_toList, hs], _, n, rfl, Nat.le_refl _, hm, fun _ => ⟨w.heap.size, 0, cur, rfl, hb, heap_alloc_new w _, by omega, fun j hj => by rw [Nat.zero_add, Array.getElem?_toList]⟩⟩
theorem QRow.kept (h : QRow w base e size v n xs) (hg : ∀ b, v.ownBlock = some b → b < w.heap.size → w'.heap[b]? = w.heap[b]?) : QRow w' base e size v n xs := by
  obtain ⟨h0, a, cap, rfl, h1, h2, h3⟩ := h
  refine ⟨h0, a, cap, rfl, h1, h2, fun hc => ?_⟩
  obtain ⟨b, off, cur, rfl, k1, k2, k3, k4⟩ := h3 hc
  exact ⟨b, off, cur, rfl, k1, (hg b rfl (Array.getElem?_eq_some_iff.1 k2).1).trans k2, k3, k4⟩
theorem QRow.grew (h : QRow w base e size v n xs) (hg : Grew w w') : QRow w' base e size v n xs := h.kept fun b _ hb => hg.block b hb
theorem QRow.at (h : QRow w base e size v n xs) (hn : 0 < n) : ∃ b off cap, v = .slice (some ⟨b, off, none⟩) n cap ∧ base ≤ b ∧ b < w.heap.size ∧ n ≤ cap ∧ cap ≤ maxLen ∧ ∀ j u, j < n * size → xs[j]? = some u → w.cell? ⟨b, off + j, none⟩ = some u := by
  obtain ⟨h0, a, cap, rfl, h1, h2, h3⟩ := h
  obtain ⟨b, off, cur, rfl, k1, k2, k3, k4⟩ := h3 (by omega)
  refine ⟨b, off, cap, rfl, k1, (Array.getElem?_eq_some_iff.1 k2).1, h1, h2, fun j u hj hu => ?_⟩
  unfold World.cell?
  dsimp only
  rw [k2]
  exact (k4 j hj).trans hu
theorem QRow.tail {t : TypeId} (ht : P.underlying t = some (.slice (P.elem t))) (hs : ∀ w, (sizeOf (P.elem t)).run P w = .ok size w) (h : QRow w base e size v (n + 1) xs) :
    ∃ a c, (∀ w1, (Instr.slice t v (some (.int .i64 1)) none none).run P w1 = .ok (.slice a n c) w1) ∧ QRow w base e size (.slice a n c) n (xs.drop size) ∧ (Value.slice a n c).ownBlock = v.ownBlock := by
  obtain ⟨h0, a, cap, rfl, h1, h2, h3⟩ := h
  obtain ⟨b, off, cur, rfl, k1, k2, k3, k4⟩ := h3 (by omega)
  have hr : ∀ w1, (Instr.slice t (.slice (some ⟨b, off, none⟩) (n + 1) cap) (some (.int .i64 1)) none none).run P w1 = .ok (sliced (some ⟨b, off, none⟩) (1 : Int).toNat (n + 1) cap size) w1 := fun w1 => by
    rw [run_slice_l w1 t _ (n + 1) cap ht .i64 1 (by omega) (by omega), hs]; rfl
  have hl : (xs.drop size).length = n * size := by rw [List.length_drop, h0, Nat.add_mul]; omega
  by_cases hc : cap = 1
  · obtain rfl : n = 0 := by omega
    refine ⟨some ⟨b, off, none⟩, 0, fun w1 => by rw [hr w1]; simp [sliced, hc], ⟨hl, _, 0, rfl, Nat.le_refl _, by omega, fun h => absurd h (by omega)⟩, rfl⟩
  · refine ⟨some ⟨b, off + size, none⟩, cap - 1, fun w1 => by rw [hr w1]; simp [sliced, hc, Addr.add], ⟨hl, _, cap - 1, rfl, by omega, by omega, fun _ => ⟨b, off + size, cur, rfl, k1, k2, ?_, fun j hj => ?_⟩⟩, rfl⟩
    · have : cap * size = (cap - 1) * size + size := by
        conv => lhs; rw [show cap = (cap - 1) + 1 by omega, Nat.add_mul, Nat.one_mul]
      omega
    · rw [List.getElem?_drop, Nat.add_assoc]
      exact k4 (size + j) (by rw [Nat.add_mul]; omega)
theorem QRow.append {t : TypeId} {i : TypeInfo} {z : Value} {bytes : Nat} (ht : P.underlying t = some (.slice e)) (hi : P.info? e = some i) (hz : i.zero = some z) (hsize : i.size = size) (hby : i.bytes = bytes) (hzs : z.cells.size = size)
    (h : QRow w base e size v n xs) (hbase : base ≤ w.heap.size) (g c : Nat) (news : List Value) (hl : news.length = size) (hnews : ∀ j u, news[j]? = some u → w.cell? ⟨g, j, none⟩ = some u) (h1 : ∀ u ∈ news, u.oneCell' = true)
    (h63 : n + 1 ≤ maxLen) (hbytes : (n + 1) * bytes ≤ 140737488355328) (ty : TypeId) :
    ∃ v' w', (Builtin.append_ #[t, t] ty #[v, .slice (some ⟨g, 0, none⟩) 1 c]).run P w = .ok v' w' ∧ QRow w' base e size v' (n + 1) (xs ++ news) ∧ w.grownBy w' v.ownBlock ∧ (v'.ownBlock = v.ownBlock ∨ v'.ownBlock = some w.heap.size) := by
  subst hsize
  subst hby
  obtain ⟨h0, a, cap, rfl, k1, k2, k3⟩ := h
  have hsrc : Src P i.size t (.slice (some ⟨g, 0, none⟩) 1 c) 1 news w := Src.ofSlice w ht ⟨g, 0, none⟩ 1 c news (by rw [hl, Nat.one_mul]) (fun j u hu => by rw [Addr.add_lit, Nat.zero_add]; exact hnews j u hu) h1
  have hlen : (xs ++ news).length = (n + 1) * i.size := by rw [List.length_append, h0, hl, Nat.add_mul, Nat.one_mul]
  by_cases hroom : n + 1 ≤ cap
  · obtain ⟨b, off, cur, rfl, q1, q2, q3, q4⟩ := k3 (by omega)
    have hfit : off + n * i.size + news.length ≤ cur.size := by
      have : (n + 1) * i.size ≤ cap * i.size := Nat.mul_le_mul_right _ hroom
      rw [Nat.add_mul, Nat.one_mul] at this
      omega
    have hrun := run_append_room_src (P := P) w t t ty e i ht hi b off n cap _ 1 news hsrc hroom (fun j hj => by
      unfold World.cell?
      dsimp only
      rw [q2]
      show (cur[off + n * i.size + j]?).isSome = true
      rw [Array.getElem?_eq_getElem (by omega)]; rfl) (fun j hj => by unfold World.frozen?; dsimp only; rw [q2]; simp)
    refine ⟨_, _, hrun, ⟨hlen, _, cap, rfl, hroom, k2, fun _ => ?_⟩, ?_, Or.inl rfl⟩
    · obtain ⟨cur', c1, c2, c3⟩ : ∃ cur', (w.setCells b (off + n * i.size) news).heap[b]? = some (.cells cur' e (0, 0)) ∧ cur'.size = cur.size ∧ ∀ j, cur'[j]? = if off + n * i.size ≤ j ∧ j < off + n * i.size + news.length then news[j - (off + n * i.size)]? else cur[j]? := by
        clear hrun hsrc h1 hnews hl hlen
        suffices H : ∀ (l : List Value) (o : Nat) (w : World) (cur : Array Value), w.heap[b]? = some (.cells cur e (0, 0)) → o + l.length ≤ cur.size → ∃ cur', (w.setCells b o l).heap[b]? = some (.cells cur' e (0, 0)) ∧ cur'.size = cur.size ∧ ∀ j, cur'[j]? = if o ≤ j ∧ j < o + l.length then l[j - o]? else cur[j]? from H news _ w cur q2 hfit
        intro l
        induction l with
        | nil => intro o w cur hq _; exact ⟨cur, hq, rfl, fun j => by rw [if_neg (by intro h; simp at h; omega)]⟩
        | cons x l ih =>
          intro o w cur hq hf
          have hset : (w.setCell ⟨b, o, none⟩ x).heap[b]? = some (.cells (cur.setIfInBounds o x) e (0, 0)) := q_set_same hq o x
          obtain ⟨cur', d1, d2, d3⟩ := ih (o + 1) _ _ hset (by simp at hf ⊢; omega)
          refine ⟨cur', d1, by rw [d2]; simp, fun j => ?_⟩
          rw [d3]
          by_cases hj : j = o
          · subst hj
            rw [if_neg (by omega), if_pos ⟨Nat.le_refl _, by simp⟩, Nat.sub_self]
            simp at hf
            simp [show j < cur.size by omega]
          · by_cases hin : o + 1 ≤ j ∧ j < o + 1 + l.length
            · rw [if_pos hin, if_pos ⟨by omega, by simp; omega⟩, show j - o = (j - (o + 1)) + 1 by omega, List.getElem?_cons_succ]
            · rw [if_neg hin, if_neg (by simp; omega), Array.getElem?_setIfInBounds_ne (Ne.symm hj)]
      refine ⟨b, off, cur', rfl, q1, c1, by rw [c2]; exact q3, fun j hj => ?_⟩
      rw [c3]
      by_cases hjn : j < n * i.size
      · rw [if_neg (by omega), List.getElem?_append_left (by rw [h0]; exact hjn)]
        exact q4 j hjn
      · rw [Nat.add_mul, Nat.one_mul] at hj
        rw [if_pos ⟨by omega, by omega⟩, List.getElem?_append_right (by omega), h0, show off + j - (off + n * i.size) = j - n * i.size by omega]
    · suffices H : ∀ (l : List Value) (o : Nat) (w : World), w.grownBy (w.setCells b o l) (some b) from H news _ w
      intro l
      induction l with
      | nil => intro o w; exact ⟨rfl, rfl, rfl, Nat.le_refl _, fun _ _ _ => rfl⟩
      | cons x l ih =>
        intro o w
        have := ih (o + 1) (w.setCell ⟨b, o, none⟩ x)
        exact ⟨this.os.trans (by simp [World.setCell]), this.tape.trans (by simp [World.setCell]), this.output.trans (by simp [World.setCell]), Nat.le_trans (by simp [World.setCell]) this.size, fun k hk hne => (this.block k (by simpa [World.setCell] using hk) hne).trans (by
          exact q_set_other o x (fun e => hne (by rw [e])))⟩
  · have hcap : cap = n := by omega
    subst hcap
    have hold : (Builtin.firstCells i.size cap (.slice a cap cap)).run P w.drew = .ok xs.toArray w.drew := by
      rcases Nat.eq_zero_or_pos cap with hz0 | hp
      · subst hz0
        have hx : xs = [] := List.eq_nil_of_length_eq_zero (by simpa using h0)
        subst hx
        cases a with
        | none => exact run_firstCells_none _ _ _ _ _
        | some b => exact run_firstCells_some _ _ _ _ _ _ _ (by simp) (fun j v hv => by simp at hv)
      · obtain ⟨b, off, cur, rfl, q1, q2, q3, q4⟩ := k3 hp
        refine run_firstCells_some _ _ _ _ _ _ _ h0 (fun j u hu => ?_)
        have hj : j < xs.length := (List.getElem?_eq_some_iff.1 hu).1
        show w.cell? _ = _
        rw [Addr.add_lit]
        unfold World.cell?
        dsimp only
        rw [q2]
        exact (q4 j (by omega)).trans hu
    have hge := grownCap_ge w (cap + 1) cap e
    have hcm := grownCap_le_maxLen w (cap + 1) cap e h63
    have hrun := run_append_grow_src (P := P) w t t ty e i z ht hi hz a cap cap xs hold _ 1 news hsrc (by omega) (by unfold maxLen at h63; omega) (growslice_fits (by omega) hbytes)
    refine ⟨_, _, hrun, ⟨hlen, _, _, rfl, hge, hcm, fun _ => ⟨w.heap.size, 0, _, rfl, hbase, heap_alloc_new w.drew _, ?_, fun j hj => ?_⟩⟩, ⟨rfl, rfl, rfl, by simp, fun k hk _ => Below.heap_alloc w.drew _ k hk⟩, Or.inr rfl⟩
    · rw [Nat.zero_add, Array.size_append, List.size_toArray, hlen, size_zeroCells, hzs, ← Nat.add_mul]
      exact Nat.mul_le_mul_right _ (by omega)
    · rw [Nat.zero_add, Array.getElem?_append_left (by rw [List.size_toArray, hlen]; exact hj), List.getElem?_toArray]
end
end Go.Proofs.YtkkdpafkafjfgaaDoor
