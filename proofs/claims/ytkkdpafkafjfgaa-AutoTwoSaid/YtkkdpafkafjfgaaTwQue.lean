/- Queues: slices of a call's own that are cut at their head and appended to at their end. Over any program. -/
import Derived.Test.YtkkdpafkafjfgaaTwBase
import Derived.Deep.AppendSrc
import Derived.Laws.AppendOwn
namespace Go.Proofs.Ytkkdpafkafjfgaa
open Go.RowKit
set_option linter.unusedVariables false
def QRow (w : World) (base : Nat) (e : TypeId) (size : Nat) (v : Value) (n : Nat) (xs : List Value) : Prop :=
  xs.length = n * size ∧ ∃ a cap, v = .slice a n cap ∧ n ≤ cap ∧ cap ≤ maxLen ∧
    (0 < cap → ∃ b off cur, a = some ⟨b, off, none⟩ ∧ base ≤ b ∧ w.heap[b]? = some (.cells cur e (0, 0)) ∧ off + cap * size ≤ cur.size ∧ ∀ j, j < n * size → cur[off + j]? = xs[j]?)
theorem q_set_same {w : World} {b : Nat} {cs : Array Value} {t : TypeId} (h : w.heap[b]? = some (.cells cs t (0, 0))) (i : Nat) (u : Value) : (w.setCell ⟨b, i, none⟩ u).heap[b]? = some (.cells (cs.setIfInBounds i u) t (0, 0)) := by
  simp [World.setCell, Array.getElem?_modify, h]
theorem q_set_other {w : World} {b b' : Nat} (o : Nat) (u : Value) (h : b ≠ b') : (w.setCell ⟨b, o, none⟩ u).heap[b']? = w.heap[b']? := by
  simp [World.setCell, Array.getElem?_modify, h]
section
variable {P : Program} {w w' : World} {base : Nat} {e : TypeId} {size : Nat} {v : Value} {n : Nat} {xs : List Value}
theorem QRow.made (w : World) (cur : Array Value) (n : Nat) (hb : base ≤ w.heap.size) (hm : n ≤ maxLen) (hs : cur.size = n * size) : QRow (w.alloc (.cells cur e)) base e size (.slice (some ⟨w.heap.size, 0, none⟩) n n) n cur.toList :=
  ⟨by rw [Array.length_toList, hs], _, n, rfl, Nat.le_refl _, hm, fun _ => ⟨w.heap.size, 0, cur, rfl, hb, heap_alloc_new w _, by omega, fun j hj => by rw [Nat.zero_add, Array.getElem?_toList]⟩⟩
theorem QRow.kept (h : QRow w base e size v n xs) (hg : ∀ b, v.ownBlock = some b → b < w.heap.size → w'.heap[b]? = w.heap[b]?) : QRow w' base e size v n xs := by
  obtain ⟨h0, a, cap, rfl, h1, h2, h3⟩ := h
  refine ⟨h0, a, cap, rfl, h1, h2, fun hc => ?_⟩
  obtain ⟨b, off, cur, rfl, k1, k2, k3, k4⟩ := h3 hc
  exact ⟨b, off, cur, rfl, k1, (hg b rfl (Array.getElem?_eq_some_iff.1 k2).1).trans k2, k3, k4⟩
theorem QRow.grew (h : QRow w base e size v n xs) (hg : Grew w w') : QRow w' base e size v n xs := h.kept fun b _ hb => hg.block b hb
theorem QRow.at (h : QRow w base e size v n xs) (hn : 0 < n) : ∃ b off cap, v = .slice (some ⟨b, off, none⟩) n cap ∧ base ≤ b ∧ b < w.heap.size ∧ n ≤ cap ∧ cap ≤ maxLen ∧ ∀ j u, j < n * size → xs[j]? = some u → w.cell? ⟨b, off + j, none⟩ = some u := by
  obtain ⟨h0, a, cap, rfl, h1, h2, h3⟩ := h
  obtain ⟨b, off, cur, rfl, k1, k2, k3, k4⟩ := h3 (by omega)
  refine ⟨b, off, cap, rfl, k1, (Array.getElem?_eq_some_iff.1 k2).1, h1, h2, fun j u hj hu => ?_⟩
  unfold World.cell?
  dsimp only
  rw [k2]
  exact (k4 j hj).trans hu
theorem QRow.append {t : TypeId} {i : TypeInfo} {z : Value} {bytes : Nat} (ht : P.underlying t = some (.slice e)) (hi : P.info? e = some i) (hz : i.zero = some z) (hsize : i.size = size) (hby : i.bytes = bytes) (hzs : z.cells.size = size)
    (h : QRow w base e size v n xs) (hbase : base ≤ w.heap.size) (g c : Nat) (news : List Value) (hl : news.length = size) (hnews : ∀ j u, news[j]? = some u → w.cell? ⟨g, j, none⟩ = some u) (h1 : ∀ u ∈ news, u.oneCell' = true)
    (h63 : n + 1 ≤ maxLen) (hbytes : (n + 1) * bytes ≤ 140737488355328) (ty : TypeId) :
    ∃ v' w', (Builtin.append_ #[t, t] ty #[v, .slice (some ⟨g, 0, none⟩) 1 c]).run P w = .ok v' w' ∧ QRow w' base e size v' (n + 1) (xs ++ news) ∧ w.grownBy w' v.ownBlock ∧ (v'.ownBlock = v.ownBlock ∨ v'.ownBlock = some w.heap.size) := by
  subst hsize
  subst hby
  obtain ⟨h0, a, cap, rfl, k1, k2, k3⟩ := h
  have hsrc : Src P i.size t (.slice (some ⟨g, 0, none⟩) 1 c) 1 news w := Src.ofSlice w ht ⟨g, 0, none⟩ 1 c news (by rw [hl, Nat.one_mul]) (fun j u hu => by rw [Addr.add_lit, Nat.zero_add]; exact hnews j u hu) h1
  have hlen : (xs ++ news).length = (n + 1) * i.size := by rw [List.length_append, h0, hl, Nat.add_mul, Nat.one_mul]
  by_cases hroom : n + 1 ≤ cap
  · obtain ⟨b, off, cur, rfl, q1, q2, q3, q4⟩ := k3 (by omega)
    have hfit : off + n * i.size + news.length ≤ cur.size := by
      have : (n + 1) * i.size ≤ cap * i.size := Nat.mul_le_mul_right _ hroom
      rw [Nat.add_mul, Nat.one_mul] at this
      omega
    have hrun := run_append_room_src (P := P) w t t ty e i ht hi b off n cap _ 1 news hsrc hroom (fun j hj => by
      unfold World.cell?
      dsimp only
      rw [q2]
      show (cur[off + n * i.size + j]?).isSome = true
      rw [Array.getElem?_eq_getElem (by omega)]; rfl) (fun j hj => by unfold World.frozen?; dsimp only; rw [q2]; simp)
    refine ⟨_, _, hrun, ⟨hlen, _, cap, rfl, hroom, k2, fun _ => ?_⟩, ?_, Or.inl rfl⟩
    · obtain ⟨cur', c1, c2, c3⟩ : ∃ cur', (w.setCells b (off + n * i.size) news).heap[b]? = some (.cells cur' e (0, 0)) ∧ cur'.size = cur.size ∧ ∀ j, cur'[j]? = if off + n * i.size ≤ j ∧ j < off + n * i.size + news.length then news[j - (off + n * i.size)]? else cur[j]? := by
        clear hrun hsrc h1 hnews hl hlen
        suffices H : ∀ (l : List Value) (o : Nat) (w : World) (cur : Array Value), w.heap[b]? = some (.cells cur e (0, 0)) → o + l.length ≤ cur.size → ∃ cur', (w.setCells b o l).heap[b]? = some (.cells cur' e (0, 0)) ∧ cur'.size = cur.size ∧ ∀ j, cur'[j]? = if o ≤ j ∧ j < o + l.length then l[j - o]? else cur[j]? from H news _ w cur q2 hfit
        intro l
        induction l with
        | nil => intro o w cur hq _; exact ⟨cur, hq, rfl, fun j => by rw [if_neg (by intro h; simp at h; omega)]⟩
        | cons x l ih =>
          intro o w cur hq hf
          have hset : (w.setCell ⟨b, o, none⟩ x).heap[b]? = some (.cells (cur.setIfInBounds o x) e (0, 0)) := q_set_same hq o x
          obtain ⟨cur', d1, d2, d3⟩ := ih (o + 1) _ _ hset (by simp at hf ⊢; omega)
          refine ⟨cur', d1, by rw [d2]; simp, fun j => ?_⟩
          rw [d3]
          by_cases hj : j = o
          · subst hj
            rw [if_neg (by omega), if_pos ⟨Nat.le_refl _, by simp⟩, Nat.sub_self]
            simp at hf
            simp [show j < cur.size by omega]
          · by_cases hin : o + 1 ≤ j ∧ j < o + 1 + l.length
            · rw [if_pos hin, if_pos ⟨by omega, by simp; omega⟩, show j - o = (j - (o + 1)) + 1 by omega, List.getElem?_cons_succ]
            · rw [if_neg hin, if_neg (by simp; omega), Array.getElem?_setIfInBounds_ne (Ne.symm hj)]
      refine ⟨b, off, cur', rfl, q1, c1, by rw [c2]; exact q3, fun j hj => ?_⟩
      rw [c3]
      by_cases hjn : j < n * i.size
      · rw [if_neg (by omega), List.getElem?_append_left (by rw [h0]; exact hjn)]
        exact q4 j hjn
      · rw [Nat.add_mul, Nat.one_mul] at hj
        rw [if_pos ⟨by omega, by omega⟩, List.getElem?_append_right (by omega), h0, show off + j - (off + n * i.size) = j - n * i.size by omega]
    · suffices H : ∀ (l : List Value) (o : Nat) (w : World), w.grownBy (w.setCells b o l) (some b) from H news _ w
      intro l
      induction l with
      | nil => intro o w; exact ⟨rfl, rfl, rfl, Nat.le_refl _, fun _ _ _ => rfl⟩
      | cons x l ih =>
        intro o w
        have := ih (o + 1) (w.setCell ⟨b, o, none⟩ x)
        exact ⟨this.os.trans (by simp [World.setCell]), this.tape.trans (by simp [World.setCell]), this.output.trans (by simp [World.setCell]), Nat.le_trans (by simp [World.setCell]) this.size, fun k hk hne => (this.block k (by simpa [World.setCell] using hk) hne).trans (by
          exact q_set_other o x (fun e => hne (by rw [e])))⟩
  · have hcap : cap = n := by omega
    subst hcap
    have hold : (Builtin.firstCells i.size cap (.slice a cap cap)).run P w.drew = .ok xs.toArray w.drew := by
      rcases Nat.eq_zero_or_pos cap with hz0 | hp
      · subst hz0
        have hx : xs = [] := List.eq_nil_of_length_eq_zero (by simpa using h0)
        subst hx
        cases a with
        | none => exact run_firstCells_none _ _ _ _ _
        | some b => exact run_firstCells_some _ _ _ _ _ _ _ (by simp) (fun j v hv => by simp at hv)
      · obtain ⟨b, off, cur, rfl, q1, q2, q3, q4⟩ := k3 hp
        refine run_firstCells_some _ _ _ _ _ _ _ h0 (fun j u hu => ?_)
        have hj : j < xs.length := (List.getElem?_eq_some_iff.1 hu).1
        show w.cell? _ = _
        rw [Addr.add_lit]
        unfold World.cell?
        dsimp only
        rw [q2]
        exact (q4 j (by omega)).trans hu
    have hge := grownCap_ge w (cap + 1) cap e
    have hcm := grownCap_le_maxLen w (cap + 1) cap e h63
    have hrun := run_append_grow_src (P := P) w t t ty e i z ht hi hz a cap cap xs hold _ 1 news hsrc (by omega) (by unfold maxLen at h63; omega) (growslice_fits (by omega) hbytes)
    refine ⟨_, _, hrun, ⟨hlen, _, _, rfl, hge, hcm, fun _ => ⟨w.heap.size, 0, _, rfl, hbase, heap_alloc_new w.drew _, ?_, fun j hj => ?_⟩⟩, ⟨rfl, rfl, rfl, by simp, fun k hk _ => Below.heap_alloc w.drew _ k hk⟩, Or.inr rfl⟩
    · rw [Nat.zero_add, Array.size_append, List.size_toArray, hlen, size_zeroCells, hzs, ← Nat.add_mul]
      exact Nat.mul_le_mul_right _ (by omega)
    · rw [Nat.zero_add, Array.getElem?_append_left (by rw [List.size_toArray, hlen]; exact hj), List.getElem?_toArray]
end
end Go.Proofs.Ytkkdpafkafjfgaa
