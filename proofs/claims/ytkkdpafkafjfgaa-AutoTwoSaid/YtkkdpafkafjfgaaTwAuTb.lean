/- A table of one's own that grows by rows and ends. -/
import Derived.Test.YtkkdpafkafjfgaaTwAuTw
namespace Go.Proofs.Ytkkdpafkafjfgaa
open Go.RowKit RR
set_option linter.unusedVariables false
set_option linter.unusedSimpArgs false
structure TbSt (w wr : World) (ob : Nat) (rows : List (Nat → Nat)) (bs : List Bool) (nv ev : Value) (O : Obj) : Prop where
  grew : Grew w wr
  raw : wr.heap[ob]? = some O
  next : QRow wr w.heap.size 22 256 nv rows.length (rowsC rows)
  ends : QRow wr w.heap.size 4 1 ev bs.length (bs.map Value.bool)
  lo : w.heap.size ≤ ob
  ownn : ∀ k, nv.ownBlock = some k → k ≠ ob ∧ w.heap.size ≤ k ∧ k < wr.heap.size
  owne : ∀ k, ev.ownBlock = some k → k ≠ ob ∧ w.heap.size ≤ k ∧ k < wr.heap.size
  ne : ∀ k, nv.ownBlock = some k → ev.ownBlock ≠ some k
section
variable {w wr w' w1 : World} {ob : Nat} {rows : List (Nat → Nat)} {bs : List Bool} {nv ev : Value} {O : Obj}
theorem TbSt.start (w : World) (O : Obj) : TbSt w (w.alloc O) w.heap.size [] [] (.slice none 0 0) (.slice none 0 0) O :=
  ⟨(Grew.refl w).alloc O, heap_alloc_new w O, ⟨rfl, none, 0, rfl, Nat.le_refl _, Nat.zero_le _, fun h => absurd h (by omega)⟩, ⟨rfl, none, 0, rfl, Nat.le_refl _, Nat.zero_le _, fun h => absurd h (by omega)⟩, Nat.le_refl _, fun k hk => (by cases hk), fun k hk => (by cases hk), fun k hk => (by cases hk)⟩
theorem TbSt.same (h : TbSt w wr ob rows bs nv ev O) (g : Grew w w') (hs : wr.heap.size ≤ w'.heap.size) (hk : ∀ k, k = ob ∨ nv.ownBlock = some k ∨ ev.ownBlock = some k → w'.heap[k]? = wr.heap[k]?) : TbSt w w' ob rows bs nv ev O :=
  ⟨g, (hk _ (Or.inl rfl)).trans h.raw, h.next.kept fun k hk2 _ => hk k (Or.inr (Or.inl hk2)), h.ends.kept fun k hk2 _ => hk k (Or.inr (Or.inr hk2)), h.lo, fun k hk => by obtain ⟨a, b, c⟩ := h.ownn k hk; exact ⟨a, b, by omega⟩, fun k hk => by obtain ⟨a, b, c⟩ := h.owne k hk; exact ⟨a, b, by omega⟩, h.ne⟩
theorem TbSt.old (h : TbSt w wr ob rows bs nv ev O) {k : Nat} (hk : k = ob ∨ nv.ownBlock = some k ∨ ev.ownBlock = some k) : k < wr.heap.size := by
  rcases hk with rfl | hk | hk
  · exact (Array.getElem?_eq_some_iff.1 h.raw).1
  · exact (h.ownn k hk).2.2
  · exact (h.owne k hk).2.2
theorem TbSt.kept (h : TbSt w wr ob rows bs nv ev O) (g : Grew wr w') : TbSt w w' ob rows bs nv ev O := h.same (h.grew.trans g) g.size fun k hk => g.block k (h.old hk)
theorem TbSt.pushRow (h : TbSt w wr ob rows bs nv ev O) {row : Nat → Nat} (hk : rows.length ≤ 9000) (ty : TypeId) :
    ∃ v' w2, (Builtin.append_ #[42, 42] ty #[nv, .slice (some ⟨wr.heap.size, 0, none⟩) 1 1]).run Try.prog (wr.alloc (.cells (rowI fun c => (row c : Nat)) 22)) = .ok v' w2 ∧ (∃ a cp, v' = .slice a (rows.length + 1) cp) ∧ TbSt w w2 ob (rows ++ [row]) bs v' ev O := by
  obtain ⟨i0, hi0, hz0, hz1, hz2⟩ := info_rowx
  have h2 := h.kept ((Grew.refl wr).alloc (.cells (rowI fun c => (row c : Nat)) 22))
  obtain ⟨v', w2, a1, a2, a3, a4⟩ := QRow.append (P := Try.prog) agg_rows hi0 hz0 hz1 hz2 (rowI_size _) h2.next h2.grew.size wr.heap.size 1 (rowI fun c => (row c : Nat)).toList (rowI_list _) (fun j u hu => by
    unfold World.cell?
    dsimp only
    rw [heap_alloc_new wr _]
    rw [Array.getElem?_toList] at hu
    exact hu) (fun u hu => by
    obtain ⟨j, _, rfl⟩ := List.mem_map.1 (show u ∈ (List.range 256).map fun j => Value.int .i64 ((row j : Nat) : Int) from hu)
    rfl) (by unfold maxLen; omega) (by omega) ty
  rw [← rowsC_snoc] at a2
  have hs2 := a3.size
  rw [World.size_alloc] at hs2
  have hall : ∀ k, k < wr.heap.size → nv.ownBlock ≠ some k → w2.heap[k]? = wr.heap[k]? := fun k hk hq => by
    rw [a3.block k (by rw [World.size_alloc]; omega) (fun e => hq e.symm), heap_alloc_old _ _ hk]
  have hnl : (∀ k, v'.ownBlock = some k → nv.ownBlock = some k ∨ wr.heap.size ≤ k ∧ k < w2.heap.size) := fun k hk => by
    rcases a4 with e | e
    · exact Or.inl (by rw [← e]; exact hk)
    · rw [e] at hk; cases hk
      obtain ⟨b', _, _, e2, _, hlt2, _⟩ := a2.at (by omega)
      rw [e2] at e; cases e
      exact Or.inr ⟨by rw [World.size_alloc]; omega, hlt2⟩
  have hrb := (Array.getElem?_eq_some_iff.1 h.raw).1
  have hg := h.grew.size
  refine ⟨v', w2, a1, ?_, ⟨grew_grown h2.grew a3 fun b e => (h.ownn b e).2.1, ?_, ?_, ?_, h.lo, fun k hk => ?_, fun k hk => ?_, fun k hk e => ?_⟩⟩
  · obtain ⟨_, a, cp, e, _⟩ := a2; exact ⟨a, cp, e⟩
  · rw [hall ob hrb (fun e => (h.ownn _ e).1 rfl)]; exact h.raw
  · rw [List.length_append]; exact a2
  · exact h.ends.kept fun k hk hlt => hall k hlt (fun e => h.ne k e hk)
  · rcases hnl k hk with e | ⟨e1, e2⟩
    · obtain ⟨p1, p2, p3⟩ := h.ownn k e; exact ⟨p1, p2, by omega⟩
    · exact ⟨by omega, by omega, e2⟩
  · obtain ⟨p1, p2, p3⟩ := h.owne k hk; exact ⟨p1, p2, by omega⟩
  · rcases hnl k hk with e2 | ⟨e1, _⟩
    · exact h.ne k e2 e
    · have := (h.owne k e).2.2; omega
theorem TbSt.setRaw {cs : Array Value} {T : TypeId} (h : TbSt w wr ob rows bs nv ev (.cells cs T (0, 0))) (o : Nat) (v : Value) : TbSt w (wr.setCell ⟨ob, o, none⟩ v) ob rows bs nv ev (.cells (cs.setIfInBounds o v) T (0, 0)) := by
  have hk : ∀ k, k ≠ ob → (wr.setCell ⟨ob, o, none⟩ v).heap[k]? = wr.heap[k]? := fun k hk => q_set_other _ _ (Ne.symm hk)
  have hsz : (wr.setCell ⟨ob, o, none⟩ v).heap.size = wr.heap.size := by simp [World.setCell]
  refine ⟨h.grew.setCell (p := ⟨ob, o, none⟩) h.lo _, q_set_same h.raw o v, h.next.kept fun k hk2 _ => hk k (h.ownn k hk2).1, h.ends.kept fun k hk2 _ => hk k (h.owne k hk2).1, h.lo, fun k hk2 => ?_, fun k hk2 => ?_, h.ne⟩
  · rw [hsz]; exact h.ownn k hk2
  · rw [hsz]; exact h.owne k hk2
theorem TbSt.endRun (h : TbSt w wr ob rows bs nv ev O) {wx : World} (g : Grew wr wx) (hm : bs.length ≤ 9000) {b : Bool} {k : Nat} (hk : wx.cell? ⟨k, 0, none⟩ = some (.bool b)) (cp : Nat) (ty : TypeId) :
    ∃ v w1, (Builtin.append_ #[24, 24] ty #[ev, .slice (some ⟨k, 0, none⟩) 1 cp]).run Try.prog wx = .ok v w1 ∧ EndApp w wr ev (bs.length + 1) (bs.map Value.bool ++ [.bool b]) v w1 ∧ wx.grownBy w1 ev.ownBlock := by
  obtain ⟨j0, hj0, jz0, jz1, jz2⟩ := info_boolx
  obtain ⟨v', w2, a1, a2, a3, a4⟩ := QRow.append (P := Try.prog) Try.underlying24 hj0 jz0 jz1 jz2 rfl (h.ends.grew g) (Nat.le_trans h.grew.size g.size) k cp [.bool b] rfl (fun j u hu => by
    cases j with
    | zero => rw [hk]; simpa using hu
    | succ j => simp at hu) (fun u hu => by rw [List.mem_singleton] at hu; rw [hu]; rfl) (by unfold maxLen; omega) (by omega) ty
  refine ⟨v', w2, a1, ⟨a2, fun k hk => ?_⟩, a3⟩
  rcases a4 with e | e
  · exact Or.inl (by rw [← e]; exact hk)
  · rw [e] at hk; cases hk
    obtain ⟨b', _, _, e2, _, hlt2, _⟩ := a2.at (by omega)
    rw [e2] at e; cases e
    exact Or.inr ⟨g.size, hlt2⟩
theorem TbSt.pushEnd (h : TbSt w wr ob rows bs nv ev O) {b : Bool} {v : Value} (hA : EndApp w wr ev (bs.length + 1) (bs.map Value.bool ++ [.bool b]) v w1) (g : wr.grownBy w1 ev.ownBlock) {o : Nat} {cs : Array Value} {T : TypeId} (hO : O = .cells cs T (0, 0)) :
    TbSt w (w1.setCell ⟨ob, o, none⟩ v) ob rows (bs ++ [b]) nv v (.cells (cs.setIfInBounds o v) T (0, 0)) := by
  obtain ⟨hq, ho⟩ := hA
  have hrb := (Array.getElem?_eq_some_iff.1 h.raw).1
  have hall : ∀ k, k < wr.heap.size → ev.ownBlock ≠ some k → k ≠ ob → (w1.setCell ⟨ob, o, none⟩ v).heap[k]? = wr.heap[k]? := fun k hk hq hr => by
    rw [q_set_other o v (Ne.symm hr), g.block k hk (fun e => hq e.symm)]
  have hsz : (w1.setCell ⟨ob, o, none⟩ v).heap.size = w1.heap.size := by simp [World.setCell]
  have hgs := g.size
  have hw := h.grew.size
  have hvr : ∀ k, v.ownBlock = some k → k ≠ ob ∧ w.heap.size ≤ k ∧ k < w1.heap.size := fun k hk => by
    rcases ho k hk with e | ⟨e1, e2⟩
    · obtain ⟨p1, p2, p3⟩ := h.owne k e; exact ⟨p1, p2, by omega⟩
    · exact ⟨by omega, by omega, e2⟩
  refine ⟨(grew_grown h.grew g fun b e => (h.owne b e).2.1).setCell (p := ⟨ob, o, none⟩) h.lo _, ?_, ?_, ?_, h.lo, fun k hk => ?_, fun k hk => ?_, fun k hk e => ?_⟩
  · have h1 : w1.heap[ob]? = some (.cells cs T (0, 0)) := by rw [g.block ob hrb (fun e => (h.owne _ e.symm).1 rfl), h.raw, hO]
    exact q_set_same h1 o v
  · exact h.next.kept fun k hk hlt => hall k hlt (h.ne k hk) (h.ownn k hk).1
  · rw [List.length_append, List.map_append]
    exact hq.kept fun k hk _ => q_set_other o v (Ne.symm (hvr k hk).1)
  · obtain ⟨p1, p2, p3⟩ := h.ownn k hk; exact ⟨p1, p2, by omega⟩
  · obtain ⟨p1, p2, p3⟩ := hvr k hk; exact ⟨p1, p2, by omega⟩
  · rcases ho k e with e2 | ⟨e1, _⟩
    · exact h.ne k hk e2
    · have := (h.ownn k hk).2.2; omega
theorem TbSt.table (h : TbSt w wr ob rows bs nv ev O) (hp : 0 < rows.length) (hl : bs.length = rows.length) : TabIn wr ⟨rows.length, fun s c => (rows.getD s fun _ => 0) c, fun s => bs.getD s false⟩ (.agg #[nv, ev]) := by
  obtain ⟨nb, no, nc, e1, l1, _, _, _, hc⟩ := h.next.at hp
  obtain ⟨eb, eo, ec, e2, l2, _, _, _, hc2⟩ := h.ends.at (by omega)
  refine ⟨nb, no, nc, eb, eo, ec, by rw [e1, e2, hl], fun s d hs hd => ?_, fun s hs => ?_⟩
  · have hs : s < rows.length := hs
    rw [Nat.add_assoc]
    exact hc (s * 256 + d) _ (by have : (s + 1) * 256 ≤ rows.length * 256 := Nat.mul_le_mul_right _ hs; omega) (rowsC_get hd rows s hs)
  · have hs : s < rows.length := hs
    refine hc2 s _ (by omega) ?_
    rw [List.getElem?_map, List.getElem?_eq_getElem (by omega)]
    show some (Value.bool bs[s]) = some (.bool (bs.getD s false))
    rw [List.getD_eq_getElem?_getD, List.getElem?_eq_getElem (by omega)]; rfl
end
section
variable {P : Program} {wb w0 : World} {q : Addr} {own : Option Nat} {App : Value → World → Prop} {mk : List Nat} {il ia is dst : Nat} {ops : Array Oper} {Q : Exit → Act → World → Prop} {shs : List Sh} {a0 : Act} {A : Array Edge} {i : Nat} {d : Option Tmp} {op : Op} {ty : TypeId} {pos : String} {G : Option (Nat × Bool)}
theorem gj_skip (hia : i ≠ ia) (his : i ≠ is) (hd : d ≠ some dst) (hg : guardIs ops shs A G = some false) (hs : shs.getD i (.fact fun _ _ => True) = .val undef) :
    StepJ (ApJ wb q own App mk il ia is dst) (ApRl q own) P ops Q (shF shs) a0 w0 i ⟨d, op, ty, pos, A, G⟩ := by
  intro listed a w hls hlf hdep hsz hJ hw hsm hdp K hK
  have E : RR.Env (ApRl q own) ops shs a0 w0 A a w := ⟨hw, hsm, hdp⟩
  rw [if_neg (by rw [E.guard hg]; exact Bool.false_ne_true)]
  exact hK undef w (ApRl.refl _ _ w) (by unfold shF; rw [hs]; rfl) (hJ.stay hia his hd undef)
theorem gj_pick {c x y : Operand} {b : Bool} {z : Value} (hia : i ≠ ia) (his : i ≠ is) (hd : d ≠ some dst) (hg : guardIs ops shs A G = some true) (hc : opSh ops shs A a0 c = .val (.bool b)) (hz : opSh ops shs A a0 (if b = true then x else y) = .val z) (hs : shs.getD i (.fact fun _ _ => True) = .val z) :
    StepJ (ApJ wb q own App mk il ia is dst) (ApRl q own) P ops Q (shF shs) a0 w0 i ⟨d, .pick c x y, ty, pos, A, G⟩ :=
  gj_pure hia his hd (fun listed a w hJ _ E => by
    have hcv : a.eval c = .bool b := E.opv hc
    cases b
    · have hv : a.eval y = z := E.opv hz
      unfold execOp
      simp [hcv, asBool, hv]
    · have hv : a.eval x = z := E.opv hz
      unfold execOp
      simp [hcv, asBool, hv]) hg hs
theorem gj_not {x : Operand} {b : Bool} {t : TypeId} (hia : i ≠ ia) (his : i ≠ is) (hd : d ≠ some dst) (hg : guardIs ops shs A G = some true) (hx : opSh ops shs A a0 x = .val (.bool b)) (hb : ∀ w, (Op.unary UnOp.not (.bool b)).run P w = .ok (.bool (!b)) w) (hs : shs.getD i (.fact fun _ _ => True) = .val (.bool (!b))) :
    StepJ (ApJ wb q own App mk il ia is dst) (ApRl q own) P ops Q (shF shs) a0 w0 i ⟨d, .unOp .not t x, ty, pos, A, G⟩ :=
  gj_pure hia his hd (fun listed a w hJ _ E => by
    have hv : a.eval x = .bool b := E.opv hx
    unfold execOp
    simp [hv, hb w]) hg hs
end
end Go.Proofs.Ytkkdpafkafjfgaa
