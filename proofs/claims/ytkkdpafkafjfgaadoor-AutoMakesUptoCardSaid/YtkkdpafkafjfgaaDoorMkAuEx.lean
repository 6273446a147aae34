/- Exploring: what explore holds in memory while it goes on; the raw automaton that it hands back. -/
import Derived.Test.YtkkdpafkafjfgaaDoorMkRegB
import Derived.Test.YtkkdpafkafjfgaaDoorMkPAuR
import Derived.Test.YtkkdpafkafjfgaaDoorMkPScNodeA
namespace Go.Proofs.YtkkdpafkafjfgaaDoor
open Go.RowKit RR
set_option linter.unusedVariables false
set_option maxRecDepth 100000
set_option linter.unusedSectionVars false
def rowsC (rows : List (Nat → Nat)) : List Value := rows.flatMap fun f => (rowI fun c => (f c : Nat)).toList
theorem rowsC_snoc (rows : List (Nat → Nat)) (f : Nat → Nat) : rowsC (rows ++ [f]) = rowsC rows ++ (rowI fun c => (f c : Nat)).toList := by
  unfold rowsC; rw [List.flatMap_append]; simp
theorem rowsC_get {c : Nat} (hc : c < 256) : ∀ (rows : List (Nat → Nat)) (s : Nat), s < rows.length → (rowsC rows)[s * 256 + c]? = some (.int .i64 ((rows.getD s fun _ => 0) c : Nat))
  | [], s, h => by simp at h
  | f :: l, 0, _ => by
    unfold rowsC
    rw [List.flatMap_cons, Nat.zero_mul, Nat.zero_add, List.getElem?_append_left (by rw [rowI_list]; exact hc), Array.getElem?_toList, rowI_get _ hc]; rfl
  | f :: l, s + 1, h => by
    have := rowsC_get hc l s (by simpa using h)
    unfold rowsC at this ⊢
    rw [List.flatMap_cons, List.getElem?_append_right (by rw [rowI_list]; omega), rowI_list, show (s + 1) * 256 + c - 256 = s * 256 + c by omega, this]; rfl
def RawAt (w : World) (b : Nat) (R : RA) : Prop := ∃ rb ro rc eb eo ec, w.heap[b]? = some (.cells #[.slice (some ⟨rb, ro, none⟩) R.n rc, .slice (some ⟨eb, eo, none⟩) R.n ec] 147 (0, 0)) ∧
  (∀ s c, s < R.n → c < 256 → w.cell? ⟨rb, ro + s * 256 + c, none⟩ = some (.int .i64 (R.nx s c : Nat))) ∧ ∀ s, s < R.n → w.cell? ⟨eb, eo + s, none⟩ = some (.bool (R.en s))
theorem RawAt.kept {w w' : World} {b : Nat} {R : RA} (h : RawAt w b R) (g : Grew w w') : RawAt w' b R := by
  obtain ⟨rb, ro, rc, eb, eo, ec, h1, h2, h3⟩ := h
  exact ⟨rb, ro, rc, eb, eo, ec, heap_kept g h1, fun s c hs hc => g.keeps (h2 s c hs hc), fun s hs => g.keeps (h3 s hs)⟩
theorem index_sl {t e : TypeId} {sz : Nat} (ht : Tryd.prog.underlying t = some (.slice e)) (hu : Tryd.prog.elem t = e) (hs : ∀ w, (sizeOf e).run Tryd.prog w = .ok sz w) {b o n c i : Nat} (h : i < n) (w : World) :
    (Instr.indexAt t (.slice (some ⟨b, o, none⟩) n c) (.int .i64 (i : Nat))).run Tryd.prog w = .ok (.pointer (some ⟨b, o + i * sz, none⟩)) w := by
  have := run_indexAt_slice (P := Tryd.prog) (w := w) t ⟨b, o, none⟩ n c .i64 (i : Int) (by rw [hu]; exact ht)
  rw [if_pos ⟨by omega, by omega⟩, hu] at this
  simp only [this, hs w, Result.andThen_ok, Int.toNat_natCast, addr_addV]
theorem load_rowI {w : World} {b : Nat} {f : Nat → Int} (h : ArrAt w b 0 256 fun j => .int .i64 (f j)) : (Instr.loadAt 26 (.pointer (some ⟨b, 0, none⟩))).run Tryd.prog w = .ok (.agg (rowI f)) w := by
  have hl := run_loadVar_arrA h Tryd.underlying26 rfl info_cls
  simp only [Instr.loadAt, Instr.sureAddr, Sem.run_bind, Sem.run_pure, Result.andThen_ok, hl]
  rfl
theorem load_one {t : TypeId} (hagg : ∀ w, (isAgg t).run Tryd.prog w = .ok false w) {w : World} {p : Addr} {z : Value} (h : w.cell? p = some z) : (Instr.loadAt t (.pointer (some p))).run Tryd.prog w = .ok z w := by
  simp [Instr.loadAt, Instr.sureAddr, loadVar, Sem.run_bind, hagg w, h]
section
variable {α : Type} [DecidableEq α]
def RawEnd (first : α) (st : α → Nat → α) (en : α → Bool) (D : α → Prop) (N : Nat) (w : World) : Ending → World → Prop := fun e w' =>
  ∃ b ks rows, e = .returned (.pointer (some ⟨b, 0, none⟩)) ∧ Exp first st D ks rows ks.length 0 (fun _ => 0) ∧ ks.length ≤ N ∧ RawAt w' b (expA en first ks rows) ∧ Grew w w'
structure ExSo {β : Type} {P : Program} {kt : TypeId} (E : Enc P kt β) (et : TypeId) (esz : Nat) (cells : α → List Value) (en : α → Bool) (w wr : World) (mb rb : Nat) (kz : List β) (ks : List α) (rows : List (Nat → Nat)) (me : Nat) (lv nv ev : Value) (O : Obj) : Prop where
  grew : Grew w wr
  map : KMap E wr mb (numL kz)
  list : QRow wr w.heap.size et esz lv ks.length (ks.flatMap cells)
  raw : wr.heap[rb]? = some O
  next : QRow wr w.heap.size 26 256 nv rows.length (rowsC rows)
  ends : QRow wr w.heap.size 4 1 ev me ((ks.take me).map fun x => Value.bool (en x))
  lo : w.heap.size ≤ mb ∧ w.heap.size ≤ rb ∧ mb ≠ rb
  ownl : ∀ k, lv.ownBlock = some k → k ≠ mb ∧ k ≠ rb ∧ w.heap.size ≤ k ∧ k < wr.heap.size
  ownn : ∀ k, nv.ownBlock = some k → k ≠ mb ∧ k ≠ rb ∧ w.heap.size ≤ k ∧ k < wr.heap.size
  owne : ∀ k, ev.ownBlock = some k → k ≠ mb ∧ k ≠ rb ∧ w.heap.size ≤ k ∧ k < wr.heap.size
  ln : ∀ k, lv.ownBlock = some k → nv.ownBlock ≠ some k ∧ ev.ownBlock ≠ some k
  ne : ∀ k, nv.ownBlock = some k → ev.ownBlock ≠ some k
abbrev ExSt {P : Program} {kt : TypeId} (E : Enc P kt α) (et : TypeId) (esz : Nat) (cells : α → List Value) (en : α → Bool) (first : α) (w wr : World) (mb rb : Nat) (ks : List α) (rows : List (Nat → Nat)) (lv nv ev : Value) : Prop := ExSo E et esz cells en w wr mb rb ks ks rows rows.length lv nv ev (.cells #[nv, ev] 147 (0, 0))
def Foot (mb rb : Nat) (lv nv ev : Value) (k : Nat) : Prop := k = mb ∨ k = rb ∨ lv.ownBlock = some k ∨ nv.ownBlock = some k ∨ ev.ownBlock = some k
variable {β : Type} {P : Program} {kt : TypeId} {E : Enc P kt β} {et : TypeId} {esz : Nat} {cells : α → List Value} {en : α → Bool} {first : α} {w wr w' : World} {mb rb : Nat} {ks : List α} {rows : List (Nat → Nat)} {lv nv ev : Value} {kz : List β} {me : Nat} {O : Obj}
theorem ExSo.same (h : ExSo E et esz cells en w wr mb rb kz ks rows me lv nv ev O) (g : Grew w w') (hs : wr.heap.size ≤ w'.heap.size) (hk : ∀ k, Foot mb rb lv nv ev k → w'.heap[k]? = wr.heap[k]?) : ExSo E et esz cells en w w' mb rb kz ks rows me lv nv ev O :=
  ⟨g, h.map.block (hk _ (Or.inl rfl)), h.list.kept fun k hk2 _ => hk k (Or.inr (Or.inr (Or.inl hk2))), (hk _ (Or.inr (Or.inl rfl))).trans h.raw, h.next.kept fun k hk2 _ => hk k (Or.inr (Or.inr (Or.inr (Or.inl hk2)))),
    h.ends.kept fun k hk2 _ => hk k (Or.inr (Or.inr (Or.inr (Or.inr hk2)))), h.lo, fun k hk => by obtain ⟨a, b, c, d⟩ := h.ownl k hk; exact ⟨a, b, c, by omega⟩, fun k hk => by obtain ⟨a, b, c, d⟩ := h.ownn k hk; exact ⟨a, b, c, by omega⟩, fun k hk => by obtain ⟨a, b, c, d⟩ := h.owne k hk; exact ⟨a, b, c, by omega⟩, h.ln, h.ne⟩
theorem ExSo.foot_lt (h : ExSo E et esz cells en w wr mb rb kz ks rows me lv nv ev O) {k : Nat} (hk : Foot mb rb lv nv ev k) : k < wr.heap.size := by
  rcases hk with rfl | rfl | hk | hk | hk
  · exact h.map.lt
  · exact (Array.getElem?_eq_some_iff.1 h.raw).1
  · exact (h.ownl k hk).2.2.2
  · exact (h.ownn k hk).2.2.2
  · exact (h.owne k hk).2.2.2
theorem ExSo.kept (h : ExSo E et esz cells en w wr mb rb kz ks rows me lv nv ev O) (g : Grew wr w') : ExSo E et esz cells en w w' mb rb kz ks rows me lv nv ev O :=
  h.same (h.grew.trans g) g.size fun k hk => g.block k (h.foot_lt hk)
theorem ExSo.add {mt lt : TypeId} {ti : TypeInfo} {z : Value} {bytes : Nat} (K : Maps.Keyed P kt) (hmt : P.underlying mt = some (.map kt 3)) (hlt : P.underlying lt = some (.slice et)) (hi : P.info? et = some ti) (hz : ti.zero = some z) (hsize : ti.size = esz) (hby : ti.bytes = bytes) (hzs : z.cells.size = esz)
    (h : ExSo E et esz cells en w wr mb rb kz ks rows me lv nv ev O) {x : α} {y : β} (hx : E.D y) (hn : y ∉ kz) (hkk : kz.length = ks.length) (hl : (cells x).length = esz) (h1 : ∀ u ∈ cells x, u.oneCell' = true) (h63 : ks.length + 1 ≤ 10000) (hb : bytes ≤ 1000) (hr : me ≤ ks.length) (e0 : TypeId) (ty : TypeId) :
    ∃ w1, (Instr.mapUpdate mt (.map (some mb)) (E.enc y) (.int .i64 (ks.length : Nat))).run P wr = .ok () w1 ∧ w1.heap.size = wr.heap.size ∧ (∀ k, k < wr.heap.size → k ≠ mb → w1.heap[k]? = wr.heap[k]?) ∧
      ∃ v' w2, (Builtin.append_ #[lt, lt] ty #[lv, .slice (some ⟨wr.heap.size, 0, none⟩) 1 1]).run P (w1.alloc (.cells (cells x).toArray e0)) = .ok v' w2 ∧ (∃ a cp, v' = .slice a (ks.length + 1) cp) ∧ ExSo E et esz cells en w w2 mb rb (kz ++ [y]) (ks ++ [x]) rows me v' nv ev O ∧
        ∀ k, k < wr.heap.size → ¬ Foot mb rb lv nv ev k → w2.heap[k]? = wr.heap[k]? ∧ ¬ Foot mb rb v' nv ev k := by
  obtain ⟨w1, p1, p2, p3, p4⟩ := h.map.put K hmt hx (by rw [numL_fst]; exact hn) (.int .i64 (ks.length : Nat))
  refine ⟨w1, p1, p4, fun k hk hm => p3.block k hk (fun e => by injection e with e; exact hm e), ?_⟩
  have hlist1 : QRow w1 w.heap.size et esz lv ks.length (ks.flatMap cells) := h.list.kept fun k hk hlt => p3.block k hlt (fun e => (h.ownl k hk).1 (by injection e))
  have hgr1 : Grew w w1 := grew_grown h.grew p3 fun b e => by injection e with e; rw [← e]; exact h.lo.1
  have hlist2 : QRow (w1.alloc (.cells (cells x).toArray e0)) w.heap.size et esz lv ks.length (ks.flatMap cells) := hlist1.grew ((Grew.refl w1).alloc _)
  obtain ⟨v', w2, a1, a2, a3, a4⟩ := QRow.append (P := P) (t := lt) hlt hi hz hsize hby hzs hlist2 (Nat.le_trans hgr1.size (by rw [World.size_alloc]; omega)) wr.heap.size 1 (cells x) hl (fun j u hu => by
    unfold World.cell?
    dsimp only
    rw [← p4, heap_alloc_new w1 _]
    show (cells x).toArray[j]? = some u
    rw [List.getElem?_toArray]; exact hu) h1 (by unfold maxLen; omega) (Nat.le_trans (Nat.mul_le_mul h63 hb) (by decide)) ty
  have hs2 := a3.size
  rw [World.size_alloc] at hs2
  have hall : ∀ k, k < wr.heap.size → k ≠ mb → lv.ownBlock ≠ some k → w2.heap[k]? = wr.heap[k]? := fun k hb hm hq => by
    rw [a3.block k (by rw [World.size_alloc]; omega) (fun e => hq e.symm), heap_alloc_old _ _ (by omega), p3.block k hb (fun e => by injection e with e; exact hm e)]
  have hgr2 : Grew w w2 := grew_grown (hgr1.alloc _) a3 fun b e => (h.ownl b e).2.2.1
  have hmb := h.map.lt
  have hnl : (∀ k, v'.ownBlock = some k → lv.ownBlock = some k ∨ wr.heap.size ≤ k ∧ k < w2.heap.size) := fun k hk => by
    rcases a4 with e | e
    · exact Or.inl (by rw [← e]; exact hk)
    · rw [e] at hk; cases hk
      obtain ⟨b', _, _, e2, _, hlt2, _⟩ := a2.at (by omega)
      rw [e2] at e; cases e
      exact Or.inr ⟨by rw [World.size_alloc]; omega, hlt2⟩
  refine ⟨v', w2, a1, ?_, ⟨hgr2, ?_, ?_, ?_, ?_, ?_, h.lo, fun k hk => ?_, fun k hk => ?_, fun k hk => ?_, fun k hk => ?_, h.ne⟩, fun k hk hf => ⟨hall k hk (fun e => hf (Or.inl e)) (fun e => hf (Or.inr (Or.inr (Or.inl e)))), fun hf2 => ?_⟩⟩
  · obtain ⟨_, a, cp, e, _⟩ := a2; exact ⟨a, cp, e⟩
  · rw [numL_snoc, hkk]
    exact (p2.kept ((Grew.refl w1).alloc _)).grown a3 (fun e => (h.ownl _ e.symm).1 rfl)
  · rw [List.length_append, List.flatMap_append]
    simpa using a2
  · rw [hall rb (Array.getElem?_eq_some_iff.1 h.raw).1 (Ne.symm h.lo.2.2) (fun e => (h.ownl _ e).2.1 rfl)]; exact h.raw
  · exact h.next.kept fun k hk hlt => hall k hlt (h.ownn k hk).1 (fun e => (h.ln k e).1 hk)
  · rw [List.take_append_of_le_length hr]
    exact h.ends.kept fun k hk hlt => hall k hlt (h.owne k hk).1 (fun e => (h.ln k e).2 hk)
  · rcases hnl k hk with e | ⟨e1, e2⟩
    · obtain ⟨a, b, c, d⟩ := h.ownl k e; exact ⟨a, b, c, by omega⟩
    · have h1 := (Array.getElem?_eq_some_iff.1 h.raw).1
      have h2 := h.grew.size
      exact ⟨by omega, by omega, by omega, e2⟩
  · obtain ⟨a, b, c, d⟩ := h.ownn k hk; exact ⟨a, b, c, by omega⟩
  · obtain ⟨a, b, c, d⟩ := h.owne k hk; exact ⟨a, b, c, by omega⟩
  · rcases hnl k hk with e | ⟨e1, e2⟩
    · exact h.ln k e
    · exact ⟨fun e => by have := (h.ownn k e).2.2.2; omega, fun e => by have := (h.owne k e).2.2.2; omega⟩
  · rcases hf2 with e | e | e | e | e
    · exact hf (Or.inl e)
    · exact hf (Or.inr (Or.inl e))
    · rcases hnl k e with e | ⟨e1, e2⟩
      · exact hf (Or.inr (Or.inr (Or.inl e)))
      · omega
    · exact hf (Or.inr (Or.inr (Or.inr (Or.inl e))))
    · exact hf (Or.inr (Or.inr (Or.inr (Or.inr e))))
end
section
variable {α : Type} [DecidableEq α] {P : Program} {kt : TypeId} {E : Enc P kt α} {et : TypeId} {esz : Nat} {cells : α → List Value} {en : α → Bool} {first : α} {w wr w' : World} {mb rb : Nat} {ks : List α} {rows : List (Nat → Nat)} {lv nv ev : Value}
def chE (nv ev : Value) (n : Nat) (xs1 xs2 news1 news2 : List Value) : Bool → Chan
  | false => ⟨nv, 26, 256, n, xs1, news1, 5, 8, 23, 69⟩
  | true => ⟨ev, 4, 1, n, xs2, news2, 12, 20, 26, 81⟩
theorem chE_I (nv ev : Value) (n : Nat) (xs1 xs2 news1 news2 : List Value) : TwI (chE nv ev n xs1 xs2 news1 news2) :=
  ⟨fun c => by cases c <;> simp [chE], fun c => by cases c <;> simp [chE], fun c c' => by cases c <;> cases c' <;> simp [chE], fun c => by cases c <;> simp [chE]⟩
def plainE (i : Nat) (d : Option Tmp) : Bool := i != 8 && i != 20 && i != 23 && i != 26 && d != some 69 && d != some 81
theorem chE_plain {nv ev : Value} {n : Nat} {xs1 xs2 news1 news2 : List Value} {i : Nat} {d : Option Tmp} (h : plainE i d = true) : twPlain (chE nv ev n xs1 xs2 news1 news2) i d := by
  unfold plainE at h
  simp only [Bool.and_eq_true, bne_iff_ne] at h
  obtain ⟨⟨⟨⟨⟨h1, h2⟩, h3⟩, h4⟩, h5⟩, h6⟩ := h
  intro c
  cases c
  · exact ⟨h1, h3, h5⟩
  · exact ⟨h2, h4, h6⟩
theorem ExSt.tw (h : ExSt E et esz cells en first w wr mb rb ks rows lv nv ev) {i : Nat} (hi : rows.length = i) (news1 news2 : List Value) {m : Nat} (a : Act) : TwJ wr w.heap.size rb 147 (chE nv ev i (rowsC rows) ((ks.take i).map fun x => Value.bool (en x)) news1 news2) (Array.replicate m false) a wr.drew := by
  subst hi
  refine tw_start a wr h.grew.size (fun c => ?_) (fun c k hk => ?_) (fun c k hk => ?_) h.raw
  · cases c
    · exact h.next
    · exact h.ends
  · cases c
    · exact (h.ownn k hk).2
    · exact (h.owne k hk).2
  · cases c
    · exact h.ne k hk
    · exact fun e => h.ne k e hk
theorem ExSt.rowed (h : ExSt E et esz cells en first w wr mb rb ks rows lv nv ev) {i : Nat} (hi : rows.length = i) (hik : i < ks.length) {row : Nat → Nat} {x : α} (hx : ks.getD i first = x) {listed : Array Bool} {a : Act}
    (J : TwJ wr w.heap.size rb 147 (chE nv ev i (rowsC rows) ((ks.take i).map fun x => Value.bool (en x)) (rowI fun c => (row c : Nat)).toList [.bool (en x)]) listed a w') (hR : TwRl w.heap.size rb (chE nv ev i (rowsC rows) ((ks.take i).map fun x => Value.bool (en x)) (rowI fun c => (row c : Nat)).toList [.bool (en x)]) wr w')
    (h8 : listed.getD 8 false = true) (h20 : listed.getD 20 false = true) (h23 : listed.getD 23 false = true) (h26 : listed.getD 26 false = true) :
    ExSt E et esz cells en first w w' mb rb ks (rows ++ [row]) lv (a.tmps.getD 69 undef) (a.tmps.getD 81 undef) := by
  have hk : ∀ k, k < wr.heap.size → k ≠ rb → nv.ownBlock ≠ some k → ev.ownBlock ≠ some k → w'.heap[k]? = wr.heap[k]? := fun k h1 h2 h3 h4 => hR.2 k h1 h2 (fun c => by cases c; exact h3; exact h4)
  have q1 : QRow w' w.heap.size 26 256 (a.tmps.getD 69 undef) (i + 1) (rowsC rows ++ (rowI fun c => (row c : Nat)).toList) := J.r1 false h8
  have q2 : QRow w' w.heap.size 4 1 (a.tmps.getD 81 undef) (i + 1) (((ks.take i).map fun x => Value.bool (en x)) ++ [.bool (en x)]) := J.r1 true h20
  have c1 : cur (chE nv ev i (rowsC rows) ((ks.take i).map fun x => Value.bool (en x)) (rowI fun c => (row c : Nat)).toList [.bool (en x)]) listed a false = a.tmps.getD 69 undef := by unfold cur; exact if_pos h8
  have c2 : cur (chE nv ev i (rowsC rows) ((ks.take i).map fun x => Value.bool (en x)) (rowI fun c => (row c : Nat)).toList [.bool (en x)]) listed a true = a.tmps.getD 81 undef := by unfold cur; exact if_pos h20
  have b1 := J.blk
  have d1 : cel (chE nv ev i (rowsC rows) ((ks.take i).map fun x => Value.bool (en x)) (rowI fun c => (row c : Nat)).toList [.bool (en x)]) listed a false = a.tmps.getD 69 undef := by unfold cel; exact if_pos h23
  have d2 : cel (chE nv ev i (rowsC rows) ((ks.take i).map fun x => Value.bool (en x)) (rowI fun c => (row c : Nat)).toList [.bool (en x)]) listed a true = a.tmps.getD 81 undef := by unfold cel; exact if_pos h26
  rw [d1, d2] at b1
  have o1 := J.own false
  have o2 := J.own true
  have s1 := J.sep false
  rw [c1] at o1 s1
  rw [c2] at o2
  rw [show cur (chE nv ev i (rowsC rows) ((ks.take i).map fun x => Value.bool (en x)) (rowI fun c => (row c : Nat)).toList [.bool (en x)]) listed a (!false) = a.tmps.getD 81 undef from c2] at s1
  have hmb := h.map.lt
  have n1 : ∀ k, (a.tmps.getD 69 undef).ownBlock = some k → k ≠ mb ∧ lv.ownBlock ≠ some k := fun k hk => by
    obtain ⟨_, _, _, e | e⟩ := o1 k hk
    · exact ⟨(h.ownn k e).1, fun e2 => (h.ln k e2).1 e⟩
    · exact ⟨by omega, fun e2 => by have := (h.ownl k e2).2.2.2; omega⟩
  have n2 : ∀ k, (a.tmps.getD 81 undef).ownBlock = some k → k ≠ mb ∧ lv.ownBlock ≠ some k := fun k hk => by
    obtain ⟨_, _, _, e | e⟩ := o2 k hk
    · exact ⟨(h.owne k e).1, fun e2 => (h.ln k e2).2 e⟩
    · exact ⟨by omega, fun e2 => by have := (h.ownl k e2).2.2.2; omega⟩
  refine ⟨(h.grew.below hR.1 (Nat.le_refl _)), ?_, ?_, b1, ?_, ?_, h.lo, fun k hk => ?_, fun k hk => ?_, fun k hk => ?_, fun k hk => ?_, s1⟩
  · exact h.map.block (hk _ hmb h.lo.2.2 (fun e => (h.ownn _ e).1 rfl) (fun e => (h.owne _ e).1 rfl))
  · exact h.list.kept fun k hk2 hlt => hk k hlt (h.ownl k hk2).2.1 (h.ln k hk2).1 (h.ln k hk2).2
  · rw [rowsC_snoc, List.length_append, hi]; exact q1
  · rw [List.length_append, hi]
    have e : ks.take (i + 1) = ks.take i ++ [x] := by
      rw [List.take_succ_eq_append_getElem hik, ← hx, List.getD_eq_getElem?_getD, List.getElem?_eq_getElem hik]; rfl
    have e2 : (List.map (fun x => Value.bool (en x)) (List.take (i + [row].length) ks)) = ((ks.take i).map fun x => Value.bool (en x)) ++ [.bool (en x)] := by
      show List.map _ (List.take (i + 1) ks) = _
      rw [e, List.map_append]; rfl
    rw [e2]; exact q2
  · obtain ⟨p1, p2, p3, p4⟩ := h.ownl k hk
    exact ⟨p1, p2, p3, Nat.lt_of_lt_of_le p4 hR.1.size⟩
  · obtain ⟨p1, p2, p3, _⟩ := o1 k hk
    exact ⟨(n1 k hk).1, p1, p2, p3⟩
  · obtain ⟨p1, p2, p3, _⟩ := o2 k hk
    exact ⟨(n2 k hk).1, p1, p2, p3⟩
  · exact ⟨fun e => (n1 k e).2 hk, fun e => (n2 k e).2 hk⟩
theorem ExSt.done {st : α → Nat → α} {D : α → Prop} {c : Nat} {row : Nat → Nat} (h : ExSt E et esz cells en first w wr mb rb ks rows lv nv ev) (hX : Exp first st D ks rows ks.length c row) : RawAt wr rb (expA en first ks rows) := by
  have hl := hX.len
  have hp := hX.head.2
  obtain ⟨nb, no, nc, e1, _, _, _, _, hc⟩ := h.next.at (by omega)
  obtain ⟨eb, eo, ec, e2, _, _, _, _, hc2⟩ := h.ends.at (by omega)
  have hr := h.raw
  rw [e1, e2, hl] at hr
  rw [hl] at hc hc2
  refine ⟨nb, no, nc, eb, eo, ec, hr, fun s d hs hd => ?_, fun s hs => ?_⟩
  · have hs : s < ks.length := hs
    rw [Nat.add_assoc]
    exact hc (s * 256 + d) _ (by have : (s + 1) * 256 ≤ ks.length * 256 := Nat.mul_le_mul_right _ hs; omega) (rowsC_get hd rows s (by omega))
  · have hs : s < ks.length := hs
    refine hc2 s _ (by omega) ?_
    rw [List.take_length, List.getElem?_map, List.getElem?_eq_getElem hs]
    show some (Value.bool (en ks[s])) = some (.bool (en (ks.getD s first)))
    rw [List.getD_eq_getElem?_getD, List.getElem?_eq_getElem hs]; rfl
end
end Go.Proofs.YtkkdpafkafjfgaaDoor
