/- The document's Simple: a row made of another by three appends, in whatever order. -/
import Derived.Test.YtglfdfeideeeaaaDoorT6K
import Derived.Deep.Upon
namespace Go.Proofs.YtglfdfeideeeaaaDoor
open Go.RowKit RR
set_option linter.unusedVariables false
theorem pats_append_any {w : World} {B N : Nat} {v : Value} {l m : List Pat} (h : PatsOwn w B N v l) (hB : B ≤ w.heap.size) {Q : Nat → Prop} {ad : Option Addr} {c : Nat} (hk : ListIn w Q (.slice ad m.length c) m)
    (hQ : ∀ b, Q b → b < w.heap.size → N ≤ b ∧ v.ownBlock ≠ some b) (hl : l.length + m.length ≤ 100000) (ty : TypeId) :
    ∃ v' w', (Builtin.append_ #[22, 22] ty #[v, .slice ad m.length c]).run Tryd.prog w = .ok v' w' ∧ PatsOwn w' B N v' (l ++ m) ∧ Below B w w' ∧ w.grownBy w' v.ownBlock := by
  rcases Nat.eq_zero_or_pos m.length with h0 | h0
  · have hm : m = [] := List.eq_nil_of_length_eq_zero h0
    subst hm
    obtain ⟨i0, hi0, hz0, hz1, hz2⟩ := info_parts info_pat
    refine ⟨v, w, ?_, by rw [List.append_nil]; exact h, Below.refl _ _, grownBy_refl _ _⟩
    have hsrc : Src Tryd.prog i0.size 22 (.slice ad 0 c) 0 [] w := by
      cases ad with
      | none => exact Src.ofNil w Tryd.underlying22 c
      | some a => exact Src.ofSlice w Tryd.underlying22 a 0 c [] (by simp) (fun j u hj => by simp at hj) (fun u hu => by cases hu)
    obtain ⟨kvs, h1, h2, h3⟩ := h.rep
    rcases h2.2 with ⟨e, _⟩ | ⟨g, cap, cur, e, _, _, hc, _⟩
    · rw [e]; exact run_append_nothing w 22 22 ty 24 i0 Tryd.underlying22 hi0 none 0 0 (Nat.le_refl _) _ hsrc
    · rw [e]; exact run_append_nothing w 22 22 ty 24 i0 Tryd.underlying22 hi0 _ _ _ hc _ hsrc
  · exact pats_append h hB hk h0 hQ hl ty
theorem PatsOwn.fresh {w : World} {B N : Nat} (hB : B ≤ w.heap.size) : PatsOwn (w.alloc (.cells #[] 24)) B N (.slice (some ⟨w.heap.size, 0, none⟩) 0 0) [] :=
  ⟨⟨[], rfl, ⟨rfl, Or.inr ⟨w.heap.size, 0, #[], rfl, hB, heap_alloc_new w _, Nat.le_refl _, Nat.zero_le _, by simp, rfl⟩⟩, fun i hi => by simp at hi⟩⟩
theorem PatsOwn.pre {w : World} {B N g m c : Nat} {l : List Pat} (h : PatsOwn w B N (.slice (some ⟨g, 0, none⟩) m c) l) (n : Nat) (hn : n ≤ l.length) : ListIn w (fun b => N ≤ b ∧ b ≠ g) (.slice (some ⟨g, 0, none⟩) n c) (l.take n) := by
  have h2 := h.take n hn
  obtain ⟨kvs, k1, k2, k3⟩ := h2.rep
  have hl : (l.take n).length = n := by rw [List.length_take]; omega
  rcases Nat.eq_zero_or_pos n with h0 | h0
  · subst h0; exact ⟨Or.inl ⟨_, c, rfl, rfl⟩⟩
  · rcases k2.2 with ⟨e, _⟩ | ⟨g', cap, cur, e, hb, hc, hd, he, hf, hg⟩
    · cases e
    · rw [hl] at e
      obtain ⟨rfl, rfl⟩ : g' = g ∧ cap = c := by cases e; exact ⟨rfl, rfl⟩
      refine ⟨Or.inr ⟨g', 0, cap, kvs, by rw [hl], by omega, by omega, he, k1, fun j hj => ?_, fun i hi => (k3 i hi).mono fun b hb _ => ⟨hb.1, fun e => hb.2 (by rw [e]; rfl)⟩⟩⟩
      rw [Nat.zero_add]
      rw [hl] at k2 hj
      exact World.ownsRow.cellAt k2 j (by omega)
theorem PatsOwn.suf {w : World} {B N g m c : Nat} {l : List Pat} (h : PatsOwn w B N (.slice (some ⟨g, 0, none⟩) m c) l) (n : Nat) (hn : n ≤ l.length) : ListIn w (fun b => N ≤ b ∧ b ≠ g) (.slice (if c = n then some ⟨g, 0, none⟩ else some ⟨g, n * 5, none⟩) (l.length - n) (c - n)) (l.drop n) := by
  obtain ⟨kvs, k1, k2, k3⟩ := h.rep
  have hl : (l.drop n).length = l.length - n := List.length_drop
  rcases Nat.eq_zero_or_pos (l.length - n) with h0 | h0
  · exact ⟨Or.inl ⟨_, _, by rw [h0], List.eq_nil_of_length_eq_zero (by rw [hl, h0])⟩⟩
  · rcases k2.2 with ⟨e, _⟩ | ⟨g', cap, cur, e, hb, hc, hd, he, hf, hg⟩
    · cases e
    · have hm : m = l.length := by injection e
      have hgc : g' = g ∧ cap = c := by
        injection e with e1 e2 e3
        injection e1 with e1
        injection e1 with e1
        exact ⟨e1.symm, e3.symm⟩
      obtain ⟨rfl, rfl⟩ := hgc
      subst hm
      rw [if_neg (by omega)]
      refine ⟨Or.inr ⟨g', n * 5, cap - n, kvs.drop n, by rw [hl], by omega, by omega, by omega, by rw [List.length_drop, k1, hl], fun j hj => ?_, fun i hi => ?_⟩⟩
      · rw [hl] at hj
        have h1 := World.ownsRow.cellAt k2 (n * 5 + j) (by omega)
        rw [h1]
        have h2 := patCells_at l kvs (n + j / 5) (j % 5) k1 (by omega) (by omega)
        have h3 := patCells_at (l.drop n) (kvs.drop n) (j / 5) (j % 5) (by rw [List.length_drop, List.length_drop, k1]) (by rw [hl]; omega) (by omega)
        rw [show (n + j / 5) * 5 + j % 5 = n * 5 + j by omega] at h2
        rw [show j / 5 * 5 + j % 5 = j by omega] at h3
        rw [h2, h3, List.getD_eq_getElem?_getD, List.getD_eq_getElem?_getD, List.getD_eq_getElem?_getD, List.getD_eq_getElem?_getD, List.getElem?_drop, List.getElem?_drop]
      · rw [hl] at hi
        have := k3 (n + i) (by omega)
        rw [List.getD_eq_getElem?_getD, List.getD_eq_getElem?_getD] at this ⊢
        rw [List.getElem?_drop, List.getElem?_drop]
        exact this.mono fun b hb _ => ⟨hb.1, fun e => hb.2 (by rw [e]; rfl)⟩
theorem run_pre {g n c k : Nat} (hk : k ≤ c) (w : World) : (Instr.sliceAt 22 (.slice (some ⟨g, 0, none⟩) n c) none (some (.int .i64 (k : Int))) none).run Tryd.prog w = .ok (.slice (some ⟨g, 0, none⟩) k c) w := by
  have hu : Tryd.prog.elem 22 = 24 := by kernel_rfl
  have hu2 : Tryd.prog.underlying 22 = some (.slice (Tryd.prog.elem 22)) := by rw [hu]; exact Tryd.underlying22
  have hi := info_pat5
  cases hq : Tryd.prog.info? 24 with
  | none => rw [hq] at hi; cases hi
  | some ie =>
    have hsz : ie.size = 5 := by simpa [hq] using hi
    have hz : (sizeOf 24).run Tryd.prog w = .ok 5 w := by simp [sizeOf, typeInfo, hq, hsz]
    rw [run_sliceAt_slice w _ _ _ _ _ hu2, run_slice_h w _ _ n c hu2 .i64 k (by omega) (by omega), hu, hz]
    simp [Result.andThen, sliced, Addr.add]
theorem run_suf {g n c k : Nat} (hk : k ≤ n) (w : World) : (Instr.sliceAt 22 (.slice (some ⟨g, 0, none⟩) n c) (some (.int .i64 (k : Int))) none none).run Tryd.prog w = .ok (.slice (if c = k then some ⟨g, 0, none⟩ else some ⟨g, k * 5, none⟩) (n - k) (c - k)) w := by
  have hu : Tryd.prog.elem 22 = 24 := by kernel_rfl
  have hu2 : Tryd.prog.underlying 22 = some (.slice (Tryd.prog.elem 22)) := by rw [hu]; exact Tryd.underlying22
  have hi := info_pat5
  cases hq : Tryd.prog.info? 24 with
  | none => rw [hq] at hi; cases hi
  | some ie =>
    have hsz : ie.size = 5 := by simpa [hq] using hi
    have hz : (sizeOf 24).run Tryd.prog w = .ok 5 w := by simp [sizeOf, typeInfo, hq, hsz]
    rw [run_sliceAt_slice w _ _ _ _ _ hu2, run_slice_l w _ _ n c hu2 .i64 k (by omega) (by omega), hu, hz]
    simp [Result.andThen, sliced, Addr.add]
    split
    · rfl
    · split
      · rename_i h; rw [h]
      · rfl
structure PairJ (wb : World) (N : Nat) (T D : List Pat) (c : Pat) (lv : Value) (listed : Array Bool) (a : Act) (w : World) : Prop where
  grew : Grew wb w
  o1 : listed.getD 5 false = true → listed.getD 0 false = true
  o2 : listed.getD 8 false = true → listed.getD 5 false = true ∧ listed.getD 7 false = true
  o3 : listed.getD 13 false = true → listed.getD 8 false = true
  o4 : listed.getD 14 false = true → listed.getD 13 false = true ∧ listed.getD 1 false = true ∧ listed.getD 9 false = true
  s6 : listed.getD 14 false = false → a.tmps.getD 6 undef = lv
  p0 : listed.getD 0 false = true → listed.getD 5 false = false → PatsOwn w wb.heap.size N (a.tmps.getD 227 undef) []
  p1 : listed.getD 5 false = true → listed.getD 8 false = false → PatsOwn w wb.heap.size N (a.tmps.getD 232 undef) T
  pb : listed.getD 7 false = true → listed.getD 8 false = false → ∃ g, a.tmps.getD 234 undef = .slice (some ⟨g, 0, none⟩) 1 1 ∧ wb.heap.size ≤ g ∧ (∀ j, j < 5 → w.cell? ⟨g, j, none⟩ = (c.cells (.slice none 0 0))[j]?) ∧ (listed.getD 0 false = true → listed.getD 5 false = false → (a.tmps.getD 227 undef).ownBlock ≠ some g)
  p2 : listed.getD 8 false = true → listed.getD 13 false = false → PatsOwn w wb.heap.size N (a.tmps.getD 235 undef) (T ++ [c])
  p3 : listed.getD 13 false = true → PatsOwn w wb.heap.size N (a.tmps.getD 240 undef) (T ++ [c] ++ D)
  p4 : listed.getD 14 false = true → a.tmps.getD 6 undef = a.tmps.getD 240 undef
section
variable {wb w0 : World} {N : Nat} {T D : List Pat} {c : Pat} {lv : Value} {ops : Array Oper} {Q : Exit → Act → World → Prop} {shs : List Sh} {a0 : Act} {A : Array Edge} {i : Nat} {d : Option Tmp} {op : Op} {ty : TypeId} {pos : String} {G : Option (Nat × Bool)}
def AnyRl (_ _ : World) : Prop := True
def plainAt (i : Nat) (d : Option Tmp) : Bool := i != 0 && i != 5 && i != 7 && i != 8 && i != 13 && i != 14 && d != some 6 && d != some 227 && d != some 232 && d != some 234 && d != some 235 && d != some 240
theorem PairJ.stay {listed : Array Bool} {a : Act} {w : World} (h : PairJ wb N T D c lv listed a w) (hp : plainAt i d = true) (v : Value) : PairJ wb N T D c lv (listed.setIfInBounds i true) (a.put d v) w := by
  unfold plainAt at hp
  simp only [Bool.and_eq_true, bne_iff_ne] at hp
  obtain ⟨⟨⟨⟨⟨⟨⟨⟨⟨⟨⟨h0, h5⟩, h7⟩, h8⟩, h13⟩, h14⟩, d6⟩, d227⟩, d232⟩, d234⟩, d235⟩, d240⟩ := hp
  have et : ∀ j, d ≠ some j → (a.put d v).tmps.getD j undef = a.tmps.getD j undef := fun j hj => by
    cases d with
    | none => rfl
    | some d0 => exact getD_put (fun e => hj (by rw [e]))
  have e0 : (listed.setIfInBounds i true).getD 0 false = listed.getD 0 false := lset_ne h0
  have e5 : (listed.setIfInBounds i true).getD 5 false = listed.getD 5 false := lset_ne h5
  have e7 : (listed.setIfInBounds i true).getD 7 false = listed.getD 7 false := lset_ne h7
  have e8 : (listed.setIfInBounds i true).getD 8 false = listed.getD 8 false := lset_ne h8
  have e13 : (listed.setIfInBounds i true).getD 13 false = listed.getD 13 false := lset_ne h13
  have e14 : (listed.setIfInBounds i true).getD 14 false = listed.getD 14 false := lset_ne h14
  refine ⟨h.grew, ?_, ?_, ?_, ?_, ?_, ?_, ?_, ?_, ?_, ?_, ?_⟩
  · rw [e5, e0]; exact h.o1
  · rw [e8, e5, e7]; exact h.o2
  · rw [e13, e8]; exact h.o3
  · rw [e14, e13]; exact fun k => ⟨(h.o4 k).1, lset_true (h.o4 k).2.1, lset_true (h.o4 k).2.2⟩
  · rw [e14, et 6 d6]; exact h.s6
  · rw [e0, e5, et 227 d227]; exact h.p0
  · rw [e5, e8, et 232 d232]; exact h.p1
  · rw [e7, e8, e0, e5, et 234 d234, et 227 d227]; exact h.pb
  · rw [e8, e13, et 235 d235]; exact h.p2
  · rw [e13, et 240 d240]; exact h.p3
  · rw [e14, et 6 d6, et 240 d240]; exact h.p4
theorem lfalse {p : Prop} {b : Bool} (h : b = true → p) (hn : ¬ p) : b = false := by cases b with
  | false => rfl
  | true => exact absurd (h rfl) hn
theorem pj_pure {z : Value} (hp : plainAt i d = true)
    (hr : ∀ listed a w, PairJ wb N T D c lv listed a w → listed.getD i false = false → RR.Env AnyRl ops shs a0 w0 A a w → (execOp a.eval ⟨d, op, ty, pos, A, G⟩).run Tryd.prog w = .ok (.value z) w)
    (hg : guardIs ops shs A G = some true) (hs : shs.getD i (.fact fun _ _ => True) = .val z) : StepJ (PairJ wb N T D c lv) AnyRl Tryd.prog ops Q (shF shs) a0 w0 i ⟨d, op, ty, pos, A, G⟩ := by
  intro listed a w hls hlf hdep hsz hJ hw hsm hdp K hK
  have E : RR.Env AnyRl ops shs a0 w0 A a w := ⟨hw, hsm, hdp⟩
  rw [if_pos (E.guard hg)]
  unfold Oper.wp
  rw [hr listed a w hJ hlf E]
  exact hK z w trivial (by unfold shF; rw [hs]; rfl) (hJ.stay hp z)
theorem pj_move {z : Value} (hp : plainAt i d = true) {x : Operand} (hg : guardIs ops shs A G = some true) (hx : opSh ops shs A a0 x = .val z) (hs : shs.getD i (.fact fun _ _ => True) = .val z) :
    StepJ (PairJ wb N T D c lv) AnyRl Tryd.prog ops Q (shF shs) a0 w0 i ⟨d, .move x, ty, pos, A, G⟩ :=
  pj_pure hp (fun listed a w hJ _ E => by
    have hv : a.eval x = z := E.opv hx
    unfold execOp
    simp [hv]) hg hs
theorem pj_name (hp : plainAt i d = true) (hi : i = 1 ∨ i = 9) (hg : guardIs ops shs A G = some true) (hs : shs.getD i (.fact fun _ _ => True) = .val lv) :
    StepJ (PairJ wb N T D c lv) AnyRl Tryd.prog ops Q (shF shs) a0 w0 i ⟨d, .move (.tmp 6), ty, pos, A, G⟩ :=
  pj_pure hp (fun listed a w hJ hl E => by
    have h14 : listed.getD 14 false = false := lfalse (fun k => hJ.o4 k) (fun k => by rcases hi with rfl | rfl <;> simp [k.2.1, k.2.2] at hl)
    have hv : a.eval (.tmp 6) = lv := hJ.s6 h14
    unfold execOp
    simp [hv]) hg hs
theorem pj_num {x y : Operand} {u v : Value} {bop : BinOp} {xt t2 : TypeId} {z : Value} (hb : ∀ w, (do eqGuard bop xt x y u v; binOp bop xt u v : Sem Value).run Tryd.prog w = .ok z w) (hp : plainAt i d = true) (hg : guardIs ops shs A G = some true) (hx : opSh ops shs A a0 x = .val u) (hy : opSh ops shs A a0 y = .val v) (hs : shs.getD i (.fact fun _ _ => True) = .val z) :
    StepJ (PairJ wb N T D c lv) AnyRl Tryd.prog ops Q (shF shs) a0 w0 i ⟨d, .binOp bop xt x y t2, ty, pos, A, G⟩ :=
  pj_pure hp (fun listed a w hJ _ E => by
    have hv : a.eval x = u := E.opv hx
    have hw : a.eval y = v := E.opv hy
    have h := hb w
    unfold execOp
    simp only [hv, hw, Sem.run_bind] at h ⊢
    simp [h]) hg hs
theorem pj_pre {g n cc k : Nat} (hk : k ≤ cc) (hp : plainAt i d = true) {x y : Operand} (hg : guardIs ops shs A G = some true) (hx : opSh ops shs A a0 x = .val (.slice (some ⟨g, 0, none⟩) n cc)) (hy : opSh ops shs A a0 y = .val (.int .i64 (k : Int))) (hs : shs.getD i (.fact fun _ _ => True) = .val (.slice (some ⟨g, 0, none⟩) k cc)) :
    StepJ (PairJ wb N T D c lv) AnyRl Tryd.prog ops Q (shF shs) a0 w0 i ⟨d, .slice 22 x none (some y) none, ty, pos, A, G⟩ :=
  pj_pure hp (fun listed a w hJ _ E => by
    have hv : a.eval x = .slice (some ⟨g, 0, none⟩) n cc := E.opv hx
    have hw : a.eval y = .int .i64 (k : Int) := E.opv hy
    unfold execOp
    simp only [hv, hw, Option.map_some, Option.map_none, Sem.run_bind, run_pre hk w, Result.andThen_ok, Sem.run_pure]) hg hs
theorem pj_suf {g n cc k : Nat} (hk : k ≤ n) {z : Value} (hz : (.slice (if cc = k then some ⟨g, 0, none⟩ else some ⟨g, k * 5, none⟩) (n - k) (cc - k)) = z) (hp : plainAt i d = true) {x y : Operand} (hg : guardIs ops shs A G = some true) (hx : opSh ops shs A a0 x = .val (.slice (some ⟨g, 0, none⟩) n cc)) (hy : opSh ops shs A a0 y = .val (.int .i64 (k : Int))) (hs : shs.getD i (.fact fun _ _ => True) = .val z) :
    StepJ (PairJ wb N T D c lv) AnyRl Tryd.prog ops Q (shF shs) a0 w0 i ⟨d, .slice 22 x (some y) none none, ty, pos, A, G⟩ :=
  pj_pure hp (fun listed a w hJ _ E => by
    have hv : a.eval x = .slice (some ⟨g, 0, none⟩) n cc := E.opv hx
    have hw : a.eval y = .int .i64 (k : Int) := E.opv hy
    subst hz
    unfold execOp
    simp only [hv, hw, Option.map_some, Option.map_none, Sem.run_bind, run_suf hk w, Result.andThen_ok, Sem.run_pure]) hg hs
theorem pj_load {p : Addr} {z : Value} (hrun : ∀ w, Grew wb w → (Instr.loadAt 24 (.pointer (some p))).run Tryd.prog w = .ok z w) (hp : plainAt i d = true) {x : Operand}
    (hg : guardIs ops shs A G = some true) (hx : opSh ops shs A a0 x = .val (.pointer (some p))) (hs : shs.getD i (.fact fun _ _ => True) = .val z) :
    StepJ (PairJ wb N T D c lv) AnyRl Tryd.prog ops Q (shF shs) a0 w0 i ⟨d, .load 24 x, ty, pos, A, G⟩ :=
  pj_pure hp (fun listed a w hJ _ E => by
    have hv : a.eval x = .pointer (some p) := E.opv hx
    unfold execOp
    simp [hv, hrun w hJ.grew]) hg hs
theorem build_pat0 (w : World) : (Instr.buildSlice 22 0 #[]).run Tryd.prog w = .ok (.slice (some ⟨w.heap.size, 0, none⟩) 0 0) (w.alloc (.cells #[] 24)) := by kernel_rfl
theorem PairJ.at0 {listed : Array Bool} {a : Act} {w : World} (h : PairJ wb N T D c lv listed a w) (h0 : listed.getD 0 false = false) : listed.getD 5 false = false ∧ listed.getD 8 false = false ∧ listed.getD 13 false = false ∧ listed.getD 14 false = false := by
  have h5 := lfalse h.o1 (by simp [h0])
  have h8 := lfalse (fun k => (h.o2 k).1) (by simp [h5])
  have h13 := lfalse h.o3 (by simp [h8])
  exact ⟨h5, h8, h13, lfalse (fun k => (h.o4 k).1) (by simp [h13])⟩
theorem PairJ.at8 {listed : Array Bool} {a : Act} {w : World} (h : PairJ wb N T D c lv listed a w) (h8 : listed.getD 8 false = false) : listed.getD 13 false = false ∧ listed.getD 14 false = false := by
  have h13 := lfalse h.o3 (by simp [h8])
  exact ⟨h13, lfalse (fun k => (h.o4 k).1) (by simp [h13])⟩
theorem pj_empty (hd0 : 227 < a0.tmps.size) (hsz0 : 0 < ops.size) (hg : guardIs ops shs A G = some true) (hs : shs.getD 0 (.fact fun _ _ => True) = .fact fun _ _ => True) :
    StepJ (PairJ wb N T D c lv) AnyRl Tryd.prog ops Q (shF shs) a0 w0 0 ⟨some 227, .buildSlice 22 0 #[], ty, pos, A, G⟩ := by
  intro listed a w hls hlf hdep hsz hJ hw hsm hdp K hK
  have E : RR.Env AnyRl ops shs a0 w0 A a w := ⟨hw, hsm, hdp⟩
  rw [if_pos (E.guard hg)]
  obtain ⟨h5, h8, h13, h14⟩ := hJ.at0 hlf
  have e0 : (listed.setIfInBounds 0 true).getD 0 false = true := lset_here (by rw [hls]; exact hsz0)
  have en : ∀ j, j ≠ 0 → (listed.setIfInBounds 0 true).getD j false = listed.getD j false := fun j hj => lset_ne (Ne.symm hj)
  have et : ∀ j, j ≠ 227 → (a.put (some 227) (.slice (some ⟨w.heap.size, 0, none⟩) 0 0)).tmps.getD j undef = a.tmps.getD j undef := fun j hj => getD_put (Ne.symm hj)
  have e227 : (a.put (some 227) (.slice (some ⟨w.heap.size, 0, none⟩) 0 0)).tmps.getD 227 undef = .slice (some ⟨w.heap.size, 0, none⟩) 0 0 := getD_put_same (by rw [hsz]; exact hd0)
  have gw : Grew w (w.alloc (.cells #[] 24)) := (Grew.refl w).alloc _
  have := hK (.slice (some ⟨w.heap.size, 0, none⟩) 0 0) (w.alloc (.cells #[] 24)) trivial (by unfold shF; rw [hs]; trivial)
    ⟨hJ.grew.trans gw, fun k => (by rw [en 5 (by decide), h5] at k; cases k), fun k => (by rw [en 8 (by decide), h8] at k; cases k), fun k => (by rw [en 13 (by decide), h13] at k; cases k), fun k => (by rw [en 14 (by decide), h14] at k; cases k),
      fun _ => (by rw [et 6 (by decide)]; exact hJ.s6 h14), fun _ _ => (by rw [e227]; exact PatsOwn.fresh hJ.grew.size), fun k => (by rw [en 5 (by decide), h5] at k; cases k),
      fun k1 k2 => (by
        rw [en 7 (by decide)] at k1
        obtain ⟨g, q1, q2, q3, q4⟩ := hJ.pb k1 h8
        have hlt : g < w.heap.size := lt_of_cell (q3 0 (by omega))
        exact ⟨g, by rw [et 234 (by decide)]; exact q1, q2, fun j hj => by rw [gw.cell (p := ⟨g, j, none⟩) hlt]; exact q3 j hj, fun _ _ => by rw [e227]; exact fun e => by have : w.heap.size = g := Option.some.inj e; omega⟩),
      fun k => (by rw [en 8 (by decide), h8] at k; cases k), fun k => (by rw [en 13 (by decide), h13] at k; cases k), fun k => (by rw [en 14 (by decide), h14] at k; cases k)⟩
  unfold Oper.wp execOp
  simp only [List.map_toArray, List.map_nil, Sem.run_bind, build_pat0, Result.andThen_ok, Sem.run_pure]
  exact this
theorem pj_one (hd0 : 234 < a0.tmps.size) (hsz0 : 7 < ops.size) {x : Operand} (hg : guardIs ops shs A G = some true) (hx : opSh ops shs A a0 x = .val (.agg #[.int .i64 c.kind, .string c.text, .int .i64 c.n, .string c.name, .slice none 0 0])) (hs : shs.getD 7 (.fact fun _ _ => True) = .fact fun _ _ => True) :
    StepJ (PairJ wb N T D c lv) AnyRl Tryd.prog ops Q (shF shs) a0 w0 7 ⟨some 234, .buildSlice 22 1 #[(0, x)], ty, pos, A, G⟩ := by
  intro listed a w hls hlf hdep hsz hJ hw hsm hdp K hK
  have E : RR.Env AnyRl ops shs a0 w0 A a w := ⟨hw, hsm, hdp⟩
  rw [if_pos (E.guard hg)]
  have hv : a.eval x = .agg #[.int .i64 c.kind, .string c.text, .int .i64 c.n, .string c.name, .slice none 0 0] := E.opv hx
  have h8 : listed.getD 8 false = false := lfalse (fun k => (hJ.o2 k).2) (by simp [hlf])
  obtain ⟨h13, h14⟩ := hJ.at8 h8
  have e7 : (listed.setIfInBounds 7 true).getD 7 false = true := lset_here (by rw [hls]; exact hsz0)
  have en : ∀ j, j ≠ 7 → (listed.setIfInBounds 7 true).getD j false = listed.getD j false := fun j hj => lset_ne (Ne.symm hj)
  have et : ∀ j, j ≠ 234 → (a.put (some 234) (.slice (some ⟨w.heap.size, 0, none⟩) 1 1)).tmps.getD j undef = a.tmps.getD j undef := fun j hj => getD_put (Ne.symm hj)
  have e234 : (a.put (some 234) (.slice (some ⟨w.heap.size, 0, none⟩) 1 1)).tmps.getD 234 undef = .slice (some ⟨w.heap.size, 0, none⟩) 1 1 := getD_put_same (by rw [hsz]; exact hd0)
  have gw : Grew w (w.alloc (.cells #[.int .i64 c.kind, .string c.text, .int .i64 c.n, .string c.name, .slice none 0 0] 24)) := (Grew.refl w).alloc _
  have := hK (.slice (some ⟨w.heap.size, 0, none⟩) 1 1) (w.alloc (.cells #[.int .i64 c.kind, .string c.text, .int .i64 c.n, .string c.name, .slice none 0 0] 24)) trivial (by unfold shF; rw [hs]; trivial)
    ⟨hJ.grew.trans gw, fun k => (by rw [en 5 (by decide)] at k; rw [en 0 (by decide)]; exact hJ.o1 k), fun k => (by rw [en 8 (by decide), h8] at k; cases k), fun k => (by rw [en 13 (by decide), h13] at k; cases k), fun k => (by rw [en 14 (by decide), h14] at k; cases k),
      fun _ => (by rw [et 6 (by decide)]; exact hJ.s6 h14), fun k1 k2 => (by rw [en 0 (by decide)] at k1; rw [en 5 (by decide)] at k2; rw [et 227 (by decide)]; exact (hJ.p0 k1 k2).kept gw), fun k1 k2 => (by rw [en 5 (by decide)] at k1; rw [et 232 (by decide)]; exact (hJ.p1 k1 h8).kept gw),
      fun _ _ => (by
        refine ⟨w.heap.size, e234, hJ.grew.size, fun j hj => by rw [World.cell?_alloc_mark]; rfl, fun k1 k2 e => ?_⟩
        rw [en 0 (by decide)] at k1; rw [en 5 (by decide)] at k2; rw [et 227 (by decide)] at e
        have := (hJ.p0 k1 k2).blocks _ e
        omega),
      fun k => (by rw [en 8 (by decide), h8] at k; cases k), fun k => (by rw [en 13 (by decide), h13] at k; cases k), fun k => (by rw [en 14 (by decide), h14] at k; cases k)⟩
  unfold Oper.wp execOp
  simp only [List.map_toArray, List.map_cons, List.map_nil, hv, Sem.run_bind, build_pat1, Result.andThen_ok, Sem.run_pure]
  exact this
theorem pj_app1 (hdep0 : onDep A 0 = true) (hd0 : 232 < a0.tmps.size) (hsz0 : 5 < ops.size) {ad : Option Addr} {cc : Nat} {x : Operand} (hT : ListIn wb (fun b => N ≤ b ∧ b < wb.heap.size) (.slice ad T.length cc) T) (hl : T.length ≤ 4096)
    (hg : guardIs ops shs A G = some true) (hx : opSh ops shs A a0 x = .val (.slice ad T.length cc)) (hs : shs.getD 5 (.fact fun _ _ => True) = .fact fun _ _ => True) :
    StepJ (PairJ wb N T D c lv) AnyRl Tryd.prog ops Q (shF shs) a0 w0 5 ⟨some 232, .call { callee := .builtin .append, args := #[.tmp 227, x], argTypes := #[22, 22] }, ty, pos, A, G⟩ := by
  intro listed a w hls hlf hdep hsz hJ hw hsm hdp K hK
  have E : RR.Env AnyRl ops shs a0 w0 A a w := ⟨hw, hsm, hdp⟩
  rw [if_pos (E.guard hg)]
  have hv : a.eval x = .slice ad T.length cc := E.opv hx
  have h0 := onDep_listed hdep0 hdep
  have h8 : listed.getD 8 false = false := lfalse (fun k => (hJ.o2 k).1) (by simp [hlf])
  obtain ⟨h13, h14⟩ := hJ.at8 h8
  have hO := hJ.p0 h0 hlf
  obtain ⟨v', w', hap, ho, hbel, hgr⟩ := pats_append_any hO hJ.grew.size (hT.kept hJ.grew) (fun b hb _ => ⟨hb.1, fun e => by have := hO.blocks _ e; omega⟩) (by simp; omega) ty
  rw [List.nil_append] at ho
  have e5 : (listed.setIfInBounds 5 true).getD 5 false = true := lset_here (by rw [hls]; exact hsz0)
  have en : ∀ j, j ≠ 5 → (listed.setIfInBounds 5 true).getD j false = listed.getD j false := fun j hj => lset_ne (Ne.symm hj)
  have et : ∀ j, j ≠ 232 → (a.put (some 232) v').tmps.getD j undef = a.tmps.getD j undef := fun j hj => getD_put (Ne.symm hj)
  have e232 : (a.put (some 232) v').tmps.getD 232 undef = v' := getD_put_same (by rw [hsz]; exact hd0)
  have := hK v' w' trivial (by unfold shF; rw [hs]; trivial)
    ⟨hJ.grew.below hbel (Nat.le_refl _), fun _ => (by rw [en 0 (by decide)]; exact h0), fun k => (by rw [en 8 (by decide), h8] at k; cases k), fun k => (by rw [en 13 (by decide), h13] at k; cases k), fun k => (by rw [en 14 (by decide), h14] at k; cases k),
      fun _ => (by rw [et 6 (by decide)]; exact hJ.s6 h14), fun _ k => (by rw [e5] at k; cases k), fun _ _ => (by rw [e232]; exact ho),
      fun k1 k2 => (by
        rw [en 7 (by decide)] at k1
        obtain ⟨g, q1, q2, q3, q4⟩ := hJ.pb k1 h8
        have hlt : g < w.heap.size := lt_of_cell (q3 0 (by omega))
        refine ⟨g, by rw [et 234 (by decide)]; exact q1, q2, fun j hj => ?_, fun _ k => by rw [e5] at k; cases k⟩
        rw [World.cell?_of_block (hgr.block g hlt (fun e => q4 h0 hlf e.symm))]
        exact q3 j hj),
      fun k => (by rw [en 8 (by decide), h8] at k; cases k), fun k => (by rw [en 13 (by decide), h13] at k; cases k), fun k => (by rw [en 14 (by decide), h14] at k; cases k)⟩
  have hap2 : (Builtin.append_ #[22, 22] ty #[a.eval (.tmp 227), .slice ad T.length cc]).run Tryd.prog w = .ok v' w' := hap
  unfold Oper.wp execOp
  simp only [resolve, invoke, builtin, Sem.run_bind, Sem.run_pure, Result.andThen_ok, List.map_toArray, List.map_cons, List.map_nil, hv, hap2]
  exact this
theorem pj_app2 (hdep5 : onDep A 5 = true) (hdep7 : onDep A 7 = true) (hc0 : c.kids = []) (hcn : NumsOk c) (hd0 : 235 < a0.tmps.size) (hsz0 : 8 < ops.size) (hl : T.length ≤ 4096)
    (hg : guardIs ops shs A G = some true) (hs : shs.getD 8 (.fact fun _ _ => True) = .fact fun _ _ => True) :
    StepJ (PairJ wb N T D c lv) AnyRl Tryd.prog ops Q (shF shs) a0 w0 8 ⟨some 235, .call { callee := .builtin .append, args := #[.tmp 232, .tmp 234], argTypes := #[22, 22] }, ty, pos, A, G⟩ := by
  intro listed a w hls hlf hdep hsz hJ hw hsm hdp K hK
  have E : RR.Env AnyRl ops shs a0 w0 A a w := ⟨hw, hsm, hdp⟩
  rw [if_pos (E.guard hg)]
  have h5 := onDep_listed hdep5 hdep
  have h7 := onDep_listed hdep7 hdep
  have h0 := hJ.o1 h5
  obtain ⟨h13, h14⟩ := hJ.at8 hlf
  have hO := hJ.p1 h5 hlf
  obtain ⟨g, q1, q2, q3, q4⟩ := hJ.pb h7 hlf
  have hc1 : ListIn w (fun _ => False) (.slice (some ⟨g, 0, none⟩) [c].length 1) [c] := by
    refine ⟨Or.inr ⟨g, 0, 1, [.slice none 0 0], rfl, by simp, by simp, by unfold maxLen; omega, rfl, fun j hj => ?_, fun i hi => ?_⟩⟩
    · rw [Nat.zero_add, q3 j (by simpa using hj)]
      show (c.cells (.slice none 0 0))[j]? = (patCells [c] [.slice none 0 0])[j]?
      rw [show patCells [c] [.slice none 0 0] = (c.cells (.slice none 0 0)).toList from List.append_nil _, Array.getElem?_toList]
    · have : i = 0 := by simp at hi; omega
      subst this
      exact .leaf c none 0 hcn hc0
  obtain ⟨v', w', hap, ho, hbel, hgr⟩ := pats_append_any hO hJ.grew.size hc1 (fun b hb _ => absurd hb id) (by simp; omega) ty
  have e8 : (listed.setIfInBounds 8 true).getD 8 false = true := lset_here (by rw [hls]; exact hsz0)
  have en : ∀ j, j ≠ 8 → (listed.setIfInBounds 8 true).getD j false = listed.getD j false := fun j hj => lset_ne (Ne.symm hj)
  have et : ∀ j, j ≠ 235 → (a.put (some 235) v').tmps.getD j undef = a.tmps.getD j undef := fun j hj => getD_put (Ne.symm hj)
  have e235 : (a.put (some 235) v').tmps.getD 235 undef = v' := getD_put_same (by rw [hsz]; exact hd0)
  have := hK v' w' trivial (by unfold shF; rw [hs]; trivial)
    ⟨hJ.grew.below hbel (Nat.le_refl _), fun _ => (by rw [en 0 (by decide)]; exact h0), fun _ => (by rw [en 5 (by decide), en 7 (by decide)]; exact ⟨h5, h7⟩), fun k => (by rw [en 13 (by decide), h13] at k; cases k), fun k => (by rw [en 14 (by decide), h14] at k; cases k),
      fun _ => (by rw [et 6 (by decide)]; exact hJ.s6 h14), fun _ k => (by rw [en 5 (by decide), h5] at k; cases k), fun _ k => (by rw [e8] at k; cases k), fun _ k => (by rw [e8] at k; cases k),
      fun _ _ => (by rw [e235]; exact ho), fun k => (by rw [en 13 (by decide), h13] at k; cases k), fun k => (by rw [en 14 (by decide), h14] at k; cases k)⟩
  have hap2 : (Builtin.append_ #[22, 22] ty #[a.eval (.tmp 232), a.eval (.tmp 234)]).run Tryd.prog w = .ok v' w' := by
    have e : a.eval (.tmp 234) = .slice (some ⟨g, 0, none⟩) 1 1 := q1
    rw [e]; exact hap
  unfold Oper.wp execOp
  simp only [resolve, invoke, builtin, Sem.run_bind, Sem.run_pure, Result.andThen_ok, List.map_toArray, List.map_cons, List.map_nil, hap2]
  exact this
theorem pj_app3 (hdep8 : onDep A 8 = true) (hd0 : 240 < a0.tmps.size) (hsz0 : 13 < ops.size) {ad : Option Addr} {cc : Nat} {x : Operand} (hD : ListIn wb (fun b => N ≤ b ∧ b < wb.heap.size) (.slice ad D.length cc) D) (hl : T.length ≤ 4096) (hl2 : D.length ≤ 4096)
    (hg : guardIs ops shs A G = some true) (hx : opSh ops shs A a0 x = .val (.slice ad D.length cc)) (hs : shs.getD 13 (.fact fun _ _ => True) = .fact fun _ _ => True) :
    StepJ (PairJ wb N T D c lv) AnyRl Tryd.prog ops Q (shF shs) a0 w0 13 ⟨some 240, .call { callee := .builtin .append, args := #[.tmp 235, x], argTypes := #[22, 22] }, ty, pos, A, G⟩ := by
  intro listed a w hls hlf hdep hsz hJ hw hsm hdp K hK
  have E : RR.Env AnyRl ops shs a0 w0 A a w := ⟨hw, hsm, hdp⟩
  rw [if_pos (E.guard hg)]
  have hv : a.eval x = .slice ad D.length cc := E.opv hx
  have h8 := onDep_listed hdep8 hdep
  obtain ⟨h5, h7⟩ := hJ.o2 h8
  have h0 := hJ.o1 h5
  have h14 : listed.getD 14 false = false := lfalse (fun k => (hJ.o4 k).1) (by simp [hlf])
  have hO := hJ.p2 h8 hlf
  obtain ⟨v', w', hap, ho, hbel, hgr⟩ := pats_append_any hO hJ.grew.size (hD.kept hJ.grew) (fun b hb _ => ⟨hb.1, fun e => by have := hO.blocks _ e; omega⟩) (by simp; omega) ty
  have e13 : (listed.setIfInBounds 13 true).getD 13 false = true := lset_here (by rw [hls]; exact hsz0)
  have en : ∀ j, j ≠ 13 → (listed.setIfInBounds 13 true).getD j false = listed.getD j false := fun j hj => lset_ne (Ne.symm hj)
  have et : ∀ j, j ≠ 240 → (a.put (some 240) v').tmps.getD j undef = a.tmps.getD j undef := fun j hj => getD_put (Ne.symm hj)
  have e240 : (a.put (some 240) v').tmps.getD 240 undef = v' := getD_put_same (by rw [hsz]; exact hd0)
  have := hK v' w' trivial (by unfold shF; rw [hs]; trivial)
    ⟨hJ.grew.below hbel (Nat.le_refl _), fun _ => (by rw [en 0 (by decide)]; exact h0), fun _ => (by rw [en 5 (by decide), en 7 (by decide)]; exact ⟨h5, h7⟩), fun _ => (by rw [en 8 (by decide)]; exact h8), fun k => (by rw [en 14 (by decide), h14] at k; cases k),
      fun _ => (by rw [et 6 (by decide)]; exact hJ.s6 h14), fun _ k => (by rw [en 5 (by decide), h5] at k; cases k), fun _ k => (by rw [en 8 (by decide), h8] at k; cases k), fun _ k => (by rw [en 8 (by decide), h8] at k; cases k),
      fun _ k => (by rw [e13] at k; cases k), fun _ => (by rw [e240]; exact ho), fun k => (by rw [en 14 (by decide), h14] at k; cases k)⟩
  have hap2 : (Builtin.append_ #[22, 22] ty #[a.eval (.tmp 235), .slice ad D.length cc]).run Tryd.prog w = .ok v' w' := hap
  unfold Oper.wp execOp
  simp only [resolve, invoke, builtin, Sem.run_bind, Sem.run_pure, Result.andThen_ok, List.map_toArray, List.map_cons, List.map_nil, hv, hap2]
  exact this
theorem pj_last (hd13 : onDep A 13 = true) (hd1 : onDep A 1 = true) (hd9 : onDep A 9 = true) (hd0 : 6 < a0.tmps.size) (hsz0 : 14 < ops.size) (hg : guardIs ops shs A G = some true) (hs : shs.getD 14 (.fact fun _ _ => True) = .fact fun _ _ => True) :
    StepJ (PairJ wb N T D c lv) AnyRl Tryd.prog ops Q (shF shs) a0 w0 14 ⟨some 6, .assign (.tmp 240), ty, pos, A, G⟩ := by
  intro listed a w hls hlf hdep hsz hJ hw hsm hdp K hK
  have E : RR.Env AnyRl ops shs a0 w0 A a w := ⟨hw, hsm, hdp⟩
  rw [if_pos (E.guard hg)]
  have h13 := onDep_listed hd13 hdep
  have h8 := hJ.o3 h13
  obtain ⟨h5, h7⟩ := hJ.o2 h8
  have h0 := hJ.o1 h5
  have e14 : (listed.setIfInBounds 14 true).getD 14 false = true := lset_here (by rw [hls]; exact hsz0)
  have en : ∀ j, j ≠ 14 → (listed.setIfInBounds 14 true).getD j false = listed.getD j false := fun j hj => lset_ne (Ne.symm hj)
  have et : ∀ j, j ≠ 6 → (a.put (some 6) (a.tmps.getD 240 undef)).tmps.getD j undef = a.tmps.getD j undef := fun j hj => getD_put (Ne.symm hj)
  have e6 : (a.put (some 6) (a.tmps.getD 240 undef)).tmps.getD 6 undef = a.tmps.getD 240 undef := getD_put_same (by rw [hsz]; exact hd0)
  have := hK (a.tmps.getD 240 undef) w trivial (by unfold shF; rw [hs]; trivial)
    ⟨hJ.grew, fun _ => (by rw [en 0 (by decide)]; exact h0), fun _ => (by rw [en 5 (by decide), en 7 (by decide)]; exact ⟨h5, h7⟩), fun _ => (by rw [en 8 (by decide)]; exact h8), fun _ => (by rw [en 13 (by decide), en 1 (by decide), en 9 (by decide)]; exact ⟨h13, onDep_listed hd1 hdep, onDep_listed hd9 hdep⟩),
      fun k => (by rw [e14] at k; cases k), fun _ k => (by rw [en 5 (by decide), h5] at k; cases k), fun _ k => (by rw [en 8 (by decide), h8] at k; cases k), fun _ k => (by rw [en 8 (by decide), h8] at k; cases k),
      fun _ k => (by rw [en 13 (by decide), h13] at k; cases k), fun _ => (by rw [et 240 (by decide)]; exact hJ.p3 h13), fun _ => (by rw [e6, et 240 (by decide)])⟩
  have hv : a.eval (.tmp 240) = a.tmps.getD 240 undef := rfl
  unfold Oper.wp execOp
  simp only [hv]
  exact this
theorem pair_start {m : Nat} (a : Act) (w : World) (h : a.tmps.getD 6 undef = lv) : PairJ w N T D c lv (Array.replicate m false) a w := by
  have hz : ∀ j, (Array.replicate m false).getD j false = false := fun j => by
    simp only [Array.getD_eq_getD_getElem?, Array.getElem?_replicate]
    split <;> rfl
  exact ⟨Grew.refl _, fun k => (by rw [hz] at k; cases k), fun k => (by rw [hz] at k; cases k), fun k => (by rw [hz] at k; cases k), fun k => (by rw [hz] at k; cases k), fun _ => h, fun k => (by rw [hz] at k; cases k), fun k => (by rw [hz] at k; cases k), fun k => (by rw [hz] at k; cases k), fun k => (by rw [hz] at k; cases k), fun k => (by rw [hz] at k; cases k), fun k => (by rw [hz] at k; cases k)⟩
theorem any_mono (hp : ∀ s ∈ shs, (∃ v, s = .val v) ∨ s = .fact fun _ _ => True) : ∀ i z w w', AnyRl w w' → shF shs i z w → shF shs i z w' := by
  intro i z w w' g k
  unfold shF at k ⊢
  rcases Nat.lt_or_ge i shs.length with hi | hi
  · rw [List.getD_eq_getElem?_getD, List.getElem?_eq_getElem hi] at k ⊢
    rcases hp _ (List.getElem_mem hi) with ⟨u, e⟩ | e
    · rw [Option.getD_some, e] at k ⊢; exact k
    · rw [Option.getD_some, e]; trivial
  · rw [List.getD_eq_getElem?_getD, List.getElem?_eq_none hi]; trivial
end
end Go.Proofs.YtglfdfeideeeaaaDoor
