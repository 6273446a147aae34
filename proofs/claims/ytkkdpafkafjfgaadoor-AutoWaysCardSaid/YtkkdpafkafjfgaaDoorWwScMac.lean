/- The machine as it lies in memory; its methods begin, later and say. -/
import Derived.Test.YtkkdpafkafjfgaaDoorWwScWrong
import Derived.Test.YtkkdpafkafjfgaaDoorWwScTr
import Derived.Deep.RegionHeld3
import Derived.Deep.RegionLaw
import Derived.Deep.AppendLies
import Derived.StillTactics
import Derived.OwnWalk
import Derived.Deep.DeepMust
namespace Go.Proofs.YtkkdpafkafjfgaaDoor
open Go.RowKit
set_option linter.unusedVariables false
def still (t : TypeId) : Bool := t != 125 && (t != 190 && t != 197)
structure Keep (w w' : World) : Prop where
  size : w.heap.size ≤ w'.heap.size
  block : ∀ (b : Nat) (cs : Array Value) (t : TypeId), still t = true → w.heap[b]? = some (.cells cs t (0, 0)) → w'.heap[b]? = some (.cells cs t (0, 0))
theorem Keep.refl (w : World) : Keep w w := ⟨Nat.le_refl _, fun _ _ _ _ h => h⟩
theorem Keep.trans {a b c : World} (h : Keep a b) (k : Keep b c) : Keep a c := ⟨Nat.le_trans h.size k.size, fun x cs t ht e => k.block x cs t ht (h.block x cs t ht e)⟩
theorem Keep.of_grew {w w' : World} (g : Grew w w') : Keep w w' := ⟨g.size, fun b cs t _ h => by rw [g.block b (lt_of_block h)]; exact h⟩
theorem Keep.alloc {a w : World} (h : Keep a w) (o : Obj) : Keep a (w.alloc o) := h.trans (.of_grew ((Grew.refl w).alloc o))
theorem Keep.drew {a w : World} (h : Keep a w) : Keep a w.drew := h.trans (.of_grew (Grew.refl w).drew)
theorem Keep.drewN {a w : World} (h : Keep a w) (n : Nat) : Keep a (w.drewN n) := h.trans (.of_grew ((Grew.refl w).drewN n))
theorem Keep.setCell {a w : World} (h : Keep a w) {b o : Nat} {sp : Option Nat} {cs : Array Value} {t : TypeId} (hb : w.heap[b]? = some (.cells cs t (0, 0))) (h1 : still t = false) (h2 : 0 = 0) (u : Value) : Keep a (w.setCell ⟨b, o, sp⟩ u) :=
  h.trans ⟨by simp [World.setCell], fun x cs' t' ht e => by
    rw [setCell_heap_other _ _ _ (fun e2 => by
      subst e2; rw [hb] at e; cases e
      rw [h1] at ht; cases ht)]
    exact e⟩
theorem Keep.grown {a w w' : World} (h : Keep a w) {row : Option Nat} (g : w.grownBy w' row) (hr : ∀ b, row = some b → ∃ cs t, w.heap[b]? = some (.cells cs t (0, 0)) ∧ still t = false ∧ 0 = 0) : Keep a w' :=
  h.trans ⟨g.size, fun x cs t ht e => by
    rw [g.block x (lt_of_block e) (fun e2 => by
      obtain ⟨cs', t', e3, h1, _⟩ := hr x e2.symm
      rw [e3] at e; cases e
      rw [h1] at ht; cases ht)]
    exact e⟩
def TodoAt (w0 w : World) : Option Addr → List Todo → Prop
  | p, [] => p = none
  | p, t :: k => ∃ b nb no q, p = some ⟨b, 0, none⟩ ∧ w.heap[b]? = some (.cells #[.int .i64 t.op, .pointer (some ⟨nb, no, none⟩), .int .i64 t.start, .pointer q] 188 (0, 0)) ∧ PatAt w0 nb no t.node ∧ TodoAt w0 w q k
theorem TodoAt.kept {w0 w w' : World} (g : Keep w w') : ∀ {k : List Todo} {p : Option Addr}, TodoAt w0 w p k → TodoAt w0 w' p k
  | [], _, h => h
  | t :: k, p, ⟨b, nb, no, q, h1, h2, h3, h4⟩ => ⟨b, nb, no, q, h1, g.block _ _ _ rfl h2, h3, h4.kept g⟩
def GiftsR (w : World) : Option Addr → List Gift → Prop
  | p, [] => p = none
  | p, g :: l => ∃ b q, p = some ⟨b, 0, none⟩ ∧ w.heap[b]? = some (.cells #[.string g.1, .string g.2, .pointer q] 199 (0, 0)) ∧ GiftsR w q l
theorem GiftsR.kept {w w' : World} (g : Keep w w') : ∀ {l : List Gift} {p : Option Addr}, GiftsR w p l → GiftsR w' p l
  | [], _, h => h
  | x :: l, p, ⟨b, q, h1, h2, h3⟩ => ⟨b, q, h1, g.block _ _ _ rfl h2, h3.kept g⟩
def GiftsAt (w : World) (p : Option Addr) (l : List Gift) : Prop := GiftsR w p l.reverse
theorem GiftsAt.kept {w w' : World} (g : Keep w w') {l : List Gift} {p : Option Addr} (h : GiftsAt w p l) : GiftsAt w' p l := GiftsR.kept g h
def ChsAt (w0 w : World) : List Ch → List Value → Prop
  | [], vs => vs = []
  | c :: cs, vs => ∃ us kp gp, vs = us ++ [.pointer kp, .int .i64 c.at_, .pointer gp] ∧ ChsAt w0 w cs us ∧ TodoAt w0 w kp c.k ∧ GiftsAt w gp c.given
theorem ChsAt.kept {w0 w w' : World} (g : Keep w w') : ∀ {cs : List Ch} {vs : List Value}, ChsAt w0 w cs vs → ChsAt w0 w' cs vs
  | [], _, h => h
  | c :: cs, vs, ⟨us, kp, gp, h1, h2, h3, h4⟩ => ⟨us, kp, gp, h1, h2.kept g, h3.kept g, h4.kept g⟩
def saidCells (l : List Gift) : List Value := l.flatMap fun g => [.string g.1, .string g.2]
theorem saidCells_snoc (l : List Gift) (g : Gift) : saidCells (l ++ [g]) = saidCells l ++ [.string g.1, .string g.2] := by simp [saidCells]
def macCells (rv : Value) (s : ByteArray) (fuel ticks : Nat) (sv cv : Value) (gp : Option Addr) (cut : Bool) : Array Value := #[rv, .string s, .int .i64 fuel, .int .i64 ticks, sv, cv, .pointer gp, .bool cut]
abbrev Far : Type := Nat → Option (Array Value)
def FarAt (X : Far) (w : World) (sv : Value) : Prop := ∀ b cs, X b = some cs → w.heap[b]? = some (.cells cs 197 (0, 0)) ∧ sv.ownBlock ≠ some b
theorem FarAt.grew {X : Far} {w w' : World} {sv : Value} (h : FarAt X w sv) (g : Grew w w') : FarAt X w' sv := fun b cs e => ⟨by rw [g.block b (lt_of_block (h b cs e).1)]; exact (h b cs e).1, (h b cs e).2⟩
theorem FarAt.setCell {X : Far} {w : World} {sv : Value} (h : FarAt X w sv) {b : Nat} {cs : Array Value} {t : TypeId} (hb : w.heap[b]? = some (.cells cs t (0, 0))) (ht : t ≠ 197) (i : Nat) (u : Value) : FarAt X (w.setCell ⟨b, i, none⟩ u) sv := fun x c e => by
  refine ⟨?_, (h x c e).2⟩
  rw [setCell_heap_other _ _ _ (fun e2 => by
    have h1 := (h x c e).1
    subst e2; rw [hb] at h1; cases h1; exact ht rfl)]
  exact (h x c e).1
theorem FarAt.grown {X : Far} {w w' : World} {sv : Value} {row : Option Nat} (h : FarAt X w sv) (g : w.grownBy w' row) (hr : ∀ b cs, X b = some cs → row ≠ some b) : FarAt X w' sv := fun b cs e => by
  refine ⟨?_, (h b cs e).2⟩
  rw [g.block b (lt_of_block (h b cs e).1) (Ne.symm (hr b cs e))]
  exact (h b cs e).1
theorem FarAt.said {X : Far} {w w0 : World} {sv : Value} (h : FarAt X w0 sv) (h' : FarAt X w sv) {g : Nat} {n c : Nat} (hg : sv.ownBlock = some g ∨ w0.heap.size ≤ g) : FarAt X w (.slice (some ⟨g, 0, none⟩) n c) := fun b cs e => by
  refine ⟨(h' b cs e).1, fun e2 => ?_⟩
  simp only [Value.ownBlock, Option.some.injEq] at e2
  subst e2
  rcases hg with hg | hg
  · exact (h g cs e).2 hg
  · have := lt_of_block (h g cs e).1; omega
structure MacSt (X : Far) (w0 : World) (bm : Nat) (rv : Value) (s : ByteArray) (fuel : Nat) (m : MS) (w : World) (sv cv : Value) (gp : Option Addr) (vs : List Value) : Prop where
  mac : w.heap[bm]? = some (.cells (macCells rv s fuel m.ticks sv cv gp m.cut) 125 (0, 0))
  given : GiftsAt w gp m.given
  own : w.ownsRow w0.heap.size 190 3 cv m.choices.length vs
  chs : ChsAt w0 w m.choices vs
  said : w.ownsRow w0.heap.size 197 2 sv m.said.length (saidCells m.said)
  grew : Grew w0 w
  hbm : w0.heap.size ≤ bm
  far : FarAt X w sv
def MacRep (X : Far) (w0 : World) (bm : Nat) (rv : Value) (s : ByteArray) (fuel : Nat) (m : MS) (w : World) : Prop := ∃ sv cv gp vs, MacSt X w0 bm rv s fuel m w sv cv gp vs
theorem ownsRow_block {w : World} {B : Nat} {e : TypeId} {sz : Nat} {v : Value} {n : Nat} {xs : List Value} (h : w.ownsRow B e sz v n xs) : ∀ b, v.ownBlock = some b → ∃ cs, w.heap[b]? = some (.cells cs e (0, 0)) := by
  intro b hb
  rcases h.2 with ⟨rfl, _⟩ | ⟨g, cap, cur, rfl, _, hg, _⟩
  · cases hb
  · simp [Value.ownBlock] at hb; subst hb; exact ⟨cur, hg⟩
theorem ownBlock_ne {w : World} {B : Nat} {e t : TypeId} {sz : Nat} {v : Value} {n : Nat} {xs : List Value} {cs : Array Value} {b : Nat} (h : w.ownsRow B e sz v n xs) (hb : w.heap[b]? = some (.cells cs t (0, 0))) (ht : t ≠ e) : v.ownBlock ≠ some b := by
  intro e2
  obtain ⟨cs', h2⟩ := ownsRow_block h b e2
  rw [hb] at h2; cases h2; exact ht rfl
theorem ownBlock_ne2 {w : World} {B B' : Nat} {e e' : TypeId} {sz sz' : Nat} {v v' : Value} {n n' : Nat} {xs xs' : List Value} (h : w.ownsRow B e sz v n xs) (h' : w.ownsRow B' e' sz' v' n' xs') (ht : e ≠ e') : v.ownBlock = none ∨ v.ownBlock ≠ v'.ownBlock := by
  cases hv : v.ownBlock with
  | none => exact Or.inl rfl
  | some b =>
    right
    obtain ⟨cs, h2⟩ := ownsRow_block h b hv
    exact fun e2 => ownBlock_ne h' h2 ht e2.symm
section
variable {X : Far} {w0 w : World} {bm : Nat} {rv : Value} {s : ByteArray} {fuel : Nat} {m : MS} {sv cv : Value} {gp : Option Addr} {vs : List Value}
theorem MacSt.cell (h : MacSt X w0 bm rv s fuel m w sv cv gp vs) {i : Nat} {v : Value} (e : (macCells rv s fuel m.ticks sv cv gp m.cut)[i]? = some v) : w.cell? ⟨bm, i, none⟩ = some v := by simp [World.cell?, h.mac, e]
theorem MacSt.free (h : MacSt X w0 bm rv s fuel m w sv cv gp vs) (i : Nat) : w.frozen? ⟨bm, i, none⟩ = false := by simp [World.frozen?, h.mac]
theorem MacSt.c0 (h : MacSt X w0 bm rv s fuel m w sv cv gp vs) : w.cell? ⟨bm, 0, none⟩ = some rv := h.cell rfl
theorem MacSt.c1 (h : MacSt X w0 bm rv s fuel m w sv cv gp vs) : w.cell? ⟨bm, 1, none⟩ = some (.string s) := h.cell rfl
theorem MacSt.c2 (h : MacSt X w0 bm rv s fuel m w sv cv gp vs) : w.cell? ⟨bm, 2, none⟩ = some (.int .i64 fuel) := h.cell rfl
theorem MacSt.c3 (h : MacSt X w0 bm rv s fuel m w sv cv gp vs) : w.cell? ⟨bm, 3, none⟩ = some (.int .i64 m.ticks) := h.cell rfl
theorem MacSt.c4 (h : MacSt X w0 bm rv s fuel m w sv cv gp vs) : w.cell? ⟨bm, 4, none⟩ = some sv := h.cell rfl
theorem MacSt.c5 (h : MacSt X w0 bm rv s fuel m w sv cv gp vs) : w.cell? ⟨bm, 5, none⟩ = some cv := h.cell rfl
theorem MacSt.c6 (h : MacSt X w0 bm rv s fuel m w sv cv gp vs) : w.cell? ⟨bm, 6, none⟩ = some (.pointer gp) := h.cell rfl
theorem MacSt.c7 (h : MacSt X w0 bm rv s fuel m w sv cv gp vs) : w.cell? ⟨bm, 7, none⟩ = some (.bool m.cut) := h.cell rfl
theorem setCell_heap_same {w : World} {b : Nat} {cs : Array Value} {t : TypeId} (h : w.heap[b]? = some (.cells cs t (0, 0))) (i : Nat) (u : Value) : (w.setCell ⟨b, i, none⟩ u).heap[b]? = some (.cells (cs.setIfInBounds i u) t (0, 0)) := by
  simp [World.setCell, Array.getElem?_modify, h]
theorem MacSt.kept {w' : World} (g : Grew w w') (h : MacSt X w0 bm rv s fuel m w sv cv gp vs) : MacSt X w0 bm rv s fuel m w' sv cv gp vs :=
  have k := Keep.of_grew g
  have gb : w.grownBy w' none := ⟨g.os, g.tape, g.output, g.size, fun x hx _ => g.block x hx⟩
  ⟨by rw [g.block bm (lt_of_block h.mac)]; exact h.mac, h.given.kept k, World.ownsRow.kept h.own gb (by cases cv.ownBlock <;> simp), h.chs.kept k, World.ownsRow.kept h.said gb (by cases sv.ownBlock <;> simp), h.grew.trans g, h.hbm, h.far.grew g⟩
theorem MacSt.lt (h : MacSt X w0 bm rv s fuel m w sv cv gp vs) : bm < w.heap.size := lt_of_block h.mac
end
theorem info_choice : (Tryd.prog.info? 190).map (fun i => (i.zero, i.size, i.bytes)) = some (some (.agg #[.pointer none, .int .i64 0, .pointer none]), 3, 24) := by kernel_rfl
theorem info_gift : (Tryd.prog.info? 197).map (fun i => (i.zero, i.size, i.bytes)) = some (some (.agg #[.string ByteArray.empty, .string ByteArray.empty]), 2, 32) := by kernel_rfl
theorem heap_alloc_two (w : World) (o o' : Obj) : ((w.alloc o).alloc o').drew.heap[w.heap.size + 1]? = some o' := by
  rw [show w.heap.size + 1 = (w.alloc o).heap.size by simp]; exact heap_alloc_new (w.alloc o) o'
theorem heap_alloc_first (w : World) (o o' : Obj) : ((w.alloc o).alloc o').drew.heap[w.heap.size]? = some o := by
  rw [show ((w.alloc o).alloc o').drew.heap = ((w.alloc o).alloc o').heap from rfl, heap_alloc_old _ _ (by simp)]; exact heap_alloc_new w o
theorem Grew.grown {a w w' : World} (h : Grew a w) {row : Option Nat} (g : w.grownBy w' row) (hr : ∀ b, row = some b → a.heap.size ≤ b) : Grew a w' :=
  ⟨g.os.trans h.os, g.tape.trans h.tape, g.output.trans h.output, Nat.le_trans h.size g.size, fun x hx => by
    rw [g.block x (Nat.lt_of_lt_of_le hx h.size) (fun e => by have := hr x e.symm; omega)]; exact h.block x hx⟩
theorem choices_set {X : Far} {w0 w w1 : World} {bm : Nat} {rv : Value} {s : ByteArray} {fuel : Nat} {m m' : MS} {sv cv cv' : Value} {gp : Option Addr} {vs vs' : List Value} (h : MacSt X w0 bm rv s fuel m w sv cv gp vs)
    (hg : w.grownBy w1 cv.ownBlock) (hown : w1.ownsRow w0.heap.size 190 3 cv' m'.choices.length vs') (hc : ChsAt w0 w m'.choices vs')
    (e1 : m'.given = m.given) (e2 : m'.ticks = m.ticks) (e3 : m'.said = m.said) (e4 : m'.cut = m.cut) :
    MacSt X w0 bm rv s fuel m' (w1.setCell ⟨bm, 5, none⟩ cv') sv cv' gp vs' ∧ Keep w (w1.setCell ⟨bm, 5, none⟩ cv') := by
  have k1 : Keep w w1 := (Keep.refl w).grown hg (fun b hb => by obtain ⟨cs, hcs⟩ := ownsRow_block h.own b hb; exact ⟨cs, _, hcs, by decide, by decide⟩)
  have hb1 : w1.heap[bm]? = some (.cells (macCells rv s fuel m.ticks sv cv gp m.cut) 125 (0, 0)) := by
    rw [hg.block bm h.lt (Ne.symm (ownBlock_ne h.own h.mac (by decide)))]; exact h.mac
  have k2 : Keep w (w1.setCell ⟨bm, 5, none⟩ cv') := k1.setCell hb1 (by decide) (by decide) _
  refine ⟨⟨?_, by rw [e1]; exact h.given.kept k2, ?_, hc.kept k2, ?_, ?_, h.hbm, (h.far.grown hg (fun b cs e => ownBlock_ne h.own (h.far b cs e).1 (by decide))).setCell hb1 (by decide) _ _⟩, k2⟩
  · rw [setCell_heap_same hb1, e2, e4]; rfl
  · exact ownsRow_setCell_other hown (ownBlock_ne hown hb1 (by decide)) _
  · rw [e3]
    have hs1 : w1.ownsRow w0.heap.size 197 2 sv m.said.length (saidCells m.said) := World.ownsRow.kept h.said hg (ownBlock_ne2 h.said h.own (by decide))
    exact ownsRow_setCell_other hs1 (ownBlock_ne hs1 hb1 (by decide)) _
  · exact (h.grew.grown hg (fun b hb => (World.ownsRow.lt h.own b hb).1)).setCell h.hbm _
theorem later_end {X : Far} {w0 w w1 : World} {bm : Nat} {rv : Value} {s : ByteArray} {fuel : Nat} {m : MS} {sv cv : Value} {gp : Option Addr} {vs : List Value} (h : MacSt X w0 bm rv s fuel m w sv cv gp vs)
    {op a f nb no : Nat} {p : Pat} {kp : Option Addr} {k : List Todo} (hp : PatAt w0 nb no p) (hk : TodoAt w0 w kp k) {o : Obj} {gg cap : Nat}
    (hown : w1.ownsRow w0.heap.size 190 3 (.slice (some ⟨gg, 0, none⟩) (m.choices.length + 1) cap) (m.choices.length + 1) (vs ++ [.pointer (some ⟨w.heap.size, 0, none⟩), .int .i64 a, .pointer gp]))
    (hg : ((w.alloc (.cells #[.int .i64 op, .pointer (some ⟨nb, no, none⟩), .int .i64 f, .pointer kp] 188)).alloc o).drew.grownBy w1 cv.ownBlock) :
    MacRep X w0 bm rv s fuel (m.later (⟨op, p, f⟩ :: k) a) (w1.setCell ⟨bm, 5, none⟩ (.slice (some ⟨gg, 0, none⟩) (m.choices.length + 1) cap)) ∧ Keep w (w1.setCell ⟨bm, 5, none⟩ (.slice (some ⟨gg, 0, none⟩) (m.choices.length + 1) cap)) := by
  have g0 : Grew w ((w.alloc (.cells #[.int .i64 op, .pointer (some ⟨nb, no, none⟩), .int .i64 f, .pointer kp] 188)).alloc o).drew := (((Grew.refl w).alloc _).alloc _).drew
  have kw := Keep.of_grew g0
  have h2 := h.kept g0
  obtain ⟨h3, k3⟩ := choices_set (m' := m.later (⟨op, p, f⟩ :: k) a) h2 hg hown ⟨vs, some ⟨w.heap.size, 0, none⟩, gp, rfl, h2.chs, ⟨w.heap.size, nb, no, kp, rfl, heap_alloc_first w _ _, hp, hk.kept kw⟩, h2.given⟩ rfl rfl rfl rfl
  exact ⟨⟨_, _, _, _, h3⟩, kw.trans k3⟩
set_option maxRecDepth 100000 in
set_option maxHeartbeats 3200000 in
theorem later_any {X : Far} {w0 w : World} {bm : Nat} {rv : Value} {s : ByteArray} {fuel : Nat} {m : MS} (h : MacRep X w0 bm rv s fuel m w) (op a f : Nat) (nb no : Nat) (p : Pat) (kp : Option Addr) (k : List Todo) (hp : PatAt w0 nb no p) (hk : TodoAt w0 w kp k) (hn : m.choices.length ≤ 1000000000) :
    Calls Tryd.prog 115 #[.pointer (some ⟨bm, 0, none⟩), .int .i64 op, .pointer (some ⟨nb, no, none⟩), .int .i64 a, .int .i64 f, .pointer kp] w fun e w' =>
      e = .returned (.tuple #[]) ∧ MacRep X w0 bm rv s fuel (m.later (⟨op, p, f⟩ :: k) a) w' ∧ Keep w w' := by
  obtain ⟨sv, cv, gp, vs, h⟩ := h
  obtain ⟨i0, hi0, hz0, hz1, hz2⟩ := info_parts info_choice
  have c5 := h.c5
  have c6 := h.c6
  have f5 := h.free 5
  have hlt := h.lt
  have hown := h.own
  have hne := ownBlock_ne h.own h.mac (by decide)
  have H := hidd h
  have HP := hidd hp
  have HK := hidd hk
  have F2 : Hid (∀ o o', ((w.alloc o).alloc o').drew.frozen? ⟨bm, 5, none⟩ = false) := fun o o' => by
    rw [(((Grew.refl w).alloc o).alloc o').drew.frozen hlt]; exact f5
  have F3 : Hid (∀ o o', ((w.alloc o).alloc o').drew.cell? ⟨bm, 5, none⟩ = some cv) := fun o o' => by
    rw [(((Grew.refl w).alloc o).alloc o').drew.cell hlt]; exact c5
  clear h hp hk
  go_enter Tryd.func115, Tryd.ntmps115
  go_wp2_with fail
  go_region_law
    ((refine step_append_lies _ (by rfl) _ _ _ (by rfl) w0.heap.size 190 i0 _ 3 24 Tryd.underlying122 hi0 hz0 hz1 hz2 rfl (by omega) cv m.choices.length vs (by rfl) (((hown.alloc _).alloc _).drew) ⟨w.heap.size + 1, 0, none⟩ 1 1 [.pointer (some ⟨w.heap.size, 0, none⟩), .int .i64 a, .pointer gp] (by rfl) (by rfl) (World.news_of_block (cs := #[.pointer (some ⟨w.heap.size, 0, none⟩), .int .i64 a, .pointer gp]) (t := 190) (fr := (0, 0)) (heap_alloc_two w _ _)) (by simp [Value.oneCell']) (by omega) (by unfold maxLen; omega) (by omega) (by have := H.out.grew.size; simp; omega) (w.heap.size + 2) (by simp) ?_; intro gg cap w1 hown1 hgrow hat hlt; have ff : w1.frozen? ⟨bm, 5, none⟩ = false := (hgrow.frozen_far ⟨bm, 5, none⟩ (by simp; omega) (Ne.symm hne)).trans (F2.out _ _); have fc : w1.cell? ⟨bm, 5, none⟩ = some cv := (hgrow.cell_far ⟨bm, 5, none⟩ (by simp; omega) (Ne.symm hne)).trans (F3.out _ _)))
  all_goals
    have HE := hidd (later_end H.out HP.out HK.out hown1 hgrow)
    clear hown1 hgrow hat hlt ff fc hne hown c5 c6 f5
    go_wp2_with fail
    go_end0
    exact ⟨rfl, HE.out⟩
end Go.Proofs.YtkkdpafkafjfgaaDoor
namespace Go.Proofs.YtkkdpafkafjfgaaDoor
open Go.RowKit
set_option linter.unusedVariables false
theorem said_set {X : Far} {w0 w w1 : World} {bm : Nat} {rv : Value} {s : ByteArray} {fuel : Nat} {m : MS} {sv cv sv' : Value} {gp : Option Addr} {vs : List Value} (h : MacSt X w0 bm rv s fuel m w sv cv gp vs) {x : Gift}
    (hg : w.grownBy w1 sv.ownBlock) (hown : w1.ownsRow w0.heap.size 197 2 sv' (m.said.length + 1) (saidCells m.said ++ [.string x.1, .string x.2])) (hf : FarAt X w1 sv') :
    MacSt X w0 bm rv s fuel (m.speak x) (w1.setCell ⟨bm, 4, none⟩ sv') sv' cv gp vs ∧ Keep w (w1.setCell ⟨bm, 4, none⟩ sv') := by
  have k1 : Keep w w1 := (Keep.refl w).grown hg (fun b hb => by obtain ⟨cs, hcs⟩ := ownsRow_block h.said b hb; exact ⟨cs, _, hcs, by decide, by decide⟩)
  have hb1 : w1.heap[bm]? = some (.cells (macCells rv s fuel m.ticks sv cv gp m.cut) 125 (0, 0)) := by
    rw [hg.block bm h.lt (Ne.symm (ownBlock_ne h.said h.mac (by decide)))]; exact h.mac
  have k2 : Keep w (w1.setCell ⟨bm, 4, none⟩ sv') := k1.setCell hb1 (by decide) (by decide) _
  refine ⟨⟨?_, h.given.kept k2, ?_, h.chs.kept k2, ?_, ?_, h.hbm, hf.setCell hb1 (by decide) _ _⟩, k2⟩
  · rw [setCell_heap_same hb1]; rfl
  · have hs1 : w1.ownsRow w0.heap.size 190 3 cv m.choices.length vs := World.ownsRow.kept h.own hg (ownBlock_ne2 h.own h.said (by decide))
    exact ownsRow_setCell_other hs1 (ownBlock_ne hs1 hb1 (by decide)) _
  · have e : (m.speak x).said = m.said ++ [x] := rfl
    rw [e, saidCells_snoc, List.length_append]
    exact ownsRow_setCell_other hown (ownBlock_ne hown hb1 (by decide)) _
  · exact (h.grew.grown hg (fun b hb => (World.ownsRow.lt h.said b hb).1)).setCell h.hbm _
set_option maxRecDepth 100000 in
set_option maxHeartbeats 1000000 in
theorem say_any {X : Far} {w0 w : World} {bm : Nat} {rv : Value} {s : ByteArray} {fuel : Nat} {m : MS} (h : MacRep X w0 bm rv s fuel m w) (a b : ByteArray) (hn : m.said.length ≤ 1000000000000) :
    Calls Tryd.prog 118 #[.pointer (some ⟨bm, 0, none⟩), .string a, .string b] w fun e w' =>
      e = .returned (.tuple #[]) ∧ MacRep X w0 bm rv s fuel (m.speak (a, b)) w' ∧ Keep w w' := by
  obtain ⟨sv, cv, gp, vs, h⟩ := h
  obtain ⟨i0, hi0, hz0, hz1, hz2⟩ := info_parts info_gift
  have c4 := h.c4
  have f4 := h.free 4
  have hlt := h.lt
  have hown := h.said
  have hne := ownBlock_ne h.said h.mac (by decide)
  have H := hidd h
  have F2 : Hid (∀ o, (w.alloc o).frozen? ⟨bm, 4, none⟩ = false) := fun o => by
    rw [((Grew.refl w).alloc o).frozen hlt]; exact f4
  have F3 : Hid (∀ o, (w.alloc o).cell? ⟨bm, 4, none⟩ = some sv) := fun o => by
    rw [((Grew.refl w).alloc o).cell hlt]; exact c4
  clear h
  go_enter Tryd.func118, Tryd.ntmps118
  go_wp2_with (at_builtin; refine wpList_append_lies _ rfl _ _ 55 rfl w0.heap.size 197 i0 _ 2 32 Tryd.underlying55 hi0 hz0 hz1 hz2 rfl (by decide) sv m.said.length (saidCells m.said) rfl (hown.alloc _) ⟨w.heap.size, 0, none⟩ 1 1 [.string a, .string b] rfl rfl (World.news_of_block (cs := #[.string a, .string b]) (t := 197) (fr := (0, 0)) (heap_alloc_new w _)) (by simp [Value.oneCell']) (by omega) (by unfold maxLen; omega) (by omega) (by have := H.out.grew.size; simp; omega) (w.heap.size + 1) (by simp) ?_; intro gg cap w1 hown1 hgrow hat hlt; have ff : w1.frozen? ⟨bm, 4, none⟩ = false := (hgrow.frozen_far ⟨bm, 4, none⟩ (by simp; omega) (Ne.symm hne)).trans (F2.out _); have fc : w1.cell? ⟨bm, 4, none⟩ = some sv := (hgrow.cell_far ⟨bm, 4, none⟩ (by simp; omega) (Ne.symm hne)).trans (F3.out _))
  have g0 : Grew w (w.alloc (.cells #[.string a, .string b] 197)) := (Grew.refl w).alloc _
  have hf : FarAt X w1 (.slice (some ⟨gg, 0, none⟩) (m.said.length + 1) cap) := (H.out.far.grew g0).said ((H.out.far.grew g0).grown hgrow (fun x cs e => (H.out.far x cs e).2)) (hat.imp id (fun h1 => by rw [h1]; simp))
  obtain ⟨h3, k3⟩ := said_set (x := (a, b)) (H.out.kept g0) hgrow hown1 hf
  have HE : Hid (MacRep X w0 bm rv s fuel (m.speak (a, b)) _ ∧ Keep w _) := ⟨⟨_, _, _, _, h3⟩, (Keep.of_grew g0).trans k3⟩
  clear hown1 hgrow hat hlt ff fc hne hown c4 f4 h3 k3
  go_wp2_with fail
  go_end0
  exact ⟨rfl, HE.out⟩
theorem given_set {X : Far} {w0 w : World} {bm : Nat} {rv : Value} {s : ByteArray} {fuel : Nat} {m m' : MS} {sv cv : Value} {gp gp' : Option Addr} {vs : List Value} (h : MacSt X w0 bm rv s fuel m w sv cv gp vs)
    (hg : GiftsAt w gp' m'.given) (e1 : m'.choices = m.choices) (e2 : m'.ticks = m.ticks) (e3 : m'.said = m.said) (e4 : m'.cut = m.cut) :
    MacSt X w0 bm rv s fuel m' (w.setCell ⟨bm, 6, none⟩ (.pointer gp')) sv cv gp' vs ∧ Keep w (w.setCell ⟨bm, 6, none⟩ (.pointer gp')) := by
  have k2 : Keep w (w.setCell ⟨bm, 6, none⟩ (.pointer gp')) := (Keep.refl w).setCell h.mac (by decide) (by decide) _
  refine ⟨⟨?_, hg.kept k2, ?_, by rw [e1]; exact h.chs.kept k2, ?_, h.grew.setCell h.hbm _, h.hbm, h.far.setCell h.mac (by decide) _ _⟩, k2⟩
  · rw [setCell_heap_same h.mac, e2, e4]; rfl
  · rw [e1]; exact ownsRow_setCell_other h.own (ownBlock_ne h.own h.mac (by decide)) _
  · rw [e3]; exact ownsRow_setCell_other h.said (ownBlock_ne h.said h.mac (by decide)) _
theorem heap_alloc_two' (w : World) (o o' : Obj) (p : Addr) (u : Value) : (((w.setCell p u).alloc o).alloc o').heap[w.heap.size + 1]? = some o' := by
  rw [show w.heap.size + 1 = ((w.setCell p u).alloc o).heap.size by simp [World.setCell]]; exact heap_alloc_new _ o'
theorem heap_alloc_first' (w : World) (o o' : Obj) (p : Addr) (u : Value) : (((w.setCell p u).alloc o).alloc o').heap[w.heap.size]? = some o := by
  rw [heap_alloc_old _ _ (by simp [World.setCell]), show w.heap.size = (w.setCell p u).heap.size by simp [World.setCell]]; exact heap_alloc_new _ o
theorem begin_end {X : Far} {w0 w w1 : World} {bm : Nat} {rv : Value} {s : ByteArray} {fuel : Nat} {m : MS} {sv cv : Value} {vs : List Value} (h : MacSt X w0 bm rv s fuel { m with given := [] } (w.setCell ⟨bm, 6, none⟩ (.pointer none)) sv cv none vs)
    (k : Keep w (w.setCell ⟨bm, 6, none⟩ (.pointer none))) {a nb no : Nat} {p : Pat} (hp : PatAt w0 nb no p) {o : Obj} {gg cap : Nat} {row : Option Nat} (hrow : row = cv.ownBlock)
    (hown : w1.ownsRow w0.heap.size 190 3 (.slice (some ⟨gg, 0, none⟩) 1 cap) 1 ([] ++ [.pointer (some ⟨w.heap.size, 0, none⟩), .int .i64 a, .pointer none]))
    (hg : (((w.setCell ⟨bm, 6, none⟩ (.pointer none)).alloc (.cells #[.int .i64 0, .pointer (some ⟨nb, no, none⟩), .int .i64 0, .pointer none] 188)).alloc o).grownBy w1 row) :
    MacRep X w0 bm rv s fuel { m with given := [], choices := [⟨[⟨0, p, 0⟩], a, []⟩] } (w1.setCell ⟨bm, 5, none⟩ (.slice (some ⟨gg, 0, none⟩) 1 cap)) ∧ Keep w (w1.setCell ⟨bm, 5, none⟩ (.slice (some ⟨gg, 0, none⟩) 1 cap)) := by
  have g0 : Grew (w.setCell ⟨bm, 6, none⟩ (.pointer none)) (((w.setCell ⟨bm, 6, none⟩ (.pointer none)).alloc (.cells #[.int .i64 0, .pointer (some ⟨nb, no, none⟩), .int .i64 0, .pointer none] 188)).alloc o) := ((Grew.refl _).alloc _).alloc _
  rw [hrow] at hg
  obtain ⟨h3, k3⟩ := choices_set (m' := { m with given := [], choices := [⟨[⟨0, p, 0⟩], a, []⟩] }) (h.kept g0) hg hown ⟨[], some ⟨w.heap.size, 0, none⟩, none, rfl, rfl, ⟨w.heap.size, nb, no, none, rfl, heap_alloc_first' w _ _ _ _, hp, rfl⟩, rfl⟩ rfl rfl rfl rfl
  exact ⟨⟨_, _, _, _, h3⟩, k.trans ((Keep.of_grew g0).trans k3)⟩
set_option maxRecDepth 100000 in
set_option maxHeartbeats 1000000 in
theorem begin_any {X : Far} {w0 w : World} {bm : Nat} {rv : Value} {s : ByteArray} {fuel : Nat} {m : MS} (h : MacRep X w0 bm rv s fuel m w) (a : Nat) (nb no : Nat) (p : Pat) (hp : PatAt w0 nb no p) :
    Calls Tryd.prog 50 #[.pointer (some ⟨bm, 0, none⟩), .pointer (some ⟨nb, no, none⟩), .int .i64 a] w fun e w' =>
      e = .returned (.tuple #[]) ∧ MacRep X w0 bm rv s fuel { m with given := [], choices := [⟨[⟨0, p, 0⟩], a, []⟩] } w' ∧ Keep w w' := by
  obtain ⟨sv, cv, gp, vs, h⟩ := h
  obtain ⟨i0, hi0, hz0, hz1, hz2⟩ := info_parts info_choice
  obtain ⟨h1, k1⟩ := given_set (gp' := none) (m' := { m with given := [] }) h (by show GiftsR _ _ _; exact rfl) rfl rfl rfl rfl
  have c6 := h.c6
  have f6 := h.free 6
  obtain ⟨w2, hw2⟩ : ∃ w2, w.setCell ⟨bm, 6, none⟩ (.pointer none) = w2 := ⟨_, rfl⟩
  rw [hw2] at h1 k1
  have HW := hidd hw2
  have hw2' := hw2
  have hlt0 := h1.lt
  rcases h1.own.2 with ⟨rfl, hn0⟩ | ⟨g, cap, cur, rfl, g1, g2, g3, g4, g5, g6⟩
  · have c5 := h1.c5
    have f5 := h1.free 5
    have hlt := h1.lt
    have hown : w2.ownsRow w0.heap.size 190 3 (.slice none 0 0) 0 [] := World.ownsRow_nil w2 _ _ 3
    have hne : Value.ownBlock (.slice none 0 0) ≠ some bm := ownBlock_ne hown h1.mac (by decide)
    have F2 : Hid (∀ o o', ((w2.alloc o).alloc o').frozen? ⟨bm, 5, none⟩ = false) := fun o o' => by
      rw [(((Grew.refl w2).alloc o).alloc o').frozen hlt]; exact f5
    have F3 : Hid (∀ o o', ((w2.alloc o).alloc o').cell? ⟨bm, 5, none⟩ = some (.slice none 0 0)) := fun o o' => by
      rw [(((Grew.refl w2).alloc o).alloc o').cell hlt]; exact c5
    have H := hidd h1
    have K1 := hidd k1
    have HP := hidd hp
    clear h h1 k1 hp
    subst hw2
    go_enter Tryd.func50, Tryd.ntmps50
    go_wp2_with (at_builtin; refine wpList_append_lies _ rfl _ _ 122 rfl w0.heap.size 190 i0 _ 3 24 Tryd.underlying122 hi0 hz0 hz1 hz2 rfl (by decide) (.slice none 0 0) 0 [] rfl ((hown.alloc _).alloc _) ⟨w.heap.size + 1, 0, none⟩ 1 1 [.pointer (some ⟨w.heap.size, 0, none⟩), .int .i64 a, .pointer none] rfl rfl (World.news_of_block (cs := #[.pointer (some ⟨w.heap.size, 0, none⟩), .int .i64 a, .pointer none]) (t := 190) (fr := (0, 0)) (heap_alloc_two' w _ _ _ _)) (by simp [Value.oneCell']) (by omega) (by unfold maxLen; omega) (by omega) (by have := H.out.grew.size; simp at this ⊢; omega) (w.heap.size + 2) (by simp) ?_; intro gg cap2 w1 hown1 hgrow hat hlt2; have ff : w1.frozen? ⟨bm, 5, none⟩ = false := (hgrow.frozen_far ⟨bm, 5, none⟩ (by simp at hlt ⊢; omega) (Ne.symm hne)).trans (F2.out _ _); have fc : w1.cell? ⟨bm, 5, none⟩ = some (.slice none 0 0) := (hgrow.cell_far ⟨bm, 5, none⟩ (by simp at hlt ⊢; omega) (Ne.symm hne)).trans (F3.out _ _))
    have HE := hidd (begin_end H.out K1.out HP.out rfl hown1 hgrow)
    clear hown1 hgrow hat hlt2 ff fc hne hown c5 c6 f5 f6
    go_wp2_with fail
    go_end0
    exact ⟨rfl, HE.out⟩
  · have c5 := h1.c5
    have f5 := h1.free 5
    have hlt := h1.lt
    have hown : w2.ownsRow w0.heap.size 190 3 (.slice (some ⟨g, 0, none⟩) 0 cap) 0 [] := ⟨by simp, .inr ⟨g, cap, cur, rfl, g1, g2, by omega, g4, g5, by simp⟩⟩
    have hne : Value.ownBlock (.slice (some ⟨g, 0, none⟩) 0 cap) ≠ some bm := ownBlock_ne hown h1.mac (by decide)
    have F2 : Hid (∀ o o', ((w2.alloc o).alloc o').frozen? ⟨bm, 5, none⟩ = false) := fun o o' => by
      rw [(((Grew.refl w2).alloc o).alloc o').frozen hlt]; exact f5
    have F3 : Hid (∀ o o', ((w2.alloc o).alloc o').cell? ⟨bm, 5, none⟩ = some (.slice (some ⟨g, 0, none⟩) m.choices.length cap)) := fun o o' => by
      rw [(((Grew.refl w2).alloc o).alloc o').cell hlt]; exact c5
    have H := hidd h1
    have K1 := hidd k1
    have HP := hidd hp
    clear h h1 k1 hp
    subst hw2
    go_enter Tryd.func50, Tryd.ntmps50
    go_wp2_with (at_builtin; refine wpList_append_lies _ rfl _ _ 122 rfl w0.heap.size 190 i0 _ 3 24 Tryd.underlying122 hi0 hz0 hz1 hz2 rfl (by decide) (.slice (some ⟨g, 0, none⟩) 0 cap) 0 [] rfl ((hown.alloc _).alloc _) ⟨w.heap.size + 1, 0, none⟩ 1 1 [.pointer (some ⟨w.heap.size, 0, none⟩), .int .i64 a, .pointer none] rfl rfl (World.news_of_block (cs := #[.pointer (some ⟨w.heap.size, 0, none⟩), .int .i64 a, .pointer none]) (t := 190) (fr := (0, 0)) (heap_alloc_two' w _ _ _ _)) (by simp [Value.oneCell']) (by omega) (by unfold maxLen; omega) (by omega) (by have := H.out.grew.size; simp at this ⊢; omega) (w.heap.size + 2) (by simp) ?_; intro gg cap2 w1 hown1 hgrow hat hlt2; have ff : w1.frozen? ⟨bm, 5, none⟩ = false := (hgrow.frozen_far ⟨bm, 5, none⟩ (by simp at hlt ⊢; omega) (Ne.symm hne)).trans (F2.out _ _); have fc : w1.cell? ⟨bm, 5, none⟩ = some (.slice (some ⟨g, 0, none⟩) m.choices.length cap) := (hgrow.cell_far ⟨bm, 5, none⟩ (by simp at hlt ⊢; omega) (Ne.symm hne)).trans (F3.out _ _))
    have HE := hidd (begin_end H.out K1.out HP.out rfl hown1 hgrow)
    clear hown1 hgrow hat hlt2 ff fc hne hown c5 c6 f5 f6
    go_wp2_with fail
    go_end0
    exact ⟨rfl, HE.out⟩
end Go.Proofs.YtkkdpafkafjfgaaDoor
