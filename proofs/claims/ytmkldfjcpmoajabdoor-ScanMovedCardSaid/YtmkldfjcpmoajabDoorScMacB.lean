/- The machine's methods say and begin. -/
import Derived.Test.YtmkldfjcpmoajabDoorScMac
namespace Go.Proofs.YtmkldfjcpmoajabDoor
open Go.RowKit
set_option linter.unusedVariables false

theorem said_set {X : Far} {w0 w w1 : World} {bm : Nat} {rv : Value} {s : ByteArray} {fuel : Nat} {m : MS} {sv cv sv' : Value} {gp : Option Addr} {vs : List Value} (h : MacSt X w0 bm rv s fuel m w sv cv gp vs) {x : Gift}
    (hg : w.grownBy w1 sv.ownBlock) (hown : w1.ownsRow w0.heap.size 41 2 sv' (m.said.length + 1) (saidCells m.said ++ [.string x.1, .string x.2])) (hf : FarAt X w1 sv') :
    MacSt X w0 bm rv s fuel (m.speak x) (w1.setCell ⟨bm, 4, none⟩ sv') sv' cv gp vs ∧ Keep w (w1.setCell ⟨bm, 4, none⟩ sv') := by
  have k1 : Keep w w1 := (Keep.refl w).grown hg (fun b hb => by obtain ⟨cs, hcs⟩ := ownsRow_block h.said b hb; exact ⟨cs, _, hcs, by decide, by decide⟩)
  have hb1 : w1.heap[bm]? = some (.cells (macCells rv s fuel m.ticks sv cv gp m.cut) 63 (0, 0)) := by
    rw [hg.block bm h.lt (Ne.symm (ownBlock_ne h.said h.mac (by decide)))]; exact h.mac
  have k2 : Keep w (w1.setCell ⟨bm, 4, none⟩ sv') := k1.setCell hb1 (by decide) (by decide) _
  refine ⟨⟨?_, h.given.kept k2, ?_, h.chs.kept k2, ?_, ?_, h.hbm, hf.setCell hb1 (by decide) _ _⟩, k2⟩
  · rw [setCell_heap_same hb1]; rfl
  · have hs1 : w1.ownsRow w0.heap.size 76 3 cv m.choices.length vs := World.ownsRow.kept h.own hg (ownBlock_ne2 h.own h.said (by decide))
    exact ownsRow_setCell_other hs1 (ownBlock_ne hs1 hb1 (by decide)) _
  · have e : (m.speak x).said = m.said ++ [x] := rfl
    rw [e, saidCells_snoc, List.length_append]
    exact ownsRow_setCell_other hown (ownBlock_ne hown hb1 (by decide)) _
  · exact (h.grew.grown hg (fun b hb => (World.ownsRow.lt h.said b hb).1)).setCell h.hbm _

set_option maxRecDepth 100000 in
set_option maxHeartbeats 1000000 in
theorem say_any {X : Far} {w0 w : World} {bm : Nat} {rv : Value} {s : ByteArray} {fuel : Nat} {m : MS} (h : MacRep X w0 bm rv s fuel m w) (a b : ByteArray) (hn : m.said.length ≤ 1000000000000) :
    Calls Tryd.prog 41 #[.pointer (some ⟨bm, 0, none⟩), .string a, .string b] w fun e w' =>
      e = .returned (.tuple #[]) ∧ MacRep X w0 bm rv s fuel (m.speak (a, b)) w' ∧ Keep w w' := by
  obtain ⟨sv, cv, gp, vs, h⟩ := h
  obtain ⟨i0, hi0, hz0, hz1, hz2⟩ := info_parts info_gift
  have c4 := h.c4
  have f4 := h.free 4
  have hlt := h.lt
  have hown := h.said
  have hne := ownBlock_ne h.said h.mac (by decide)
  have H := hidd h
  have F2 : Hid (∀ o, (w.alloc o).frozen? ⟨bm, 4, none⟩ = false) := fun o => by
    rw [((Grew.refl w).alloc o).frozen hlt]; exact f4
  have F3 : Hid (∀ o, (w.alloc o).cell? ⟨bm, 4, none⟩ = some sv) := fun o => by
    rw [((Grew.refl w).alloc o).cell hlt]; exact c4
  clear h
  go_enter Tryd.func41, Tryd.ntmps41
  go_wp2_with (at_builtin; refine wpList_append_lies _ rfl _ _ 31 rfl w0.heap.size 41 i0 _ 2 32 Tryd.underlying31 hi0 hz0 hz1 hz2 rfl (by decide) sv m.said.length (saidCells m.said) rfl (hown.alloc _) ⟨w.heap.size, 0, none⟩ 1 1 [.string a, .string b] rfl rfl (World.news_of_block (cs := #[.string a, .string b]) (t := 41) (fr := (0, 0)) (heap_alloc_new w _)) (by simp [Value.oneCell']) (by omega) (by unfold maxLen; omega) (by omega) (by have := H.out.grew.size; simp; omega) (w.heap.size + 1) (by simp) ?_; intro gg cap w1 hown1 hgrow hat hlt; have ff : w1.frozen? ⟨bm, 4, none⟩ = false := (hgrow.frozen_far ⟨bm, 4, none⟩ (by simp; omega) (Ne.symm hne)).trans (F2.out _); have fc : w1.cell? ⟨bm, 4, none⟩ = some sv := (hgrow.cell_far ⟨bm, 4, none⟩ (by simp; omega) (Ne.symm hne)).trans (F3.out _))
  have g0 : Grew w (w.alloc (.cells #[.string a, .string b] 41)) := (Grew.refl w).alloc _
  have hf : FarAt X w1 (.slice (some ⟨gg, 0, none⟩) (m.said.length + 1) cap) := (H.out.far.grew g0).said ((H.out.far.grew g0).grown hgrow (fun x cs e => (H.out.far x cs e).2)) (hat.imp id (fun h1 => by rw [h1]; simp))
  obtain ⟨h3, k3⟩ := said_set (x := (a, b)) (H.out.kept g0) hgrow hown1 hf
  have HE : Hid (MacRep X w0 bm rv s fuel (m.speak (a, b)) _ ∧ Keep w _) := ⟨⟨_, _, _, _, h3⟩, (Keep.of_grew g0).trans k3⟩
  clear hown1 hgrow hat hlt ff fc hne hown c4 f4 h3 k3
  go_wp2_with fail
  go_end0
  exact ⟨rfl, HE.out⟩

theorem given_set {X : Far} {w0 w : World} {bm : Nat} {rv : Value} {s : ByteArray} {fuel : Nat} {m m' : MS} {sv cv : Value} {gp gp' : Option Addr} {vs : List Value} (h : MacSt X w0 bm rv s fuel m w sv cv gp vs)
    (hg : GiftsAt w gp' m'.given) (e1 : m'.choices = m.choices) (e2 : m'.ticks = m.ticks) (e3 : m'.said = m.said) (e4 : m'.cut = m.cut) :
    MacSt X w0 bm rv s fuel m' (w.setCell ⟨bm, 6, none⟩ (.pointer gp')) sv cv gp' vs ∧ Keep w (w.setCell ⟨bm, 6, none⟩ (.pointer gp')) := by
  have k2 : Keep w (w.setCell ⟨bm, 6, none⟩ (.pointer gp')) := (Keep.refl w).setCell h.mac (by decide) (by decide) _
  refine ⟨⟨?_, hg.kept k2, ?_, by rw [e1]; exact h.chs.kept k2, ?_, h.grew.setCell h.hbm _, h.hbm, h.far.setCell h.mac (by decide) _ _⟩, k2⟩
  · rw [setCell_heap_same h.mac, e2, e4]; rfl
  · rw [e1]; exact ownsRow_setCell_other h.own (ownBlock_ne h.own h.mac (by decide)) _
  · rw [e3]; exact ownsRow_setCell_other h.said (ownBlock_ne h.said h.mac (by decide)) _

theorem heap_alloc_two' (w : World) (o o' : Obj) (p : Addr) (u : Value) : (((w.setCell p u).alloc o).alloc o').heap[w.heap.size + 1]? = some o' := by
  rw [show w.heap.size + 1 = ((w.setCell p u).alloc o).heap.size by simp [World.setCell]]; exact heap_alloc_new _ o'
theorem heap_alloc_first' (w : World) (o o' : Obj) (p : Addr) (u : Value) : (((w.setCell p u).alloc o).alloc o').heap[w.heap.size]? = some o := by
  rw [heap_alloc_old _ _ (by simp [World.setCell]), show w.heap.size = (w.setCell p u).heap.size by simp [World.setCell]]; exact heap_alloc_new _ o
theorem begin_end {X : Far} {w0 w w1 : World} {bm : Nat} {rv : Value} {s : ByteArray} {fuel : Nat} {m : MS} {sv cv : Value} {vs : List Value} (h : MacSt X w0 bm rv s fuel { m with given := [] } (w.setCell ⟨bm, 6, none⟩ (.pointer none)) sv cv none vs)
    (k : Keep w (w.setCell ⟨bm, 6, none⟩ (.pointer none))) {a nb no : Nat} {p : Pat} (hp : PatAt w0 nb no p) {o : Obj} {gg cap : Nat} {row : Option Nat} (hrow : row = cv.ownBlock)
    (hown : w1.ownsRow w0.heap.size 76 3 (.slice (some ⟨gg, 0, none⟩) 1 cap) 1 ([] ++ [.pointer (some ⟨w.heap.size, 0, none⟩), .int .i64 a, .pointer none]))
    (hg : (((w.setCell ⟨bm, 6, none⟩ (.pointer none)).alloc (.cells #[.int .i64 0, .pointer (some ⟨nb, no, none⟩), .int .i64 0, .pointer none] 74)).alloc o).grownBy w1 row) :
    MacRep X w0 bm rv s fuel { m with given := [], choices := [⟨[⟨0, p, 0⟩], a, []⟩] } (w1.setCell ⟨bm, 5, none⟩ (.slice (some ⟨gg, 0, none⟩) 1 cap)) ∧ Keep w (w1.setCell ⟨bm, 5, none⟩ (.slice (some ⟨gg, 0, none⟩) 1 cap)) := by
  have g0 : Grew (w.setCell ⟨bm, 6, none⟩ (.pointer none)) (((w.setCell ⟨bm, 6, none⟩ (.pointer none)).alloc (.cells #[.int .i64 0, .pointer (some ⟨nb, no, none⟩), .int .i64 0, .pointer none] 74)).alloc o) := ((Grew.refl _).alloc _).alloc _
  rw [hrow] at hg
  obtain ⟨h3, k3⟩ := choices_set (m' := { m with given := [], choices := [⟨[⟨0, p, 0⟩], a, []⟩] }) (h.kept g0) hg hown ⟨[], some ⟨w.heap.size, 0, none⟩, none, rfl, rfl, ⟨w.heap.size, nb, no, none, rfl, heap_alloc_first' w _ _ _ _, hp, rfl⟩, rfl⟩ rfl rfl rfl rfl
  exact ⟨⟨_, _, _, _, h3⟩, k.trans ((Keep.of_grew g0).trans k3)⟩

set_option maxRecDepth 100000 in
set_option maxHeartbeats 1000000 in
theorem begin_any {X : Far} {w0 w : World} {bm : Nat} {rv : Value} {s : ByteArray} {fuel : Nat} {m : MS} (h : MacRep X w0 bm rv s fuel m w) (a : Nat) (nb no : Nat) (p : Pat) (hp : PatAt w0 nb no p) :
    Calls Tryd.prog 22 #[.pointer (some ⟨bm, 0, none⟩), .pointer (some ⟨nb, no, none⟩), .int .i64 a] w fun e w' =>
      e = .returned (.tuple #[]) ∧ MacRep X w0 bm rv s fuel { m with given := [], choices := [⟨[⟨0, p, 0⟩], a, []⟩] } w' ∧ Keep w w' := by
  obtain ⟨sv, cv, gp, vs, h⟩ := h
  obtain ⟨i0, hi0, hz0, hz1, hz2⟩ := info_parts info_choice
  obtain ⟨h1, k1⟩ := given_set (gp' := none) (m' := { m with given := [] }) h (by show GiftsR _ _ _; exact rfl) rfl rfl rfl rfl
  have c6 := h.c6
  have f6 := h.free 6
  obtain ⟨w2, hw2⟩ : ∃ w2, w.setCell ⟨bm, 6, none⟩ (.pointer none) = w2 := ⟨_, rfl⟩
  rw [hw2] at h1 k1
  have HW := hidd hw2
  have hw2' := hw2
  have hlt0 := h1.lt
  rcases h1.own.2 with ⟨rfl, hn0⟩ | ⟨g, cap, cur, rfl, g1, g2, g3, g4, g5, g6⟩
  · have c5 := h1.c5
    have f5 := h1.free 5
    have hlt := h1.lt
    have hown : w2.ownsRow w0.heap.size 76 3 (.slice none 0 0) 0 [] := World.ownsRow_nil w2 _ _ 3
    have hne : Value.ownBlock (.slice none 0 0) ≠ some bm := ownBlock_ne hown h1.mac (by decide)
    have F2 : Hid (∀ o o', ((w2.alloc o).alloc o').frozen? ⟨bm, 5, none⟩ = false) := fun o o' => by
      rw [(((Grew.refl w2).alloc o).alloc o').frozen hlt]; exact f5
    have F3 : Hid (∀ o o', ((w2.alloc o).alloc o').cell? ⟨bm, 5, none⟩ = some (.slice none 0 0)) := fun o o' => by
      rw [(((Grew.refl w2).alloc o).alloc o').cell hlt]; exact c5
    have H := hidd h1
    have K1 := hidd k1
    have HP := hidd hp
    clear h h1 k1 hp
    subst hw2
    go_enter Tryd.func22, Tryd.ntmps22
    go_wp2_with (at_builtin; refine wpList_append_lies _ rfl _ _ 60 rfl w0.heap.size 76 i0 _ 3 24 Tryd.underlying60 hi0 hz0 hz1 hz2 rfl (by decide) (.slice none 0 0) 0 [] rfl ((hown.alloc _).alloc _) ⟨w.heap.size + 1, 0, none⟩ 1 1 [.pointer (some ⟨w.heap.size, 0, none⟩), .int .i64 a, .pointer none] rfl rfl (World.news_of_block (cs := #[.pointer (some ⟨w.heap.size, 0, none⟩), .int .i64 a, .pointer none]) (t := 76) (fr := (0, 0)) (heap_alloc_two' w _ _ _ _)) (by simp [Value.oneCell']) (by omega) (by unfold maxLen; omega) (by omega) (by have := H.out.grew.size; simp at this ⊢; omega) (w.heap.size + 2) (by simp) ?_; intro gg cap2 w1 hown1 hgrow hat hlt2; have ff : w1.frozen? ⟨bm, 5, none⟩ = false := (hgrow.frozen_far ⟨bm, 5, none⟩ (by simp at hlt ⊢; omega) (Ne.symm hne)).trans (F2.out _ _); have fc : w1.cell? ⟨bm, 5, none⟩ = some (.slice none 0 0) := (hgrow.cell_far ⟨bm, 5, none⟩ (by simp at hlt ⊢; omega) (Ne.symm hne)).trans (F3.out _ _))
    have HE := hidd (begin_end H.out K1.out HP.out rfl hown1 hgrow)
    clear hown1 hgrow hat hlt2 ff fc hne hown c5 c6 f5 f6
    go_wp2_with fail
    go_end0
    exact ⟨rfl, HE.out⟩
  · have c5 := h1.c5
    have f5 := h1.free 5
    have hlt := h1.lt
    have hown : w2.ownsRow w0.heap.size 76 3 (.slice (some ⟨g, 0, none⟩) 0 cap) 0 [] := ⟨by simp, .inr ⟨g, cap, cur, rfl, g1, g2, by omega, g4, g5, by simp⟩⟩
    have hne : Value.ownBlock (.slice (some ⟨g, 0, none⟩) 0 cap) ≠ some bm := ownBlock_ne hown h1.mac (by decide)
    have F2 : Hid (∀ o o', ((w2.alloc o).alloc o').frozen? ⟨bm, 5, none⟩ = false) := fun o o' => by
      rw [(((Grew.refl w2).alloc o).alloc o').frozen hlt]; exact f5
    have F3 : Hid (∀ o o', ((w2.alloc o).alloc o').cell? ⟨bm, 5, none⟩ = some (.slice (some ⟨g, 0, none⟩) m.choices.length cap)) := fun o o' => by
      rw [(((Grew.refl w2).alloc o).alloc o').cell hlt]; exact c5
    have H := hidd h1
    have K1 := hidd k1
    have HP := hidd hp
    clear h h1 k1 hp
    subst hw2
    go_enter Tryd.func22, Tryd.ntmps22
    go_wp2_with (at_builtin; refine wpList_append_lies _ rfl _ _ 60 rfl w0.heap.size 76 i0 _ 3 24 Tryd.underlying60 hi0 hz0 hz1 hz2 rfl (by decide) (.slice (some ⟨g, 0, none⟩) 0 cap) 0 [] rfl ((hown.alloc _).alloc _) ⟨w.heap.size + 1, 0, none⟩ 1 1 [.pointer (some ⟨w.heap.size, 0, none⟩), .int .i64 a, .pointer none] rfl rfl (World.news_of_block (cs := #[.pointer (some ⟨w.heap.size, 0, none⟩), .int .i64 a, .pointer none]) (t := 76) (fr := (0, 0)) (heap_alloc_two' w _ _ _ _)) (by simp [Value.oneCell']) (by omega) (by unfold maxLen; omega) (by omega) (by have := H.out.grew.size; simp at this ⊢; omega) (w.heap.size + 2) (by simp) ?_; intro gg cap2 w1 hown1 hgrow hat hlt2; have ff : w1.frozen? ⟨bm, 5, none⟩ = false := (hgrow.frozen_far ⟨bm, 5, none⟩ (by simp at hlt ⊢; omega) (Ne.symm hne)).trans (F2.out _ _); have fc : w1.cell? ⟨bm, 5, none⟩ = some (.slice (some ⟨g, 0, none⟩) m.choices.length cap) := (hgrow.cell_far ⟨bm, 5, none⟩ (by simp at hlt ⊢; omega) (Ne.symm hne)).trans (F3.out _ _))
    have HE := hidd (begin_end H.out K1.out HP.out rfl hown1 hgrow)
    clear hown1 hgrow hat hlt2 ff fc hne hown c5 c6 f5 f6
    go_wp2_with fail
    go_end0
    exact ⟨rfl, HE.out⟩
end Go.Proofs.YtmkldfjcpmoajabDoor
