/- Gifts as cells: set, reversed. Plain. -/
import Derived.Test.YtkkdpafkafjfgaaDoorWwScTr
import Derived.Test.YtkkdpafkafjfgaaDoorWwScMac
import Derived.Deep.LoopGhost
import Derived.Test.YtkkdpafkafjfgaaDoorWwScInv
namespace Go.Proofs.YtkkdpafkafjfgaaDoor
set_option linter.unusedVariables false
def RevAt (l d : List Gift) (i : Nat) : Prop := d.length = l.length ∧ ∀ k, k < l.length → d[k]? = if k < i ∨ l.length ≤ k + i then l[l.length - 1 - k]? else l[k]?
theorem RevAt.start (l : List Gift) : RevAt l l 0 := ⟨rfl, fun k hk => by rw [if_neg (by omega)]⟩
theorem RevAt.step {l d : List Gift} {i : Nat} (h : RevAt l d i) (hi : 2 * i + 1 < l.length) (a b : Gift) (ha : d[i]? = some a) (hb : d[l.length - 1 - i]? = some b) : RevAt l ((d.set i b).set (l.length - 1 - i) a) (i + 1) := by
  have ha' := h.2 i (by omega)
  have hb' := h.2 (l.length - 1 - i) (by omega)
  rw [if_neg (by omega), ha] at ha'
  rw [if_neg (by omega), hb] at hb'
  refine ⟨by simp [h.1], fun k hk => ?_⟩
  rw [List.getElem?_set]
  by_cases e1 : l.length - 1 - i = k
  · rw [if_pos e1, if_pos (by simp [h.1]; omega), if_pos (by omega), show l.length - 1 - k = i by omega]
    exact ha'
  · rw [if_neg e1, List.getElem?_set]
    by_cases e2 : i = k
    · rw [if_pos e2, if_pos (by rw [h.1]; omega), if_pos (by omega), show l.length - 1 - k = l.length - 1 - i by omega]
      exact hb'
    · rw [if_neg e2, h.2 k hk]
      by_cases e3 : k < i ∨ l.length ≤ k + i
      · rw [if_pos e3, if_pos (by omega)]
      · rw [if_neg e3, if_neg (by omega)]
theorem RevAt.done {l d : List Gift} {i : Nat} (h : RevAt l d i) (hi : l.length ≤ 2 * i + 1) : d = l.reverse := by
  refine List.ext_getElem? fun k => ?_
  by_cases hk : k < l.length
  · rw [h.2 k hk, List.getElem?_reverse hk]
    by_cases e : k < i ∨ l.length ≤ k + i
    · rw [if_pos e]
    · rw [if_neg e, show l.length - 1 - k = k by omega]
  · rw [List.getElem?_eq_none (by rw [h.1]; omega), List.getElem?_eq_none (by simp; omega)]
end Go.Proofs.YtkkdpafkafjfgaaDoor
namespace Go.Proofs.YtkkdpafkafjfgaaDoor
open Go.RowKit
set_option linter.unusedVariables false
theorem cells_gift : ∀ (l : List Gift) (i : Nat) (x : Gift), l[i]? = some x → (saidCells l)[i * 2]? = some (.string x.1) ∧ (saidCells l)[i * 2 + 1]? = some (.string x.2)
  | [], i, x, h => by simp at h
  | y :: l, 0, x, h => by
    simp at h; subst h
    exact ⟨rfl, rfl⟩
  | y :: l, i + 1, x, h => by
    have := cells_gift l i x (by simpa using h)
    have e : saidCells (y :: l) = .string y.1 :: .string y.2 :: saidCells l := rfl
    rw [e, show (i + 1) * 2 = i * 2 + 1 + 1 by omega]
    exact ⟨by simpa using this.1, by simpa using this.2⟩
theorem cells_put : ∀ (l : List Gift) (i : Nat) (x : Gift), ((saidCells l).set (i * 2) (.string x.1)).set (i * 2 + 1) (.string x.2) = saidCells (l.set i x)
  | [], i, x => rfl
  | y :: l, 0, x => rfl
  | y :: l, i + 1, x => by
    have := cells_put l i x
    have e : saidCells (y :: l) = .string y.1 :: .string y.2 :: saidCells l := rfl
    have e2 : saidCells ((y :: l).set (i + 1) x) = .string y.1 :: .string y.2 :: saidCells (l.set i x) := rfl
    rw [e, e2, show (i + 1) * 2 = i * 2 + 1 + 1 by omega, List.set_cons_succ, List.set_cons_succ, List.set_cons_succ, List.set_cons_succ, this]
theorem saidCells_length (l : List Gift) : (saidCells l).length = l.length * 2 := by
  induction l with
  | nil => rfl
  | cons y l ih =>
    have e : saidCells (y :: l) = .string y.1 :: .string y.2 :: saidCells l := rfl
    rw [e, List.length_cons, List.length_cons, ih, List.length_cons]; omega
section
variable {w : World} {B g cap : Nat}
abbrev OwnGifts (w : World) (B g cap : Nat) (l : List Gift) (n : Nat) : Prop := w.ownsRow B 197 2 (.slice (some ⟨g, 0, none⟩) n cap) n (saidCells l)
theorem OwnGifts.put {n : Nat} {l : List Gift} (h : OwnGifts w B g cap l n) (i : Nat) (x : Gift) :
    OwnGifts ((w.setCell ⟨g, i * 2, none⟩ (.string x.1)).setCell ⟨g, i * 2 + 1, none⟩ (.string x.2)) B g cap (l.set i x) n ∧ w.grownBy ((w.setCell ⟨g, i * 2, none⟩ (.string x.1)).setCell ⟨g, i * 2 + 1, none⟩ (.string x.2)) (some g) := by
  obtain ⟨h1, g1⟩ := World.ownsRow.stored h (i * 2) (.string x.1)
  obtain ⟨h2, g2⟩ := World.ownsRow.stored h1 (i * 2 + 1) (.string x.2)
  rw [cells_put] at h2
  exact ⟨h2, ⟨g2.os.trans g1.os, g2.tape.trans g1.tape, g2.output.trans g1.output, Nat.le_trans g1.size g2.size, fun x hx hne => by rw [g2.block x (Nat.lt_of_lt_of_le hx g1.size) hne]; exact g1.block x hx hne⟩⟩
theorem grownBy_trans {a b c : World} {r : Option Nat} (h : a.grownBy b r) (k : b.grownBy c r) : a.grownBy c r :=
  ⟨k.os.trans h.os, k.tape.trans h.tape, k.output.trans h.output, Nat.le_trans h.size k.size, fun x hx hne => by rw [k.block x (Nat.lt_of_lt_of_le hx h.size) hne]; exact h.block x hx hne⟩
set_option maxRecDepth 100000 in
set_option maxHeartbeats 2000000 in
theorem reverse_gifts (l : List Gift) (h : OwnGifts w B g cap l l.length) (hn : l.length ≤ 1000000000000) :
    Calls Tryd.prog 95 #[.slice (some ⟨g, 0, none⟩) l.length cap] w fun e w' => e = .returned (.tuple #[]) ∧ OwnGifts w' B g cap l.reverse l.length ∧ w.grownBy w' (some g) := by
  have H := hidd h
  clear h
  go_enter Tryd.func95, Tryd.ntmps95
  go_wp2_with fail
  go_loopg [2, 3] l.length (fun k s2 s3 wr => ∃ (i : Nat) (jz : Int) (d : List Gift), s2 = .int .i64 i ∧ s3 = .int .i64 jz ∧ jz = (l.length : Int) - 1 - i ∧ Hid (OwnGifts wr B g cap d l.length ∧ w.grownBy wr (some g) ∧ RevAt l d i) ∧ l.length ≤ k + i ∧ i ≤ l.length)
  case atStart => exact ⟨0, (l.length : Int) - 1, l, rfl, rfl, by omega, ⟨H.out, ⟨rfl, rfl, rfl, Nat.le_refl _, fun _ _ _ => rfl⟩, RevAt.start l⟩, by omega, by omega⟩
  case round =>
    obtain ⟨i, jz, d, rfl, rfl, hj, HI, hk, hi⟩ := hrel
    clear H
    by_cases hlt : (i : Int) < jz
    · obtain ⟨j, rfl⟩ : ∃ j : Nat, jz = j := ⟨l.length - 1 - i, by omega⟩
      have hjn : j = l.length - 1 - i := by omega
      have hij : i < j := by omega
      have hjl : j < l.length := by omega
      have hil : i < l.length := by omega
      have hdl := HI.out.2.2.1
      obtain ⟨a, ha⟩ : ∃ a, d[i]? = some a := ⟨_, List.getElem?_eq_getElem (by omega)⟩
      obtain ⟨b, hb⟩ : ∃ b, d[j]? = some b := ⟨_, List.getElem?_eq_getElem (by omega)⟩
      have hown := HI.out.1
      have ci0 : wr.cell? ⟨g, i * 2, none⟩ = some (.string a.1) := by rw [hown.cellAt _ (by omega)]; exact (cells_gift d i a ha).1
      have ci1 : wr.cell? ⟨g, i * 2 + 1, none⟩ = some (.string a.2) := by rw [hown.cellAt _ (by omega)]; exact (cells_gift d i a ha).2
      have cj0 : wr.cell? ⟨g, j * 2, none⟩ = some (.string b.1) := by rw [hown.cellAt _ (by omega)]; exact (cells_gift d j b hb).1
      have cj1 : wr.cell? ⟨g, j * 2 + 1, none⟩ = some (.string b.2) := by rw [hown.cellAt _ (by omega)]; exact (cells_gift d j b hb).2
      have fz : ∀ o, wr.frozen? ⟨g, o, none⟩ = false := fun o => hown.frozenAt o
      have HR : Hid (RevAt l ((d.set i b).set j a) (i + 1)) := by rw [Hid, hjn]; exact HI.out.2.2.step (by omega) a b ha (by rw [← hjn]; exact hb)
      have HP : Hid (OwnGifts ((((wr.setCell ⟨g, i * 2, none⟩ (.string b.1)).setCell ⟨g, i * 2 + 1, none⟩ (.string b.2)).setCell ⟨g, j * 2, none⟩ (.string a.1)).setCell ⟨g, j * 2 + 1, none⟩ (.string a.2)) B g cap ((d.set i b).set j a) l.length ∧ w.grownBy ((((wr.setCell ⟨g, i * 2, none⟩ (.string b.1)).setCell ⟨g, i * 2 + 1, none⟩ (.string b.2)).setCell ⟨g, j * 2, none⟩ (.string a.1)).setCell ⟨g, j * 2 + 1, none⟩ (.string a.2)) (some g)) := by
        obtain ⟨h1, g1⟩ := OwnGifts.put hown i b
        obtain ⟨h2, g2⟩ := OwnGifts.put h1 j a
        exact ⟨h2, grownBy_trans (grownBy_trans HI.out.2.1 g1) g2⟩
      have HJ := hidd hj
      clear hown ha hb hdl hjn hj HI
      go_wp2_with fail
      go_region
      go_wp2_with fail
      go_roundg (l.length - i - 1)
      case rel => exact ⟨i + 1, (j : Int) - 1, _, by simp, rfl, by have := HJ.out; omega, ⟨HP.out.1, ⟨HP.out.2.os, HP.out.2.tape, HP.out.2.output, HP.out.2.size, HP.out.2.block⟩, HR.out⟩, by omega, by omega⟩
      case measure => omega
    · have hd := HI.out.2.2.done (by omega)
      have HE : Hid (OwnGifts wr B g cap l.reverse l.length ∧ w.grownBy wr (some g)) := by rw [← hd]; exact ⟨HI.out.1, HI.out.2.1⟩
      clear HI hd
      go_wp2_with fail
      go_end0
      exact ⟨rfl, HE.out⟩
set_option maxRecDepth 100000 in
theorem reverse_none : Calls Tryd.prog 95 #[.slice none 0 0] w fun e w' => e = .returned (.tuple #[]) ∧ w' = w := by
  go_enter Tryd.func95, Tryd.ntmps95
  go_wp2_with fail
  go_loopg [2, 3] 0 (fun k s2 s3 wr => s2 = .int .i64 0 ∧ s3 = .int .i64 (-1) ∧ wr = w)
  case atStart => exact ⟨rfl, rfl, rfl⟩
  case round =>
    obtain ⟨rfl, rfl, rfl⟩ := hrel
    go_wp2_with fail
    go_end0
    exact ⟨rfl, rfl⟩
theorem reverse_own (l : List Gift) {v : Value} (h : w.ownsRow B 197 2 v l.length (saidCells l)) (hn : l.length ≤ 1000000000000) :
    Calls Tryd.prog 95 #[v] w fun e w' => e = .returned (.tuple #[]) ∧ w'.ownsRow B 197 2 v l.length (saidCells l.reverse) ∧ w.grownBy w' v.ownBlock := by
  by_cases h0 : 0 < l.length
  · obtain ⟨g, cap, rfl, _, _⟩ := h.form h0
    exact reverse_gifts l h hn
  · have e : l = [] := List.eq_nil_of_length_eq_zero (by omega)
    subst e
    rcases h.2 with ⟨rfl, _⟩ | ⟨g, cap, cur, rfl, _⟩
    · exact reverse_none.mono fun e w' ⟨h1, h2⟩ => ⟨h1, by rw [h2]; exact h, by rw [h2]; exact ⟨rfl, rfl, rfl, Nat.le_refl _, fun _ _ _ => rfl⟩⟩
    · exact reverse_gifts [] h hn
set_option maxRecDepth 100000 in
set_option maxHeartbeats 2000000 in
theorem list_any (l : List Gift) (p : Option Addr) (h : GiftsAt w p l) (hn : l.length ≤ 100000) :
    Calls Tryd.prog 52 #[.pointer p] w fun e w' => ∃ v, e = .returned v ∧ Grew w w' ∧ w'.ownsRow w.heap.size 197 2 v l.length (saidCells l) := by
  have H := hidd h
  clear h
  obtain ⟨i0, hi0, hz0, hz1, hz2⟩ := info_parts info_gift
  go_enter Tryd.func52, Tryd.ntmps52
  go_wp2_with fail
  go_loopg [0, 3] l.length (fun k s0 s3 wr => ∃ (rest done : List Gift) (p : Option Addr), s0 = .pointer p ∧ Hid (GiftsR w p rest ∧ l.reverse = done ++ rest ∧ wr.ownsRow w.heap.size 197 2 s3 done.length (saidCells done) ∧ Grew w wr) ∧ rest.length = k)
  case atStart => exact ⟨l.reverse, [], p, rfl, ⟨H.out, rfl, ⟨rfl, .inl ⟨rfl, rfl⟩⟩, Grew.refl w⟩, by simp⟩
  case round =>
    obtain ⟨rest, done, p, rfl, HI, hk⟩ := hrel
    clear H
    cases rest with
    | nil =>
      have e : p = none := HI.out.1
      subst e
      have e2 : done = l.reverse := by have := HI.out.2.1; simpa using this.symm
      have hown := HI.out.2.2.1
      rw [e2] at hown
      have HV : Hid (Calls Tryd.prog 95 #[u3] wr fun e w' => e = .returned (.tuple #[]) ∧ w'.ownsRow w.heap.size 197 2 u3 l.length (saidCells l) ∧ Grew w w') := by
        refine (reverse_own l.reverse hown (by simp; omega)).mono ?_
        rintro e w' ⟨h1, h2, h3⟩
        rw [List.reverse_reverse, List.length_reverse] at h2
        exact ⟨h1, h2, HI.out.2.2.2.grown h3 (fun b hb => (World.ownsRow.lt hown b hb).1)⟩
      clear hown e2 HI
      go_wp2_with fail
      refine HV.out.mono ?_; rintro e w2 ⟨rfl, h2, h3⟩
      have HE := hidd (And.intro h3 h2)
      clear h2 h3
      go_wp2_with fail
      go_ret
      exact ⟨_, rfl, HE.out⟩
    | cons x rest =>
      obtain ⟨b, q, rfl, hb, hq⟩ := HI.out.1
      have hg := HI.out.2.2.2
      have hb2 : wr.heap[b]? = some (.cells #[.string x.1, .string x.2, .pointer q] 199 (0, 0)) := by rw [hg.block b (lt_of_block hb)]; exact hb
      have hown := HI.out.2.2.1
      have hne := ownBlock_ne hown hb2 (by decide)
      have b0 : wr.cell? ⟨b, 0, none⟩ = some (.string x.1) := by simp [World.cell?, hb2]
      have b1 : wr.cell? ⟨b, 1, none⟩ = some (.string x.2) := by simp [World.cell?, hb2]
      have b2 : wr.cell? ⟨b, 2, none⟩ = some (.pointer q) := by simp [World.cell?, hb2]
      have F2 : Hid (∀ o, (wr.alloc o).cell? ⟨b, 2, none⟩ = some (.pointer q)) := fun o => ((Grew.refl wr).alloc o).keeps b2
      have hblt := lt_of_block hb2
      have hdl : done.length ≤ 100000 := by have := congrArg List.length HI.out.2.1; simp at this; omega
      have hw0 : w.heap.size ≤ wr.heap.size := hg.size
      have HQ := hidd hq
      clear hb hb2 hq hg
      go_wp2_with (at_builtin; refine wpList_append_lies _ rfl _ _ 55 rfl w.heap.size 197 i0 _ 2 32 Tryd.underlying55 hi0 hz0 hz1 hz2 rfl (by decide) u3 done.length (saidCells done) rfl (hown.alloc _) ⟨wr.heap.size, 0, none⟩ 1 1 [.string x.1, .string x.2] rfl rfl (World.news_of_block (cs := #[.string x.1, .string x.2]) (t := 197) (fr := (0, 0)) (heap_alloc_new wr _)) (by simp [Value.oneCell']) (by omega) (by unfold maxLen; omega) (by omega) (by simp; omega) (wr.heap.size + 1) (by simp) ?_; intro gg cap w1 hown1 hgrow hat hlt; have fc : w1.cell? ⟨b, 2, none⟩ = some (.pointer q) := (hgrow.cell_far ⟨b, 2, none⟩ (by simp; omega) (Ne.symm hne)).trans (F2.out _))
      have HE : Hid (Grew w w1) := (HI.out.2.2.2.trans ((Grew.refl wr).alloc _)).grown hgrow (fun c hc => (World.ownsRow.lt hown c hc).1)
      have HO : Hid (w1.ownsRow w.heap.size 197 2 (.slice (some ⟨gg, 0, none⟩) (done.length + 1) cap) (done ++ [x]).length (saidCells (done ++ [x]))) := by
        rw [Hid, saidCells_snoc, List.length_append]; exact hown1
      have HR : Hid (l.reverse = (done ++ [x]) ++ rest) := by rw [Hid, HI.out.2.1]; simp
      clear hown1 hgrow hat hlt hown hne HI F2
      go_wp2_with fail
      go_roundg rest.length
      case rel => exact ⟨rest, done ++ [x], q, rfl, ⟨HQ.out, HR.out, HO.out, HE.out⟩, rfl⟩
      case measure => simp at hk; omega
end
end Go.Proofs.YtkkdpafkafjfgaaDoor
namespace Go.Proofs.YtkkdpafkafjfgaaDoor
open Go.RowKit
set_option linter.unusedVariables false
section
variable {X : Far} {w0 w w1 w2 : World} {bm : Nat} {rv : Value} {s : ByteArray} {fuel : Nat} {m : MS} {p : Pat}
def MS.zero : MS := ⟨[], [], 0, [], false⟩
theorem mac_new (w : World) (rv : Value) (s : ByteArray) (fuel : Nat) :
    MacRep (fun _ => none) w w.heap.size rv s fuel MS.zero (w.alloc (.cells (macCells rv s fuel 0 (.slice none 0 0) (.slice none 0 0) none false) 125)) :=
  ⟨.slice none 0 0, .slice none 0 0, none, [], ⟨heap_alloc_new w _, rfl, ⟨rfl, .inl ⟨rfl, rfl⟩⟩, rfl, ⟨rfl, .inl ⟨rfl, rfl⟩⟩, (Grew.refl w).alloc _, Nat.le_refl _, fun b cs e => by cases e⟩⟩
theorem inv_begin {L ways : Nat} (hI : m.choices = [] ∨ True) (ht : m.ticks ≤ fuel) (hf : fuel ≤ NN) (hp : errW p = 0) {a : Nat} (ha : a ≤ L) (hsd : m.said.length ≤ (m.ticks + ways) * NN) (hc : m.cut = false) :
    Inv L fuel ways none { m with given := [], choices := [⟨[⟨0, p, 0⟩], a, []⟩] } := by
  refine ⟨ht, hf, ⟨⟨⟨ha, ?_, ?_, ?_, ?_, ?_, ?_⟩, ⟨_, _, rfl, Or.inl rfl, fun h => by dsimp only at h; omega⟩⟩, trivial⟩, fun h => ?_, hsd⟩
  · rw [cnt_cons, cnt_nil]; simp
  · rw [cnt_cons, cnt_nil]; simp
  · intro t ht
    simp at ht; subst ht; exact Nat.zero_le _
  · intro t ht
    simp at ht; subst ht; exact ⟨by simp, hp, fun h => by simp at h⟩
  · intro t ht
    simp at ht
  · rw [wt_cons, wt_nil]; simp
  · rw [show ({ m with given := [], choices := [⟨[⟨0, p, 0⟩], a, []⟩] } : MS).cut = m.cut from rfl, hc] at h; cases h
def Far.add (X : Far) (b : Nat) (cs : Array Value) : Far := fun x => if x = b then some cs else X x
theorem MacRep.more (h : MacRep X w0 bm rv s fuel m w1) (g : Grew w1 w2) {b : Nat} {cs : Array Value} (hb : w2.heap[b]? = some (.cells cs 197 (0, 0))) (hlt : w1.heap.size ≤ b) : MacRep (X.add b cs) w0 bm rv s fuel m w2 := by
  obtain ⟨sv, cv, gp, vs, h⟩ := h
  have h2 := h.kept g
  refine ⟨sv, cv, gp, vs, ⟨h2.mac, h2.given, h2.own, h2.chs, h2.said, h2.grew, h2.hbm, fun x c e => ?_⟩⟩
  unfold Far.add at e
  by_cases hx : x = b
  · rw [if_pos hx] at e
    cases e
    subst hx
    refine ⟨hb, fun e2 => ?_⟩
    have := (World.ownsRow.lt h.said x e2).2
    omega
  · rw [if_neg hx] at e
    exact h2.far x c e
theorem MacRep.far_lt (h : MacRep X w0 bm rv s fuel m w) {b : Nat} {cs : Array Value} (e : X b = some cs) : b < w.heap.size := by
  obtain ⟨sv, cv, gp, vs, h⟩ := h
  exact lt_of_block (h.far b cs e).1
def GiftsIn (X : Far) (B : Nat) (v : Value) (l : List Gift) : Prop :=
  (v = .slice none 0 0 ∧ l = []) ∨ ∃ g cap cur, v = .slice (some ⟨g, 0, none⟩) l.length cap ∧ X g = some cur ∧ B ≤ g ∧ l.length ≤ cap ∧ cap ≤ maxLen ∧ cur.size = cap * 2 ∧ cur.toList.take (l.length * 2) = saidCells l
theorem GiftsIn.own {B : Nat} {v : Value} {l : List Gift} (h : GiftsIn X B v l) (hm : MacRep X w0 bm rv s fuel m w) : w.ownsRow B 197 2 v l.length (saidCells l) := by
  obtain ⟨sv, cv, gp, vs, hm⟩ := hm
  refine ⟨saidCells_length l, ?_⟩
  rcases h with ⟨rfl, rfl⟩ | ⟨g, cap, cur, rfl, h1, h2, h3, h4, h5, h6⟩
  · exact .inl ⟨rfl, rfl⟩
  · exact .inr ⟨g, cap, cur, rfl, h2, (hm.far g cur h1).1, h3, h4, h5, h6⟩
theorem GiftsIn.mono {X' : Far} {B : Nat} {v : Value} {l : List Gift} (h : GiftsIn X B v l) (hX : ∀ b cs, X b = some cs → X' b = some cs) : GiftsIn X' B v l := by
  rcases h with h | ⟨g, cap, cur, rfl, h1, h2⟩
  · exact .inl h
  · exact .inr ⟨g, cap, cur, rfl, hX g cur h1, h2⟩
theorem MacRep.aside (h : MacRep X w0 bm rv s fuel m w1) (g : Grew w1 w2) {v : Value} {l : List Gift} (ho : w2.ownsRow w1.heap.size 197 2 v l.length (saidCells l)) (hB : w0.heap.size ≤ w1.heap.size) :
    ∃ X', MacRep X' w0 bm rv s fuel m w2 ∧ GiftsIn X' w0.heap.size v l ∧ ∀ b cs, X b = some cs → X' b = some cs := by
  rcases ho.2 with ⟨rfl, h0⟩ | ⟨b, cap, cur, rfl, a1, a2, a3, a4, a5, a6⟩
  · have e : l = [] := List.eq_nil_of_length_eq_zero h0
    obtain ⟨sv, cv, gp, vs, h⟩ := h
    exact ⟨X, ⟨sv, cv, gp, vs, h.kept g⟩, .inl ⟨rfl, e⟩, fun _ _ e => e⟩
  · refine ⟨X.add b cur, h.more g a2 a1, .inr ⟨b, cap, cur, rfl, by unfold Far.add; rw [if_pos rfl], by omega, a3, a4, a5, a6⟩, fun c cs e => ?_⟩
    have := h.far_lt e
    unfold Far.add
    rw [if_neg (by omega)]; exact e
theorem TodoAt.kept2 {w' : World} (g : ∀ (b : Nat) (cs : Array Value), w.heap[b]? = some (.cells cs 188 (0, 0)) → w'.heap[b]? = some (.cells cs 188 (0, 0))) : ∀ {k : List Todo} {p : Option Addr}, TodoAt w0 w p k → TodoAt w0 w' p k
  | [], _, h => h
  | t :: k, p, ⟨b, nb, no, q, h1, h2, h3, h4⟩ => ⟨b, nb, no, q, h1, g _ _ h2, h3, h4.kept2 g⟩
theorem GiftsR.kept2 {w' : World} (g : ∀ (b : Nat) (cs : Array Value), w.heap[b]? = some (.cells cs 199 (0, 0)) → w'.heap[b]? = some (.cells cs 199 (0, 0))) : ∀ {l : List Gift} {p : Option Addr}, GiftsR w p l → GiftsR w' p l
  | [], _, h => h
  | x :: l, p, ⟨b, q, h1, h2, h3⟩ => ⟨b, q, h1, g _ _ h2, h3.kept2 g⟩
theorem ChsAt.kept2 {w' : World} (g : ∀ (b : Nat) (cs : Array Value), w.heap[b]? = some (.cells cs 188 (0, 0)) → w'.heap[b]? = some (.cells cs 188 (0, 0)))
    (g2 : ∀ (b : Nat) (cs : Array Value), w.heap[b]? = some (.cells cs 199 (0, 0)) → w'.heap[b]? = some (.cells cs 199 (0, 0))) : ∀ {cs : List Ch} {vs : List Value}, ChsAt w0 w cs vs → ChsAt w0 w' cs vs
  | [], _, h => h
  | c :: cs, vs, ⟨us, kp, gp, h1, h2, h3, h4⟩ => ⟨us, kp, gp, h1, h2.kept2 g g2, h3.kept2 g, GiftsR.kept2 g2 h4⟩
theorem MacRep.grown {w' : World} (h : MacRep X w0 bm rv s fuel m w) {B n : Nat} {v : Value} {xs : List Value} (ho : w.ownsRow B 57 2 v n xs) (hB : w0.heap.size ≤ B) (g : w.grownBy w' v.ownBlock) : MacRep X w0 bm rv s fuel m w' := by
  obtain ⟨sv, cv, gp, vs, h⟩ := h
  have stays : ∀ (t : TypeId), t ≠ 57 → ∀ (b : Nat) (cs : Array Value), w.heap[b]? = some (.cells cs t (0, 0)) → w'.heap[b]? = some (.cells cs t (0, 0)) := fun t ht b cs hb => by
    rw [g.block b (lt_of_block hb) (Ne.symm (ownBlock_ne ho hb ht))]; exact hb
  refine ⟨sv, cv, gp, vs, ⟨stays _ (by decide) _ _ h.mac, GiftsR.kept2 (stays _ (by decide)) h.given, World.ownsRow.kept h.own g (ownBlock_ne2 h.own ho (by decide)), h.chs.kept2 (stays _ (by decide)) (stays _ (by decide)), World.ownsRow.kept h.said g (ownBlock_ne2 h.said ho (by decide)), h.grew.grown g (fun b hb => Nat.le_trans hB (World.ownsRow.lt ho b hb).1), h.hbm, h.far.grown g (fun b cs e => ownBlock_ne ho (h.far b cs e).1 (by decide))⟩⟩
end
end Go.Proofs.YtkkdpafkafjfgaaDoor
