/- The machine's method end: at every node that has none in it. -/
import Derived.Test.YtmkldfjcpmoajabDoorScEnd
import Derived.Lib.LaidTab
import Derived.Shelf.Unicode.PredsPay
namespace Go.Proofs.YtmkldfjcpmoajabDoor
open Go.RowKit
set_option linter.unusedVariables false

/-- The library's table of powers. -/
abbrev TabP (w : World) : Prop := Lib.TabIs Tryd.prog w "internal/strconv.uint64pow10" .u64 Lib.pow10Tab
theorem gPow10 : Tryd.prog.globalNamed "internal/strconv.uint64pow10" = some 1 := by kernel_rfl
theorem TabP.kept {w w' : World} (h : TabP w) (g : Grew w w') : TabP w' := TabIs_below gPow10 h g

theorem Grew.grow {a w : World} (os : Array Obj) (h : Grew a w) : Grew a (Go.Sort.grow w os) :=
  ⟨h.os, h.tape, h.output, by have := h.lt; simp only [Go.Sort.grow, Array.size_append]; omega, fun k hk => by
    have := h.lt
    rw [← h.block k hk, Go.Sort.grow]
    exact Array.getElem?_append_left (by omega)⟩
/-- All that is cut off. -/
theorem shut_end {X : Far} {w0 w : World} {bm : Nat} {rv : Value} {s : ByteArray} {fuel : Nat} {m : MS} {sv cv cv' : Value} {gp : Option Addr} {vs : List Value} (h : MacSt X w0 bm rv s fuel m w sv cv gp vs)
    (hv : w.ownsRow w0.heap.size 76 3 cv' 0 []) : 
    MacRep X w0 bm rv s fuel m.shut ((w.setCell ⟨bm, 7, none⟩ (.bool true)).setCell ⟨bm, 5, none⟩ cv') ∧ Keep w ((w.setCell ⟨bm, 7, none⟩ (.bool true)).setCell ⟨bm, 5, none⟩ cv') := by
  have hb1 := setCell_heap_same h.mac 7 (.bool true)
  have k1 : Keep w (w.setCell ⟨bm, 7, none⟩ (.bool true)) := (Keep.refl w).setCell h.mac (by decide) (by decide) _
  have k2 := k1.setCell hb1 (by decide) (by decide) (o := 5) (sp := none) cv'
  refine ⟨⟨sv, cv', gp, [], ?_, h.given.kept k2, ?_, rfl, ?_, (h.grew.setCell h.hbm _).setCell h.hbm _, h.hbm, (h.far.setCell h.mac (by decide) _ _).setCell hb1 (by decide) _ _⟩, k2⟩
  · rw [setCell_heap_same hb1]; rfl
  · exact ownsRow_setCell_other (ownsRow_setCell_other hv (ownBlock_ne hv h.mac (by decide)) _) (ownBlock_ne hv h.mac (by decide)) _
  · exact ownsRow_setCell_other (ownsRow_setCell_other h.said (ownBlock_ne h.said h.mac (by decide)) _) (ownBlock_ne h.said h.mac (by decide)) _

section
variable {X : Far} {w0 w : World} {bm nb no : Nat} {rv : Value} {s : ByteArray} {fuel : Nat} {m : MS} {p : Pat} {a : Nat}
abbrev EndCalls (X : Far) (w0 : World) (bm : Nat) (rv : Value) (s : ByteArray) (fuel : Nat) (m : MS) (w : World) (nb no : Nat) (p : Pat) (a : Nat) : Prop :=
  Calls Tryd.prog 29 #[.pointer (some ⟨bm, 0, none⟩), .pointer (some ⟨nb, no, none⟩), .int .i64 a] w fun e w' => Ends X w0 bm rv s fuel w (leave s p a m) e w'

theorem EndSays.ends (h : MacRep X w0 bm rv s fuel m w) (h1 : p.kind ≠ 23) (h2 : p.kind ≠ 16) (h3 : p.kind ≠ 17) (hc : EndSays w bm nb no a (endAt s.data.toList p a)) : EndCalls X w0 bm rv s fuel m w nb no p a := by
  refine hc.mono ?_
  rintro e w' ⟨rfl, n, rfl⟩
  have e1 : leave s p a m = (endAt s.data.toList p a, m) := by unfold leave; rw [if_neg h1, if_neg h2, if_neg h3]
  rw [e1]
  obtain ⟨sv, cv, gp, vs, h⟩ := h
  have g := (Grew.refl w).drewN n
  exact ⟨rfl, ⟨sv, cv, gp, vs, h.kept g⟩, Keep.of_grew g⟩

set_option maxRecDepth 100000 in
set_option maxHeartbeats 1000000 in
theorem end_fence (h : MacRep X w0 bm rv s fuel m w) (hp : PatAt w0 nb no p) (hk : p.kind = 16) (hn : m.choices.length ≤ 1000000000) : EndCalls X w0 bm rv s fuel m w nb no p a := by
  have HL := hidd (later_any h 8 a 0 nb no p none [] hp rfl hn)
  obtain ⟨v, hv⟩ := hp.open
  have e1 : leave s p a m = (some a, m.later [⟨8, p, 0⟩] a) := by unfold leave; rw [if_neg (by rw [hk]; omega), if_pos hk]
  obtain ⟨sv, cv, gp, vs, h⟩ := h
  have c1 := h.c1
  have k0 := (hv.1.kept h.grew).c0
  rw [hk] at k0
  have E := hidd e1
  clear h hp hv hk e1
  unfold EndCalls
  go_enter Tryd.func29, Tryd.ntmps29
  go_wp2_with fail
  refine HL.out.mono ?_; rintro e w2 ⟨rfl, h2⟩
  have H2 := hidd h2
  clear h2
  go_wp2_with fail
  go_ret
  rw [E.out]
  exact ⟨rfl, H2.out⟩

set_option maxRecDepth 100000 in
set_option maxHeartbeats 1000000 in
theorem end_abort (h : MacRep X w0 bm rv s fuel m w) (hp : PatAt w0 nb no p) (hk : p.kind = 17) : EndCalls X w0 bm rv s fuel m w nb no p a := by
  obtain ⟨v, hv⟩ := hp.open
  have e1 : leave s p a m = (none, m.shut) := by unfold leave; rw [if_neg (by rw [hk]; omega), if_neg (by rw [hk]; omega), if_pos hk]
  obtain ⟨sv, cv, gp, vs, h⟩ := h
  have c1 := h.c1
  have k0 := (hv.1.kept h.grew).c0
  rw [hk] at k0
  have E := hidd e1
  clear hp hv hk e1
  unfold EndCalls
  have c7 := h.c7
  have f7 := h.free 7
  have d5 : (w.setCell ⟨bm, 7, none⟩ (.bool true)).cell? ⟨bm, 5, none⟩ = some cv := by rw [setCell_cell_other _ _ _ _ (.inr (by simp))]; exact h.c5
  have d6 : (w.setCell ⟨bm, 7, none⟩ (.bool true)).frozen? ⟨bm, 5, none⟩ = false := by rw [setCell_frozen]; exact h.free 5
  rcases h.own.2 with ⟨rfl, hn0⟩ | ⟨g, cap, cur, rfl, g1, g2, g3, g4, g5, g6⟩
  · have HE := hidd (shut_end h (World.ownsRow_nil w _ _ 3))
    clear h hn0
    go_enter Tryd.func29, Tryd.ntmps29
    go_wp2_with fail
    go_ret
    rw [E.out]
    exact ⟨rfl, HE.out⟩
  · have HE := hidd (shut_end h (cv' := .slice (some ⟨g, 0, none⟩) 0 cap) ⟨by simp, .inr ⟨g, cap, cur, rfl, g1, g2, by omega, g4, g5, by simp⟩⟩)
    clear h g1 g2 g3 g4 g5 g6
    go_enter Tryd.func29, Tryd.ntmps29
    go_wp2_with fail
    go_ret
    rw [E.out]
    exact ⟨rfl, HE.out⟩

set_option maxRecDepth 100000 in
set_option maxHeartbeats 1000000 in
theorem end_cursor (h : MacRep X w0 bm rv s fuel m w) (hp : PatAt w0 nb no p) (hk : p.kind = 23) (ha : a ≤ 65536) (hn : m.said.length ≤ 1000000000000) (hT : TabP w0) : EndCalls X w0 bm rv s fuel m w nb no p a := by
  have e1 : leave s p a m = (some a, m.speak (p.name, digText a)) := by unfold leave; rw [if_pos hk]
  obtain ⟨v, hv⟩ := hp.open
  have HI : Hid (∀ w1, Grew w0 w1 → Calls Tryd.prog 46 #[.int .i64 a] w1 fun e w' => e = .returned (.string (digText a)) ∧ Grew w1 w') := fun w1 g => (Tryd.strconv_Itoa (a : Int) (by omega) (by omega) w1 (hT.kept g)).mono (by
    rintro e w' ⟨rfl, k, os, rfl⟩
    refine ⟨?_, ?_⟩
    · have : Lib.itoa (a : Int) = Lib.decDigits a := by unfold Lib.itoa; rw [if_neg (by omega)]; rfl
      rw [this]; rfl
    · exact ((Grew.refl _).drewN k).grow os)
  have HS : Hid (∀ w1, MacRep X w0 bm rv s fuel m w1 → Calls Tryd.prog 41 #[.pointer (some ⟨bm, 0, none⟩), .string p.name, .string (digText a)] w1 fun e w' => e = .returned (.tuple #[]) ∧ MacRep X w0 bm rv s fuel (m.speak (p.name, digText a)) w' ∧ Keep w1 w') := fun w1 h1 => say_any h1 p.name (digText a) hn
  obtain ⟨sv, cv, gp, vs, h⟩ := h
  have c1 := h.c1
  have k0 := (hv.1.kept h.grew).c0
  have k3 := (hv.1.kept h.grew).c3
  rw [hk] at k0
  have HM := hidd h
  have E := hidd e1
  have HV := hidd hv.1
  have HG := hidd h.grew.drew
  have HG2 := hidd (Grew.refl w).drew
  clear hp hv hk e1 h
  unfold EndCalls
  go_enter Tryd.func29, Tryd.ntmps29
  go_wp2_with fail
  go_region_held3 (fun w' => w'.cell? ⟨nb, no + 3, none⟩ = some (.string p.name)) (first | go_keep | exact hnm)
    (first
     | (go_at_call 46; refine (HI.out _ HG.out).mono ?_; rintro e w2 ⟨rfl, g2⟩; have hnm : w2.cell? ⟨nb, no + 3, none⟩ = some (.string p.name) := (HV.out.kept (HG.out.trans g2)).c3; have HM2 : Hid (MacRep X w0 bm rv s fuel m w2 ∧ Keep w w2) := ⟨⟨sv, cv, gp, vs, HM.out.kept (HG2.out.trans g2)⟩, Keep.of_grew (HG2.out.trans g2)⟩)
     | (go_at_call 41; refine (HS.out _ HM2.out.1).mono ?_; rintro e w3 ⟨rfl, h3, k3'⟩; have hnm : w3.cell? ⟨nb, no + 3, none⟩ = some (.string p.name) := (HV.out.kept (by obtain ⟨_, _, _, _, h4⟩ := h3; exact h4.grew)).c3; have H3 : Hid (MacRep X w0 bm rv s fuel (m.speak (p.name, digText a)) w3 ∧ Keep w w3) := ⟨h3, HM2.out.2.trans k3'⟩; clear h3 k3'))
  all_goals
    go_wp2_with fail
    go_ret
    rw [E.out]
    exact ⟨rfl, H3.out.1, H3.out.2⟩

/-- At every node that has none in it. -/
theorem end_any (h : MacRep X w0 bm rv s fuel m w) (hp : PatAt w0 nb no p) (hin : inner p = false) (he : nodeErr p = 0) (hs : s.size ≤ 65536) (ha : a ≤ s.size) (hc : m.choices.length ≤ 1000000000) (hd : m.said.length ≤ 1000000000000) (hT : TabP w0) :
    EndCalls X w0 bm rv s fuel m w nb no p a := by
  obtain ⟨i1, i2, i3, i4, i5, i6, i7, i8, i9⟩ := inner_false hin
  obtain ⟨v, hv⟩ := hp.open
  have hE : EndIn w bm nb no s p a := by
    obtain ⟨sv, cv, gp, vs, h⟩ := h
    have k := hv.1.kept h.grew
    refine ⟨h.c1, k.c0, k.c1, k.c2, k.c3, hs, ha, fun hk => ?_⟩
    unfold nodeErr at he
    rw [if_neg (by omega), if_pos hk] at he
    by_cases ht : 65536 < p.text.size
    · rw [if_pos ht] at he; omega
    · omega
  have hr : 1 ≤ p.kind ∧ p.kind ≤ 24 := by
    unfold nodeErr at he
    by_cases hk : p.kind < 1 ∨ 24 < p.kind
    · rw [if_pos hk] at he; omega
    · omega
  have hnum : p.kind = 2 ∨ p.kind = 8 ∨ p.kind = 9 ∨ p.kind = 10 ∨ p.kind = 11 → 0 ≤ p.n ∧ p.n ≤ 65536 := by
    intro hk
    unfold nodeErr at he
    rw [if_neg (by omega), if_neg (by omega), if_neg (by omega), if_pos hk] at he
    by_cases ht : p.n < 0 ∨ 65536 < p.n
    · rw [if_pos ht] at he; omega
    · omega
  have cases : p.kind = 1 ∨ p.kind = 2 ∨ p.kind = 3 ∨ p.kind = 4 ∨ p.kind = 5 ∨ p.kind = 6 ∨ p.kind = 8 ∨ p.kind = 9 ∨ p.kind = 10 ∨ p.kind = 11 ∨ p.kind = 12 ∨ p.kind = 15 ∨ p.kind = 16 ∨ p.kind = 17 ∨ p.kind = 23 := by omega
  rcases cases with hk | hk | hk | hk | hk | hk | hk | hk | hk | hk | hk | hk | hk | hk | hk
  · exact EndSays.ends h (by omega) (by omega) (by omega) (end_lit hE hk)
  · exact EndSays.ends h (by omega) (by omega) (by omega) (end_len hE hk (hnum (by omega)).1 (hnum (by omega)).2)
  · exact EndSays.ends h (by omega) (by omega) (by omega) (end_any' hE hk)
  · exact EndSays.ends h (by omega) (by omega) (by omega) (end_notany hE hk)
  · exact EndSays.ends h (by omega) (by omega) (by omega) (end_span hE hk)
  · exact EndSays.ends h (by omega) (by omega) (by omega) (end_break hE hk)
  · exact EndSays.ends h (by omega) (by omega) (by omega) (end_tab hE hk (hnum (by omega)).1 (hnum (by omega)).2)
  · exact EndSays.ends h (by omega) (by omega) (by omega) (end_rtab hE hk (hnum (by omega)).1 (hnum (by omega)).2)
  · exact EndSays.ends h (by omega) (by omega) (by omega) (end_pos hE hk (hnum (by omega)).1 (hnum (by omega)).2)
  · exact EndSays.ends h (by omega) (by omega) (by omega) (end_rpos hE hk (hnum (by omega)).1 (hnum (by omega)).2)
  · exact EndSays.ends h (by omega) (by omega) (by omega) (end_rem hE hk)
  · exact EndSays.ends h (by omega) (by omega) (by omega) (end_fail hE hk)
  · exact end_fence h hp hk hc
  · exact end_abort h hp hk
  · exact end_cursor h hp hk (by omega) hd hT
end
end Go.Proofs.YtmkldfjcpmoajabDoor
