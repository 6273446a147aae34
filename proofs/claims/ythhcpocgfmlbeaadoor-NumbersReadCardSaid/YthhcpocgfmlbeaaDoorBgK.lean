/- scanfailbig: QuoRem, Quo, Rem into a number of its own. -/
import Derived.Test.YthhcpocgfmlbeaaDoorBgI
import Derived.Test.YthhcpocgfmlbeaaDoorBgJ
namespace Go.Proofs.YthhcpocgfmlbeaaDoor
open Go.RowKit
set_option linter.unusedVariables false
theorem ObjAt.but {w w' : World} {a b : Nat} (h : ObjAt w b) (g : But a w w') (hb : b ≠ a) : ObjAt w' b := by
  obtain ⟨n, p, l, c, h1⟩ := h
  exact ⟨n, p, l, c, by rw [g.block b (Array.getElem?_eq_some_iff.1 h1).1 hb]; exact h1⟩
theorem But.fresh {a r : Nat} {w w3 w4 : World} (h : But a w w3) (k : But r w3 w4) (hr : w.heap.size ≤ r) : But a w w4 :=
  ⟨k.os.trans h.os, k.tape.trans h.tape, k.output.trans h.output, Nat.le_trans h.size k.size, fun i hi hn => (k.block i (by have := h.size; omega) (by omega)).trans (h.block i hi hn)⟩
theorem But.fresh' {a r : Nat} {w w3 w4 : World} (h : But r w w3) (k : But a w3 w4) (hr : w.heap.size ≤ r) : But a w w4 :=
  ⟨k.os.trans h.os, k.tape.trans h.tape, k.output.trans h.output, Nat.le_trans h.size k.size, fun i hi hn => (k.block i (by have := h.size; omega) hn).trans (h.block i hi (by omega))⟩
theorem But.grewL {a : Nat} {w0 w w' : World} (g : Grew w0 w) (h : But a w w') : But a w0 w' := (But.of_grew g).trans h
section
variable {w : World} {z x y r : Nat} {X Y : Int}
set_option maxRecDepth 100000 in
set_option maxHeartbeats 4000000 in
theorem QuoRem_own (hz : ObjAt w z) (hr : ObjAt w r) (hx : IntAt w x X) (hy : IntAt w y Y) (hzr : z ≠ r) (hn : nw X.natAbs ≤ 1099511627776) (h0 : Y ≠ 0) (hs : X.natAbs < Y.natAbs ∨ X.natAbs < 18446744073709551616) :
    Calls Tryd.prog 37 #[.pointer (some ⟨z, 0, none⟩), .pointer (some ⟨x, 0, none⟩), .pointer (some ⟨y, 0, none⟩), .pointer (some ⟨r, 0, none⟩)] w fun e w' => e = .returned (.tuple #[.pointer (some ⟨z, 0, none⟩), .pointer (some ⟨r, 0, none⟩)]) ∧ (∃ w3, But z w w3 ∧ But r w3 w') ∧ IntAt w' z (Int.tdiv X Y) ∧ IntAt w' r (Int.tmod X Y) := by
  have HO := hidd (And.intro hz hr)
  obtain ⟨p, c, hh, hp⟩ := hx
  obtain ⟨q, d, hk, hq⟩ := hy
  obtain ⟨⟨k0, k1⟩, _⟩ := two_cells hh
  obtain ⟨⟨j0, j1⟩, _⟩ := two_cells hk
  have HD := hidd (fun k => div_any (w := w.drewN k) (hp.kept ((Grew.refl w).drewN k)) (hq.kept ((Grew.refl w).drewN k)) hn (by omega) hs)
  have HQ : Hid (sgI (decide (X < 0) != decide (Y < 0)) (X.natAbs / Y.natAbs) = Int.tdiv X Y) := sgn_tdiv X Y h0
  have HR : Hid (sgI (decide (X < 0)) (X.natAbs % Y.natAbs) = Int.tmod X Y) := sgn_tmod X Y
  unfold DivEnd at HD
  obtain ⟨s, hs0⟩ : ∃ s, decide (X < 0) = s := ⟨_, rfl⟩
  obtain ⟨t, ht⟩ : ∃ s, decide (Y < 0) = s := ⟨_, rfl⟩
  obtain ⟨n, hn0⟩ : ∃ n, nw X.natAbs = n := ⟨_, rfl⟩
  obtain ⟨m, hm0⟩ : ∃ n, nw Y.natAbs = n := ⟨_, rfl⟩
  rw [hn0] at HD k1
  rw [hm0] at HD j1
  rw [hs0] at k0 HQ HR
  rw [ht] at j0 HQ
  clear hz hr hh hk hp hq hn h0 hs hs0 ht hn0 hm0
  go_enter Tryd.func37, Tryd.ntmps37
  go_wp2_with fail
  go_quiet (fail)
  go_wp2_with fail
  go_region_held3 (fun w' => w'.cell? ⟨x, 1, none⟩ = some (.slice p n c) ∧ w'.cell? ⟨y, 1, none⟩ = some (.slice q m d)) (first | go_keep | with_reducible exact hnm)
    (first
     | (go_at_call 59; refine (HD.out _).mono ?_; rintro e w2 ⟨g2, p2, c2, q2, d2, rfl, hN1, hN2⟩; have hnm : w2.cell? ⟨x, 1, none⟩ = some (.slice p n c) ∧ w2.cell? ⟨y, 1, none⟩ = some (.slice q m d) := ⟨g2.keeps k1, g2.keeps j1⟩; have HN := hidd (And.intro g2 (And.intro hN1 hN2)); clear g2 hN1 hN2))
  all_goals
    have HG2 := hidd (((Grew.refl w).drewN (nq + 1)).trans HN.out.1)
    have HOz := hidd (HO.out.1.kept HG2.out)
    have HOr := hidd (HO.out.2.kept HG2.out)
    go_wp2_with fail
    refine (give_any _ HOz.out HN.out.2.1).mono ?_; rintro e w3 ⟨rfl, b3, i3⟩
    have H3 := hidd (And.intro b3 (And.intro i3 (And.intro (HN.out.2.2.but HOz.out b3) (HOr.out.but b3 (Ne.symm hzr)))))
    clear b3 i3
    go_wp2_with fail
    refine (give_any _ H3.out.2.2.2 H3.out.2.2.1).mono ?_; rintro e w4 ⟨rfl, b4, i4⟩
    have H4 := hidd (And.intro b4 i4)
    clear b4 i4
    go_wp2_with fail
    go_ret2
    refine ⟨rfl, ⟨w3, But.grewL HG2.out H3.out.1, H4.out.1⟩, ?_, ?_⟩
    · have h := H3.out.2.1.but H3.out.2.2.2 hzr H4.out.1
      rw [← HQ.out]; exact h
    · rw [← HR.out]; exact H4.out.2
end
end Go.Proofs.YthhcpocgfmlbeaaDoor
