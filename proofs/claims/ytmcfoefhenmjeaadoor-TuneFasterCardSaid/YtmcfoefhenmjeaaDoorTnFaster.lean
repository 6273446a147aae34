/- TuneFaster: the walk. Conditions: what the arguments are read as; the library's tables. -/
import Derived.Test.YtmcfoefhenmjeaaDoorTnTold
namespace Go.Proofs.YtmcfoefhenmjeaaDoor
open Go.RowKit
set_option linter.unusedVariables false
section
variable {R : List Rule} {w : World} {rv ka : Value} {p : Pat} {s : ByteArray}
set_option maxRecDepth 100000 in
set_option maxHeartbeats 4000000 in
theorem TuneFaster_walk (anch : Bool) (fuel : Int) (hR : RulesAt w rv R) (hp : PatV w ka p) (hs : s.size ≤ maxLen) (hf : -9223372036854775808 ≤ fuel ∧ fuel ≤ 9223372036854775807) (hT : Tabs w) :
    Calls Tryd.prog 5 #[rv, .agg (p.cells ka), .string s, .bool anch, .int .i64 fuel] w fun e w' => e = .returned (.bool true) ∧ Grew w w' := by
  obtain ⟨ra, rc, rfl, _⟩ := hR.len
  obtain ⟨kb, kn, kc, rfl⟩ := form_of hp.kids
  have hTk : ∀ w1, Grew w w1 → Tabs w1 := fun w1 g => ⟨hT.1.kept g, hT.2.kept g⟩
  have HAl : Hid (∀ w1, Grew w w1 → Calls Tryd.prog 9 #[] w1 fun e w' => e = .returned (.bool true) ∧ Grew w1 w') := fun w1 g => alive_any w1 (hTk w1 g).2
  have HB0 : Hid ((w.alloc (.cells #[.int .i64 p.kind, .string p.text, .int .i64 p.n, .string p.name, .slice kb kn kc] 24)).heap[w.heap.size]? = some (.cells #[.int .i64 p.kind, .string p.text, .int .i64 p.n, .string p.name, .slice kb kn kc] 24 (0, 0))) := heap_alloc_new w _
  by_cases h0 : patErr p = 0
  · have HSi : Hid (∀ w1, Grew w w1 → Calls Tryd.prog 10 #[.agg #[.int .i64 p.kind, .string p.text, .int .i64 p.n, .string p.name, .slice kb kn kc]] w1 fun e w' => ∃ a n c, e = .returned (.tuple #[.agg #[.int .i64 (simple p).kind, .string (simple p).text, .int .i64 (simple p).n, .string (simple p).name, .slice a n c], .int .i64 0]) ∧ Grew w1 w' ∧ PatV w' (.slice a n c) (simple p)) := fun w1 g => simplify_ok (hp.kept g) (hTk w1 g) h0
    have HM : Hid (∀ w1, Grew w w1 → Calls Tryd.prog 19 #[.slice ra R.length rc, .agg #[.int .i64 p.kind, .string p.text, .int .i64 p.n, .string p.name, .slice kb kn kc], .string s, .bool anch, .int .i64 fuel] w1 fun e w' => ∃ ga gc sa sc, e = .returned (.tuple #[.agg #[.bool (matchOf R p s anch fuel).1.isSome, .int .i64 (frm (matchOf R p s anch fuel)), .int .i64 (til (matchOf R p s anch fuel)), .slice ga (giv (matchOf R p s anch fuel)).length gc, .slice sa (matchOf R p s anch fuel).2.1.length sc, .int .i64 (matchOf R p s anch fuel).2.2.1], .int .i64 (matchOf R p s anch fuel).2.2.2]) ∧ Grew w1 w' ∧ GiftsV w' (.slice ga (giv (matchOf R p s anch fuel)).length gc) (giv (matchOf R p s anch fuel)) ∧ GiftsV w' (.slice sa (matchOf R p s anch fuel).2.1.length sc) (matchOf R p s anch fuel).2.1) := fun w1 g => match_told anch fuel (hR.kept g) (hp.kept g) hs hf (hTk w1 g)
    have HN : Hid (∀ w1 kq, Grew w w1 → PatV w1 kq (simple p) → Calls Tryd.prog 19 #[.slice ra R.length rc, .agg #[.int .i64 (simple p).kind, .string (simple p).text, .int .i64 (simple p).n, .string (simple p).name, kq], .string s, .bool anch, .int .i64 fuel] w1 fun e w' => ∃ ga gc sa sc, e = .returned (.tuple #[.agg #[.bool (matchOf R (simple p) s anch fuel).1.isSome, .int .i64 (frm (matchOf R (simple p) s anch fuel)), .int .i64 (til (matchOf R (simple p) s anch fuel)), .slice ga (giv (matchOf R (simple p) s anch fuel)).length gc, .slice sa (matchOf R (simple p) s anch fuel).2.1.length sc, .int .i64 (matchOf R (simple p) s anch fuel).2.2.1], .int .i64 (matchOf R (simple p) s anch fuel).2.2.2]) ∧ Grew w1 w' ∧ GiftsV w' (.slice ga (giv (matchOf R (simple p) s anch fuel)).length gc) (giv (matchOf R (simple p) s anch fuel)) ∧ GiftsV w' (.slice sa (matchOf R (simple p) s anch fuel).2.1.length sc) (matchOf R (simple p) s anch fuel).2.1) := fun w1 kq g hq => match_told anch fuel (hR.kept g) hq hs hf (hTk w1 g)
    have HSG : Hid (∀ w1 v1 v2 l, GiftsV w1 v1 l → GiftsV w1 v2 l → Calls Tryd.prog 20 #[v1, v2] w1 fun e w' => e = .returned (.bool true) ∧ Grew w1 w') := fun w1 v1 v2 l h1 h2 => (SameGifts_any h1 h2).mono fun e w' ⟨he, n, hw⟩ => ⟨by rw [he, decide_eq_true (rfl : l = l)], by rw [hw]; exact (Grew.refl w1).drewN n⟩
    have HE := match_simple (R := R) (p := p) (s := s) (anch := anch) (fuel := fuel)
    obtain ⟨⟨x, sd, t, ea⟩, hA⟩ : ∃ A, matchOf R p s anch fuel = A := ⟨_, rfl⟩
    rw [hA] at HM HE
    clear hR hp hT hTk hA h0 hs hf
    unfold Pat.cells
    by_cases hz : ea = 0
    · subst hz
      obtain ⟨T, hT, hN⟩ := HE rfl
      rw [hN] at HN
      clear HE hN
      dsimp only at HM HN hT
      rw [show frm (x, sd, T, 0) = frm (x, sd, t, 0) from rfl, show til (x, sd, T, 0) = til (x, sd, t, 0) from rfl, show giv (x, sd, T, 0) = giv (x, sd, t, 0) from rfl] at HN
      obtain ⟨fr, hfr⟩ : ∃ y, frm (x, sd, t, 0) = y := ⟨_, rfl⟩
      obtain ⟨ti, hti⟩ : ∃ y, til (x, sd, t, 0) = y := ⟨_, rfl⟩
      obtain ⟨gv, hgv⟩ : ∃ y, giv (x, sd, t, 0) = y := ⟨_, rfl⟩
      obtain ⟨xs, hxs⟩ : ∃ y, x.isSome = y := ⟨_, rfl⟩
      rw [hfr, hti, hgv, hxs] at HM HN
      clear hfr hti hgv hxs
      obtain ⟨X, hX⟩ : ∃ X, simple p = X := ⟨_, rfl⟩
      rw [hX] at HSi HN
      clear hX
      go_enter Tryd.func5, Tryd.ntmps5
      go_wp2_with fail
      refine (HAl.out _ ((Grew.refl w).alloc _)).mono ?_; rintro e w1 ⟨rfl, g1⟩
      have HG := hidd (((Grew.refl w).alloc _).trans g1)
      have HB1 := hidd (heap_kept g1 HB0.out)
      obtain ⟨⟨k0, k1, k2, k3, k4⟩, kf⟩ := five_cells HB1.out
      clear g1 HAl HB0
      go_wp2_with fail
      refine (HSi.out _ HG.out).mono ?_; rintro e w2 ⟨qa, qn, qc, rfl, g2, hq⟩
      have HG2 := hidd ((HG.out.trans g2).alloc (.cells #[.int .i64 X.kind, .string X.text, .int .i64 X.n, .string X.name, .slice qa qn qc] 24))
      have HQ := hidd (hq.kept ((Grew.refl w2).alloc (.cells #[.int .i64 X.kind, .string X.text, .int .i64 X.n, .string X.name, .slice qa qn qc] 24)))
      have HB2 := hidd (heap_kept g2 HB1.out)
      have HQB := hidd (heap_alloc_new w2 (.cells #[.int .i64 X.kind, .string X.text, .int .i64 X.n, .string X.name, .slice qa qn qc] 24))
      have j0 : ∀ o, (w2.alloc o).cell? ⟨w.heap.size, 0, none⟩ = some (.int .i64 p.kind) := fun o => (five_cells (heap_more HB2.out)).1.1
      have j1 : ∀ o, (w2.alloc o).cell? ⟨w.heap.size, 1, none⟩ = some (.string p.text) := fun o => (five_cells (heap_more HB2.out)).1.2.1
      have j2 : ∀ o, (w2.alloc o).cell? ⟨w.heap.size, 2, none⟩ = some (.int .i64 p.n) := fun o => (five_cells (heap_more HB2.out)).1.2.2.1
      have j3 : ∀ o, (w2.alloc o).cell? ⟨w.heap.size, 3, none⟩ = some (.string p.name) := fun o => (five_cells (heap_more HB2.out)).1.2.2.2.1
      have j4 : ∀ o, (w2.alloc o).cell? ⟨w.heap.size, 4, none⟩ = some (.slice kb kn kc) := fun o => (five_cells (heap_more HB2.out)).1.2.2.2.2
      clear g2 hq HSi k0 k1 k2 k3 k4 kf HB1 HG HB2
      go_wp2_with fail
      refine (HM.out _ HG2.out).mono ?_; rintro e w3 ⟨ga, gc, sa, sc, rfl, g3, hv, hv2⟩
      have HG3 := hidd ((HG2.out.trans g3).alloc (.cells #[.bool xs, .int .i64 fr, .int .i64 ti, .slice ga gv.length gc, .slice sa sd.length sc, .int .i64 t] 42))
      have HV3 := hidd (And.intro (hv.kept ((Grew.refl w3).alloc (.cells #[.bool xs, .int .i64 fr, .int .i64 ti, .slice ga gv.length gc, .slice sa sd.length sc, .int .i64 t] 42))) (hv2.kept ((Grew.refl w3).alloc (.cells #[.bool xs, .int .i64 fr, .int .i64 ti, .slice ga gv.length gc, .slice sa sd.length sc, .int .i64 t] 42))))
      have HQ3 := hidd (HQ.out.kept (g3.alloc (.cells #[.bool xs, .int .i64 fr, .int .i64 ti, .slice ga gv.length gc, .slice sa sd.length sc, .int .i64 t] 42)))
      have HQB3 := hidd (heap_kept g3 HQB.out)
      have HMB3 := hidd (heap_alloc_new w3 (.cells #[.bool xs, .int .i64 fr, .int .i64 ti, .slice ga gv.length gc, .slice sa sd.length sc, .int .i64 t] 42))
      clear g3 hv hv2 HM HQB HG2 HQ j0 j1 j2 j3 j4
      have j0 : ∀ o, (w3.alloc o).cell? ⟨w2.heap.size, 0, none⟩ = some (.int .i64 X.kind) := fun o => (five_cells (heap_more HQB3.out)).1.1
      have j1 : ∀ o, (w3.alloc o).cell? ⟨w2.heap.size, 1, none⟩ = some (.string X.text) := fun o => (five_cells (heap_more HQB3.out)).1.2.1
      have j2 : ∀ o, (w3.alloc o).cell? ⟨w2.heap.size, 2, none⟩ = some (.int .i64 X.n) := fun o => (five_cells (heap_more HQB3.out)).1.2.2.1
      have j3 : ∀ o, (w3.alloc o).cell? ⟨w2.heap.size, 3, none⟩ = some (.string X.name) := fun o => (five_cells (heap_more HQB3.out)).1.2.2.2.1
      have j4 : ∀ o, (w3.alloc o).cell? ⟨w2.heap.size, 4, none⟩ = some (.slice qa qn qc) := fun o => (five_cells (heap_more HQB3.out)).1.2.2.2.2
      go_wp2_with fail
      refine (HN.out _ _ HG3.out HQ3.out).mono ?_; rintro e w4 ⟨ga', gc', sa', sc', rfl, g4, hu, hu2⟩
      have HG4 := hidd ((HG3.out.trans g4).alloc (.cells #[.bool xs, .int .i64 fr, .int .i64 ti, .slice ga' gv.length gc', .slice sa' sd.length sc', .int .i64 T] 42))
      have HV4 := hidd (And.intro (HV3.out.1.kept (g4.alloc (.cells #[.bool xs, .int .i64 fr, .int .i64 ti, .slice ga' gv.length gc', .slice sa' sd.length sc', .int .i64 T] 42))) (HV3.out.2.kept (g4.alloc (.cells #[.bool xs, .int .i64 fr, .int .i64 ti, .slice ga' gv.length gc', .slice sa' sd.length sc', .int .i64 T] 42))))
      have HU4 := hidd (And.intro (hu.kept ((Grew.refl w4).alloc (.cells #[.bool xs, .int .i64 fr, .int .i64 ti, .slice ga' gv.length gc', .slice sa' sd.length sc', .int .i64 T] 42))) (hu2.kept ((Grew.refl w4).alloc (.cells #[.bool xs, .int .i64 fr, .int .i64 ti, .slice ga' gv.length gc', .slice sa' sd.length sc', .int .i64 T] 42))))
      have HMB4 := hidd (heap_kept g4 HMB3.out)
      have HNB4 := hidd (heap_alloc_new w4 (.cells #[.bool xs, .int .i64 fr, .int .i64 ti, .slice ga' gv.length gc', .slice sa' sd.length sc', .int .i64 T] 42))
      clear g4 hu hu2 HN HQB3 HMB3 HG3 HQ3 HV3 j0 j1 j2 j3 j4
      have i0 : ∀ o, (w4.alloc o).cell? ⟨w3.heap.size, 0, none⟩ = some (.bool xs) := fun o => (six_cells (heap_more HMB4.out)).1
      have i1 : ∀ o, (w4.alloc o).cell? ⟨w3.heap.size, 1, none⟩ = some (.int .i64 fr) := fun o => (six_cells (heap_more HMB4.out)).2.1
      have i2 : ∀ o, (w4.alloc o).cell? ⟨w3.heap.size, 2, none⟩ = some (.int .i64 ti) := fun o => (six_cells (heap_more HMB4.out)).2.2.1
      have i3 : ∀ o, (w4.alloc o).cell? ⟨w3.heap.size, 3, none⟩ = some (.slice ga gv.length gc) := fun o => (six_cells (heap_more HMB4.out)).2.2.2.1
      have i4 : ∀ o, (w4.alloc o).cell? ⟨w3.heap.size, 4, none⟩ = some (.slice sa sd.length sc) := fun o => (six_cells (heap_more HMB4.out)).2.2.2.2.1
      have i5 : ∀ o, (w4.alloc o).cell? ⟨w3.heap.size, 5, none⟩ = some (.int .i64 t) := fun o => (six_cells (heap_more HMB4.out)).2.2.2.2.2
      go_wp2_with fail
      refine (HSG.out _ _ _ _ HV4.out.1 HU4.out.1).mono ?_; rintro e w5 ⟨rfl, g5⟩
      have HG5 := hidd (HG4.out.trans g5)
      have HV5 := hidd (HV4.out.2.kept g5)
      have HU5 := hidd (HU4.out.2.kept g5)
      obtain ⟨m0, m1, m2, m3, m4, m5⟩ := six_cells (heap_kept g5 (heap_more HMB4.out))
      obtain ⟨n0, n1, n2, n3, n4, n5⟩ := six_cells (heap_kept g5 HNB4.out)
      clear g5 HV4 HU4 HMB4 HNB4 HG4 i0 i1 i2 i3 i4 i5
      go_wp2_with fail
      refine (HSG.out _ _ _ _ HV5.out HU5.out).mono ?_; rintro e w6 ⟨rfl, g6⟩
      have HG6 := hidd (HG5.out.trans g6)
      clear g6
      go_wp2_with fail
      go_ret
      exact ⟨rfl, HG6.out⟩
    · have kz : (ea == 0) = false := by rw [beq_eq_false_iff_ne]; exact hz
      clear hz HE HN
      obtain ⟨X, hX⟩ : ∃ X, simple p = X := ⟨_, rfl⟩
      rw [hX] at HSi
      clear hX
      go_enter Tryd.func5, Tryd.ntmps5
      go_wp2_with fail
      refine (HAl.out _ ((Grew.refl w).alloc _)).mono ?_; rintro e w1 ⟨rfl, g1⟩
      have HG := hidd (((Grew.refl w).alloc _).trans g1)
      have HB1 := hidd (heap_kept g1 HB0.out)
      obtain ⟨⟨k0, k1, k2, k3, k4⟩, kf⟩ := five_cells HB1.out
      clear g1 HAl HB0
      go_wp2_with fail
      refine (HSi.out _ HG.out).mono ?_; rintro e w2 ⟨qa, qn, qc, rfl, g2, hq⟩
      have HG2 := hidd ((HG.out.trans g2).alloc (.cells #[.int .i64 X.kind, .string X.text, .int .i64 X.n, .string X.name, .slice qa qn qc] 24))
      have HQ := hidd (hq.kept ((Grew.refl w2).alloc (.cells #[.int .i64 X.kind, .string X.text, .int .i64 X.n, .string X.name, .slice qa qn qc] 24)))
      have HB2 := hidd (heap_kept g2 HB1.out)
      have HQB := hidd (heap_alloc_new w2 (.cells #[.int .i64 X.kind, .string X.text, .int .i64 X.n, .string X.name, .slice qa qn qc] 24))
      have j0 : ∀ o, (w2.alloc o).cell? ⟨w.heap.size, 0, none⟩ = some (.int .i64 p.kind) := fun o => (five_cells (heap_more HB2.out)).1.1
      have j1 : ∀ o, (w2.alloc o).cell? ⟨w.heap.size, 1, none⟩ = some (.string p.text) := fun o => (five_cells (heap_more HB2.out)).1.2.1
      have j2 : ∀ o, (w2.alloc o).cell? ⟨w.heap.size, 2, none⟩ = some (.int .i64 p.n) := fun o => (five_cells (heap_more HB2.out)).1.2.2.1
      have j3 : ∀ o, (w2.alloc o).cell? ⟨w.heap.size, 3, none⟩ = some (.string p.name) := fun o => (five_cells (heap_more HB2.out)).1.2.2.2.1
      have j4 : ∀ o, (w2.alloc o).cell? ⟨w.heap.size, 4, none⟩ = some (.slice kb kn kc) := fun o => (five_cells (heap_more HB2.out)).1.2.2.2.2
      clear g2 hq HSi k0 k1 k2 k3 k4 kf HB1 HG HB2
      go_wp2_with fail
      refine (HM.out _ HG2.out).mono ?_; rintro e w3 ⟨ga, gc, sa, sc, rfl, g3, hv, hv2⟩
      have HG3 := hidd (HG2.out.trans g3)
      clear g3 hv hv2 HM HQB HG2 HQ j0 j1 j2 j3 j4
      go_wp2_with fail
      go_ret
      exact ⟨rfl, HG3.out.alloc _⟩
  · have HSb : Hid (∀ w1, Grew w w1 → Calls Tryd.prog 10 #[.agg #[.int .i64 p.kind, .string p.text, .int .i64 p.n, .string p.name, .slice kb kn kc]] w1 fun e w' => e = .returned (.tuple #[.agg #[.int .i64 0, .string ⟨#[]⟩, .int .i64 0, .string ⟨#[]⟩, .slice none 0 0], .int .i64 (patErr p)]) ∧ Grew w1 w') := fun w1 g => simplify_bad (hp.kept g) (hTk w1 g) h0
    obtain ⟨z, hz⟩ : ∃ z, patErr p = z := ⟨_, rfl⟩
    rw [hz] at HSb
    have kz : (z == 0) = false := by rw [beq_eq_false_iff_ne, ← hz]; exact h0
    clear hR hp hT hTk h0 hz hs hf
    unfold Pat.cells
    go_enter Tryd.func5, Tryd.ntmps5
    go_wp2_with fail
    refine (HAl.out _ ((Grew.refl w).alloc _)).mono ?_; rintro e w1 ⟨rfl, g1⟩
    have HG := hidd (((Grew.refl w).alloc _).trans g1)
    have HB1 := hidd (heap_kept g1 HB0.out)
    obtain ⟨⟨k0, k1, k2, k3, k4⟩, kf⟩ := five_cells HB1.out
    clear g1 HAl HB0
    go_wp2_with fail
    refine (HSb.out _ HG.out).mono ?_; rintro e w2 ⟨rfl, g2⟩
    have HG2 := hidd (HG.out.trans g2)
    clear g2 HSb k0 k1 k2 k3 k4 kf HB1 HG
    go_wp2_with fail
    go_ret
    exact ⟨rfl, HG2.out.alloc _⟩
end
end Go.Proofs.YtmcfoefhenmjeaaDoor
