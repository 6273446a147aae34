/- TuneSame: the walk. Conditions: what the arguments are read as; the library's tables. -/
import Derived.Test.YtmcfoefhenmjeaaDoorTnTold
namespace Go.Proofs.YtmcfoefhenmjeaaDoor
open Go.RowKit
set_option linter.unusedVariables false
section
variable {R : List Rule} {w : World} {rv ka : Value} {p : Pat} {s : ByteArray}
set_option maxRecDepth 100000 in
set_option maxHeartbeats 4000000 in
theorem TuneSame_walk (at_ : Int) (hR : RulesAt w rv R) (hp : PatV w ka p) (hs : s.size ≤ maxLen) (hat : -9223372036854775808 ≤ at_ ∧ at_ ≤ 9223372036854775807) (hT : Tabs w) :
    Calls Tryd.prog 6 #[rv, .agg (p.cells ka), .string s, .int .i64 at_] w fun e w' => e = .returned (.bool true) ∧ Grew w w' := by
  obtain ⟨ra, rc, rfl, _⟩ := hR.len
  obtain ⟨kb, kn, kc, rfl⟩ := form_of hp.kids
  have hTk : ∀ w1, Grew w w1 → Tabs w1 := fun w1 g => ⟨hT.1.kept g, hT.2.kept g⟩
  have HAl : Hid (∀ w1, Grew w w1 → Calls Tryd.prog 9 #[] w1 fun e w' => e = .returned (.bool true) ∧ Grew w1 w') := fun w1 g => alive_any w1 (hTk w1 g).2
  have HB0 : Hid ((w.alloc (.cells #[.int .i64 p.kind, .string p.text, .int .i64 p.n, .string p.name, .slice kb kn kc] 24)).heap[w.heap.size]? = some (.cells #[.int .i64 p.kind, .string p.text, .int .i64 p.n, .string p.name, .slice kb kn kc] 24 (0, 0))) := heap_alloc_new w _
  by_cases h0 : patErr p = 0
  · have HSi : Hid (∀ w1, Grew w w1 → Calls Tryd.prog 10 #[.agg #[.int .i64 p.kind, .string p.text, .int .i64 p.n, .string p.name, .slice kb kn kc]] w1 fun e w' => ∃ a n c, e = .returned (.tuple #[.agg #[.int .i64 (simple p).kind, .string (simple p).text, .int .i64 (simple p).n, .string (simple p).name, .slice a n c], .int .i64 0]) ∧ Grew w1 w' ∧ PatV w' (.slice a n c) (simple p)) := fun w1 g => simplify_ok (hp.kept g) (hTk w1 g) h0
    have HWp : Hid (∀ w1, Grew w w1 → Calls Tryd.prog 21 #[.slice ra R.length rc, .agg #[.int .i64 p.kind, .string p.text, .int .i64 p.n, .string p.name, .slice kb kn kc], .string s, .int .i64 at_, .int .i64 4096, .int .i64 20000] w1 fun e w' => ∃ va vc, e = .returned (.tuple #[.slice va (waysOf R p s at_ 4096 20000).1.length vc, .bool (waysOf R p s at_ 4096 20000).2.1, .int .i64 (waysOf R p s at_ 4096 20000).2.2]) ∧ Grew w1 w' ∧ WaysV w' (.slice va (waysOf R p s at_ 4096 20000).1.length vc) (waysOf R p s at_ 4096 20000).1) :=
      fun w1 g => ways_told at_ (hR.kept g) (hp.kept g) hs (hTk w1 g)
    have HWq : Hid (∀ w1 kq, Grew w w1 → PatV w1 kq (simple p) → Calls Tryd.prog 21 #[.slice ra R.length rc, .agg #[.int .i64 (simple p).kind, .string (simple p).text, .int .i64 (simple p).n, .string (simple p).name, kq], .string s, .int .i64 at_, .int .i64 4096, .int .i64 20000] w1 fun e w' => ∃ va vc, e = .returned (.tuple #[.slice va (waysOf R (simple p) s at_ 4096 20000).1.length vc, .bool (waysOf R (simple p) s at_ 4096 20000).2.1, .int .i64 (waysOf R (simple p) s at_ 4096 20000).2.2]) ∧ Grew w1 w' ∧ WaysV w' (.slice va (waysOf R (simple p) s at_ 4096 20000).1.length vc) (waysOf R (simple p) s at_ 4096 20000).1) :=
      fun w1 kq g hq => ways_told at_ (hR.kept g) hq hs (hTk w1 g)
    have HE : (waysOf R p s at_ 4096 20000).2.2 = 0 → waysOf R (simple p) s at_ 4096 20000 = waysOf R p s at_ 4096 20000 := ways_simple
    obtain ⟨⟨la, ca, ea⟩, hA⟩ : ∃ A, waysOf R p s at_ 4096 20000 = A := ⟨_, rfl⟩
    obtain ⟨⟨lb, cb, eb⟩, hB⟩ : ∃ A, waysOf R (simple p) s at_ 4096 20000 = A := ⟨_, rfl⟩
    rw [hA] at HWp HE
    rw [hB] at HWq HE
    obtain ⟨X, hX⟩ : ∃ X, simple p = X := ⟨_, rfl⟩
    rw [hX] at HWq HSi
    clear hR hp hT hTk hA hB hX h0 hs
    dsimp only at HWp HWq
    unfold Pat.cells
    by_cases hz : ea = 0
    · subst hz
      have HE := HE rfl
      cases HE
      by_cases hl : (la.length : Int) = 4096
      · have kl : ((la.length : Int) == 4096) = true := by rw [hl]; rfl
        clear hl
        go_enter Tryd.func6, Tryd.ntmps6
        go_wp2_with fail
        refine (HAl.out _ ((Grew.refl w).alloc _)).mono ?_; rintro e w1 ⟨rfl, g1⟩
        have HG := hidd (((Grew.refl w).alloc _).trans g1)
        have HB1 := hidd (heap_kept g1 HB0.out)
        obtain ⟨⟨k0, k1, k2, k3, k4⟩, kf⟩ := five_cells HB1.out
        clear g1 HAl HB0
        go_wp2_with fail
        refine (HSi.out _ HG.out).mono ?_; rintro e w2 ⟨qa, qn, qc, rfl, g2, hq⟩
        have HG2 := hidd ((HG.out.trans g2).alloc (.cells #[.int .i64 X.kind, .string X.text, .int .i64 X.n, .string X.name, .slice qa qn qc] 24))
        have HQ := hidd (hq.kept ((Grew.refl w2).alloc (.cells #[.int .i64 X.kind, .string X.text, .int .i64 X.n, .string X.name, .slice qa qn qc] 24)))
        have HB2 := hidd (heap_kept g2 HB1.out)
        have HQB := hidd (heap_alloc_new w2 (.cells #[.int .i64 X.kind, .string X.text, .int .i64 X.n, .string X.name, .slice qa qn qc] 24))
        have j0 : ∀ o, (w2.alloc o).cell? ⟨w.heap.size, 0, none⟩ = some (.int .i64 p.kind) := fun o => (five_cells (heap_more HB2.out)).1.1
        have j1 : ∀ o, (w2.alloc o).cell? ⟨w.heap.size, 1, none⟩ = some (.string p.text) := fun o => (five_cells (heap_more HB2.out)).1.2.1
        have j2 : ∀ o, (w2.alloc o).cell? ⟨w.heap.size, 2, none⟩ = some (.int .i64 p.n) := fun o => (five_cells (heap_more HB2.out)).1.2.2.1
        have j3 : ∀ o, (w2.alloc o).cell? ⟨w.heap.size, 3, none⟩ = some (.string p.name) := fun o => (five_cells (heap_more HB2.out)).1.2.2.2.1
        have j4 : ∀ o, (w2.alloc o).cell? ⟨w.heap.size, 4, none⟩ = some (.slice kb kn kc) := fun o => (five_cells (heap_more HB2.out)).1.2.2.2.2
        clear g2 hq HSi k0 k1 k2 k3 k4 kf HB1 HG HB2
        go_wp2_with fail
        refine (HWp.out _ HG2.out).mono ?_; rintro e w3 ⟨va, vc, rfl, g3, hv⟩
        have HG3 := hidd (HG2.out.trans g3)
        have HQ3 := hidd (HQ.out.kept g3)
        have HV3 := hidd hv
        have HQB3 := hidd (heap_kept g3 HQB.out)
        obtain ⟨⟨k0, k1, k2, k3, k4⟩, kf⟩ := five_cells HQB3.out
        clear g3 hv HWp HQB HG2 HQ j0 j1 j2 j3 j4
        go_wp2_with fail
        refine (HWq.out _ _ HG3.out HQ3.out).mono ?_; rintro e w4 ⟨ua, uc, rfl, g4, hu⟩
        have HG4 := hidd (HG3.out.trans g4)
        have HV4 := hidd (HV3.out.kept g4)
        have HU4 := hidd hu
        clear g4 hu HWq HQB3 HG3 HQ3 HV3 k0 k1 k2 k3 k4 kf
        go_wp2_with fail
        go_ret
        exact ⟨rfl, HG4.out⟩
      · have kl : ((la.length : Int) == 4096) = false := by rw [beq_eq_false_iff_ne]; exact hl
        clear hl
        go_enter Tryd.func6, Tryd.ntmps6
        go_wp2_with fail
        refine (HAl.out _ ((Grew.refl w).alloc _)).mono ?_; rintro e w1 ⟨rfl, g1⟩
        have HG := hidd (((Grew.refl w).alloc _).trans g1)
        have HB1 := hidd (heap_kept g1 HB0.out)
        obtain ⟨⟨k0, k1, k2, k3, k4⟩, kf⟩ := five_cells HB1.out
        clear g1 HAl HB0
        go_wp2_with fail
        refine (HSi.out _ HG.out).mono ?_; rintro e w2 ⟨qa, qn, qc, rfl, g2, hq⟩
        have HG2 := hidd ((HG.out.trans g2).alloc (.cells #[.int .i64 X.kind, .string X.text, .int .i64 X.n, .string X.name, .slice qa qn qc] 24))
        have HQ := hidd (hq.kept ((Grew.refl w2).alloc (.cells #[.int .i64 X.kind, .string X.text, .int .i64 X.n, .string X.name, .slice qa qn qc] 24)))
        have HB2 := hidd (heap_kept g2 HB1.out)
        have HQB := hidd (heap_alloc_new w2 (.cells #[.int .i64 X.kind, .string X.text, .int .i64 X.n, .string X.name, .slice qa qn qc] 24))
        have j0 : ∀ o, (w2.alloc o).cell? ⟨w.heap.size, 0, none⟩ = some (.int .i64 p.kind) := fun o => (five_cells (heap_more HB2.out)).1.1
        have j1 : ∀ o, (w2.alloc o).cell? ⟨w.heap.size, 1, none⟩ = some (.string p.text) := fun o => (five_cells (heap_more HB2.out)).1.2.1
        have j2 : ∀ o, (w2.alloc o).cell? ⟨w.heap.size, 2, none⟩ = some (.int .i64 p.n) := fun o => (five_cells (heap_more HB2.out)).1.2.2.1
        have j3 : ∀ o, (w2.alloc o).cell? ⟨w.heap.size, 3, none⟩ = some (.string p.name) := fun o => (five_cells (heap_more HB2.out)).1.2.2.2.1
        have j4 : ∀ o, (w2.alloc o).cell? ⟨w.heap.size, 4, none⟩ = some (.slice kb kn kc) := fun o => (five_cells (heap_more HB2.out)).1.2.2.2.2
        clear g2 hq HSi k0 k1 k2 k3 k4 kf HB1 HG HB2
        go_wp2_with fail
        refine (HWp.out _ HG2.out).mono ?_; rintro e w3 ⟨va, vc, rfl, g3, hv⟩
        have HG3 := hidd (HG2.out.trans g3)
        have HQ3 := hidd (HQ.out.kept g3)
        have HV3 := hidd hv
        have HQB3 := hidd (heap_kept g3 HQB.out)
        obtain ⟨⟨k0, k1, k2, k3, k4⟩, kf⟩ := five_cells HQB3.out
        clear g3 hv HWp HQB HG2 HQ j0 j1 j2 j3 j4
        go_wp2_with fail
        refine (HWq.out _ _ HG3.out HQ3.out).mono ?_; rintro e w4 ⟨ua, uc, rfl, g4, hu⟩
        have HG4 := hidd (HG3.out.trans g4)
        have HV4 := hidd (HV3.out.kept g4)
        have HU4 := hidd hu
        clear g4 hu HWq HQB3 HG3 HQ3 HV3 k0 k1 k2 k3 k4 kf
        go_wp2_with fail
        refine (SameWays_any HV4.out HU4.out).mono ?_; rintro e w5 ⟨rfl, n, rfl⟩
        go_wp2_with fail
        go_ret
        exact ⟨by simp, HG4.out.drewN n⟩
    · have kz : (ea == 0) = false := by rw [beq_eq_false_iff_ne]; exact hz
      clear hz HE
      go_enter Tryd.func6, Tryd.ntmps6
      go_wp2_with fail
      refine (HAl.out _ ((Grew.refl w).alloc _)).mono ?_; rintro e w1 ⟨rfl, g1⟩
      have HG := hidd (((Grew.refl w).alloc _).trans g1)
      have HB1 := hidd (heap_kept g1 HB0.out)
      obtain ⟨⟨k0, k1, k2, k3, k4⟩, kf⟩ := five_cells HB1.out
      clear g1 HAl HB0
      go_wp2_with fail
      refine (HSi.out _ HG.out).mono ?_; rintro e w2 ⟨qa, qn, qc, rfl, g2, hq⟩
      have HG2 := hidd ((HG.out.trans g2).alloc (.cells #[.int .i64 X.kind, .string X.text, .int .i64 X.n, .string X.name, .slice qa qn qc] 24))
      have HQ := hidd (hq.kept ((Grew.refl w2).alloc (.cells #[.int .i64 X.kind, .string X.text, .int .i64 X.n, .string X.name, .slice qa qn qc] 24)))
      have HB2 := hidd (heap_kept g2 HB1.out)
      have HQB := hidd (heap_alloc_new w2 (.cells #[.int .i64 X.kind, .string X.text, .int .i64 X.n, .string X.name, .slice qa qn qc] 24))
      have j0 : ∀ o, (w2.alloc o).cell? ⟨w.heap.size, 0, none⟩ = some (.int .i64 p.kind) := fun o => (five_cells (heap_more HB2.out)).1.1
      have j1 : ∀ o, (w2.alloc o).cell? ⟨w.heap.size, 1, none⟩ = some (.string p.text) := fun o => (five_cells (heap_more HB2.out)).1.2.1
      have j2 : ∀ o, (w2.alloc o).cell? ⟨w.heap.size, 2, none⟩ = some (.int .i64 p.n) := fun o => (five_cells (heap_more HB2.out)).1.2.2.1
      have j3 : ∀ o, (w2.alloc o).cell? ⟨w.heap.size, 3, none⟩ = some (.string p.name) := fun o => (five_cells (heap_more HB2.out)).1.2.2.2.1
      have j4 : ∀ o, (w2.alloc o).cell? ⟨w.heap.size, 4, none⟩ = some (.slice kb kn kc) := fun o => (five_cells (heap_more HB2.out)).1.2.2.2.2
      clear g2 hq HSi k0 k1 k2 k3 k4 kf HB1 HG HB2
      go_wp2_with fail
      refine (HWp.out _ HG2.out).mono ?_; rintro e w3 ⟨va, vc, rfl, g3, hv⟩
      have HG3 := hidd (HG2.out.trans g3)
      have HQ3 := hidd (HQ.out.kept g3)
      have HV3 := hidd hv
      have HQB3 := hidd (heap_kept g3 HQB.out)
      obtain ⟨⟨k0, k1, k2, k3, k4⟩, kf⟩ := five_cells HQB3.out
      clear g3 hv HWp HQB HG2 HQ j0 j1 j2 j3 j4
      go_wp2_with fail
      refine (HWq.out _ _ HG3.out HQ3.out).mono ?_; rintro e w4 ⟨ua, uc, rfl, g4, hu⟩
      have HG4 := hidd (HG3.out.trans g4)
      have HV4 := hidd (HV3.out.kept g4)
      have HU4 := hidd hu
      clear g4 hu HWq HQB3 HG3 HQ3 HV3 k0 k1 k2 k3 k4 kf
      go_wp2_with fail
      go_ret
      exact ⟨rfl, HG4.out⟩
  · have HSb : Hid (∀ w1, Grew w w1 → Calls Tryd.prog 10 #[.agg #[.int .i64 p.kind, .string p.text, .int .i64 p.n, .string p.name, .slice kb kn kc]] w1 fun e w' => e = .returned (.tuple #[.agg #[.int .i64 0, .string ⟨#[]⟩, .int .i64 0, .string ⟨#[]⟩, .slice none 0 0], .int .i64 (patErr p)]) ∧ Grew w1 w') := fun w1 g => simplify_bad (hp.kept g) (hTk w1 g) h0
    obtain ⟨z, hz⟩ : ∃ z, patErr p = z := ⟨_, rfl⟩
    rw [hz] at HSb
    have kz : (z == 0) = false := by rw [beq_eq_false_iff_ne, ← hz]; exact h0
    clear hR hp hT hTk h0 hz hs
    unfold Pat.cells
    go_enter Tryd.func6, Tryd.ntmps6
    go_wp2_with fail
    refine (HAl.out _ ((Grew.refl w).alloc _)).mono ?_; rintro e w1 ⟨rfl, g1⟩
    have HG := hidd (((Grew.refl w).alloc _).trans g1)
    have HB1 := hidd (heap_kept g1 HB0.out)
    obtain ⟨⟨k0, k1, k2, k3, k4⟩, kf⟩ := five_cells HB1.out
    clear g1 HAl HB0
    go_wp2_with fail
    refine (HSb.out _ HG.out).mono ?_; rintro e w2 ⟨rfl, g2⟩
    have HG2 := hidd (HG.out.trans g2)
    clear g2 HSb k0 k1 k2 k3 k4 kf HB1 HG
    go_wp2_with fail
    go_ret
    exact ⟨rfl, HG2.out.alloc _⟩
end
end Go.Proofs.YtmcfoefhenmjeaaDoor
