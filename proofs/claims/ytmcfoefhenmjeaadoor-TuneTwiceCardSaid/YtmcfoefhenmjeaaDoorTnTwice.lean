/- TuneTwice: the walk. Conditions: what the argument is read as; the library's table. -/
import Derived.Test.YtmcfoefhenmjeaaDoorTnLen
import Derived.Test.YtmcfoefhenmjeaaDoorTnTwiceP
import Derived.Test.YtmcfoefhenmjeaaDoorTnSameR
namespace Go.Proofs.YtmcfoefhenmjeaaDoor
open Go.RowKit
set_option linter.unusedVariables false
theorem form_of' {w : World} {v : Value} {l : List Pat} (h : KidsAt w v l) : ∃ b n c, v = .slice b n c := by
  rcases h with ⟨a, c, rfl, _⟩ | ⟨b, o, c, rfl, _⟩ <;> exact ⟨_, _, _, rfl⟩
section
variable {w : World} {p : Pat} {kv : Value}
theorem simplify_ok' (hp : PatV w kv p) (hT : TabZ w) (h0 : patErr p = 0) :
    Calls Tryd.prog 10 #[.agg #[.int .i64 p.kind, .string p.text, .int .i64 p.n, .string p.name, kv]] w fun e w' => ∃ a n c, e = .returned (.tuple #[.agg #[.int .i64 (simple p).kind, .string (simple p).text, .int .i64 (simple p).n, .string (simple p).name, .slice a n c], .int .i64 0]) ∧ Grew w w' ∧ PatV w' (.slice a n c) (simple p) :=
  (Simplify_any p kv w hp hT).mono fun e w' h => by
    rcases h with ⟨_, a, n, c, h1, h2, h3⟩ | ⟨h, _⟩
    · exact ⟨a, n, c, h1, h3, h2.patV⟩
    · exact absurd h0 h
theorem simplify_bad' (hp : PatV w kv p) (hT : TabZ w) (h0 : patErr p ≠ 0) :
    Calls Tryd.prog 10 #[.agg #[.int .i64 p.kind, .string p.text, .int .i64 p.n, .string p.name, kv]] w fun e w' => e = .returned (.tuple #[.agg #[.int .i64 0, .string ⟨#[]⟩, .int .i64 0, .string ⟨#[]⟩, .slice none 0 0], .int .i64 (patErr p)]) ∧ Grew w w' :=
  (Simplify_any p kv w hp hT).mono fun e w' h => by
    rcases h with ⟨h, _⟩ | ⟨_, h1, h2⟩
    · exact absurd h h0
    · exact ⟨h1, h2⟩
theorem size_told (hp : PatV w kv p) (h0 : patErr p = 0) :
    Calls Tryd.prog 13 #[.agg #[.int .i64 p.kind, .string p.text, .int .i64 p.n, .string p.name, kv]] w fun e w' => e = .returned (.tuple #[.int .i64 (nodesP p), .int .i64 (depthP p), .int .i64 0]) ∧ Grew w w' :=
  (Size_any kv p w hp).mono fun e w' h => by
    obtain ⟨_, h1, h2⟩ := (patErr_iff p).1 h0
    have e1 := sizeW_fits p 1 0 0 (by omega) (by omega) (by omega)
    rw [show 0 + nodesP p = nodesP p by omega, show max 0 (1 + depthP p - 1) = depthP p by omega] at e1
    rw [e1] at h
    exact h
end
section
variable {w : World} {ka : Value} {p : Pat}
set_option maxRecDepth 100000 in
set_option maxHeartbeats 4000000 in
theorem TuneTwice_walk (hp : PatV w ka p) (hT : TabZ w) :
    Calls Tryd.prog 3 #[.agg (p.cells ka)] w fun e w' => e = .returned (.bool true) ∧ Grew w w' := by
  obtain ⟨kb, kn, kc, rfl⟩ := form_of' hp.kids
  have hTk : ∀ w1, Grew w w1 → TabZ w1 := fun w1 g => hT.kept g
  have HAl : Hid (∀ w1, Grew w w1 → Calls Tryd.prog 9 #[] w1 fun e w' => e = .returned (.bool true) ∧ Grew w1 w') := fun w1 g => alive_any w1 (hTk w1 g)
  have HB0 : Hid ((w.alloc (.cells #[.int .i64 p.kind, .string p.text, .int .i64 p.n, .string p.name, .slice kb kn kc] 24)).heap[w.heap.size]? = some (.cells #[.int .i64 p.kind, .string p.text, .int .i64 p.n, .string p.name, .slice kb kn kc] 24 (0, 0))) := heap_alloc_new w _
  have HWr : Hid (∀ w1, Grew w w1 → Calls Tryd.prog 11 #[.agg #[.int .i64 p.kind, .string p.text, .int .i64 p.n, .string p.name, .slice kb kn kc]] w1 fun e w' => e = .returned (.int .i64 (patErr p)) ∧ Grew w1 w') := fun w1 g => Wrong_any _ p w1 (hp.kept g)
  by_cases h0 : patErr p = 0
  · have HSi : Hid (∀ w1, Grew w w1 → Calls Tryd.prog 10 #[.agg #[.int .i64 p.kind, .string p.text, .int .i64 p.n, .string p.name, .slice kb kn kc]] w1 fun e w' => ∃ a n c, e = .returned (.tuple #[.agg #[.int .i64 (simple p).kind, .string (simple p).text, .int .i64 (simple p).n, .string (simple p).name, .slice a n c], .int .i64 0]) ∧ Grew w1 w' ∧ PatV w' (.slice a n c) (simple p)) := fun w1 g => simplify_ok' (hp.kept g) (hTk w1 g) h0
    have hX0 := patErr_simple h0
    have HSz : Hid (∀ w1, Grew w w1 → Calls Tryd.prog 13 #[.agg #[.int .i64 p.kind, .string p.text, .int .i64 p.n, .string p.name, .slice kb kn kc]] w1 fun e w' => e = .returned (.tuple #[.int .i64 (nodesP p), .int .i64 (depthP p), .int .i64 0]) ∧ Grew w1 w') := fun w1 g => size_told (hp.kept g) h0
    have hss := simple_simple h0
    have l1 := simple_nodes p
    have l2 := simple_depth p
    have hb := (patErr_iff p).1 h0
    obtain ⟨X, hX⟩ : ∃ X, simple p = X := ⟨_, rfl⟩
    rw [hX] at HSi hX0 hss l1 l2
    have HS2 : Hid (∀ w1 k, Grew w w1 → PatV w1 k X → Calls Tryd.prog 10 #[.agg #[.int .i64 X.kind, .string X.text, .int .i64 X.n, .string X.name, k]] w1 fun e w' => ∃ a n c, e = .returned (.tuple #[.agg #[.int .i64 X.kind, .string X.text, .int .i64 X.n, .string X.name, .slice a n c], .int .i64 0]) ∧ Grew w1 w' ∧ PatV w' (.slice a n c) X) := fun w1 k g hk => by
      have := simplify_ok' hk (hTk w1 g) hX0
      rw [hss] at this
      exact this
    have HE : Hid (∀ w1 k k', PatV w1 k X → PatV w1 k' X → Calls Tryd.prog 12 #[.agg #[.int .i64 X.kind, .string X.text, .int .i64 X.n, .string X.name, k], .agg #[.int .i64 X.kind, .string X.text, .int .i64 X.n, .string X.name, k']] w1 fun e w' => e = .returned (.bool true) ∧ Grew w1 w') := fun w1 k k' h1 h2 => Same_eq h1 h2
    have HW2 : Hid (∀ w1 k, PatV w1 k X → Calls Tryd.prog 11 #[.agg #[.int .i64 X.kind, .string X.text, .int .i64 X.n, .string X.name, k]] w1 fun e w' => e = .returned (.int .i64 0) ∧ Grew w1 w') := fun w1 k hk => by
      have := Wrong_any k X w1 hk
      rw [hX0] at this
      exact this
    have HZ2 : Hid (∀ w1 k, PatV w1 k X → Calls Tryd.prog 13 #[.agg #[.int .i64 X.kind, .string X.text, .int .i64 X.n, .string X.name, k]] w1 fun e w' => e = .returned (.tuple #[.int .i64 (nodesP X), .int .i64 (depthP X), .int .i64 0]) ∧ Grew w1 w') := fun w1 k hk => size_told hk hX0
    obtain ⟨n1, hn1⟩ : ∃ n, nodesP p = n := ⟨_, rfl⟩
    obtain ⟨d1, hd1⟩ : ∃ n, depthP p = n := ⟨_, rfl⟩
    obtain ⟨n2, hn2⟩ : ∃ n, nodesP X = n := ⟨_, rfl⟩
    obtain ⟨d2, hd2⟩ : ∃ n, depthP X = n := ⟨_, rfl⟩
    have b1 : n1 ≤ 4096 := by rw [← hn1]; exact hb.2.1
    have b2 : d1 ≤ 200 := by rw [← hd1]; exact hb.2.2
    rw [hn1, hd1] at HSz
    rw [hn2, hd2] at HZ2
    rw [hn1, hn2] at l1
    rw [hd1, hd2] at l2
    clear hp hT hTk hX hX0 hss hb hn1 hn2 hd1 hd2 HWr h0
    unfold Pat.cells
    go_enter Tryd.func3, Tryd.ntmps3
    go_wp2_with fail
    refine (HAl.out _ ((Grew.refl w).alloc _)).mono ?_; rintro e w1 ⟨rfl, g1⟩
    have HG := hidd (((Grew.refl w).alloc _).trans g1)
    have HB1 := hidd (heap_kept g1 HB0.out)
    obtain ⟨⟨k0, k1, k2, k3, k4⟩, kf⟩ := five_cells HB1.out
    clear g1 HAl HB0
    go_wp2_with fail
    refine (HSi.out _ HG.out).mono ?_; rintro e w2 ⟨qa, qn, qc, rfl, g2, hq⟩
    have HG2 := hidd ((HG.out.trans g2).alloc (.cells #[.int .i64 X.kind, .string X.text, .int .i64 X.n, .string X.name, .slice qa qn qc] 24))
    have HQ := hidd (hq.kept ((Grew.refl w2).alloc (.cells #[.int .i64 X.kind, .string X.text, .int .i64 X.n, .string X.name, .slice qa qn qc] 24)))
    have HB2 := hidd (heap_more (o := .cells #[.int .i64 X.kind, .string X.text, .int .i64 X.n, .string X.name, .slice qa qn qc] 24) (heap_kept g2 HB1.out))
    have HQB := hidd (heap_alloc_new w2 (.cells #[.int .i64 X.kind, .string X.text, .int .i64 X.n, .string X.name, .slice qa qn qc] 24))
    clear g2 hq HSi k0 k1 k2 k3 k4 kf HB1 HG
    go_wp2_with fail
    refine (HS2.out _ _ HG2.out HQ.out).mono ?_; rintro e w3 ⟨ra, rn, rc, rfl, g3, hr⟩
    have HG3 := hidd (HG2.out.trans g3)
    have HQ3 := hidd (HQ.out.kept g3)
    have HR3 := hidd hr
    have HB3 := hidd (heap_kept g3 HB2.out)
    have HQB3 := hidd (heap_kept g3 HQB.out)
    have j0 : ∀ o, (w3.alloc o).cell? ⟨w2.heap.size, 0, none⟩ = some (.int .i64 X.kind) := fun o => (five_cells (heap_more HQB3.out)).1.1
    have j1 : ∀ o, (w3.alloc o).cell? ⟨w2.heap.size, 1, none⟩ = some (.string X.text) := fun o => (five_cells (heap_more HQB3.out)).1.2.1
    have j2 : ∀ o, (w3.alloc o).cell? ⟨w2.heap.size, 2, none⟩ = some (.int .i64 X.n) := fun o => (five_cells (heap_more HQB3.out)).1.2.2.1
    have j3 : ∀ o, (w3.alloc o).cell? ⟨w2.heap.size, 3, none⟩ = some (.string X.name) := fun o => (five_cells (heap_more HQB3.out)).1.2.2.2.1
    have j4 : ∀ o, (w3.alloc o).cell? ⟨w2.heap.size, 4, none⟩ = some (.slice qa qn qc) := fun o => (five_cells (heap_more HQB3.out)).1.2.2.2.2
    clear g3 hr HS2 HB2 HQB HG2 HQ
    go_wp2_with fail
    refine (HE.out _ _ _ (HQ3.out.kept ((Grew.refl w3).alloc _)) (HR3.out.kept ((Grew.refl w3).alloc _))).mono ?_; rintro e w4 ⟨rfl, g4⟩
    have HG4 := hidd ((HG3.out.alloc _).trans g4)
    have HQ4 := hidd (HQ3.out.kept (((Grew.refl w3).alloc _).trans g4))
    have HB4 := hidd (heap_kept g4 (heap_more HB3.out))
    have HQB4 := hidd (heap_kept g4 (heap_more HQB3.out))
    clear g4 HE HQ3 HR3 HB3 HQB3 HG3 j0 j1 j2 j3 j4
    obtain ⟨⟨k0, k1, k2, k3, k4⟩, kf⟩ := five_cells HQB4.out
    go_wp2_with fail
    refine (HW2.out _ _ HQ4.out).mono ?_; rintro e w5 ⟨rfl, g5⟩
    have HG5 := hidd (HG4.out.trans g5)
    have HQ5 := hidd (HQ4.out.kept g5)
    have HB5 := hidd (heap_kept g5 HB4.out)
    have HQB5 := hidd (heap_kept g5 HQB4.out)
    clear g5 HW2 HQ4 HB4 HQB4 HG4 k0 k1 k2 k3 k4 kf
    obtain ⟨⟨k0, k1, k2, k3, k4⟩, kf⟩ := five_cells HB5.out
    go_wp2_with fail
    refine (HSz.out _ HG5.out).mono ?_; rintro e w6 ⟨rfl, g6⟩
    have HG6 := hidd (HG5.out.trans g6)
    have HQ6 := hidd (HQ5.out.kept g6)
    have HQB6 := hidd (heap_kept g6 HQB5.out)
    clear g6 HSz HQ5 HB5 HQB5 HG5 k0 k1 k2 k3 k4 kf
    obtain ⟨⟨k0, k1, k2, k3, k4⟩, kf⟩ := five_cells HQB6.out
    go_wp2_with fail
    refine (HZ2.out _ _ HQ6.out).mono ?_; rintro e w7 ⟨rfl, g7⟩
    have HG7 := hidd (HG6.out.trans g7)
    clear g7 HZ2 HQ6 HQB6 HG6 k0 k1 k2 k3 k4 kf
    go_wp2_with fail
    go_ret
    exact ⟨rfl, HG7.out⟩
  · have HSb : Hid (∀ w1, Grew w w1 → Calls Tryd.prog 10 #[.agg #[.int .i64 p.kind, .string p.text, .int .i64 p.n, .string p.name, .slice kb kn kc]] w1 fun e w' => e = .returned (.tuple #[.agg #[.int .i64 0, .string ⟨#[]⟩, .int .i64 0, .string ⟨#[]⟩, .slice none 0 0], .int .i64 (patErr p)]) ∧ Grew w1 w') := fun w1 g => simplify_bad' (hp.kept g) (hTk w1 g) h0
    obtain ⟨z, hz⟩ : ∃ z, patErr p = z := ⟨_, rfl⟩
    rw [hz] at HSb HWr
    have kz : (z == 0) = false := by rw [beq_eq_false_iff_ne, ← hz]; exact h0
    clear hp hT hTk h0 hz
    unfold Pat.cells
    go_enter Tryd.func3, Tryd.ntmps3
    go_wp2_with fail
    refine (HAl.out _ ((Grew.refl w).alloc _)).mono ?_; rintro e w1 ⟨rfl, g1⟩
    have HG := hidd (((Grew.refl w).alloc _).trans g1)
    have HB1 := hidd (heap_kept g1 HB0.out)
    obtain ⟨⟨k0, k1, k2, k3, k4⟩, kf⟩ := five_cells HB1.out
    clear g1 HAl HB0
    go_wp2_with fail
    refine (HSb.out _ HG.out).mono ?_; rintro e w2 ⟨rfl, g2⟩
    have HG2 := hidd (HG.out.trans g2)
    have HB2 := hidd (heap_kept g2 HB1.out)
    have j0 : ∀ o, (w2.alloc o).cell? ⟨w.heap.size, 0, none⟩ = some (.int .i64 p.kind) := fun o => (five_cells (heap_more HB2.out)).1.1
    have j1 : ∀ o, (w2.alloc o).cell? ⟨w.heap.size, 1, none⟩ = some (.string p.text) := fun o => (five_cells (heap_more HB2.out)).1.2.1
    have j2 : ∀ o, (w2.alloc o).cell? ⟨w.heap.size, 2, none⟩ = some (.int .i64 p.n) := fun o => (five_cells (heap_more HB2.out)).1.2.2.1
    have j3 : ∀ o, (w2.alloc o).cell? ⟨w.heap.size, 3, none⟩ = some (.string p.name) := fun o => (five_cells (heap_more HB2.out)).1.2.2.2.1
    have j4 : ∀ o, (w2.alloc o).cell? ⟨w.heap.size, 4, none⟩ = some (.slice kb kn kc) := fun o => (five_cells (heap_more HB2.out)).1.2.2.2.2
    clear g2 HSb k0 k1 k2 k3 k4 kf HB1 HG
    go_wp2_with fail
    refine (HWr.out _ (HG2.out.alloc _)).mono ?_; rintro e w3 ⟨rfl, g3⟩
    have HG3 := hidd ((HG2.out.alloc _).trans g3)
    clear g3
    go_wp2_with fail
    go_ret
    exact ⟨by simp, HG3.out⟩
end
end Go.Proofs.YtmcfoefhenmjeaaDoor
