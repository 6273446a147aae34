/- The document's Node, further paths. Printed. -/
import Derived.Test.YtcmdhgamlhnioaaDoorScWC
namespace Go.Proofs.YtcmdhgamlhnioaaDoor
open Go.RowKit
set_option linter.unusedVariables false
section
variable {p : Pat} {kv : Value} {w : World}
set_option maxRecDepth 100000 in
set_option maxHeartbeats 4000000 in
theorem node_11 (hp : PatV w kv p) (hk : p.kind = 18 ∨ p.kind = 19) (h0 : (p.kids.length < 2)) :
    Calls Tryd.prog 47 #[.agg (p.cells kv)] w fun e w' => e = .returned (.int .i64 5) ∧ Grew w w' := by
  have HBx := hidd (pat_box w p kv)
  have hg0 : Grew w (w.alloc (.cells (p.cells kv) 25)) := (Grew.refl w).alloc _
  have HG0 := hidd hg0
  have hnm := hp.hm
  have hnm2 := hp.ht
  obtain ⟨ka, kc, rfl, hkl⟩ := hp.kids.len
  have HNm : Hid (∀ w1, Grew (w.alloc (.cells (p.cells (.slice ka p.kids.length kc)) 25)) w1 → Calls Tryd.prog 24 #[.string p.name] w1 fun e w' => e = .returned (.bool (named p.name)) ∧ Grew (w.alloc (.cells (p.cells (.slice ka p.kids.length kc)) 25)) w') := fun w1 g => (NamedR_any p.name w1 hnm).mono fun e w' ⟨h1, h2⟩ => ⟨h1, g.trans h2⟩
  have HTx : Hid (∀ w1, Grew (w.alloc (.cells (p.cells (.slice ka p.kids.length kc)) 25)) w1 → Calls Tryd.prog 59 #[.int .i64 p.kind] w1 fun e w' => e = .returned (.bool false) ∧ Grew (w.alloc (.cells (p.cells (.slice ka p.kids.length kc)) 25)) w') := fun w1 g => (texts_any p.kind w1).mono fun e w' ⟨h1, h2⟩ => ⟨h1.trans (by rw [show isTx p.kind = false from by rcases hk with h | h <;> rw [h] <;> rfl]), g.trans h2⟩
  have HNb : Hid (∀ w1, Grew (w.alloc (.cells (p.cells (.slice ka p.kids.length kc)) 25)) w1 → Calls Tryd.prog 60 #[.int .i64 p.kind] w1 fun e w' => e = .returned (.bool false) ∧ Grew (w.alloc (.cells (p.cells (.slice ka p.kids.length kc)) 25)) w') := fun w1 g => (numbers_any p.kind w1).mono fun e w' ⟨h1, h2⟩ => ⟨h1.trans (by rw [show isNb p.kind = false from by rcases hk with h | h <;> rw [h] <;> rfl]), g.trans h2⟩
  have H4 : Hid (∀ w1, Grew (w.alloc (.cells (p.cells (.slice ka p.kids.length kc)) 25)) w1 → Calls Tryd.prog 61 #[.int .i64 p.kind, .slice (some ⟨w1.heap.size, 0, none⟩) 4 4] (w1.alloc (.cells #[.int .i64 21, .int .i64 22, .int .i64 23, .int .i64 24] 3)) fun e w' => e = .returned (.bool false) ∧ Grew (w.alloc (.cells (p.cells (.slice ka p.kids.length kc)) 25)) w') := fun w1 g => (in_later p.kind [(21 : Int), 22, 23, 24] (by decide) w1 g).mono fun e w' ⟨h1, h2⟩ => ⟨h1.trans (by rw [show [(21 : Int), 22, 23, 24].contains p.kind = false from by rcases hk with h | h <;> rw [h] <;> rfl]), h2⟩
  have H2 : Hid (∀ w1, Grew (w.alloc (.cells (p.cells (.slice ka p.kids.length kc)) 25)) w1 → Calls Tryd.prog 61 #[.int .i64 p.kind, .slice (some ⟨w1.heap.size, 0, none⟩) 2 2] (w1.alloc (.cells #[.int .i64 18, .int .i64 19] 3)) fun e w' => e = .returned (.bool true) ∧ Grew (w.alloc (.cells (p.cells (.slice ka p.kids.length kc)) 25)) w') := fun w1 g => (in_later p.kind [(18 : Int), 19] (by decide) w1 g).mono fun e w' ⟨h1, h2⟩ => ⟨h1.trans (by rw [show [(18 : Int), 19].contains p.kind = true from by rcases hk with h | h <;> rw [h] <;> rfl]), h2⟩
  have H3 : Hid (∀ w1, Grew (w.alloc (.cells (p.cells (.slice ka p.kids.length kc)) 25)) w1 → Calls Tryd.prog 61 #[.int .i64 p.kind, .slice (some ⟨w1.heap.size, 0, none⟩) 3 3] (w1.alloc (.cells #[.int .i64 20, .int .i64 21, .int .i64 22] 3)) fun e w' => e = .returned (.bool false) ∧ Grew (w.alloc (.cells (p.cells (.slice ka p.kids.length kc)) 25)) w') := fun w1 g => (in_later p.kind [(20 : Int), 21, 22] (by decide) w1 g).mono fun e w' ⟨h1, h2⟩ => ⟨h1.trans (by rw [show [(20 : Int), 21, 22].contains p.kind = false from by rcases hk with h | h <;> rw [h] <;> rfl]), h2⟩
  have H5 : Hid (∀ w1, Grew (w.alloc (.cells (p.cells (.slice ka p.kids.length kc)) 25)) w1 → Calls Tryd.prog 61 #[.int .i64 p.kind, .slice (some ⟨w1.heap.size, 0, none⟩) 5 5] (w1.alloc (.cells #[.int .i64 18, .int .i64 19, .int .i64 20, .int .i64 21, .int .i64 22] 3)) fun e w' => e = .returned (.bool true) ∧ Grew (w.alloc (.cells (p.cells (.slice ka p.kids.length kc)) 25)) w') := fun w1 g => (in_later p.kind [(18 : Int), 19, 20, 21, 22] (by decide) w1 g).mono fun e w' ⟨h1, h2⟩ => ⟨h1.trans (by rw [show [(18 : Int), 19, 20, 21, 22].contains p.kind = true from by rcases hk with h | h <;> rw [h] <;> rfl]), h2⟩
  obtain ⟨kk, hkk⟩ : ∃ kk, p.kind = kk := ⟨_, rfl⟩
  obtain ⟨nn, hnn⟩ : ∃ nn, p.n = nn := ⟨_, rfl⟩
  obtain ⟨kl, hkl0⟩ : ∃ kl, p.kids.length = kl := ⟨_, rfl⟩
  have hts : p.text.size ≤ 9223372036854775807 := by unfold maxLen at hnm2; omega
  obtain ⟨ts, hts0⟩ : ∃ ts, p.text.size = ts := ⟨_, rfl⟩
  have HTS := hidd hts0
  have r1 : decide (kk < 1) = false := decide_eq_false (by omega)
  have r2 : decide (24 < kk) = false := decide_eq_false (by omega)
  have r3 : (kk == 1) = false := beq_eq_false_iff_ne.2 (by omega)
  rw [hkl0] at h0
  have q9 : decide ((kl : Int) < 2) = true := decide_eq_true (by omega)
  have q10 : decide (kl < 2) = true := decide_eq_true (by omega)
  unfold Pat.cells at HBx HG0 HNm HTx HNb H4 H2 H3 H5 ⊢
  rw [hkk] at HBx HG0 HNm HTx HNb H4 H2 H3 H5 ⊢
  rw [hnn] at HBx HG0 HNm HTx HNb H4 H2 H3 H5 ⊢
  rw [hkl0] at HBx HG0 HNm HTx HNb H4 H2 H3 H5 ⊢
  have hsz : p.text.size = ts := HTS.out
  have hg : Grew (w.alloc (.cells #[.int .i64 kk, .string p.text, .int .i64 nn, .string p.name, .slice ka kl kc] 25)) (w.alloc (.cells #[.int .i64 kk, .string p.text, .int .i64 nn, .string p.name, .slice ka kl kc] 25)) := Grew.refl _
  obtain ⟨c0, c1, c2, c3, c4⟩ := HBx.out _ hg
  clear hk hp hnm hnm2 hg0 hts hkk hnn hkl0 hts0 hkl h0
  go_enter Tryd.func47, Tryd.ntmps47
  go_wp2_with (first
     | (go_at_call 59; with_reducible refine (HTx.out _ hg).mono ?_; rintro e w2 ⟨rfl, hg2⟩; clear hg c0 c1 c2 c3 c4; have hg := hg2; clear hg2; obtain ⟨c0, c1, c2, c3, c4⟩ := HBx.out _ hg)
     | (go_at_call 60; with_reducible refine (HNb.out _ hg).mono ?_; rintro e w2 ⟨rfl, hg2⟩; clear hg c0 c1 c2 c3 c4; have hg := hg2; clear hg2; obtain ⟨c0, c1, c2, c3, c4⟩ := HBx.out _ hg)
     | (go_at_call 24; with_reducible refine (HNm.out _ hg).mono ?_; rintro e w2 ⟨rfl, hg2⟩; clear hg c0 c1 c2 c3 c4; have hg := hg2; clear hg2; obtain ⟨c0, c1, c2, c3, c4⟩ := HBx.out _ hg)
     | (go_at_call 61; first | (with_reducible refine (H4.out _ hg).mono ?_) | (with_reducible refine (H2.out _ hg).mono ?_) | (with_reducible refine (H3.out _ hg).mono ?_) | (with_reducible refine (H5.out _ hg).mono ?_)
        rintro e w2 ⟨rfl, hg2⟩; clear hg c0 c1 c2 c3 c4; have hg := hg2; clear hg2; obtain ⟨c0, c1, c2, c3, c4⟩ := HBx.out _ hg))
  go_ret
  exact ⟨rfl, HG0.out.trans hg⟩
set_option maxRecDepth 100000 in
set_option maxHeartbeats 4000000 in
theorem node_12 (hp : PatV w kv p) (hk : p.kind = 18 ∨ p.kind = 19) (h0 : (¬ p.kids.length < 2)) :
    Calls Tryd.prog 47 #[.agg (p.cells kv)] w fun e w' => e = .returned (.int .i64 0) ∧ Grew w w' := by
  have HBx := hidd (pat_box w p kv)
  have hg0 : Grew w (w.alloc (.cells (p.cells kv) 25)) := (Grew.refl w).alloc _
  have HG0 := hidd hg0
  have hnm := hp.hm
  have hnm2 := hp.ht
  obtain ⟨ka, kc, rfl, hkl⟩ := hp.kids.len
  have HNm : Hid (∀ w1, Grew (w.alloc (.cells (p.cells (.slice ka p.kids.length kc)) 25)) w1 → Calls Tryd.prog 24 #[.string p.name] w1 fun e w' => e = .returned (.bool (named p.name)) ∧ Grew (w.alloc (.cells (p.cells (.slice ka p.kids.length kc)) 25)) w') := fun w1 g => (NamedR_any p.name w1 hnm).mono fun e w' ⟨h1, h2⟩ => ⟨h1, g.trans h2⟩
  have HTx : Hid (∀ w1, Grew (w.alloc (.cells (p.cells (.slice ka p.kids.length kc)) 25)) w1 → Calls Tryd.prog 59 #[.int .i64 p.kind] w1 fun e w' => e = .returned (.bool false) ∧ Grew (w.alloc (.cells (p.cells (.slice ka p.kids.length kc)) 25)) w') := fun w1 g => (texts_any p.kind w1).mono fun e w' ⟨h1, h2⟩ => ⟨h1.trans (by rw [show isTx p.kind = false from by rcases hk with h | h <;> rw [h] <;> rfl]), g.trans h2⟩
  have HNb : Hid (∀ w1, Grew (w.alloc (.cells (p.cells (.slice ka p.kids.length kc)) 25)) w1 → Calls Tryd.prog 60 #[.int .i64 p.kind] w1 fun e w' => e = .returned (.bool false) ∧ Grew (w.alloc (.cells (p.cells (.slice ka p.kids.length kc)) 25)) w') := fun w1 g => (numbers_any p.kind w1).mono fun e w' ⟨h1, h2⟩ => ⟨h1.trans (by rw [show isNb p.kind = false from by rcases hk with h | h <;> rw [h] <;> rfl]), g.trans h2⟩
  have H4 : Hid (∀ w1, Grew (w.alloc (.cells (p.cells (.slice ka p.kids.length kc)) 25)) w1 → Calls Tryd.prog 61 #[.int .i64 p.kind, .slice (some ⟨w1.heap.size, 0, none⟩) 4 4] (w1.alloc (.cells #[.int .i64 21, .int .i64 22, .int .i64 23, .int .i64 24] 3)) fun e w' => e = .returned (.bool false) ∧ Grew (w.alloc (.cells (p.cells (.slice ka p.kids.length kc)) 25)) w') := fun w1 g => (in_later p.kind [(21 : Int), 22, 23, 24] (by decide) w1 g).mono fun e w' ⟨h1, h2⟩ => ⟨h1.trans (by rw [show [(21 : Int), 22, 23, 24].contains p.kind = false from by rcases hk with h | h <;> rw [h] <;> rfl]), h2⟩
  have H2 : Hid (∀ w1, Grew (w.alloc (.cells (p.cells (.slice ka p.kids.length kc)) 25)) w1 → Calls Tryd.prog 61 #[.int .i64 p.kind, .slice (some ⟨w1.heap.size, 0, none⟩) 2 2] (w1.alloc (.cells #[.int .i64 18, .int .i64 19] 3)) fun e w' => e = .returned (.bool true) ∧ Grew (w.alloc (.cells (p.cells (.slice ka p.kids.length kc)) 25)) w') := fun w1 g => (in_later p.kind [(18 : Int), 19] (by decide) w1 g).mono fun e w' ⟨h1, h2⟩ => ⟨h1.trans (by rw [show [(18 : Int), 19].contains p.kind = true from by rcases hk with h | h <;> rw [h] <;> rfl]), h2⟩
  have H3 : Hid (∀ w1, Grew (w.alloc (.cells (p.cells (.slice ka p.kids.length kc)) 25)) w1 → Calls Tryd.prog 61 #[.int .i64 p.kind, .slice (some ⟨w1.heap.size, 0, none⟩) 3 3] (w1.alloc (.cells #[.int .i64 20, .int .i64 21, .int .i64 22] 3)) fun e w' => e = .returned (.bool false) ∧ Grew (w.alloc (.cells (p.cells (.slice ka p.kids.length kc)) 25)) w') := fun w1 g => (in_later p.kind [(20 : Int), 21, 22] (by decide) w1 g).mono fun e w' ⟨h1, h2⟩ => ⟨h1.trans (by rw [show [(20 : Int), 21, 22].contains p.kind = false from by rcases hk with h | h <;> rw [h] <;> rfl]), h2⟩
  have H5 : Hid (∀ w1, Grew (w.alloc (.cells (p.cells (.slice ka p.kids.length kc)) 25)) w1 → Calls Tryd.prog 61 #[.int .i64 p.kind, .slice (some ⟨w1.heap.size, 0, none⟩) 5 5] (w1.alloc (.cells #[.int .i64 18, .int .i64 19, .int .i64 20, .int .i64 21, .int .i64 22] 3)) fun e w' => e = .returned (.bool true) ∧ Grew (w.alloc (.cells (p.cells (.slice ka p.kids.length kc)) 25)) w') := fun w1 g => (in_later p.kind [(18 : Int), 19, 20, 21, 22] (by decide) w1 g).mono fun e w' ⟨h1, h2⟩ => ⟨h1.trans (by rw [show [(18 : Int), 19, 20, 21, 22].contains p.kind = true from by rcases hk with h | h <;> rw [h] <;> rfl]), h2⟩
  obtain ⟨kk, hkk⟩ : ∃ kk, p.kind = kk := ⟨_, rfl⟩
  obtain ⟨nn, hnn⟩ : ∃ nn, p.n = nn := ⟨_, rfl⟩
  obtain ⟨kl, hkl0⟩ : ∃ kl, p.kids.length = kl := ⟨_, rfl⟩
  have hts : p.text.size ≤ 9223372036854775807 := by unfold maxLen at hnm2; omega
  obtain ⟨ts, hts0⟩ : ∃ ts, p.text.size = ts := ⟨_, rfl⟩
  have HTS := hidd hts0
  have r1 : decide (kk < 1) = false := decide_eq_false (by omega)
  have r2 : decide (24 < kk) = false := decide_eq_false (by omega)
  have r3 : (kk == 1) = false := beq_eq_false_iff_ne.2 (by omega)
  rw [hkl0] at h0
  have q9 : decide ((kl : Int) < 2) = false := decide_eq_false (by omega)
  have q10 : decide (kl < 2) = false := decide_eq_false (by omega)
  unfold Pat.cells at HBx HG0 HNm HTx HNb H4 H2 H3 H5 ⊢
  rw [hkk] at HBx HG0 HNm HTx HNb H4 H2 H3 H5 ⊢
  rw [hnn] at HBx HG0 HNm HTx HNb H4 H2 H3 H5 ⊢
  rw [hkl0] at HBx HG0 HNm HTx HNb H4 H2 H3 H5 ⊢
  have hsz : p.text.size = ts := HTS.out
  have hg : Grew (w.alloc (.cells #[.int .i64 kk, .string p.text, .int .i64 nn, .string p.name, .slice ka kl kc] 25)) (w.alloc (.cells #[.int .i64 kk, .string p.text, .int .i64 nn, .string p.name, .slice ka kl kc] 25)) := Grew.refl _
  obtain ⟨c0, c1, c2, c3, c4⟩ := HBx.out _ hg
  clear hk hp hnm hnm2 hg0 hts hkk hnn hkl0 hts0 hkl h0
  go_enter Tryd.func47, Tryd.ntmps47
  go_wp2_with (first
     | (go_at_call 59; with_reducible refine (HTx.out _ hg).mono ?_; rintro e w2 ⟨rfl, hg2⟩; clear hg c0 c1 c2 c3 c4; have hg := hg2; clear hg2; obtain ⟨c0, c1, c2, c3, c4⟩ := HBx.out _ hg)
     | (go_at_call 60; with_reducible refine (HNb.out _ hg).mono ?_; rintro e w2 ⟨rfl, hg2⟩; clear hg c0 c1 c2 c3 c4; have hg := hg2; clear hg2; obtain ⟨c0, c1, c2, c3, c4⟩ := HBx.out _ hg)
     | (go_at_call 24; with_reducible refine (HNm.out _ hg).mono ?_; rintro e w2 ⟨rfl, hg2⟩; clear hg c0 c1 c2 c3 c4; have hg := hg2; clear hg2; obtain ⟨c0, c1, c2, c3, c4⟩ := HBx.out _ hg)
     | (go_at_call 61; first | (with_reducible refine (H4.out _ hg).mono ?_) | (with_reducible refine (H2.out _ hg).mono ?_) | (with_reducible refine (H3.out _ hg).mono ?_) | (with_reducible refine (H5.out _ hg).mono ?_)
        rintro e w2 ⟨rfl, hg2⟩; clear hg c0 c1 c2 c3 c4; have hg := hg2; clear hg2; obtain ⟨c0, c1, c2, c3, c4⟩ := HBx.out _ hg))
  go_ret
  exact ⟨rfl, HG0.out.trans hg⟩
set_option maxRecDepth 100000 in
set_option maxHeartbeats 4000000 in
theorem node_13 (hp : PatV w kv p) (hk : p.kind = 20) (h0 : (p.kids.length ≠ 1)) :
    Calls Tryd.prog 47 #[.agg (p.cells kv)] w fun e w' => e = .returned (.int .i64 5) ∧ Grew w w' := by
  have HBx := hidd (pat_box w p kv)
  have hg0 : Grew w (w.alloc (.cells (p.cells kv) 25)) := (Grew.refl w).alloc _
  have HG0 := hidd hg0
  have hnm := hp.hm
  have hnm2 := hp.ht
  obtain ⟨ka, kc, rfl, hkl⟩ := hp.kids.len
  have HNm : Hid (∀ w1, Grew (w.alloc (.cells (p.cells (.slice ka p.kids.length kc)) 25)) w1 → Calls Tryd.prog 24 #[.string p.name] w1 fun e w' => e = .returned (.bool (named p.name)) ∧ Grew (w.alloc (.cells (p.cells (.slice ka p.kids.length kc)) 25)) w') := fun w1 g => (NamedR_any p.name w1 hnm).mono fun e w' ⟨h1, h2⟩ => ⟨h1, g.trans h2⟩
  have HTx : Hid (∀ w1, Grew (w.alloc (.cells (p.cells (.slice ka p.kids.length kc)) 25)) w1 → Calls Tryd.prog 59 #[.int .i64 p.kind] w1 fun e w' => e = .returned (.bool false) ∧ Grew (w.alloc (.cells (p.cells (.slice ka p.kids.length kc)) 25)) w') := fun w1 g => (texts_any p.kind w1).mono fun e w' ⟨h1, h2⟩ => ⟨h1.trans (by rw [show isTx p.kind = false from by rw [hk]; rfl]), g.trans h2⟩
  have HNb : Hid (∀ w1, Grew (w.alloc (.cells (p.cells (.slice ka p.kids.length kc)) 25)) w1 → Calls Tryd.prog 60 #[.int .i64 p.kind] w1 fun e w' => e = .returned (.bool false) ∧ Grew (w.alloc (.cells (p.cells (.slice ka p.kids.length kc)) 25)) w') := fun w1 g => (numbers_any p.kind w1).mono fun e w' ⟨h1, h2⟩ => ⟨h1.trans (by rw [show isNb p.kind = false from by rw [hk]; rfl]), g.trans h2⟩
  have H4 : Hid (∀ w1, Grew (w.alloc (.cells (p.cells (.slice ka p.kids.length kc)) 25)) w1 → Calls Tryd.prog 61 #[.int .i64 p.kind, .slice (some ⟨w1.heap.size, 0, none⟩) 4 4] (w1.alloc (.cells #[.int .i64 21, .int .i64 22, .int .i64 23, .int .i64 24] 3)) fun e w' => e = .returned (.bool false) ∧ Grew (w.alloc (.cells (p.cells (.slice ka p.kids.length kc)) 25)) w') := fun w1 g => (in_later p.kind [(21 : Int), 22, 23, 24] (by decide) w1 g).mono fun e w' ⟨h1, h2⟩ => ⟨h1.trans (by rw [show [(21 : Int), 22, 23, 24].contains p.kind = false from by rw [hk]; rfl]), h2⟩
  have H2 : Hid (∀ w1, Grew (w.alloc (.cells (p.cells (.slice ka p.kids.length kc)) 25)) w1 → Calls Tryd.prog 61 #[.int .i64 p.kind, .slice (some ⟨w1.heap.size, 0, none⟩) 2 2] (w1.alloc (.cells #[.int .i64 18, .int .i64 19] 3)) fun e w' => e = .returned (.bool false) ∧ Grew (w.alloc (.cells (p.cells (.slice ka p.kids.length kc)) 25)) w') := fun w1 g => (in_later p.kind [(18 : Int), 19] (by decide) w1 g).mono fun e w' ⟨h1, h2⟩ => ⟨h1.trans (by rw [show [(18 : Int), 19].contains p.kind = false from by rw [hk]; rfl]), h2⟩
  have H3 : Hid (∀ w1, Grew (w.alloc (.cells (p.cells (.slice ka p.kids.length kc)) 25)) w1 → Calls Tryd.prog 61 #[.int .i64 p.kind, .slice (some ⟨w1.heap.size, 0, none⟩) 3 3] (w1.alloc (.cells #[.int .i64 20, .int .i64 21, .int .i64 22] 3)) fun e w' => e = .returned (.bool true) ∧ Grew (w.alloc (.cells (p.cells (.slice ka p.kids.length kc)) 25)) w') := fun w1 g => (in_later p.kind [(20 : Int), 21, 22] (by decide) w1 g).mono fun e w' ⟨h1, h2⟩ => ⟨h1.trans (by rw [show [(20 : Int), 21, 22].contains p.kind = true from by rw [hk]; rfl]), h2⟩
  have H5 : Hid (∀ w1, Grew (w.alloc (.cells (p.cells (.slice ka p.kids.length kc)) 25)) w1 → Calls Tryd.prog 61 #[.int .i64 p.kind, .slice (some ⟨w1.heap.size, 0, none⟩) 5 5] (w1.alloc (.cells #[.int .i64 18, .int .i64 19, .int .i64 20, .int .i64 21, .int .i64 22] 3)) fun e w' => e = .returned (.bool true) ∧ Grew (w.alloc (.cells (p.cells (.slice ka p.kids.length kc)) 25)) w') := fun w1 g => (in_later p.kind [(18 : Int), 19, 20, 21, 22] (by decide) w1 g).mono fun e w' ⟨h1, h2⟩ => ⟨h1.trans (by rw [show [(18 : Int), 19, 20, 21, 22].contains p.kind = true from by rw [hk]; rfl]), h2⟩
  obtain ⟨kk, hkk⟩ : ∃ kk, p.kind = kk := ⟨_, rfl⟩
  obtain ⟨nn, hnn⟩ : ∃ nn, p.n = nn := ⟨_, rfl⟩
  obtain ⟨kl, hkl0⟩ : ∃ kl, p.kids.length = kl := ⟨_, rfl⟩
  have hts : p.text.size ≤ 9223372036854775807 := by unfold maxLen at hnm2; omega
  obtain ⟨ts, hts0⟩ : ∃ ts, p.text.size = ts := ⟨_, rfl⟩
  have HTS := hidd hts0
  have r1 : decide (kk < 1) = false := decide_eq_false (by omega)
  have r2 : decide (24 < kk) = false := decide_eq_false (by omega)
  have r3 : (kk == 1) = false := beq_eq_false_iff_ne.2 (by omega)
  rw [hkl0] at h0
  have q7 : ((kl : Int) == 1) = false := beq_eq_false_iff_ne.2 (by omega)
  have q8 : (kl == 1) = false := beq_eq_false_iff_ne.2 (by omega)
  unfold Pat.cells at HBx HG0 HNm HTx HNb H4 H2 H3 H5 ⊢
  rw [hkk] at HBx HG0 HNm HTx HNb H4 H2 H3 H5 ⊢
  rw [hnn] at HBx HG0 HNm HTx HNb H4 H2 H3 H5 ⊢
  rw [hkl0] at HBx HG0 HNm HTx HNb H4 H2 H3 H5 ⊢
  have hsz : p.text.size = ts := HTS.out
  have hg : Grew (w.alloc (.cells #[.int .i64 kk, .string p.text, .int .i64 nn, .string p.name, .slice ka kl kc] 25)) (w.alloc (.cells #[.int .i64 kk, .string p.text, .int .i64 nn, .string p.name, .slice ka kl kc] 25)) := Grew.refl _
  obtain ⟨c0, c1, c2, c3, c4⟩ := HBx.out _ hg
  clear hk hp hnm hnm2 hg0 hts hkk hnn hkl0 hts0 hkl h0
  go_enter Tryd.func47, Tryd.ntmps47
  go_wp2_with (first
     | (go_at_call 59; with_reducible refine (HTx.out _ hg).mono ?_; rintro e w2 ⟨rfl, hg2⟩; clear hg c0 c1 c2 c3 c4; have hg := hg2; clear hg2; obtain ⟨c0, c1, c2, c3, c4⟩ := HBx.out _ hg)
     | (go_at_call 60; with_reducible refine (HNb.out _ hg).mono ?_; rintro e w2 ⟨rfl, hg2⟩; clear hg c0 c1 c2 c3 c4; have hg := hg2; clear hg2; obtain ⟨c0, c1, c2, c3, c4⟩ := HBx.out _ hg)
     | (go_at_call 24; with_reducible refine (HNm.out _ hg).mono ?_; rintro e w2 ⟨rfl, hg2⟩; clear hg c0 c1 c2 c3 c4; have hg := hg2; clear hg2; obtain ⟨c0, c1, c2, c3, c4⟩ := HBx.out _ hg)
     | (go_at_call 61; first | (with_reducible refine (H4.out _ hg).mono ?_) | (with_reducible refine (H2.out _ hg).mono ?_) | (with_reducible refine (H3.out _ hg).mono ?_) | (with_reducible refine (H5.out _ hg).mono ?_)
        rintro e w2 ⟨rfl, hg2⟩; clear hg c0 c1 c2 c3 c4; have hg := hg2; clear hg2; obtain ⟨c0, c1, c2, c3, c4⟩ := HBx.out _ hg))
  go_ret
  exact ⟨rfl, HG0.out.trans hg⟩
set_option maxRecDepth 100000 in
set_option maxHeartbeats 4000000 in
theorem node_14 (hp : PatV w kv p) (hk : p.kind = 20) (h0 : (p.kids.length = 1)) :
    Calls Tryd.prog 47 #[.agg (p.cells kv)] w fun e w' => e = .returned (.int .i64 0) ∧ Grew w w' := by
  have HBx := hidd (pat_box w p kv)
  have hg0 : Grew w (w.alloc (.cells (p.cells kv) 25)) := (Grew.refl w).alloc _
  have HG0 := hidd hg0
  have hnm := hp.hm
  have hnm2 := hp.ht
  obtain ⟨ka, kc, rfl, hkl⟩ := hp.kids.len
  have HNm : Hid (∀ w1, Grew (w.alloc (.cells (p.cells (.slice ka p.kids.length kc)) 25)) w1 → Calls Tryd.prog 24 #[.string p.name] w1 fun e w' => e = .returned (.bool (named p.name)) ∧ Grew (w.alloc (.cells (p.cells (.slice ka p.kids.length kc)) 25)) w') := fun w1 g => (NamedR_any p.name w1 hnm).mono fun e w' ⟨h1, h2⟩ => ⟨h1, g.trans h2⟩
  have HTx : Hid (∀ w1, Grew (w.alloc (.cells (p.cells (.slice ka p.kids.length kc)) 25)) w1 → Calls Tryd.prog 59 #[.int .i64 p.kind] w1 fun e w' => e = .returned (.bool false) ∧ Grew (w.alloc (.cells (p.cells (.slice ka p.kids.length kc)) 25)) w') := fun w1 g => (texts_any p.kind w1).mono fun e w' ⟨h1, h2⟩ => ⟨h1.trans (by rw [show isTx p.kind = false from by rw [hk]; rfl]), g.trans h2⟩
  have HNb : Hid (∀ w1, Grew (w.alloc (.cells (p.cells (.slice ka p.kids.length kc)) 25)) w1 → Calls Tryd.prog 60 #[.int .i64 p.kind] w1 fun e w' => e = .returned (.bool false) ∧ Grew (w.alloc (.cells (p.cells (.slice ka p.kids.length kc)) 25)) w') := fun w1 g => (numbers_any p.kind w1).mono fun e w' ⟨h1, h2⟩ => ⟨h1.trans (by rw [show isNb p.kind = false from by rw [hk]; rfl]), g.trans h2⟩
  have H4 : Hid (∀ w1, Grew (w.alloc (.cells (p.cells (.slice ka p.kids.length kc)) 25)) w1 → Calls Tryd.prog 61 #[.int .i64 p.kind, .slice (some ⟨w1.heap.size, 0, none⟩) 4 4] (w1.alloc (.cells #[.int .i64 21, .int .i64 22, .int .i64 23, .int .i64 24] 3)) fun e w' => e = .returned (.bool false) ∧ Grew (w.alloc (.cells (p.cells (.slice ka p.kids.length kc)) 25)) w') := fun w1 g => (in_later p.kind [(21 : Int), 22, 23, 24] (by decide) w1 g).mono fun e w' ⟨h1, h2⟩ => ⟨h1.trans (by rw [show [(21 : Int), 22, 23, 24].contains p.kind = false from by rw [hk]; rfl]), h2⟩
  have H2 : Hid (∀ w1, Grew (w.alloc (.cells (p.cells (.slice ka p.kids.length kc)) 25)) w1 → Calls Tryd.prog 61 #[.int .i64 p.kind, .slice (some ⟨w1.heap.size, 0, none⟩) 2 2] (w1.alloc (.cells #[.int .i64 18, .int .i64 19] 3)) fun e w' => e = .returned (.bool false) ∧ Grew (w.alloc (.cells (p.cells (.slice ka p.kids.length kc)) 25)) w') := fun w1 g => (in_later p.kind [(18 : Int), 19] (by decide) w1 g).mono fun e w' ⟨h1, h2⟩ => ⟨h1.trans (by rw [show [(18 : Int), 19].contains p.kind = false from by rw [hk]; rfl]), h2⟩
  have H3 : Hid (∀ w1, Grew (w.alloc (.cells (p.cells (.slice ka p.kids.length kc)) 25)) w1 → Calls Tryd.prog 61 #[.int .i64 p.kind, .slice (some ⟨w1.heap.size, 0, none⟩) 3 3] (w1.alloc (.cells #[.int .i64 20, .int .i64 21, .int .i64 22] 3)) fun e w' => e = .returned (.bool true) ∧ Grew (w.alloc (.cells (p.cells (.slice ka p.kids.length kc)) 25)) w') := fun w1 g => (in_later p.kind [(20 : Int), 21, 22] (by decide) w1 g).mono fun e w' ⟨h1, h2⟩ => ⟨h1.trans (by rw [show [(20 : Int), 21, 22].contains p.kind = true from by rw [hk]; rfl]), h2⟩
  have H5 : Hid (∀ w1, Grew (w.alloc (.cells (p.cells (.slice ka p.kids.length kc)) 25)) w1 → Calls Tryd.prog 61 #[.int .i64 p.kind, .slice (some ⟨w1.heap.size, 0, none⟩) 5 5] (w1.alloc (.cells #[.int .i64 18, .int .i64 19, .int .i64 20, .int .i64 21, .int .i64 22] 3)) fun e w' => e = .returned (.bool true) ∧ Grew (w.alloc (.cells (p.cells (.slice ka p.kids.length kc)) 25)) w') := fun w1 g => (in_later p.kind [(18 : Int), 19, 20, 21, 22] (by decide) w1 g).mono fun e w' ⟨h1, h2⟩ => ⟨h1.trans (by rw [show [(18 : Int), 19, 20, 21, 22].contains p.kind = true from by rw [hk]; rfl]), h2⟩
  obtain ⟨kk, hkk⟩ : ∃ kk, p.kind = kk := ⟨_, rfl⟩
  obtain ⟨nn, hnn⟩ : ∃ nn, p.n = nn := ⟨_, rfl⟩
  obtain ⟨kl, hkl0⟩ : ∃ kl, p.kids.length = kl := ⟨_, rfl⟩
  have hts : p.text.size ≤ 9223372036854775807 := by unfold maxLen at hnm2; omega
  obtain ⟨ts, hts0⟩ : ∃ ts, p.text.size = ts := ⟨_, rfl⟩
  have HTS := hidd hts0
  have r1 : decide (kk < 1) = false := decide_eq_false (by omega)
  have r2 : decide (24 < kk) = false := decide_eq_false (by omega)
  have r3 : (kk == 1) = false := beq_eq_false_iff_ne.2 (by omega)
  rw [hkl0] at h0
  have q7 : ((kl : Int) == 1) = true := beq_iff_eq.2 (by omega)
  have q8 : (kl == 1) = true := beq_iff_eq.2 (by omega)
  unfold Pat.cells at HBx HG0 HNm HTx HNb H4 H2 H3 H5 ⊢
  rw [hkk] at HBx HG0 HNm HTx HNb H4 H2 H3 H5 ⊢
  rw [hnn] at HBx HG0 HNm HTx HNb H4 H2 H3 H5 ⊢
  rw [hkl0] at HBx HG0 HNm HTx HNb H4 H2 H3 H5 ⊢
  have hsz : p.text.size = ts := HTS.out
  have hg : Grew (w.alloc (.cells #[.int .i64 kk, .string p.text, .int .i64 nn, .string p.name, .slice ka kl kc] 25)) (w.alloc (.cells #[.int .i64 kk, .string p.text, .int .i64 nn, .string p.name, .slice ka kl kc] 25)) := Grew.refl _
  obtain ⟨c0, c1, c2, c3, c4⟩ := HBx.out _ hg
  clear hk hp hnm hnm2 hg0 hts hkk hnn hkl0 hts0 hkl h0
  go_enter Tryd.func47, Tryd.ntmps47
  go_wp2_with (first
     | (go_at_call 59; with_reducible refine (HTx.out _ hg).mono ?_; rintro e w2 ⟨rfl, hg2⟩; clear hg c0 c1 c2 c3 c4; have hg := hg2; clear hg2; obtain ⟨c0, c1, c2, c3, c4⟩ := HBx.out _ hg)
     | (go_at_call 60; with_reducible refine (HNb.out _ hg).mono ?_; rintro e w2 ⟨rfl, hg2⟩; clear hg c0 c1 c2 c3 c4; have hg := hg2; clear hg2; obtain ⟨c0, c1, c2, c3, c4⟩ := HBx.out _ hg)
     | (go_at_call 24; with_reducible refine (HNm.out _ hg).mono ?_; rintro e w2 ⟨rfl, hg2⟩; clear hg c0 c1 c2 c3 c4; have hg := hg2; clear hg2; obtain ⟨c0, c1, c2, c3, c4⟩ := HBx.out _ hg)
     | (go_at_call 61; first | (with_reducible refine (H4.out _ hg).mono ?_) | (with_reducible refine (H2.out _ hg).mono ?_) | (with_reducible refine (H3.out _ hg).mono ?_) | (with_reducible refine (H5.out _ hg).mono ?_)
        rintro e w2 ⟨rfl, hg2⟩; clear hg c0 c1 c2 c3 c4; have hg := hg2; clear hg2; obtain ⟨c0, c1, c2, c3, c4⟩ := HBx.out _ hg))
  go_ret
  exact ⟨rfl, HG0.out.trans hg⟩
set_option maxRecDepth 100000 in
set_option maxHeartbeats 4000000 in
theorem node_15 (hp : PatV w kv p) (hk : p.kind = 21 ∨ p.kind = 22) (h0 : (named p.name = false)) :
    Calls Tryd.prog 47 #[.agg (p.cells kv)] w fun e w' => e = .returned (.int .i64 7) ∧ Grew w w' := by
  have HBx := hidd (pat_box w p kv)
  have hg0 : Grew w (w.alloc (.cells (p.cells kv) 25)) := (Grew.refl w).alloc _
  have HG0 := hidd hg0
  have hnm := hp.hm
  have hnm2 := hp.ht
  obtain ⟨ka, kc, rfl, hkl⟩ := hp.kids.len
  have HNm : Hid (∀ w1, Grew (w.alloc (.cells (p.cells (.slice ka p.kids.length kc)) 25)) w1 → Calls Tryd.prog 24 #[.string p.name] w1 fun e w' => e = .returned (.bool (named p.name)) ∧ Grew (w.alloc (.cells (p.cells (.slice ka p.kids.length kc)) 25)) w') := fun w1 g => (NamedR_any p.name w1 hnm).mono fun e w' ⟨h1, h2⟩ => ⟨h1, g.trans h2⟩
  have HTx : Hid (∀ w1, Grew (w.alloc (.cells (p.cells (.slice ka p.kids.length kc)) 25)) w1 → Calls Tryd.prog 59 #[.int .i64 p.kind] w1 fun e w' => e = .returned (.bool false) ∧ Grew (w.alloc (.cells (p.cells (.slice ka p.kids.length kc)) 25)) w') := fun w1 g => (texts_any p.kind w1).mono fun e w' ⟨h1, h2⟩ => ⟨h1.trans (by rw [show isTx p.kind = false from by rcases hk with h | h <;> rw [h] <;> rfl]), g.trans h2⟩
  have HNb : Hid (∀ w1, Grew (w.alloc (.cells (p.cells (.slice ka p.kids.length kc)) 25)) w1 → Calls Tryd.prog 60 #[.int .i64 p.kind] w1 fun e w' => e = .returned (.bool false) ∧ Grew (w.alloc (.cells (p.cells (.slice ka p.kids.length kc)) 25)) w') := fun w1 g => (numbers_any p.kind w1).mono fun e w' ⟨h1, h2⟩ => ⟨h1.trans (by rw [show isNb p.kind = false from by rcases hk with h | h <;> rw [h] <;> rfl]), g.trans h2⟩
  have H4 : Hid (∀ w1, Grew (w.alloc (.cells (p.cells (.slice ka p.kids.length kc)) 25)) w1 → Calls Tryd.prog 61 #[.int .i64 p.kind, .slice (some ⟨w1.heap.size, 0, none⟩) 4 4] (w1.alloc (.cells #[.int .i64 21, .int .i64 22, .int .i64 23, .int .i64 24] 3)) fun e w' => e = .returned (.bool true) ∧ Grew (w.alloc (.cells (p.cells (.slice ka p.kids.length kc)) 25)) w') := fun w1 g => (in_later p.kind [(21 : Int), 22, 23, 24] (by decide) w1 g).mono fun e w' ⟨h1, h2⟩ => ⟨h1.trans (by rw [show [(21 : Int), 22, 23, 24].contains p.kind = true from by rcases hk with h | h <;> rw [h] <;> rfl]), h2⟩
  have H2 : Hid (∀ w1, Grew (w.alloc (.cells (p.cells (.slice ka p.kids.length kc)) 25)) w1 → Calls Tryd.prog 61 #[.int .i64 p.kind, .slice (some ⟨w1.heap.size, 0, none⟩) 2 2] (w1.alloc (.cells #[.int .i64 18, .int .i64 19] 3)) fun e w' => e = .returned (.bool false) ∧ Grew (w.alloc (.cells (p.cells (.slice ka p.kids.length kc)) 25)) w') := fun w1 g => (in_later p.kind [(18 : Int), 19] (by decide) w1 g).mono fun e w' ⟨h1, h2⟩ => ⟨h1.trans (by rw [show [(18 : Int), 19].contains p.kind = false from by rcases hk with h | h <;> rw [h] <;> rfl]), h2⟩
  have H3 : Hid (∀ w1, Grew (w.alloc (.cells (p.cells (.slice ka p.kids.length kc)) 25)) w1 → Calls Tryd.prog 61 #[.int .i64 p.kind, .slice (some ⟨w1.heap.size, 0, none⟩) 3 3] (w1.alloc (.cells #[.int .i64 20, .int .i64 21, .int .i64 22] 3)) fun e w' => e = .returned (.bool true) ∧ Grew (w.alloc (.cells (p.cells (.slice ka p.kids.length kc)) 25)) w') := fun w1 g => (in_later p.kind [(20 : Int), 21, 22] (by decide) w1 g).mono fun e w' ⟨h1, h2⟩ => ⟨h1.trans (by rw [show [(20 : Int), 21, 22].contains p.kind = true from by rcases hk with h | h <;> rw [h] <;> rfl]), h2⟩
  have H5 : Hid (∀ w1, Grew (w.alloc (.cells (p.cells (.slice ka p.kids.length kc)) 25)) w1 → Calls Tryd.prog 61 #[.int .i64 p.kind, .slice (some ⟨w1.heap.size, 0, none⟩) 5 5] (w1.alloc (.cells #[.int .i64 18, .int .i64 19, .int .i64 20, .int .i64 21, .int .i64 22] 3)) fun e w' => e = .returned (.bool true) ∧ Grew (w.alloc (.cells (p.cells (.slice ka p.kids.length kc)) 25)) w') := fun w1 g => (in_later p.kind [(18 : Int), 19, 20, 21, 22] (by decide) w1 g).mono fun e w' ⟨h1, h2⟩ => ⟨h1.trans (by rw [show [(18 : Int), 19, 20, 21, 22].contains p.kind = true from by rcases hk with h | h <;> rw [h] <;> rfl]), h2⟩
  rw [h0] at HNm
  obtain ⟨kk, hkk⟩ : ∃ kk, p.kind = kk := ⟨_, rfl⟩
  obtain ⟨nn, hnn⟩ : ∃ nn, p.n = nn := ⟨_, rfl⟩
  obtain ⟨kl, hkl0⟩ : ∃ kl, p.kids.length = kl := ⟨_, rfl⟩
  have hts : p.text.size ≤ 9223372036854775807 := by unfold maxLen at hnm2; omega
  obtain ⟨ts, hts0⟩ : ∃ ts, p.text.size = ts := ⟨_, rfl⟩
  have HTS := hidd hts0
  have r1 : decide (kk < 1) = false := decide_eq_false (by omega)
  have r2 : decide (24 < kk) = false := decide_eq_false (by omega)
  have r3 : (kk == 1) = false := beq_eq_false_iff_ne.2 (by omega)
  unfold Pat.cells at HBx HG0 HNm HTx HNb H4 H2 H3 H5 ⊢
  rw [hkk] at HBx HG0 HNm HTx HNb H4 H2 H3 H5 ⊢
  rw [hnn] at HBx HG0 HNm HTx HNb H4 H2 H3 H5 ⊢
  rw [hkl0] at HBx HG0 HNm HTx HNb H4 H2 H3 H5 ⊢
  have hsz : p.text.size = ts := HTS.out
  have hg : Grew (w.alloc (.cells #[.int .i64 kk, .string p.text, .int .i64 nn, .string p.name, .slice ka kl kc] 25)) (w.alloc (.cells #[.int .i64 kk, .string p.text, .int .i64 nn, .string p.name, .slice ka kl kc] 25)) := Grew.refl _
  obtain ⟨c0, c1, c2, c3, c4⟩ := HBx.out _ hg
  clear hk hp hnm hnm2 hg0 hts hkk hnn hkl0 hts0 hkl h0
  go_enter Tryd.func47, Tryd.ntmps47
  go_wp2_with (first
     | (go_at_call 59; with_reducible refine (HTx.out _ hg).mono ?_; rintro e w2 ⟨rfl, hg2⟩; clear hg c0 c1 c2 c3 c4; have hg := hg2; clear hg2; obtain ⟨c0, c1, c2, c3, c4⟩ := HBx.out _ hg)
     | (go_at_call 60; with_reducible refine (HNb.out _ hg).mono ?_; rintro e w2 ⟨rfl, hg2⟩; clear hg c0 c1 c2 c3 c4; have hg := hg2; clear hg2; obtain ⟨c0, c1, c2, c3, c4⟩ := HBx.out _ hg)
     | (go_at_call 24; with_reducible refine (HNm.out _ hg).mono ?_; rintro e w2 ⟨rfl, hg2⟩; clear hg c0 c1 c2 c3 c4; have hg := hg2; clear hg2; obtain ⟨c0, c1, c2, c3, c4⟩ := HBx.out _ hg)
     | (go_at_call 61; first | (with_reducible refine (H4.out _ hg).mono ?_) | (with_reducible refine (H2.out _ hg).mono ?_) | (with_reducible refine (H3.out _ hg).mono ?_) | (with_reducible refine (H5.out _ hg).mono ?_)
        rintro e w2 ⟨rfl, hg2⟩; clear hg c0 c1 c2 c3 c4; have hg := hg2; clear hg2; obtain ⟨c0, c1, c2, c3, c4⟩ := HBx.out _ hg))
  go_ret
  exact ⟨rfl, HG0.out.trans hg⟩
set_option maxRecDepth 100000 in
set_option maxHeartbeats 4000000 in
theorem node_16 (hp : PatV w kv p) (hk : p.kind = 21 ∨ p.kind = 22) (h0 : (named p.name = true)) (h1 : (p.kids.length ≠ 1)) :
    Calls Tryd.prog 47 #[.agg (p.cells kv)] w fun e w' => e = .returned (.int .i64 5) ∧ Grew w w' := by
  have HBx := hidd (pat_box w p kv)
  have hg0 : Grew w (w.alloc (.cells (p.cells kv) 25)) := (Grew.refl w).alloc _
  have HG0 := hidd hg0
  have hnm := hp.hm
  have hnm2 := hp.ht
  obtain ⟨ka, kc, rfl, hkl⟩ := hp.kids.len
  have HNm : Hid (∀ w1, Grew (w.alloc (.cells (p.cells (.slice ka p.kids.length kc)) 25)) w1 → Calls Tryd.prog 24 #[.string p.name] w1 fun e w' => e = .returned (.bool (named p.name)) ∧ Grew (w.alloc (.cells (p.cells (.slice ka p.kids.length kc)) 25)) w') := fun w1 g => (NamedR_any p.name w1 hnm).mono fun e w' ⟨h1, h2⟩ => ⟨h1, g.trans h2⟩
  have HTx : Hid (∀ w1, Grew (w.alloc (.cells (p.cells (.slice ka p.kids.length kc)) 25)) w1 → Calls Tryd.prog 59 #[.int .i64 p.kind] w1 fun e w' => e = .returned (.bool false) ∧ Grew (w.alloc (.cells (p.cells (.slice ka p.kids.length kc)) 25)) w') := fun w1 g => (texts_any p.kind w1).mono fun e w' ⟨h1, h2⟩ => ⟨h1.trans (by rw [show isTx p.kind = false from by rcases hk with h | h <;> rw [h] <;> rfl]), g.trans h2⟩
  have HNb : Hid (∀ w1, Grew (w.alloc (.cells (p.cells (.slice ka p.kids.length kc)) 25)) w1 → Calls Tryd.prog 60 #[.int .i64 p.kind] w1 fun e w' => e = .returned (.bool false) ∧ Grew (w.alloc (.cells (p.cells (.slice ka p.kids.length kc)) 25)) w') := fun w1 g => (numbers_any p.kind w1).mono fun e w' ⟨h1, h2⟩ => ⟨h1.trans (by rw [show isNb p.kind = false from by rcases hk with h | h <;> rw [h] <;> rfl]), g.trans h2⟩
  have H4 : Hid (∀ w1, Grew (w.alloc (.cells (p.cells (.slice ka p.kids.length kc)) 25)) w1 → Calls Tryd.prog 61 #[.int .i64 p.kind, .slice (some ⟨w1.heap.size, 0, none⟩) 4 4] (w1.alloc (.cells #[.int .i64 21, .int .i64 22, .int .i64 23, .int .i64 24] 3)) fun e w' => e = .returned (.bool true) ∧ Grew (w.alloc (.cells (p.cells (.slice ka p.kids.length kc)) 25)) w') := fun w1 g => (in_later p.kind [(21 : Int), 22, 23, 24] (by decide) w1 g).mono fun e w' ⟨h1, h2⟩ => ⟨h1.trans (by rw [show [(21 : Int), 22, 23, 24].contains p.kind = true from by rcases hk with h | h <;> rw [h] <;> rfl]), h2⟩
  have H2 : Hid (∀ w1, Grew (w.alloc (.cells (p.cells (.slice ka p.kids.length kc)) 25)) w1 → Calls Tryd.prog 61 #[.int .i64 p.kind, .slice (some ⟨w1.heap.size, 0, none⟩) 2 2] (w1.alloc (.cells #[.int .i64 18, .int .i64 19] 3)) fun e w' => e = .returned (.bool false) ∧ Grew (w.alloc (.cells (p.cells (.slice ka p.kids.length kc)) 25)) w') := fun w1 g => (in_later p.kind [(18 : Int), 19] (by decide) w1 g).mono fun e w' ⟨h1, h2⟩ => ⟨h1.trans (by rw [show [(18 : Int), 19].contains p.kind = false from by rcases hk with h | h <;> rw [h] <;> rfl]), h2⟩
  have H3 : Hid (∀ w1, Grew (w.alloc (.cells (p.cells (.slice ka p.kids.length kc)) 25)) w1 → Calls Tryd.prog 61 #[.int .i64 p.kind, .slice (some ⟨w1.heap.size, 0, none⟩) 3 3] (w1.alloc (.cells #[.int .i64 20, .int .i64 21, .int .i64 22] 3)) fun e w' => e = .returned (.bool true) ∧ Grew (w.alloc (.cells (p.cells (.slice ka p.kids.length kc)) 25)) w') := fun w1 g => (in_later p.kind [(20 : Int), 21, 22] (by decide) w1 g).mono fun e w' ⟨h1, h2⟩ => ⟨h1.trans (by rw [show [(20 : Int), 21, 22].contains p.kind = true from by rcases hk with h | h <;> rw [h] <;> rfl]), h2⟩
  have H5 : Hid (∀ w1, Grew (w.alloc (.cells (p.cells (.slice ka p.kids.length kc)) 25)) w1 → Calls Tryd.prog 61 #[.int .i64 p.kind, .slice (some ⟨w1.heap.size, 0, none⟩) 5 5] (w1.alloc (.cells #[.int .i64 18, .int .i64 19, .int .i64 20, .int .i64 21, .int .i64 22] 3)) fun e w' => e = .returned (.bool true) ∧ Grew (w.alloc (.cells (p.cells (.slice ka p.kids.length kc)) 25)) w') := fun w1 g => (in_later p.kind [(18 : Int), 19, 20, 21, 22] (by decide) w1 g).mono fun e w' ⟨h1, h2⟩ => ⟨h1.trans (by rw [show [(18 : Int), 19, 20, 21, 22].contains p.kind = true from by rcases hk with h | h <;> rw [h] <;> rfl]), h2⟩
  rw [h0] at HNm
  obtain ⟨kk, hkk⟩ : ∃ kk, p.kind = kk := ⟨_, rfl⟩
  obtain ⟨nn, hnn⟩ : ∃ nn, p.n = nn := ⟨_, rfl⟩
  obtain ⟨kl, hkl0⟩ : ∃ kl, p.kids.length = kl := ⟨_, rfl⟩
  have hts : p.text.size ≤ 9223372036854775807 := by unfold maxLen at hnm2; omega
  obtain ⟨ts, hts0⟩ : ∃ ts, p.text.size = ts := ⟨_, rfl⟩
  have HTS := hidd hts0
  have r1 : decide (kk < 1) = false := decide_eq_false (by omega)
  have r2 : decide (24 < kk) = false := decide_eq_false (by omega)
  have r3 : (kk == 1) = false := beq_eq_false_iff_ne.2 (by omega)
  rw [hkl0] at h1
  have q7 : ((kl : Int) == 1) = false := beq_eq_false_iff_ne.2 (by omega)
  have q8 : (kl == 1) = false := beq_eq_false_iff_ne.2 (by omega)
  unfold Pat.cells at HBx HG0 HNm HTx HNb H4 H2 H3 H5 ⊢
  rw [hkk] at HBx HG0 HNm HTx HNb H4 H2 H3 H5 ⊢
  rw [hnn] at HBx HG0 HNm HTx HNb H4 H2 H3 H5 ⊢
  rw [hkl0] at HBx HG0 HNm HTx HNb H4 H2 H3 H5 ⊢
  have hsz : p.text.size = ts := HTS.out
  have hg : Grew (w.alloc (.cells #[.int .i64 kk, .string p.text, .int .i64 nn, .string p.name, .slice ka kl kc] 25)) (w.alloc (.cells #[.int .i64 kk, .string p.text, .int .i64 nn, .string p.name, .slice ka kl kc] 25)) := Grew.refl _
  obtain ⟨c0, c1, c2, c3, c4⟩ := HBx.out _ hg
  clear hk hp hnm hnm2 hg0 hts hkk hnn hkl0 hts0 hkl h0 h1
  go_enter Tryd.func47, Tryd.ntmps47
  go_wp2_with (first
     | (go_at_call 59; with_reducible refine (HTx.out _ hg).mono ?_; rintro e w2 ⟨rfl, hg2⟩; clear hg c0 c1 c2 c3 c4; have hg := hg2; clear hg2; obtain ⟨c0, c1, c2, c3, c4⟩ := HBx.out _ hg)
     | (go_at_call 60; with_reducible refine (HNb.out _ hg).mono ?_; rintro e w2 ⟨rfl, hg2⟩; clear hg c0 c1 c2 c3 c4; have hg := hg2; clear hg2; obtain ⟨c0, c1, c2, c3, c4⟩ := HBx.out _ hg)
     | (go_at_call 24; with_reducible refine (HNm.out _ hg).mono ?_; rintro e w2 ⟨rfl, hg2⟩; clear hg c0 c1 c2 c3 c4; have hg := hg2; clear hg2; obtain ⟨c0, c1, c2, c3, c4⟩ := HBx.out _ hg)
     | (go_at_call 61; first | (with_reducible refine (H4.out _ hg).mono ?_) | (with_reducible refine (H2.out _ hg).mono ?_) | (with_reducible refine (H3.out _ hg).mono ?_) | (with_reducible refine (H5.out _ hg).mono ?_)
        rintro e w2 ⟨rfl, hg2⟩; clear hg c0 c1 c2 c3 c4; have hg := hg2; clear hg2; obtain ⟨c0, c1, c2, c3, c4⟩ := HBx.out _ hg))
  go_ret
  exact ⟨rfl, HG0.out.trans hg⟩
set_option maxRecDepth 100000 in
set_option maxHeartbeats 4000000 in
theorem node_17 (hp : PatV w kv p) (hk : p.kind = 21 ∨ p.kind = 22) (h0 : (named p.name = true)) (h1 : (p.kids.length = 1)) :
    Calls Tryd.prog 47 #[.agg (p.cells kv)] w fun e w' => e = .returned (.int .i64 0) ∧ Grew w w' := by
  have HBx := hidd (pat_box w p kv)
  have hg0 : Grew w (w.alloc (.cells (p.cells kv) 25)) := (Grew.refl w).alloc _
  have HG0 := hidd hg0
  have hnm := hp.hm
  have hnm2 := hp.ht
  obtain ⟨ka, kc, rfl, hkl⟩ := hp.kids.len
  have HNm : Hid (∀ w1, Grew (w.alloc (.cells (p.cells (.slice ka p.kids.length kc)) 25)) w1 → Calls Tryd.prog 24 #[.string p.name] w1 fun e w' => e = .returned (.bool (named p.name)) ∧ Grew (w.alloc (.cells (p.cells (.slice ka p.kids.length kc)) 25)) w') := fun w1 g => (NamedR_any p.name w1 hnm).mono fun e w' ⟨h1, h2⟩ => ⟨h1, g.trans h2⟩
  have HTx : Hid (∀ w1, Grew (w.alloc (.cells (p.cells (.slice ka p.kids.length kc)) 25)) w1 → Calls Tryd.prog 59 #[.int .i64 p.kind] w1 fun e w' => e = .returned (.bool false) ∧ Grew (w.alloc (.cells (p.cells (.slice ka p.kids.length kc)) 25)) w') := fun w1 g => (texts_any p.kind w1).mono fun e w' ⟨h1, h2⟩ => ⟨h1.trans (by rw [show isTx p.kind = false from by rcases hk with h | h <;> rw [h] <;> rfl]), g.trans h2⟩
  have HNb : Hid (∀ w1, Grew (w.alloc (.cells (p.cells (.slice ka p.kids.length kc)) 25)) w1 → Calls Tryd.prog 60 #[.int .i64 p.kind] w1 fun e w' => e = .returned (.bool false) ∧ Grew (w.alloc (.cells (p.cells (.slice ka p.kids.length kc)) 25)) w') := fun w1 g => (numbers_any p.kind w1).mono fun e w' ⟨h1, h2⟩ => ⟨h1.trans (by rw [show isNb p.kind = false from by rcases hk with h | h <;> rw [h] <;> rfl]), g.trans h2⟩
  have H4 : Hid (∀ w1, Grew (w.alloc (.cells (p.cells (.slice ka p.kids.length kc)) 25)) w1 → Calls Tryd.prog 61 #[.int .i64 p.kind, .slice (some ⟨w1.heap.size, 0, none⟩) 4 4] (w1.alloc (.cells #[.int .i64 21, .int .i64 22, .int .i64 23, .int .i64 24] 3)) fun e w' => e = .returned (.bool true) ∧ Grew (w.alloc (.cells (p.cells (.slice ka p.kids.length kc)) 25)) w') := fun w1 g => (in_later p.kind [(21 : Int), 22, 23, 24] (by decide) w1 g).mono fun e w' ⟨h1, h2⟩ => ⟨h1.trans (by rw [show [(21 : Int), 22, 23, 24].contains p.kind = true from by rcases hk with h | h <;> rw [h] <;> rfl]), h2⟩
  have H2 : Hid (∀ w1, Grew (w.alloc (.cells (p.cells (.slice ka p.kids.length kc)) 25)) w1 → Calls Tryd.prog 61 #[.int .i64 p.kind, .slice (some ⟨w1.heap.size, 0, none⟩) 2 2] (w1.alloc (.cells #[.int .i64 18, .int .i64 19] 3)) fun e w' => e = .returned (.bool false) ∧ Grew (w.alloc (.cells (p.cells (.slice ka p.kids.length kc)) 25)) w') := fun w1 g => (in_later p.kind [(18 : Int), 19] (by decide) w1 g).mono fun e w' ⟨h1, h2⟩ => ⟨h1.trans (by rw [show [(18 : Int), 19].contains p.kind = false from by rcases hk with h | h <;> rw [h] <;> rfl]), h2⟩
  have H3 : Hid (∀ w1, Grew (w.alloc (.cells (p.cells (.slice ka p.kids.length kc)) 25)) w1 → Calls Tryd.prog 61 #[.int .i64 p.kind, .slice (some ⟨w1.heap.size, 0, none⟩) 3 3] (w1.alloc (.cells #[.int .i64 20, .int .i64 21, .int .i64 22] 3)) fun e w' => e = .returned (.bool true) ∧ Grew (w.alloc (.cells (p.cells (.slice ka p.kids.length kc)) 25)) w') := fun w1 g => (in_later p.kind [(20 : Int), 21, 22] (by decide) w1 g).mono fun e w' ⟨h1, h2⟩ => ⟨h1.trans (by rw [show [(20 : Int), 21, 22].contains p.kind = true from by rcases hk with h | h <;> rw [h] <;> rfl]), h2⟩
  have H5 : Hid (∀ w1, Grew (w.alloc (.cells (p.cells (.slice ka p.kids.length kc)) 25)) w1 → Calls Tryd.prog 61 #[.int .i64 p.kind, .slice (some ⟨w1.heap.size, 0, none⟩) 5 5] (w1.alloc (.cells #[.int .i64 18, .int .i64 19, .int .i64 20, .int .i64 21, .int .i64 22] 3)) fun e w' => e = .returned (.bool true) ∧ Grew (w.alloc (.cells (p.cells (.slice ka p.kids.length kc)) 25)) w') := fun w1 g => (in_later p.kind [(18 : Int), 19, 20, 21, 22] (by decide) w1 g).mono fun e w' ⟨h1, h2⟩ => ⟨h1.trans (by rw [show [(18 : Int), 19, 20, 21, 22].contains p.kind = true from by rcases hk with h | h <;> rw [h] <;> rfl]), h2⟩
  rw [h0] at HNm
  obtain ⟨kk, hkk⟩ : ∃ kk, p.kind = kk := ⟨_, rfl⟩
  obtain ⟨nn, hnn⟩ : ∃ nn, p.n = nn := ⟨_, rfl⟩
  obtain ⟨kl, hkl0⟩ : ∃ kl, p.kids.length = kl := ⟨_, rfl⟩
  have hts : p.text.size ≤ 9223372036854775807 := by unfold maxLen at hnm2; omega
  obtain ⟨ts, hts0⟩ : ∃ ts, p.text.size = ts := ⟨_, rfl⟩
  have HTS := hidd hts0
  have r1 : decide (kk < 1) = false := decide_eq_false (by omega)
  have r2 : decide (24 < kk) = false := decide_eq_false (by omega)
  have r3 : (kk == 1) = false := beq_eq_false_iff_ne.2 (by omega)
  rw [hkl0] at h1
  have q7 : ((kl : Int) == 1) = true := beq_iff_eq.2 (by omega)
  have q8 : (kl == 1) = true := beq_iff_eq.2 (by omega)
  unfold Pat.cells at HBx HG0 HNm HTx HNb H4 H2 H3 H5 ⊢
  rw [hkk] at HBx HG0 HNm HTx HNb H4 H2 H3 H5 ⊢
  rw [hnn] at HBx HG0 HNm HTx HNb H4 H2 H3 H5 ⊢
  rw [hkl0] at HBx HG0 HNm HTx HNb H4 H2 H3 H5 ⊢
  have hsz : p.text.size = ts := HTS.out
  have hg : Grew (w.alloc (.cells #[.int .i64 kk, .string p.text, .int .i64 nn, .string p.name, .slice ka kl kc] 25)) (w.alloc (.cells #[.int .i64 kk, .string p.text, .int .i64 nn, .string p.name, .slice ka kl kc] 25)) := Grew.refl _
  obtain ⟨c0, c1, c2, c3, c4⟩ := HBx.out _ hg
  clear hk hp hnm hnm2 hg0 hts hkk hnn hkl0 hts0 hkl h0 h1
  go_enter Tryd.func47, Tryd.ntmps47
  go_wp2_with (first
     | (go_at_call 59; with_reducible refine (HTx.out _ hg).mono ?_; rintro e w2 ⟨rfl, hg2⟩; clear hg c0 c1 c2 c3 c4; have hg := hg2; clear hg2; obtain ⟨c0, c1, c2, c3, c4⟩ := HBx.out _ hg)
     | (go_at_call 60; with_reducible refine (HNb.out _ hg).mono ?_; rintro e w2 ⟨rfl, hg2⟩; clear hg c0 c1 c2 c3 c4; have hg := hg2; clear hg2; obtain ⟨c0, c1, c2, c3, c4⟩ := HBx.out _ hg)
     | (go_at_call 24; with_reducible refine (HNm.out _ hg).mono ?_; rintro e w2 ⟨rfl, hg2⟩; clear hg c0 c1 c2 c3 c4; have hg := hg2; clear hg2; obtain ⟨c0, c1, c2, c3, c4⟩ := HBx.out _ hg)
     | (go_at_call 61; first | (with_reducible refine (H4.out _ hg).mono ?_) | (with_reducible refine (H2.out _ hg).mono ?_) | (with_reducible refine (H3.out _ hg).mono ?_) | (with_reducible refine (H5.out _ hg).mono ?_)
        rintro e w2 ⟨rfl, hg2⟩; clear hg c0 c1 c2 c3 c4; have hg := hg2; clear hg2; obtain ⟨c0, c1, c2, c3, c4⟩ := HBx.out _ hg))
  go_ret
  exact ⟨rfl, HG0.out.trans hg⟩
set_option maxRecDepth 100000 in
set_option maxHeartbeats 4000000 in
theorem node_18 (hp : PatV w kv p) (hk : p.kind = 23 ∨ p.kind = 24) (h0 : (named p.name = false)) :
    Calls Tryd.prog 47 #[.agg (p.cells kv)] w fun e w' => e = .returned (.int .i64 7) ∧ Grew w w' := by
  have HBx := hidd (pat_box w p kv)
  have hg0 : Grew w (w.alloc (.cells (p.cells kv) 25)) := (Grew.refl w).alloc _
  have HG0 := hidd hg0
  have hnm := hp.hm
  have hnm2 := hp.ht
  obtain ⟨ka, kc, rfl, hkl⟩ := hp.kids.len
  have HNm : Hid (∀ w1, Grew (w.alloc (.cells (p.cells (.slice ka p.kids.length kc)) 25)) w1 → Calls Tryd.prog 24 #[.string p.name] w1 fun e w' => e = .returned (.bool (named p.name)) ∧ Grew (w.alloc (.cells (p.cells (.slice ka p.kids.length kc)) 25)) w') := fun w1 g => (NamedR_any p.name w1 hnm).mono fun e w' ⟨h1, h2⟩ => ⟨h1, g.trans h2⟩
  have HTx : Hid (∀ w1, Grew (w.alloc (.cells (p.cells (.slice ka p.kids.length kc)) 25)) w1 → Calls Tryd.prog 59 #[.int .i64 p.kind] w1 fun e w' => e = .returned (.bool false) ∧ Grew (w.alloc (.cells (p.cells (.slice ka p.kids.length kc)) 25)) w') := fun w1 g => (texts_any p.kind w1).mono fun e w' ⟨h1, h2⟩ => ⟨h1.trans (by rw [show isTx p.kind = false from by rcases hk with h | h <;> rw [h] <;> rfl]), g.trans h2⟩
  have HNb : Hid (∀ w1, Grew (w.alloc (.cells (p.cells (.slice ka p.kids.length kc)) 25)) w1 → Calls Tryd.prog 60 #[.int .i64 p.kind] w1 fun e w' => e = .returned (.bool false) ∧ Grew (w.alloc (.cells (p.cells (.slice ka p.kids.length kc)) 25)) w') := fun w1 g => (numbers_any p.kind w1).mono fun e w' ⟨h1, h2⟩ => ⟨h1.trans (by rw [show isNb p.kind = false from by rcases hk with h | h <;> rw [h] <;> rfl]), g.trans h2⟩
  have H4 : Hid (∀ w1, Grew (w.alloc (.cells (p.cells (.slice ka p.kids.length kc)) 25)) w1 → Calls Tryd.prog 61 #[.int .i64 p.kind, .slice (some ⟨w1.heap.size, 0, none⟩) 4 4] (w1.alloc (.cells #[.int .i64 21, .int .i64 22, .int .i64 23, .int .i64 24] 3)) fun e w' => e = .returned (.bool true) ∧ Grew (w.alloc (.cells (p.cells (.slice ka p.kids.length kc)) 25)) w') := fun w1 g => (in_later p.kind [(21 : Int), 22, 23, 24] (by decide) w1 g).mono fun e w' ⟨h1, h2⟩ => ⟨h1.trans (by rw [show [(21 : Int), 22, 23, 24].contains p.kind = true from by rcases hk with h | h <;> rw [h] <;> rfl]), h2⟩
  have H2 : Hid (∀ w1, Grew (w.alloc (.cells (p.cells (.slice ka p.kids.length kc)) 25)) w1 → Calls Tryd.prog 61 #[.int .i64 p.kind, .slice (some ⟨w1.heap.size, 0, none⟩) 2 2] (w1.alloc (.cells #[.int .i64 18, .int .i64 19] 3)) fun e w' => e = .returned (.bool false) ∧ Grew (w.alloc (.cells (p.cells (.slice ka p.kids.length kc)) 25)) w') := fun w1 g => (in_later p.kind [(18 : Int), 19] (by decide) w1 g).mono fun e w' ⟨h1, h2⟩ => ⟨h1.trans (by rw [show [(18 : Int), 19].contains p.kind = false from by rcases hk with h | h <;> rw [h] <;> rfl]), h2⟩
  have H3 : Hid (∀ w1, Grew (w.alloc (.cells (p.cells (.slice ka p.kids.length kc)) 25)) w1 → Calls Tryd.prog 61 #[.int .i64 p.kind, .slice (some ⟨w1.heap.size, 0, none⟩) 3 3] (w1.alloc (.cells #[.int .i64 20, .int .i64 21, .int .i64 22] 3)) fun e w' => e = .returned (.bool false) ∧ Grew (w.alloc (.cells (p.cells (.slice ka p.kids.length kc)) 25)) w') := fun w1 g => (in_later p.kind [(20 : Int), 21, 22] (by decide) w1 g).mono fun e w' ⟨h1, h2⟩ => ⟨h1.trans (by rw [show [(20 : Int), 21, 22].contains p.kind = false from by rcases hk with h | h <;> rw [h] <;> rfl]), h2⟩
  have H5 : Hid (∀ w1, Grew (w.alloc (.cells (p.cells (.slice ka p.kids.length kc)) 25)) w1 → Calls Tryd.prog 61 #[.int .i64 p.kind, .slice (some ⟨w1.heap.size, 0, none⟩) 5 5] (w1.alloc (.cells #[.int .i64 18, .int .i64 19, .int .i64 20, .int .i64 21, .int .i64 22] 3)) fun e w' => e = .returned (.bool false) ∧ Grew (w.alloc (.cells (p.cells (.slice ka p.kids.length kc)) 25)) w') := fun w1 g => (in_later p.kind [(18 : Int), 19, 20, 21, 22] (by decide) w1 g).mono fun e w' ⟨h1, h2⟩ => ⟨h1.trans (by rw [show [(18 : Int), 19, 20, 21, 22].contains p.kind = false from by rcases hk with h | h <;> rw [h] <;> rfl]), h2⟩
  rw [h0] at HNm
  obtain ⟨kk, hkk⟩ : ∃ kk, p.kind = kk := ⟨_, rfl⟩
  obtain ⟨nn, hnn⟩ : ∃ nn, p.n = nn := ⟨_, rfl⟩
  obtain ⟨kl, hkl0⟩ : ∃ kl, p.kids.length = kl := ⟨_, rfl⟩
  have hts : p.text.size ≤ 9223372036854775807 := by unfold maxLen at hnm2; omega
  obtain ⟨ts, hts0⟩ : ∃ ts, p.text.size = ts := ⟨_, rfl⟩
  have HTS := hidd hts0
  have r1 : decide (kk < 1) = false := decide_eq_false (by omega)
  have r2 : decide (24 < kk) = false := decide_eq_false (by omega)
  have r3 : (kk == 1) = false := beq_eq_false_iff_ne.2 (by omega)
  unfold Pat.cells at HBx HG0 HNm HTx HNb H4 H2 H3 H5 ⊢
  rw [hkk] at HBx HG0 HNm HTx HNb H4 H2 H3 H5 ⊢
  rw [hnn] at HBx HG0 HNm HTx HNb H4 H2 H3 H5 ⊢
  rw [hkl0] at HBx HG0 HNm HTx HNb H4 H2 H3 H5 ⊢
  have hsz : p.text.size = ts := HTS.out
  have hg : Grew (w.alloc (.cells #[.int .i64 kk, .string p.text, .int .i64 nn, .string p.name, .slice ka kl kc] 25)) (w.alloc (.cells #[.int .i64 kk, .string p.text, .int .i64 nn, .string p.name, .slice ka kl kc] 25)) := Grew.refl _
  obtain ⟨c0, c1, c2, c3, c4⟩ := HBx.out _ hg
  clear hk hp hnm hnm2 hg0 hts hkk hnn hkl0 hts0 hkl h0
  go_enter Tryd.func47, Tryd.ntmps47
  go_wp2_with (first
     | (go_at_call 59; with_reducible refine (HTx.out _ hg).mono ?_; rintro e w2 ⟨rfl, hg2⟩; clear hg c0 c1 c2 c3 c4; have hg := hg2; clear hg2; obtain ⟨c0, c1, c2, c3, c4⟩ := HBx.out _ hg)
     | (go_at_call 60; with_reducible refine (HNb.out _ hg).mono ?_; rintro e w2 ⟨rfl, hg2⟩; clear hg c0 c1 c2 c3 c4; have hg := hg2; clear hg2; obtain ⟨c0, c1, c2, c3, c4⟩ := HBx.out _ hg)
     | (go_at_call 24; with_reducible refine (HNm.out _ hg).mono ?_; rintro e w2 ⟨rfl, hg2⟩; clear hg c0 c1 c2 c3 c4; have hg := hg2; clear hg2; obtain ⟨c0, c1, c2, c3, c4⟩ := HBx.out _ hg)
     | (go_at_call 61; first | (with_reducible refine (H4.out _ hg).mono ?_) | (with_reducible refine (H2.out _ hg).mono ?_) | (with_reducible refine (H3.out _ hg).mono ?_) | (with_reducible refine (H5.out _ hg).mono ?_)
        rintro e w2 ⟨rfl, hg2⟩; clear hg c0 c1 c2 c3 c4; have hg := hg2; clear hg2; obtain ⟨c0, c1, c2, c3, c4⟩ := HBx.out _ hg))
  go_ret
  exact ⟨rfl, HG0.out.trans hg⟩
set_option maxRecDepth 100000 in
set_option maxHeartbeats 4000000 in
theorem node_19 (hp : PatV w kv p) (hk : p.kind = 23 ∨ p.kind = 24) (h0 : (named p.name = true)) (h1 : (p.kids.length ≠ 0)) :
    Calls Tryd.prog 47 #[.agg (p.cells kv)] w fun e w' => e = .returned (.int .i64 5) ∧ Grew w w' := by
  have HBx := hidd (pat_box w p kv)
  have hg0 : Grew w (w.alloc (.cells (p.cells kv) 25)) := (Grew.refl w).alloc _
  have HG0 := hidd hg0
  have hnm := hp.hm
  have hnm2 := hp.ht
  obtain ⟨ka, kc, rfl, hkl⟩ := hp.kids.len
  have HNm : Hid (∀ w1, Grew (w.alloc (.cells (p.cells (.slice ka p.kids.length kc)) 25)) w1 → Calls Tryd.prog 24 #[.string p.name] w1 fun e w' => e = .returned (.bool (named p.name)) ∧ Grew (w.alloc (.cells (p.cells (.slice ka p.kids.length kc)) 25)) w') := fun w1 g => (NamedR_any p.name w1 hnm).mono fun e w' ⟨h1, h2⟩ => ⟨h1, g.trans h2⟩
  have HTx : Hid (∀ w1, Grew (w.alloc (.cells (p.cells (.slice ka p.kids.length kc)) 25)) w1 → Calls Tryd.prog 59 #[.int .i64 p.kind] w1 fun e w' => e = .returned (.bool false) ∧ Grew (w.alloc (.cells (p.cells (.slice ka p.kids.length kc)) 25)) w') := fun w1 g => (texts_any p.kind w1).mono fun e w' ⟨h1, h2⟩ => ⟨h1.trans (by rw [show isTx p.kind = false from by rcases hk with h | h <;> rw [h] <;> rfl]), g.trans h2⟩
  have HNb : Hid (∀ w1, Grew (w.alloc (.cells (p.cells (.slice ka p.kids.length kc)) 25)) w1 → Calls Tryd.prog 60 #[.int .i64 p.kind] w1 fun e w' => e = .returned (.bool false) ∧ Grew (w.alloc (.cells (p.cells (.slice ka p.kids.length kc)) 25)) w') := fun w1 g => (numbers_any p.kind w1).mono fun e w' ⟨h1, h2⟩ => ⟨h1.trans (by rw [show isNb p.kind = false from by rcases hk with h | h <;> rw [h] <;> rfl]), g.trans h2⟩
  have H4 : Hid (∀ w1, Grew (w.alloc (.cells (p.cells (.slice ka p.kids.length kc)) 25)) w1 → Calls Tryd.prog 61 #[.int .i64 p.kind, .slice (some ⟨w1.heap.size, 0, none⟩) 4 4] (w1.alloc (.cells #[.int .i64 21, .int .i64 22, .int .i64 23, .int .i64 24] 3)) fun e w' => e = .returned (.bool true) ∧ Grew (w.alloc (.cells (p.cells (.slice ka p.kids.length kc)) 25)) w') := fun w1 g => (in_later p.kind [(21 : Int), 22, 23, 24] (by decide) w1 g).mono fun e w' ⟨h1, h2⟩ => ⟨h1.trans (by rw [show [(21 : Int), 22, 23, 24].contains p.kind = true from by rcases hk with h | h <;> rw [h] <;> rfl]), h2⟩
  have H2 : Hid (∀ w1, Grew (w.alloc (.cells (p.cells (.slice ka p.kids.length kc)) 25)) w1 → Calls Tryd.prog 61 #[.int .i64 p.kind, .slice (some ⟨w1.heap.size, 0, none⟩) 2 2] (w1.alloc (.cells #[.int .i64 18, .int .i64 19] 3)) fun e w' => e = .returned (.bool false) ∧ Grew (w.alloc (.cells (p.cells (.slice ka p.kids.length kc)) 25)) w') := fun w1 g => (in_later p.kind [(18 : Int), 19] (by decide) w1 g).mono fun e w' ⟨h1, h2⟩ => ⟨h1.trans (by rw [show [(18 : Int), 19].contains p.kind = false from by rcases hk with h | h <;> rw [h] <;> rfl]), h2⟩
  have H3 : Hid (∀ w1, Grew (w.alloc (.cells (p.cells (.slice ka p.kids.length kc)) 25)) w1 → Calls Tryd.prog 61 #[.int .i64 p.kind, .slice (some ⟨w1.heap.size, 0, none⟩) 3 3] (w1.alloc (.cells #[.int .i64 20, .int .i64 21, .int .i64 22] 3)) fun e w' => e = .returned (.bool false) ∧ Grew (w.alloc (.cells (p.cells (.slice ka p.kids.length kc)) 25)) w') := fun w1 g => (in_later p.kind [(20 : Int), 21, 22] (by decide) w1 g).mono fun e w' ⟨h1, h2⟩ => ⟨h1.trans (by rw [show [(20 : Int), 21, 22].contains p.kind = false from by rcases hk with h | h <;> rw [h] <;> rfl]), h2⟩
  have H5 : Hid (∀ w1, Grew (w.alloc (.cells (p.cells (.slice ka p.kids.length kc)) 25)) w1 → Calls Tryd.prog 61 #[.int .i64 p.kind, .slice (some ⟨w1.heap.size, 0, none⟩) 5 5] (w1.alloc (.cells #[.int .i64 18, .int .i64 19, .int .i64 20, .int .i64 21, .int .i64 22] 3)) fun e w' => e = .returned (.bool false) ∧ Grew (w.alloc (.cells (p.cells (.slice ka p.kids.length kc)) 25)) w') := fun w1 g => (in_later p.kind [(18 : Int), 19, 20, 21, 22] (by decide) w1 g).mono fun e w' ⟨h1, h2⟩ => ⟨h1.trans (by rw [show [(18 : Int), 19, 20, 21, 22].contains p.kind = false from by rcases hk with h | h <;> rw [h] <;> rfl]), h2⟩
  rw [h0] at HNm
  obtain ⟨kk, hkk⟩ : ∃ kk, p.kind = kk := ⟨_, rfl⟩
  obtain ⟨nn, hnn⟩ : ∃ nn, p.n = nn := ⟨_, rfl⟩
  obtain ⟨kl, hkl0⟩ : ∃ kl, p.kids.length = kl := ⟨_, rfl⟩
  have hts : p.text.size ≤ 9223372036854775807 := by unfold maxLen at hnm2; omega
  obtain ⟨ts, hts0⟩ : ∃ ts, p.text.size = ts := ⟨_, rfl⟩
  have HTS := hidd hts0
  have r1 : decide (kk < 1) = false := decide_eq_false (by omega)
  have r2 : decide (24 < kk) = false := decide_eq_false (by omega)
  have r3 : (kk == 1) = false := beq_eq_false_iff_ne.2 (by omega)
  rw [hkl0] at h1
  have q5 : ((kl : Int) == 0) = false := beq_eq_false_iff_ne.2 (by omega)
  have q6 : (kl == 0) = false := beq_eq_false_iff_ne.2 (by omega)
  unfold Pat.cells at HBx HG0 HNm HTx HNb H4 H2 H3 H5 ⊢
  rw [hkk] at HBx HG0 HNm HTx HNb H4 H2 H3 H5 ⊢
  rw [hnn] at HBx HG0 HNm HTx HNb H4 H2 H3 H5 ⊢
  rw [hkl0] at HBx HG0 HNm HTx HNb H4 H2 H3 H5 ⊢
  have hsz : p.text.size = ts := HTS.out
  have hg : Grew (w.alloc (.cells #[.int .i64 kk, .string p.text, .int .i64 nn, .string p.name, .slice ka kl kc] 25)) (w.alloc (.cells #[.int .i64 kk, .string p.text, .int .i64 nn, .string p.name, .slice ka kl kc] 25)) := Grew.refl _
  obtain ⟨c0, c1, c2, c3, c4⟩ := HBx.out _ hg
  clear hk hp hnm hnm2 hg0 hts hkk hnn hkl0 hts0 hkl h0 h1
  go_enter Tryd.func47, Tryd.ntmps47
  go_wp2_with (first
     | (go_at_call 59; with_reducible refine (HTx.out _ hg).mono ?_; rintro e w2 ⟨rfl, hg2⟩; clear hg c0 c1 c2 c3 c4; have hg := hg2; clear hg2; obtain ⟨c0, c1, c2, c3, c4⟩ := HBx.out _ hg)
     | (go_at_call 60; with_reducible refine (HNb.out _ hg).mono ?_; rintro e w2 ⟨rfl, hg2⟩; clear hg c0 c1 c2 c3 c4; have hg := hg2; clear hg2; obtain ⟨c0, c1, c2, c3, c4⟩ := HBx.out _ hg)
     | (go_at_call 24; with_reducible refine (HNm.out _ hg).mono ?_; rintro e w2 ⟨rfl, hg2⟩; clear hg c0 c1 c2 c3 c4; have hg := hg2; clear hg2; obtain ⟨c0, c1, c2, c3, c4⟩ := HBx.out _ hg)
     | (go_at_call 61; first | (with_reducible refine (H4.out _ hg).mono ?_) | (with_reducible refine (H2.out _ hg).mono ?_) | (with_reducible refine (H3.out _ hg).mono ?_) | (with_reducible refine (H5.out _ hg).mono ?_)
        rintro e w2 ⟨rfl, hg2⟩; clear hg c0 c1 c2 c3 c4; have hg := hg2; clear hg2; obtain ⟨c0, c1, c2, c3, c4⟩ := HBx.out _ hg))
  go_ret
  exact ⟨rfl, HG0.out.trans hg⟩
set_option maxRecDepth 100000 in
set_option maxHeartbeats 4000000 in
theorem node_20 (hp : PatV w kv p) (hk : p.kind = 23 ∨ p.kind = 24) (h0 : (named p.name = true)) (h1 : (p.kids.length = 0)) :
    Calls Tryd.prog 47 #[.agg (p.cells kv)] w fun e w' => e = .returned (.int .i64 0) ∧ Grew w w' := by
  have HBx := hidd (pat_box w p kv)
  have hg0 : Grew w (w.alloc (.cells (p.cells kv) 25)) := (Grew.refl w).alloc _
  have HG0 := hidd hg0
  have hnm := hp.hm
  have hnm2 := hp.ht
  obtain ⟨ka, kc, rfl, hkl⟩ := hp.kids.len
  have HNm : Hid (∀ w1, Grew (w.alloc (.cells (p.cells (.slice ka p.kids.length kc)) 25)) w1 → Calls Tryd.prog 24 #[.string p.name] w1 fun e w' => e = .returned (.bool (named p.name)) ∧ Grew (w.alloc (.cells (p.cells (.slice ka p.kids.length kc)) 25)) w') := fun w1 g => (NamedR_any p.name w1 hnm).mono fun e w' ⟨h1, h2⟩ => ⟨h1, g.trans h2⟩
  have HTx : Hid (∀ w1, Grew (w.alloc (.cells (p.cells (.slice ka p.kids.length kc)) 25)) w1 → Calls Tryd.prog 59 #[.int .i64 p.kind] w1 fun e w' => e = .returned (.bool false) ∧ Grew (w.alloc (.cells (p.cells (.slice ka p.kids.length kc)) 25)) w') := fun w1 g => (texts_any p.kind w1).mono fun e w' ⟨h1, h2⟩ => ⟨h1.trans (by rw [show isTx p.kind = false from by rcases hk with h | h <;> rw [h] <;> rfl]), g.trans h2⟩
  have HNb : Hid (∀ w1, Grew (w.alloc (.cells (p.cells (.slice ka p.kids.length kc)) 25)) w1 → Calls Tryd.prog 60 #[.int .i64 p.kind] w1 fun e w' => e = .returned (.bool false) ∧ Grew (w.alloc (.cells (p.cells (.slice ka p.kids.length kc)) 25)) w') := fun w1 g => (numbers_any p.kind w1).mono fun e w' ⟨h1, h2⟩ => ⟨h1.trans (by rw [show isNb p.kind = false from by rcases hk with h | h <;> rw [h] <;> rfl]), g.trans h2⟩
  have H4 : Hid (∀ w1, Grew (w.alloc (.cells (p.cells (.slice ka p.kids.length kc)) 25)) w1 → Calls Tryd.prog 61 #[.int .i64 p.kind, .slice (some ⟨w1.heap.size, 0, none⟩) 4 4] (w1.alloc (.cells #[.int .i64 21, .int .i64 22, .int .i64 23, .int .i64 24] 3)) fun e w' => e = .returned (.bool true) ∧ Grew (w.alloc (.cells (p.cells (.slice ka p.kids.length kc)) 25)) w') := fun w1 g => (in_later p.kind [(21 : Int), 22, 23, 24] (by decide) w1 g).mono fun e w' ⟨h1, h2⟩ => ⟨h1.trans (by rw [show [(21 : Int), 22, 23, 24].contains p.kind = true from by rcases hk with h | h <;> rw [h] <;> rfl]), h2⟩
  have H2 : Hid (∀ w1, Grew (w.alloc (.cells (p.cells (.slice ka p.kids.length kc)) 25)) w1 → Calls Tryd.prog 61 #[.int .i64 p.kind, .slice (some ⟨w1.heap.size, 0, none⟩) 2 2] (w1.alloc (.cells #[.int .i64 18, .int .i64 19] 3)) fun e w' => e = .returned (.bool false) ∧ Grew (w.alloc (.cells (p.cells (.slice ka p.kids.length kc)) 25)) w') := fun w1 g => (in_later p.kind [(18 : Int), 19] (by decide) w1 g).mono fun e w' ⟨h1, h2⟩ => ⟨h1.trans (by rw [show [(18 : Int), 19].contains p.kind = false from by rcases hk with h | h <;> rw [h] <;> rfl]), h2⟩
  have H3 : Hid (∀ w1, Grew (w.alloc (.cells (p.cells (.slice ka p.kids.length kc)) 25)) w1 → Calls Tryd.prog 61 #[.int .i64 p.kind, .slice (some ⟨w1.heap.size, 0, none⟩) 3 3] (w1.alloc (.cells #[.int .i64 20, .int .i64 21, .int .i64 22] 3)) fun e w' => e = .returned (.bool false) ∧ Grew (w.alloc (.cells (p.cells (.slice ka p.kids.length kc)) 25)) w') := fun w1 g => (in_later p.kind [(20 : Int), 21, 22] (by decide) w1 g).mono fun e w' ⟨h1, h2⟩ => ⟨h1.trans (by rw [show [(20 : Int), 21, 22].contains p.kind = false from by rcases hk with h | h <;> rw [h] <;> rfl]), h2⟩
  have H5 : Hid (∀ w1, Grew (w.alloc (.cells (p.cells (.slice ka p.kids.length kc)) 25)) w1 → Calls Tryd.prog 61 #[.int .i64 p.kind, .slice (some ⟨w1.heap.size, 0, none⟩) 5 5] (w1.alloc (.cells #[.int .i64 18, .int .i64 19, .int .i64 20, .int .i64 21, .int .i64 22] 3)) fun e w' => e = .returned (.bool false) ∧ Grew (w.alloc (.cells (p.cells (.slice ka p.kids.length kc)) 25)) w') := fun w1 g => (in_later p.kind [(18 : Int), 19, 20, 21, 22] (by decide) w1 g).mono fun e w' ⟨h1, h2⟩ => ⟨h1.trans (by rw [show [(18 : Int), 19, 20, 21, 22].contains p.kind = false from by rcases hk with h | h <;> rw [h] <;> rfl]), h2⟩
  rw [h0] at HNm
  obtain ⟨kk, hkk⟩ : ∃ kk, p.kind = kk := ⟨_, rfl⟩
  obtain ⟨nn, hnn⟩ : ∃ nn, p.n = nn := ⟨_, rfl⟩
  obtain ⟨kl, hkl0⟩ : ∃ kl, p.kids.length = kl := ⟨_, rfl⟩
  have hts : p.text.size ≤ 9223372036854775807 := by unfold maxLen at hnm2; omega
  obtain ⟨ts, hts0⟩ : ∃ ts, p.text.size = ts := ⟨_, rfl⟩
  have HTS := hidd hts0
  have r1 : decide (kk < 1) = false := decide_eq_false (by omega)
  have r2 : decide (24 < kk) = false := decide_eq_false (by omega)
  have r3 : (kk == 1) = false := beq_eq_false_iff_ne.2 (by omega)
  rw [hkl0] at h1
  have q5 : ((kl : Int) == 0) = true := beq_iff_eq.2 (by omega)
  have q6 : (kl == 0) = true := beq_iff_eq.2 (by omega)
  unfold Pat.cells at HBx HG0 HNm HTx HNb H4 H2 H3 H5 ⊢
  rw [hkk] at HBx HG0 HNm HTx HNb H4 H2 H3 H5 ⊢
  rw [hnn] at HBx HG0 HNm HTx HNb H4 H2 H3 H5 ⊢
  rw [hkl0] at HBx HG0 HNm HTx HNb H4 H2 H3 H5 ⊢
  have hsz : p.text.size = ts := HTS.out
  have hg : Grew (w.alloc (.cells #[.int .i64 kk, .string p.text, .int .i64 nn, .string p.name, .slice ka kl kc] 25)) (w.alloc (.cells #[.int .i64 kk, .string p.text, .int .i64 nn, .string p.name, .slice ka kl kc] 25)) := Grew.refl _
  obtain ⟨c0, c1, c2, c3, c4⟩ := HBx.out _ hg
  clear hk hp hnm hnm2 hg0 hts hkk hnn hkl0 hts0 hkl h0 h1
  go_enter Tryd.func47, Tryd.ntmps47
  go_wp2_with (first
     | (go_at_call 59; with_reducible refine (HTx.out _ hg).mono ?_; rintro e w2 ⟨rfl, hg2⟩; clear hg c0 c1 c2 c3 c4; have hg := hg2; clear hg2; obtain ⟨c0, c1, c2, c3, c4⟩ := HBx.out _ hg)
     | (go_at_call 60; with_reducible refine (HNb.out _ hg).mono ?_; rintro e w2 ⟨rfl, hg2⟩; clear hg c0 c1 c2 c3 c4; have hg := hg2; clear hg2; obtain ⟨c0, c1, c2, c3, c4⟩ := HBx.out _ hg)
     | (go_at_call 24; with_reducible refine (HNm.out _ hg).mono ?_; rintro e w2 ⟨rfl, hg2⟩; clear hg c0 c1 c2 c3 c4; have hg := hg2; clear hg2; obtain ⟨c0, c1, c2, c3, c4⟩ := HBx.out _ hg)
     | (go_at_call 61; first | (with_reducible refine (H4.out _ hg).mono ?_) | (with_reducible refine (H2.out _ hg).mono ?_) | (with_reducible refine (H3.out _ hg).mono ?_) | (with_reducible refine (H5.out _ hg).mono ?_)
        rintro e w2 ⟨rfl, hg2⟩; clear hg c0 c1 c2 c3 c4; have hg := hg2; clear hg2; obtain ⟨c0, c1, c2, c3, c4⟩ := HBx.out _ hg))
  go_ret
  exact ⟨rfl, HG0.out.trans hg⟩
set_option maxRecDepth 100000 in
set_option maxHeartbeats 4000000 in
theorem node_21 (hp : PatV w kv p) (hk : p.kind = 12 ∨ p.kind = 13 ∨ p.kind = 14 ∨ p.kind = 15 ∨ p.kind = 16 ∨ p.kind = 17) (h0 : (p.kids.length ≠ 0)) :
    Calls Tryd.prog 47 #[.agg (p.cells kv)] w fun e w' => e = .returned (.int .i64 5) ∧ Grew w w' := by
  have HBx := hidd (pat_box w p kv)
  have hg0 : Grew w (w.alloc (.cells (p.cells kv) 25)) := (Grew.refl w).alloc _
  have HG0 := hidd hg0
  have hnm := hp.hm
  have hnm2 := hp.ht
  obtain ⟨ka, kc, rfl, hkl⟩ := hp.kids.len
  have HNm : Hid (∀ w1, Grew (w.alloc (.cells (p.cells (.slice ka p.kids.length kc)) 25)) w1 → Calls Tryd.prog 24 #[.string p.name] w1 fun e w' => e = .returned (.bool (named p.name)) ∧ Grew (w.alloc (.cells (p.cells (.slice ka p.kids.length kc)) 25)) w') := fun w1 g => (NamedR_any p.name w1 hnm).mono fun e w' ⟨h1, h2⟩ => ⟨h1, g.trans h2⟩
  have HTx : Hid (∀ w1, Grew (w.alloc (.cells (p.cells (.slice ka p.kids.length kc)) 25)) w1 → Calls Tryd.prog 59 #[.int .i64 p.kind] w1 fun e w' => e = .returned (.bool false) ∧ Grew (w.alloc (.cells (p.cells (.slice ka p.kids.length kc)) 25)) w') := fun w1 g => (texts_any p.kind w1).mono fun e w' ⟨h1, h2⟩ => ⟨h1.trans (by rw [show isTx p.kind = false from by rcases hk with h | h | h | h | h | h <;> rw [h] <;> rfl]), g.trans h2⟩
  have HNb : Hid (∀ w1, Grew (w.alloc (.cells (p.cells (.slice ka p.kids.length kc)) 25)) w1 → Calls Tryd.prog 60 #[.int .i64 p.kind] w1 fun e w' => e = .returned (.bool false) ∧ Grew (w.alloc (.cells (p.cells (.slice ka p.kids.length kc)) 25)) w') := fun w1 g => (numbers_any p.kind w1).mono fun e w' ⟨h1, h2⟩ => ⟨h1.trans (by rw [show isNb p.kind = false from by rcases hk with h | h | h | h | h | h <;> rw [h] <;> rfl]), g.trans h2⟩
  have H4 : Hid (∀ w1, Grew (w.alloc (.cells (p.cells (.slice ka p.kids.length kc)) 25)) w1 → Calls Tryd.prog 61 #[.int .i64 p.kind, .slice (some ⟨w1.heap.size, 0, none⟩) 4 4] (w1.alloc (.cells #[.int .i64 21, .int .i64 22, .int .i64 23, .int .i64 24] 3)) fun e w' => e = .returned (.bool false) ∧ Grew (w.alloc (.cells (p.cells (.slice ka p.kids.length kc)) 25)) w') := fun w1 g => (in_later p.kind [(21 : Int), 22, 23, 24] (by decide) w1 g).mono fun e w' ⟨h1, h2⟩ => ⟨h1.trans (by rw [show [(21 : Int), 22, 23, 24].contains p.kind = false from by rcases hk with h | h | h | h | h | h <;> rw [h] <;> rfl]), h2⟩
  have H2 : Hid (∀ w1, Grew (w.alloc (.cells (p.cells (.slice ka p.kids.length kc)) 25)) w1 → Calls Tryd.prog 61 #[.int .i64 p.kind, .slice (some ⟨w1.heap.size, 0, none⟩) 2 2] (w1.alloc (.cells #[.int .i64 18, .int .i64 19] 3)) fun e w' => e = .returned (.bool false) ∧ Grew (w.alloc (.cells (p.cells (.slice ka p.kids.length kc)) 25)) w') := fun w1 g => (in_later p.kind [(18 : Int), 19] (by decide) w1 g).mono fun e w' ⟨h1, h2⟩ => ⟨h1.trans (by rw [show [(18 : Int), 19].contains p.kind = false from by rcases hk with h | h | h | h | h | h <;> rw [h] <;> rfl]), h2⟩
  have H3 : Hid (∀ w1, Grew (w.alloc (.cells (p.cells (.slice ka p.kids.length kc)) 25)) w1 → Calls Tryd.prog 61 #[.int .i64 p.kind, .slice (some ⟨w1.heap.size, 0, none⟩) 3 3] (w1.alloc (.cells #[.int .i64 20, .int .i64 21, .int .i64 22] 3)) fun e w' => e = .returned (.bool false) ∧ Grew (w.alloc (.cells (p.cells (.slice ka p.kids.length kc)) 25)) w') := fun w1 g => (in_later p.kind [(20 : Int), 21, 22] (by decide) w1 g).mono fun e w' ⟨h1, h2⟩ => ⟨h1.trans (by rw [show [(20 : Int), 21, 22].contains p.kind = false from by rcases hk with h | h | h | h | h | h <;> rw [h] <;> rfl]), h2⟩
  have H5 : Hid (∀ w1, Grew (w.alloc (.cells (p.cells (.slice ka p.kids.length kc)) 25)) w1 → Calls Tryd.prog 61 #[.int .i64 p.kind, .slice (some ⟨w1.heap.size, 0, none⟩) 5 5] (w1.alloc (.cells #[.int .i64 18, .int .i64 19, .int .i64 20, .int .i64 21, .int .i64 22] 3)) fun e w' => e = .returned (.bool false) ∧ Grew (w.alloc (.cells (p.cells (.slice ka p.kids.length kc)) 25)) w') := fun w1 g => (in_later p.kind [(18 : Int), 19, 20, 21, 22] (by decide) w1 g).mono fun e w' ⟨h1, h2⟩ => ⟨h1.trans (by rw [show [(18 : Int), 19, 20, 21, 22].contains p.kind = false from by rcases hk with h | h | h | h | h | h <;> rw [h] <;> rfl]), h2⟩
  obtain ⟨kk, hkk⟩ : ∃ kk, p.kind = kk := ⟨_, rfl⟩
  obtain ⟨nn, hnn⟩ : ∃ nn, p.n = nn := ⟨_, rfl⟩
  obtain ⟨kl, hkl0⟩ : ∃ kl, p.kids.length = kl := ⟨_, rfl⟩
  have hts : p.text.size ≤ 9223372036854775807 := by unfold maxLen at hnm2; omega
  obtain ⟨ts, hts0⟩ : ∃ ts, p.text.size = ts := ⟨_, rfl⟩
  have HTS := hidd hts0
  have r1 : decide (kk < 1) = false := decide_eq_false (by omega)
  have r2 : decide (24 < kk) = false := decide_eq_false (by omega)
  have r3 : (kk == 1) = false := beq_eq_false_iff_ne.2 (by omega)
  rw [hkl0] at h0
  have q5 : ((kl : Int) == 0) = false := beq_eq_false_iff_ne.2 (by omega)
  have q6 : (kl == 0) = false := beq_eq_false_iff_ne.2 (by omega)
  unfold Pat.cells at HBx HG0 HNm HTx HNb H4 H2 H3 H5 ⊢
  rw [hkk] at HBx HG0 HNm HTx HNb H4 H2 H3 H5 ⊢
  rw [hnn] at HBx HG0 HNm HTx HNb H4 H2 H3 H5 ⊢
  rw [hkl0] at HBx HG0 HNm HTx HNb H4 H2 H3 H5 ⊢
  have hsz : p.text.size = ts := HTS.out
  have hg : Grew (w.alloc (.cells #[.int .i64 kk, .string p.text, .int .i64 nn, .string p.name, .slice ka kl kc] 25)) (w.alloc (.cells #[.int .i64 kk, .string p.text, .int .i64 nn, .string p.name, .slice ka kl kc] 25)) := Grew.refl _
  obtain ⟨c0, c1, c2, c3, c4⟩ := HBx.out _ hg
  clear hk hp hnm hnm2 hg0 hts hkk hnn hkl0 hts0 hkl h0
  go_enter Tryd.func47, Tryd.ntmps47
  go_wp2_with (first
     | (go_at_call 59; with_reducible refine (HTx.out _ hg).mono ?_; rintro e w2 ⟨rfl, hg2⟩; clear hg c0 c1 c2 c3 c4; have hg := hg2; clear hg2; obtain ⟨c0, c1, c2, c3, c4⟩ := HBx.out _ hg)
     | (go_at_call 60; with_reducible refine (HNb.out _ hg).mono ?_; rintro e w2 ⟨rfl, hg2⟩; clear hg c0 c1 c2 c3 c4; have hg := hg2; clear hg2; obtain ⟨c0, c1, c2, c3, c4⟩ := HBx.out _ hg)
     | (go_at_call 24; with_reducible refine (HNm.out _ hg).mono ?_; rintro e w2 ⟨rfl, hg2⟩; clear hg c0 c1 c2 c3 c4; have hg := hg2; clear hg2; obtain ⟨c0, c1, c2, c3, c4⟩ := HBx.out _ hg)
     | (go_at_call 61; first | (with_reducible refine (H4.out _ hg).mono ?_) | (with_reducible refine (H2.out _ hg).mono ?_) | (with_reducible refine (H3.out _ hg).mono ?_) | (with_reducible refine (H5.out _ hg).mono ?_)
        rintro e w2 ⟨rfl, hg2⟩; clear hg c0 c1 c2 c3 c4; have hg := hg2; clear hg2; obtain ⟨c0, c1, c2, c3, c4⟩ := HBx.out _ hg))
  go_ret
  exact ⟨rfl, HG0.out.trans hg⟩
set_option maxRecDepth 100000 in
set_option maxHeartbeats 4000000 in
theorem node_22 (hp : PatV w kv p) (hk : p.kind = 12 ∨ p.kind = 13 ∨ p.kind = 14 ∨ p.kind = 15 ∨ p.kind = 16 ∨ p.kind = 17) (h0 : (p.kids.length = 0)) :
    Calls Tryd.prog 47 #[.agg (p.cells kv)] w fun e w' => e = .returned (.int .i64 0) ∧ Grew w w' := by
  have HBx := hidd (pat_box w p kv)
  have hg0 : Grew w (w.alloc (.cells (p.cells kv) 25)) := (Grew.refl w).alloc _
  have HG0 := hidd hg0
  have hnm := hp.hm
  have hnm2 := hp.ht
  obtain ⟨ka, kc, rfl, hkl⟩ := hp.kids.len
  have HNm : Hid (∀ w1, Grew (w.alloc (.cells (p.cells (.slice ka p.kids.length kc)) 25)) w1 → Calls Tryd.prog 24 #[.string p.name] w1 fun e w' => e = .returned (.bool (named p.name)) ∧ Grew (w.alloc (.cells (p.cells (.slice ka p.kids.length kc)) 25)) w') := fun w1 g => (NamedR_any p.name w1 hnm).mono fun e w' ⟨h1, h2⟩ => ⟨h1, g.trans h2⟩
  have HTx : Hid (∀ w1, Grew (w.alloc (.cells (p.cells (.slice ka p.kids.length kc)) 25)) w1 → Calls Tryd.prog 59 #[.int .i64 p.kind] w1 fun e w' => e = .returned (.bool false) ∧ Grew (w.alloc (.cells (p.cells (.slice ka p.kids.length kc)) 25)) w') := fun w1 g => (texts_any p.kind w1).mono fun e w' ⟨h1, h2⟩ => ⟨h1.trans (by rw [show isTx p.kind = false from by rcases hk with h | h | h | h | h | h <;> rw [h] <;> rfl]), g.trans h2⟩
  have HNb : Hid (∀ w1, Grew (w.alloc (.cells (p.cells (.slice ka p.kids.length kc)) 25)) w1 → Calls Tryd.prog 60 #[.int .i64 p.kind] w1 fun e w' => e = .returned (.bool false) ∧ Grew (w.alloc (.cells (p.cells (.slice ka p.kids.length kc)) 25)) w') := fun w1 g => (numbers_any p.kind w1).mono fun e w' ⟨h1, h2⟩ => ⟨h1.trans (by rw [show isNb p.kind = false from by rcases hk with h | h | h | h | h | h <;> rw [h] <;> rfl]), g.trans h2⟩
  have H4 : Hid (∀ w1, Grew (w.alloc (.cells (p.cells (.slice ka p.kids.length kc)) 25)) w1 → Calls Tryd.prog 61 #[.int .i64 p.kind, .slice (some ⟨w1.heap.size, 0, none⟩) 4 4] (w1.alloc (.cells #[.int .i64 21, .int .i64 22, .int .i64 23, .int .i64 24] 3)) fun e w' => e = .returned (.bool false) ∧ Grew (w.alloc (.cells (p.cells (.slice ka p.kids.length kc)) 25)) w') := fun w1 g => (in_later p.kind [(21 : Int), 22, 23, 24] (by decide) w1 g).mono fun e w' ⟨h1, h2⟩ => ⟨h1.trans (by rw [show [(21 : Int), 22, 23, 24].contains p.kind = false from by rcases hk with h | h | h | h | h | h <;> rw [h] <;> rfl]), h2⟩
  have H2 : Hid (∀ w1, Grew (w.alloc (.cells (p.cells (.slice ka p.kids.length kc)) 25)) w1 → Calls Tryd.prog 61 #[.int .i64 p.kind, .slice (some ⟨w1.heap.size, 0, none⟩) 2 2] (w1.alloc (.cells #[.int .i64 18, .int .i64 19] 3)) fun e w' => e = .returned (.bool false) ∧ Grew (w.alloc (.cells (p.cells (.slice ka p.kids.length kc)) 25)) w') := fun w1 g => (in_later p.kind [(18 : Int), 19] (by decide) w1 g).mono fun e w' ⟨h1, h2⟩ => ⟨h1.trans (by rw [show [(18 : Int), 19].contains p.kind = false from by rcases hk with h | h | h | h | h | h <;> rw [h] <;> rfl]), h2⟩
  have H3 : Hid (∀ w1, Grew (w.alloc (.cells (p.cells (.slice ka p.kids.length kc)) 25)) w1 → Calls Tryd.prog 61 #[.int .i64 p.kind, .slice (some ⟨w1.heap.size, 0, none⟩) 3 3] (w1.alloc (.cells #[.int .i64 20, .int .i64 21, .int .i64 22] 3)) fun e w' => e = .returned (.bool false) ∧ Grew (w.alloc (.cells (p.cells (.slice ka p.kids.length kc)) 25)) w') := fun w1 g => (in_later p.kind [(20 : Int), 21, 22] (by decide) w1 g).mono fun e w' ⟨h1, h2⟩ => ⟨h1.trans (by rw [show [(20 : Int), 21, 22].contains p.kind = false from by rcases hk with h | h | h | h | h | h <;> rw [h] <;> rfl]), h2⟩
  have H5 : Hid (∀ w1, Grew (w.alloc (.cells (p.cells (.slice ka p.kids.length kc)) 25)) w1 → Calls Tryd.prog 61 #[.int .i64 p.kind, .slice (some ⟨w1.heap.size, 0, none⟩) 5 5] (w1.alloc (.cells #[.int .i64 18, .int .i64 19, .int .i64 20, .int .i64 21, .int .i64 22] 3)) fun e w' => e = .returned (.bool false) ∧ Grew (w.alloc (.cells (p.cells (.slice ka p.kids.length kc)) 25)) w') := fun w1 g => (in_later p.kind [(18 : Int), 19, 20, 21, 22] (by decide) w1 g).mono fun e w' ⟨h1, h2⟩ => ⟨h1.trans (by rw [show [(18 : Int), 19, 20, 21, 22].contains p.kind = false from by rcases hk with h | h | h | h | h | h <;> rw [h] <;> rfl]), h2⟩
  obtain ⟨kk, hkk⟩ : ∃ kk, p.kind = kk := ⟨_, rfl⟩
  obtain ⟨nn, hnn⟩ : ∃ nn, p.n = nn := ⟨_, rfl⟩
  obtain ⟨kl, hkl0⟩ : ∃ kl, p.kids.length = kl := ⟨_, rfl⟩
  have hts : p.text.size ≤ 9223372036854775807 := by unfold maxLen at hnm2; omega
  obtain ⟨ts, hts0⟩ : ∃ ts, p.text.size = ts := ⟨_, rfl⟩
  have HTS := hidd hts0
  have r1 : decide (kk < 1) = false := decide_eq_false (by omega)
  have r2 : decide (24 < kk) = false := decide_eq_false (by omega)
  have r3 : (kk == 1) = false := beq_eq_false_iff_ne.2 (by omega)
  rw [hkl0] at h0
  have q5 : ((kl : Int) == 0) = true := beq_iff_eq.2 (by omega)
  have q6 : (kl == 0) = true := beq_iff_eq.2 (by omega)
  unfold Pat.cells at HBx HG0 HNm HTx HNb H4 H2 H3 H5 ⊢
  rw [hkk] at HBx HG0 HNm HTx HNb H4 H2 H3 H5 ⊢
  rw [hnn] at HBx HG0 HNm HTx HNb H4 H2 H3 H5 ⊢
  rw [hkl0] at HBx HG0 HNm HTx HNb H4 H2 H3 H5 ⊢
  have hsz : p.text.size = ts := HTS.out
  have hg : Grew (w.alloc (.cells #[.int .i64 kk, .string p.text, .int .i64 nn, .string p.name, .slice ka kl kc] 25)) (w.alloc (.cells #[.int .i64 kk, .string p.text, .int .i64 nn, .string p.name, .slice ka kl kc] 25)) := Grew.refl _
  obtain ⟨c0, c1, c2, c3, c4⟩ := HBx.out _ hg
  clear hk hp hnm hnm2 hg0 hts hkk hnn hkl0 hts0 hkl h0
  go_enter Tryd.func47, Tryd.ntmps47
  go_wp2_with (first
     | (go_at_call 59; with_reducible refine (HTx.out _ hg).mono ?_; rintro e w2 ⟨rfl, hg2⟩; clear hg c0 c1 c2 c3 c4; have hg := hg2; clear hg2; obtain ⟨c0, c1, c2, c3, c4⟩ := HBx.out _ hg)
     | (go_at_call 60; with_reducible refine (HNb.out _ hg).mono ?_; rintro e w2 ⟨rfl, hg2⟩; clear hg c0 c1 c2 c3 c4; have hg := hg2; clear hg2; obtain ⟨c0, c1, c2, c3, c4⟩ := HBx.out _ hg)
     | (go_at_call 24; with_reducible refine (HNm.out _ hg).mono ?_; rintro e w2 ⟨rfl, hg2⟩; clear hg c0 c1 c2 c3 c4; have hg := hg2; clear hg2; obtain ⟨c0, c1, c2, c3, c4⟩ := HBx.out _ hg)
     | (go_at_call 61; first | (with_reducible refine (H4.out _ hg).mono ?_) | (with_reducible refine (H2.out _ hg).mono ?_) | (with_reducible refine (H3.out _ hg).mono ?_) | (with_reducible refine (H5.out _ hg).mono ?_)
        rintro e w2 ⟨rfl, hg2⟩; clear hg c0 c1 c2 c3 c4; have hg := hg2; clear hg2; obtain ⟨c0, c1, c2, c3, c4⟩ := HBx.out _ hg))
  go_ret
  exact ⟨rfl, HG0.out.trans hg⟩
set_option maxRecDepth 100000 in
theorem node_lo (hp : PatV w kv p) (h : p.kind < 1) : Calls Tryd.prog 47 #[.agg (p.cells kv)] w fun e w' => e = .returned (.int .i64 1) ∧ Grew w w' := by
  have HG0 : Hid (Grew w (w.alloc (.cells (p.cells kv) 25))) := (Grew.refl w).alloc _
  obtain ⟨ka, kc, rfl, hkl⟩ := hp.kids.len
  have c0 : (w.alloc (.cells (p.cells (.slice ka p.kids.length kc)) 25)).cell? ⟨w.heap.size, 0, none⟩ = some (.int .i64 p.kind) := by rw [World.cell?_alloc_mark]; rfl
  have r1 : decide (p.kind < 1) = true := decide_eq_true (by omega)
  
  clear h hp
  unfold Pat.cells at c0 HG0 ⊢
  go_enter Tryd.func47, Tryd.ntmps47
  go_wp2_with fail
  go_ret
  exact ⟨rfl, HG0.out⟩
set_option maxRecDepth 100000 in
theorem node_hi (hp : PatV w kv p) (h : 24 < p.kind) : Calls Tryd.prog 47 #[.agg (p.cells kv)] w fun e w' => e = .returned (.int .i64 1) ∧ Grew w w' := by
  have HG0 : Hid (Grew w (w.alloc (.cells (p.cells kv) 25))) := (Grew.refl w).alloc _
  obtain ⟨ka, kc, rfl, hkl⟩ := hp.kids.len
  have c0 : (w.alloc (.cells (p.cells (.slice ka p.kids.length kc)) 25)).cell? ⟨w.heap.size, 0, none⟩ = some (.int .i64 p.kind) := by rw [World.cell?_alloc_mark]; rfl
  have r1 : decide (p.kind < 1) = false := decide_eq_false (by omega)
  have r2 : decide (24 < p.kind) = true := decide_eq_true (by omega)
  clear h hp
  unfold Pat.cells at c0 HG0 ⊢
  go_enter Tryd.func47, Tryd.ntmps47
  go_wp2_with fail
  go_ret
  exact ⟨rfl, HG0.out⟩
end
end Go.Proofs.YtcmdhgamlhnioaaDoor
