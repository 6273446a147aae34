/- (*places).then, (*places).again. -/
import Derived.Test.YtkkdpafkafjfgaaDoorWwGlN
namespace Go.Proofs.YtkkdpafkafjfgaaDoor
open Go.RowKit RR
set_option linter.unusedVariables false
set_option linter.unusedSimpArgs false
theorem joinFits {w wr : World} {ob : Nat} {g : Gl} {F : Nat → Prop} (h : GlAt w wr ob g F) {a : Part} (ha : a.last < 2 ^ g.sets.length) : a.last < 2 ^ g.fo.length := by rw [h.fits.len]; exact ha
theorem part_ok (x y : Int) (z : Bool) : (#[.int .u32 x, .int .u32 y, .bool z] : Array Value).all (·.oneCell') = true := by simp [Value.oneCell']
set_option maxRecDepth 100000 in
set_option maxHeartbeats 4000000 in
theorem Again_any {w w0 : World} {ob : Nat} {g : Gl} {F : Nat → Prop} (h : GlAt w w0 ob g F) (a : Part) (ha : a.last < 2 ^ g.sets.length) (hs : SmallG a) (hT : TabZ32 w) :
    Calls Tryd.prog 61 #[.pointer (some ⟨ob, 0, none⟩), partV a] w0 fun e w' => e = .returned (partV (againP a)) ∧ GlAt w w' ob (g.join a.last a.first) F ∧ GlTo w0 w' F F := by
  have hz := zero_part
  have hg1 := (Grew.refl w0).alloc (.cells (partC a) 69)
  have hg2 := hg1.alloc (.cells (partC part0) 69)
  have hb1 := heap_kept ((Grew.refl _).alloc (.cells (partC part0) 69)) (heap_alloc_new w0 (.cells (partC a) 69))
  have hb2 := heap_alloc2_new w0 (.cells (partC a) 69) (.cells (partC part0) 69)
  have hG := h.kept hg2
  have HJ := hidd (Join_any hG (joinFits hG ha) hs.first hT)
  have HFn : Hid (∀ k, w0.heap.size ≤ k → ¬ F k) := fun k hk hf => by have := h.lt hf; omega
  have HLo := hidd (show w.heap.size ≤ w0.heap.size from h.grew.size)
  obtain ⟨W, hW⟩ : ∃ W, (w0.alloc (.cells (partC a) 69)).alloc (.cells (partC part0) 69) = W := ⟨_, rfl⟩
  rw [hW] at hb1 hb2 HJ hg2
  have HB := hidd (And.intro hb1 (And.intro hb2 hg2))
  obtain ⟨af, al, an⟩ := a
  have ca : ∀ i : Nat, W.cell? ⟨w0.heap.size, i, none⟩ = (#[.int .u32 (af : Nat), .int .u32 (al : Nat), .bool an] : Array Value)[i]? := fun i => cell_of hb1 i
  have ca0 : W.cell? ⟨w0.heap.size, 0, none⟩ = some (.int .u32 (af : Nat)) := ca 0
  have ca1 : W.cell? ⟨w0.heap.size, 1, none⟩ = some (.int .u32 (al : Nat)) := ca 1
  replace hW : (w0.alloc (.cells #[.int .u32 (af : Nat), .int .u32 (al : Nat), .bool an] 69)).alloc (.cells #[.int .u32 0, .int .u32 0, .bool false] 69) = W := hW
  clear hg1 hg2 hb1 hb2 hG h ha hs hT ca
  unfold partV partC maskV
  go_enter Tryd.func61, Tryd.ntmps61
  go_wp2_with (rw [hW])
  refine HJ.out.mono ?_; rintro e w1 ⟨rfl, hG1, hT1⟩
  have hf1 := HFn.out w0.heap.size (Nat.le_refl _)
  have hf2 := HFn.out (w0.heap.size + 1) (by omega)
  have hl2 : w0.heap.size + 1 < W.heap.size := (Array.getElem?_eq_some_iff.1 HB.out.2.1).1
  have hb1 := (hT1.out _ (by omega) hf1).trans HB.out.1
  have hb2 := (hT1.out _ hl2 hf2).trans HB.out.2.1
  have c2 : w1.cell? ⟨w0.heap.size, 2, none⟩ = some (.bool an) := cell_of hb1 2
  have f2 : w1.frozen? ⟨w0.heap.size, 2, none⟩ = false := by unfold World.frozen?; dsimp only; rw [hb1]; simp
  have hb3 : (w1.setCell ⟨w0.heap.size, 2, none⟩ (.bool true)).heap[w0.heap.size]? = some (.cells #[.int .u32 (af : Nat), .int .u32 (al : Nat), .bool true] 69 (0, 0)) := by rw [q_set_same hb1]; rfl
  have hb4 : (w1.setCell ⟨w0.heap.size, 2, none⟩ (.bool true)).heap[w0.heap.size + 1]? = some (.cells (partC part0) 69 (0, 0)) := by rw [q_set_other _ _ (by omega)]; exact hb2
  have H3 := hidd (And.intro hb3 hb4)
  have HG1 := hidd (And.intro hG1 hT1)
  have HN := hidd (And.intro hf1 hf2)
  clear hb1 hb2 hb3 hb4 hf1 hf2 hl2 hG1 hT1 HJ ca0 ca1
  go_wp2_with (first | (refine wpList_load_part (b := w0.heap.size) rfl rfl rfl H3.out.1 rfl ?_) | (refine wpList_store_part (b := w0.heap.size + 1) rfl rfl rfl rfl H3.out.2 rfl rfl (part_ok _ _ _) ?_))
  refine bodyPost_ret (results_part (p := 4) (rb := w0.heap.size + 1) (av := #[.int .u32 (af : Nat), .int .u32 (al : Nat), .bool true]) rfl rfl (setRow_heap _ _ _ _ _ _ H3.out.2) rfl) rfl ?_
  have hlo := HLo.out
  refine ⟨rfl, (HG1.out.1.setOther HN.out.1 hlo _).setRow HN.out.2 (by omega) _, GlTo.setRow ?_ (by omega) _⟩
  have ht := HG1.out.2
  have hg := HB.out.2.2
  exact ⟨by rw [show (w1.setCell ⟨w0.heap.size, 2, none⟩ (.bool true)).heap.size = w1.heap.size by simp [World.setCell]]; exact Nat.le_trans hg.size ht.size, fun k h1 h2 => (q_set_other _ _ (by omega)).trans ((ht.out k (Nat.lt_of_lt_of_le h1 hg.size) h2).trans (hg.block k h1)), fun _ h => Or.inl h⟩
theorem or32w {a b : Nat} (ha : a < 4096) (hb : b < 4096) : bits .or .u32 (a : Int) (b : Int) = ((a ||| b : Nat) : Int) := or32 a b (by omega) (by omega)
set_option maxRecDepth 100000 in
set_option maxHeartbeats 4000000 in
theorem Then_any {w w0 : World} {ob : Nat} {g : Gl} {F : Nat → Prop} (h : GlAt w w0 ob g F) (a b : Part) (ha : a.last < 2 ^ g.sets.length) (hs : SmallG a) (hs2 : SmallG b) (hT : TabZ32 w) :
    Calls Tryd.prog 59 #[.pointer (some ⟨ob, 0, none⟩), partV a, partV b] w0 fun e w' => e = .returned (partV (thenP a b)) ∧ GlAt w w' ob (g.join a.last b.first) F ∧ GlTo w0 w' F F := by
  have hz := zero_part
  have hg1 := (Grew.refl w0).alloc (.cells (partC a) 69)
  have hg2 := hg1.alloc (.cells (partC b) 69)
  have hg3 := hg2.alloc (.cells (partC part0) 69)
  have hb1 := heap_kept ((Grew.refl _).alloc (.cells (partC part0) 69)) (heap_kept ((Grew.refl _).alloc (.cells (partC b) 69)) (heap_alloc_new w0 (.cells (partC a) 69)))
  have hb2 := heap_kept ((Grew.refl _).alloc (.cells (partC part0) 69)) (heap_alloc2_new w0 (.cells (partC a) 69) (.cells (partC b) 69))
  have hb3 := heap_alloc2_new (w0.alloc (.cells (partC a) 69)) (.cells (partC b) 69) (.cells (partC part0) 69)
  rw [World.size_alloc] at hb3
  have hG := h.kept hg3
  have HJ := hidd (Join_any hG (joinFits hG ha) hs2.first hT)
  have HFn : Hid (∀ k, w0.heap.size ≤ k → ¬ F k) := fun k hk hf => by have := h.lt hf; omega
  have HLo := hidd (show w.heap.size ≤ w0.heap.size from h.grew.size)
  obtain ⟨W, hW⟩ : ∃ W, ((w0.alloc (.cells (partC a) 69)).alloc (.cells (partC b) 69)).alloc (.cells (partC part0) 69) = W := ⟨_, rfl⟩
  rw [hW] at hb1 hb2 hb3 HJ hg3
  have HB := hidd (And.intro hb1 (And.intro hb2 (And.intro hb3 hg3)))
  obtain ⟨af, al, an⟩ := a
  obtain ⟨bf, bl, bn⟩ := b
  have ca1 : W.cell? ⟨w0.heap.size, 1, none⟩ = some (.int .u32 (al : Nat)) := cell_of hb1 1
  have cb0 : W.cell? ⟨w0.heap.size + 1, 0, none⟩ = some (.int .u32 (bf : Nat)) := cell_of hb2 0
  have HO := hidd (And.intro (or32w hs.first hs2.first) (or32w hs2.last hs.last))
  replace hW : ((w0.alloc (.cells #[.int .u32 (af : Nat), .int .u32 (al : Nat), .bool an] 69)).alloc (.cells #[.int .u32 (bf : Nat), .int .u32 (bl : Nat), .bool bn] 69)).alloc (.cells #[.int .u32 0, .int .u32 0, .bool false] 69) = W := hW
  clear hg1 hg2 hg3 hb1 hb2 hb3 hG h ha hs hs2 hT
  unfold partV partC maskV
  dsimp only at HO
  go_enter Tryd.func59, Tryd.ntmps59
  go_wp2_with (rw [hW])
  refine HJ.out.mono ?_; rintro e w1 ⟨rfl, hG1, hT1⟩
  have hf1 := HFn.out w0.heap.size (Nat.le_refl _)
  have hf2 := HFn.out (w0.heap.size + 1) (by omega)
  have hf3 := HFn.out (w0.heap.size + 1 + 1) (by omega)
  have hl3 : w0.heap.size + 1 + 1 < W.heap.size := (Array.getElem?_eq_some_iff.1 HB.out.2.2.1).1
  have hb1 := (hT1.out _ (by omega) hf1).trans HB.out.1
  have hb2 := (hT1.out _ (by omega) hf2).trans HB.out.2.1
  have hb3 := (hT1.out _ hl3 hf3).trans HB.out.2.2.1
  have c0 : ∀ o, (w1.alloc o).cell? ⟨w0.heap.size, 0, none⟩ = some (.int .u32 (af : Nat)) := fun o => cell_of (heap_kept ((Grew.refl _).alloc o) hb1) 0
  have c1 : ∀ o, (w1.alloc o).cell? ⟨w0.heap.size, 1, none⟩ = some (.int .u32 (al : Nat)) := fun o => cell_of (heap_kept ((Grew.refl _).alloc o) hb1) 1
  have c2 : ∀ o, (w1.alloc o).cell? ⟨w0.heap.size, 2, none⟩ = some (.bool an) := fun o => cell_of (heap_kept ((Grew.refl _).alloc o) hb1) 2
  have d0 : ∀ o, (w1.alloc o).cell? ⟨w0.heap.size + 1, 0, none⟩ = some (.int .u32 (bf : Nat)) := fun o => cell_of (heap_kept ((Grew.refl _).alloc o) hb2) 0
  have d1 : ∀ o, (w1.alloc o).cell? ⟨w0.heap.size + 1, 1, none⟩ = some (.int .u32 (bl : Nat)) := fun o => cell_of (heap_kept ((Grew.refl _).alloc o) hb2) 1
  have d2 : ∀ o, (w1.alloc o).cell? ⟨w0.heap.size + 1, 2, none⟩ = some (.bool bn) := fun o => cell_of (heap_kept ((Grew.refl _).alloc o) hb2) 2
  have e0 : w1.cell? ⟨w0.heap.size, 0, none⟩ = some (.int .u32 (af : Nat)) := cell_of hb1 0
  have e1 : w1.cell? ⟨w0.heap.size, 1, none⟩ = some (.int .u32 (al : Nat)) := cell_of hb1 1
  have e2 : w1.cell? ⟨w0.heap.size, 2, none⟩ = some (.bool an) := cell_of hb1 2
  have f0 : w1.cell? ⟨w0.heap.size + 1, 0, none⟩ = some (.int .u32 (bf : Nat)) := cell_of hb2 0
  have f1 : w1.cell? ⟨w0.heap.size + 1, 1, none⟩ = some (.int .u32 (bl : Nat)) := cell_of hb2 1
  have f2 : w1.cell? ⟨w0.heap.size + 1, 2, none⟩ = some (.bool bn) := cell_of hb2 2
  have H3 : Hid (∀ o, (w1.alloc o).heap[w0.heap.size + 1 + 1]? = some (.cells (partC part0) 69 (0, 0))) := fun o => heap_kept ((Grew.refl _).alloc o) hb3
  have HG1 := hidd (And.intro hG1 hT1)
  have HN := hidd hf3
  clear hb1 hb2 hb3 hf1 hf2 hf3 hl3 hG1 hT1 HJ ca1 cb0
  obtain ⟨o1, ho1⟩ : ∃ o1, af ||| bf = o1 := ⟨_, rfl⟩
  obtain ⟨o2, ho2⟩ : ∃ o2, bl ||| al = o2 := ⟨_, rfl⟩
  have HO1 := HO.out.1
  have HO2 := HO.out.2
  rw [ho1] at HO1
  rw [ho2] at HO2
  have HEnd : Hid (∀ o cs, GlAt w ((w1.alloc o).setRow (w0.heap.size + 1 + 1) cs) ob (g.join al bf) F ∧ GlTo w0 ((w1.alloc o).setRow (w0.heap.size + 1 + 1) cs) F F) := fun o cs => by
    have hlo := HLo.out
    have ht := HG1.out.2
    have hg := HB.out.2.2.2
    have ga := (Grew.refl w1).alloc o
    refine ⟨(HG1.out.1.kept ga).setRow HN.out (by omega) _, GlTo.setRow ?_ (by omega) _⟩
    exact ((GlTo.grew hg F).trans ht).trans (GlTo.grew ga F)
  have HO3 := hidd (And.intro ho1 ho2)
  clear ho1 ho2 HG1 HB HO HFn HLo HN
  cases an <;> cases bn
  · go_wp2_with (first | (refine wpList_load_part (b := w1.heap.size) rfl rfl rfl (heap_alloc_new _ _) rfl ?_) | (refine wpList_store_part (b := w0.heap.size + 1 + 1) rfl rfl rfl rfl (H3.out _) rfl rfl (part_ok _ _ _) ?_) | (simp only [HO1, HO2]))
    refine bodyPost_ret (results_part (p := 6) (rb := w0.heap.size + 1 + 1) (av := #[.int .u32 (af : Nat), .int .u32 (bl : Nat), .bool false]) rfl rfl (setRow_heap _ _ _ _ _ _ (H3.out _)) rfl) rfl ⟨rfl, HEnd.out _ _⟩
  · go_wp2_with (first | (refine wpList_load_part (b := w1.heap.size) rfl rfl rfl (heap_alloc_new _ _) rfl ?_) | (refine wpList_store_part (b := w0.heap.size + 1 + 1) rfl rfl rfl rfl (H3.out _) rfl rfl (part_ok _ _ _) ?_) | (simp only [HO1, HO2]))
    refine bodyPost_ret (results_part (p := 6) (rb := w0.heap.size + 1 + 1) (av := #[.int .u32 (af : Nat), .int .u32 (o2 : Nat), .bool false]) rfl rfl (setRow_heap _ _ _ _ _ _ (H3.out _)) rfl) rfl ⟨by rw [← HO3.out.2]; rfl, HEnd.out _ _⟩
  · go_wp2_with (first | (refine wpList_load_part (b := w1.heap.size) rfl rfl rfl (heap_alloc_new _ _) rfl ?_) | (refine wpList_store_part (b := w0.heap.size + 1 + 1) rfl rfl rfl rfl (H3.out _) rfl rfl (part_ok _ _ _) ?_) | (simp only [HO1, HO2]))
    refine bodyPost_ret (results_part (p := 6) (rb := w0.heap.size + 1 + 1) (av := #[.int .u32 (o1 : Nat), .int .u32 (bl : Nat), .bool false]) rfl rfl (setRow_heap _ _ _ _ _ _ (H3.out _)) rfl) rfl ⟨by rw [← HO3.out.1]; rfl, HEnd.out _ _⟩
  · go_wp2_with (first | (refine wpList_load_part (b := w1.heap.size) rfl rfl rfl (heap_alloc_new _ _) rfl ?_) | (refine wpList_store_part (b := w0.heap.size + 1 + 1) rfl rfl rfl rfl (H3.out _) rfl rfl (part_ok _ _ _) ?_) | (simp only [HO1, HO2]))
    refine bodyPost_ret (results_part (p := 6) (rb := w0.heap.size + 1 + 1) (av := #[.int .u32 (o1 : Nat), .int .u32 (o2 : Nat), .bool true]) rfl rfl (setRow_heap _ _ _ _ _ _ (H3.out _)) rfl) rfl ⟨by rw [← HO3.out.1, ← HO3.out.2]; rfl, HEnd.out _ _⟩
end Go.Proofs.YtkkdpafkafjfgaaDoor
