/- (*places).then, (*places).again. -/
import Derived.Test.YtkkdpafkafjfgaaDoorMkGlN
import Derived.Test.YtkkdpafkafjfgaaDoorMkPAuEy
import Derived.Test.YtkkdpafkafjfgaaDoorMkAuLp
import Derived.Test.YtkkdpafkafjfgaaDoorMkAuLc
import Derived.Test.YtkkdpafkafjfgaaDoorMkRegA
namespace Go.Proofs.YtkkdpafkafjfgaaDoor
open Go.RowKit RR
set_option linter.unusedVariables false
set_option linter.unusedSimpArgs false
theorem joinFits {w wr : World} {ob : Nat} {g : Gl} {F : Nat → Prop} (h : GlAt w wr ob g F) {a : Part} (ha : a.last < 2 ^ g.sets.length) : a.last < 2 ^ g.fo.length := by rw [h.fits.len]; exact ha
theorem part_ok (x y : Int) (z : Bool) : (#[.int .u32 x, .int .u32 y, .bool z] : Array Value).all (·.oneCell') = true := by simp [Value.oneCell']
set_option maxRecDepth 100000 in
set_option maxHeartbeats 4000000 in
theorem Again_any {w w0 : World} {ob : Nat} {g : Gl} {F : Nat → Prop} (h : GlAt w w0 ob g F) (a : Part) (ha : a.last < 2 ^ g.sets.length) (hs : SmallG a) (hT : TabZ32 w) :
    Calls Tryd.prog 61 #[.pointer (some ⟨ob, 0, none⟩), partV a] w0 fun e w' => e = .returned (partV (againP a)) ∧ GlAt w w' ob (g.join a.last a.first) F ∧ GlTo w0 w' F F := by
  have hz := zero_part
  have hg1 := (Grew.refl w0).alloc (.cells (partC a) 69)
  have hg2 := hg1.alloc (.cells (partC part0) 69)
  have hb1 := heap_kept ((Grew.refl _).alloc (.cells (partC part0) 69)) (heap_alloc_new w0 (.cells (partC a) 69))
  have hb2 := heap_alloc2_new w0 (.cells (partC a) 69) (.cells (partC part0) 69)
  have hG := h.kept hg2
  have HJ := hidd (Join_any hG (joinFits hG ha) hs.first hT)
  have HFn : Hid (∀ k, w0.heap.size ≤ k → ¬ F k) := fun k hk hf => by have := h.lt hf; omega
  have HLo := hidd (show w.heap.size ≤ w0.heap.size from h.grew.size)
  obtain ⟨W, hW⟩ : ∃ W, (w0.alloc (.cells (partC a) 69)).alloc (.cells (partC part0) 69) = W := ⟨_, rfl⟩
  rw [hW] at hb1 hb2 HJ hg2
  have HB := hidd (And.intro hb1 (And.intro hb2 hg2))
  obtain ⟨af, al, an⟩ := a
  have ca : ∀ i : Nat, W.cell? ⟨w0.heap.size, i, none⟩ = (#[.int .u32 (af : Nat), .int .u32 (al : Nat), .bool an] : Array Value)[i]? := fun i => cell_of hb1 i
  have ca0 : W.cell? ⟨w0.heap.size, 0, none⟩ = some (.int .u32 (af : Nat)) := ca 0
  have ca1 : W.cell? ⟨w0.heap.size, 1, none⟩ = some (.int .u32 (al : Nat)) := ca 1
  replace hW : (w0.alloc (.cells #[.int .u32 (af : Nat), .int .u32 (al : Nat), .bool an] 69)).alloc (.cells #[.int .u32 0, .int .u32 0, .bool false] 69) = W := hW
  clear hg1 hg2 hb1 hb2 hG h ha hs hT ca
  unfold partV partC maskV
  go_enter Tryd.func61, Tryd.ntmps61
  go_wp2_with (rw [hW])
  refine HJ.out.mono ?_; rintro e w1 ⟨rfl, hG1, hT1⟩
  have hf1 := HFn.out w0.heap.size (Nat.le_refl _)
  have hf2 := HFn.out (w0.heap.size + 1) (by omega)
  have hl2 : w0.heap.size + 1 < W.heap.size := (Array.getElem?_eq_some_iff.1 HB.out.2.1).1
  have hb1 := (hT1.out _ (by omega) hf1).trans HB.out.1
  have hb2 := (hT1.out _ hl2 hf2).trans HB.out.2.1
  have c2 : w1.cell? ⟨w0.heap.size, 2, none⟩ = some (.bool an) := cell_of hb1 2
  have f2 : w1.frozen? ⟨w0.heap.size, 2, none⟩ = false := by unfold World.frozen?; dsimp only; rw [hb1]; simp
  have hb3 : (w1.setCell ⟨w0.heap.size, 2, none⟩ (.bool true)).heap[w0.heap.size]? = some (.cells #[.int .u32 (af : Nat), .int .u32 (al : Nat), .bool true] 69 (0, 0)) := by rw [q_set_same hb1]; rfl
  have hb4 : (w1.setCell ⟨w0.heap.size, 2, none⟩ (.bool true)).heap[w0.heap.size + 1]? = some (.cells (partC part0) 69 (0, 0)) := by rw [q_set_other _ _ (by omega)]; exact hb2
  have H3 := hidd (And.intro hb3 hb4)
  have HG1 := hidd (And.intro hG1 hT1)
  have HN := hidd (And.intro hf1 hf2)
  clear hb1 hb2 hb3 hb4 hf1 hf2 hl2 hG1 hT1 HJ ca0 ca1
  go_wp2_with (first | (refine wpList_load_part (b := w0.heap.size) rfl rfl rfl H3.out.1 rfl ?_) | (refine wpList_store_part (b := w0.heap.size + 1) rfl rfl rfl rfl H3.out.2 rfl rfl (part_ok _ _ _) ?_))
  refine bodyPost_ret (results_part (p := 4) (rb := w0.heap.size + 1) (av := #[.int .u32 (af : Nat), .int .u32 (al : Nat), .bool true]) rfl rfl (setRow_heap _ _ _ _ _ _ H3.out.2) rfl) rfl ?_
  have hlo := HLo.out
  refine ⟨rfl, (HG1.out.1.setOther HN.out.1 hlo _).setRow HN.out.2 (by omega) _, GlTo.setRow ?_ (by omega) _⟩
  have ht := HG1.out.2
  have hg := HB.out.2.2
  exact ⟨by rw [show (w1.setCell ⟨w0.heap.size, 2, none⟩ (.bool true)).heap.size = w1.heap.size by simp [World.setCell]]; exact Nat.le_trans hg.size ht.size, fun k h1 h2 => (q_set_other _ _ (by omega)).trans ((ht.out k (Nat.lt_of_lt_of_le h1 hg.size) h2).trans (hg.block k h1)), fun _ h => Or.inl h⟩
theorem or32w {a b : Nat} (ha : a < 4096) (hb : b < 4096) : bits .or .u32 (a : Int) (b : Int) = ((a ||| b : Nat) : Int) := or32 a b (by omega) (by omega)
set_option maxRecDepth 100000 in
set_option maxHeartbeats 4000000 in
theorem Then_any {w w0 : World} {ob : Nat} {g : Gl} {F : Nat → Prop} (h : GlAt w w0 ob g F) (a b : Part) (ha : a.last < 2 ^ g.sets.length) (hs : SmallG a) (hs2 : SmallG b) (hT : TabZ32 w) :
    Calls Tryd.prog 59 #[.pointer (some ⟨ob, 0, none⟩), partV a, partV b] w0 fun e w' => e = .returned (partV (thenP a b)) ∧ GlAt w w' ob (g.join a.last b.first) F ∧ GlTo w0 w' F F := by
  have hz := zero_part
  have hg1 := (Grew.refl w0).alloc (.cells (partC a) 69)
  have hg2 := hg1.alloc (.cells (partC b) 69)
  have hg3 := hg2.alloc (.cells (partC part0) 69)
  have hb1 := heap_kept ((Grew.refl _).alloc (.cells (partC part0) 69)) (heap_kept ((Grew.refl _).alloc (.cells (partC b) 69)) (heap_alloc_new w0 (.cells (partC a) 69)))
  have hb2 := heap_kept ((Grew.refl _).alloc (.cells (partC part0) 69)) (heap_alloc2_new w0 (.cells (partC a) 69) (.cells (partC b) 69))
  have hb3 := heap_alloc2_new (w0.alloc (.cells (partC a) 69)) (.cells (partC b) 69) (.cells (partC part0) 69)
  rw [World.size_alloc] at hb3
  have hG := h.kept hg3
  have HJ := hidd (Join_any hG (joinFits hG ha) hs2.first hT)
  have HFn : Hid (∀ k, w0.heap.size ≤ k → ¬ F k) := fun k hk hf => by have := h.lt hf; omega
  have HLo := hidd (show w.heap.size ≤ w0.heap.size from h.grew.size)
  obtain ⟨W, hW⟩ : ∃ W, ((w0.alloc (.cells (partC a) 69)).alloc (.cells (partC b) 69)).alloc (.cells (partC part0) 69) = W := ⟨_, rfl⟩
  rw [hW] at hb1 hb2 hb3 HJ hg3
  have HB := hidd (And.intro hb1 (And.intro hb2 (And.intro hb3 hg3)))
  obtain ⟨af, al, an⟩ := a
  obtain ⟨bf, bl, bn⟩ := b
  have ca1 : W.cell? ⟨w0.heap.size, 1, none⟩ = some (.int .u32 (al : Nat)) := cell_of hb1 1
  have cb0 : W.cell? ⟨w0.heap.size + 1, 0, none⟩ = some (.int .u32 (bf : Nat)) := cell_of hb2 0
  have HO := hidd (And.intro (or32w hs.first hs2.first) (or32w hs2.last hs.last))
  replace hW : ((w0.alloc (.cells #[.int .u32 (af : Nat), .int .u32 (al : Nat), .bool an] 69)).alloc (.cells #[.int .u32 (bf : Nat), .int .u32 (bl : Nat), .bool bn] 69)).alloc (.cells #[.int .u32 0, .int .u32 0, .bool false] 69) = W := hW
  clear hg1 hg2 hg3 hb1 hb2 hb3 hG h ha hs hs2 hT
  unfold partV partC maskV
  dsimp only at HO
  go_enter Tryd.func59, Tryd.ntmps59
  go_wp2_with (rw [hW])
  refine HJ.out.mono ?_; rintro e w1 ⟨rfl, hG1, hT1⟩
  have hf1 := HFn.out w0.heap.size (Nat.le_refl _)
  have hf2 := HFn.out (w0.heap.size + 1) (by omega)
  have hf3 := HFn.out (w0.heap.size + 1 + 1) (by omega)
  have hl3 : w0.heap.size + 1 + 1 < W.heap.size := (Array.getElem?_eq_some_iff.1 HB.out.2.2.1).1
  have hb1 := (hT1.out _ (by omega) hf1).trans HB.out.1
  have hb2 := (hT1.out _ (by omega) hf2).trans HB.out.2.1
  have hb3 := (hT1.out _ hl3 hf3).trans HB.out.2.2.1
  have c0 : ∀ o, (w1.alloc o).cell? ⟨w0.heap.size, 0, none⟩ = some (.int .u32 (af : Nat)) := fun o => cell_of (heap_kept ((Grew.refl _).alloc o) hb1) 0
  have c1 : ∀ o, (w1.alloc o).cell? ⟨w0.heap.size, 1, none⟩ = some (.int .u32 (al : Nat)) := fun o => cell_of (heap_kept ((Grew.refl _).alloc o) hb1) 1
  have c2 : ∀ o, (w1.alloc o).cell? ⟨w0.heap.size, 2, none⟩ = some (.bool an) := fun o => cell_of (heap_kept ((Grew.refl _).alloc o) hb1) 2
  have d0 : ∀ o, (w1.alloc o).cell? ⟨w0.heap.size + 1, 0, none⟩ = some (.int .u32 (bf : Nat)) := fun o => cell_of (heap_kept ((Grew.refl _).alloc o) hb2) 0
  have d1 : ∀ o, (w1.alloc o).cell? ⟨w0.heap.size + 1, 1, none⟩ = some (.int .u32 (bl : Nat)) := fun o => cell_of (heap_kept ((Grew.refl _).alloc o) hb2) 1
  have d2 : ∀ o, (w1.alloc o).cell? ⟨w0.heap.size + 1, 2, none⟩ = some (.bool bn) := fun o => cell_of (heap_kept ((Grew.refl _).alloc o) hb2) 2
  have e0 : w1.cell? ⟨w0.heap.size, 0, none⟩ = some (.int .u32 (af : Nat)) := cell_of hb1 0
  have e1 : w1.cell? ⟨w0.heap.size, 1, none⟩ = some (.int .u32 (al : Nat)) := cell_of hb1 1
  have e2 : w1.cell? ⟨w0.heap.size, 2, none⟩ = some (.bool an) := cell_of hb1 2
  have f0 : w1.cell? ⟨w0.heap.size + 1, 0, none⟩ = some (.int .u32 (bf : Nat)) := cell_of hb2 0
  have f1 : w1.cell? ⟨w0.heap.size + 1, 1, none⟩ = some (.int .u32 (bl : Nat)) := cell_of hb2 1
  have f2 : w1.cell? ⟨w0.heap.size + 1, 2, none⟩ = some (.bool bn) := cell_of hb2 2
  have H3 : Hid (∀ o, (w1.alloc o).heap[w0.heap.size + 1 + 1]? = some (.cells (partC part0) 69 (0, 0))) := fun o => heap_kept ((Grew.refl _).alloc o) hb3
  have HG1 := hidd (And.intro hG1 hT1)
  have HN := hidd hf3
  clear hb1 hb2 hb3 hf1 hf2 hf3 hl3 hG1 hT1 HJ ca1 cb0
  obtain ⟨o1, ho1⟩ : ∃ o1, af ||| bf = o1 := ⟨_, rfl⟩
  obtain ⟨o2, ho2⟩ : ∃ o2, bl ||| al = o2 := ⟨_, rfl⟩
  have HO1 := HO.out.1
  have HO2 := HO.out.2
  rw [ho1] at HO1
  rw [ho2] at HO2
  have HEnd : Hid (∀ o cs, GlAt w ((w1.alloc o).setRow (w0.heap.size + 1 + 1) cs) ob (g.join al bf) F ∧ GlTo w0 ((w1.alloc o).setRow (w0.heap.size + 1 + 1) cs) F F) := fun o cs => by
    have hlo := HLo.out
    have ht := HG1.out.2
    have hg := HB.out.2.2.2
    have ga := (Grew.refl w1).alloc o
    refine ⟨(HG1.out.1.kept ga).setRow HN.out (by omega) _, GlTo.setRow ?_ (by omega) _⟩
    exact ((GlTo.grew hg F).trans ht).trans (GlTo.grew ga F)
  have HO3 := hidd (And.intro ho1 ho2)
  clear ho1 ho2 HG1 HB HO HFn HLo HN
  cases an <;> cases bn
  · go_wp2_with (first | (refine wpList_load_part (b := w1.heap.size) rfl rfl rfl (heap_alloc_new _ _) rfl ?_) | (refine wpList_store_part (b := w0.heap.size + 1 + 1) rfl rfl rfl rfl (H3.out _) rfl rfl (part_ok _ _ _) ?_) | (simp only [HO1, HO2]))
    refine bodyPost_ret (results_part (p := 6) (rb := w0.heap.size + 1 + 1) (av := #[.int .u32 (af : Nat), .int .u32 (bl : Nat), .bool false]) rfl rfl (setRow_heap _ _ _ _ _ _ (H3.out _)) rfl) rfl ⟨rfl, HEnd.out _ _⟩
  · go_wp2_with (first | (refine wpList_load_part (b := w1.heap.size) rfl rfl rfl (heap_alloc_new _ _) rfl ?_) | (refine wpList_store_part (b := w0.heap.size + 1 + 1) rfl rfl rfl rfl (H3.out _) rfl rfl (part_ok _ _ _) ?_) | (simp only [HO1, HO2]))
    refine bodyPost_ret (results_part (p := 6) (rb := w0.heap.size + 1 + 1) (av := #[.int .u32 (af : Nat), .int .u32 (o2 : Nat), .bool false]) rfl rfl (setRow_heap _ _ _ _ _ _ (H3.out _)) rfl) rfl ⟨by rw [← HO3.out.2]; rfl, HEnd.out _ _⟩
  · go_wp2_with (first | (refine wpList_load_part (b := w1.heap.size) rfl rfl rfl (heap_alloc_new _ _) rfl ?_) | (refine wpList_store_part (b := w0.heap.size + 1 + 1) rfl rfl rfl rfl (H3.out _) rfl rfl (part_ok _ _ _) ?_) | (simp only [HO1, HO2]))
    refine bodyPost_ret (results_part (p := 6) (rb := w0.heap.size + 1 + 1) (av := #[.int .u32 (o1 : Nat), .int .u32 (bl : Nat), .bool false]) rfl rfl (setRow_heap _ _ _ _ _ _ (H3.out _)) rfl) rfl ⟨by rw [← HO3.out.1]; rfl, HEnd.out _ _⟩
  · go_wp2_with (first | (refine wpList_load_part (b := w1.heap.size) rfl rfl rfl (heap_alloc_new _ _) rfl ?_) | (refine wpList_store_part (b := w0.heap.size + 1 + 1) rfl rfl rfl rfl (H3.out _) rfl rfl (part_ok _ _ _) ?_) | (simp only [HO1, HO2]))
    refine bodyPost_ret (results_part (p := 6) (rb := w0.heap.size + 1 + 1) (av := #[.int .u32 (o1 : Nat), .int .u32 (o2 : Nat), .bool true]) rfl rfl (setRow_heap _ _ _ _ _ _ (H3.out _)) rfl) rfl ⟨by rw [← HO3.out.1, ← HO3.out.2]; rfl, HEnd.out _ _⟩
end Go.Proofs.YtkkdpafkafjfgaaDoor

namespace Go.Proofs.YtkkdpafkafjfgaaDoor
open Go.RowKit RR
set_option linter.unusedVariables false
set_option linter.unusedSimpArgs false
set_option maxRecDepth 100000
def LowRl (B : Nat) (w w' : World) : Prop := w.heap.size ≤ w'.heap.size ∧ ∀ k, k < B → k < w.heap.size → w'.heap[k]? = w.heap[k]?
theorem LowRl.refl (B : Nat) (w : World) : LowRl B w w := ⟨Nat.le_refl _, fun _ _ _ => rfl⟩
theorem LowRl.drew (B : Nat) (w : World) : LowRl B w w.drew := ⟨Nat.le_refl _, fun _ _ _ => rfl⟩
theorem LowRl.trans {B : Nat} (a b c : World) (h : LowRl B a b) (k : LowRl B b c) : LowRl B a c := ⟨Nat.le_trans h.1 k.1, fun i h1 h2 => (k.2 i h1 (Nat.lt_of_lt_of_le h2 h.1)).trans (h.2 i h1 h2)⟩
theorem LowRl.of_grew {B : Nat} {w w' : World} (g : Grew w w') : LowRl B w w' := ⟨g.size, fun k _ h => g.block k h⟩
theorem LowRl.setRow {B k : Nat} (w : World) (h : B ≤ k) (cs : Array Value) : LowRl B w (w.setRow k cs) := ⟨by simp [World.setRow], fun i h1 _ => setRow_other _ _ _ _ (by omega)⟩
structure BoxJ (wb : World) (T : TypeId) (zc fc : Array Value) (ia is dst : Nat) (listed : Array Bool) (a : Act) (w : World) : Prop where
  o : listed.getD is false = true → listed.getD ia false = true
  p0 : listed.getD ia false = false → w = wb
  p1 : listed.getD ia false = true → listed.getD is false = false → a.tmps.getD dst undef = .pointer (some ⟨wb.heap.size, 0, none⟩) ∧ w = wb.alloc (.cells zc T)
  p2 : listed.getD is false = true → a.tmps.getD dst undef = .pointer (some ⟨wb.heap.size, 0, none⟩) ∧ w = (wb.alloc (.cells zc T)).setRow wb.heap.size fc
section
variable {P : Program} {wb w0 : World} {T : TypeId} {zc fc : Array Value} {ia is dst : Nat} {ops : Array Oper} {Q : Exit → Act → World → Prop} {shs : List Sh} {a0 : Act} {A : Array Edge} {i : Nat} {d : Option Tmp} {op : Op} {ty : TypeId} {pos : String} {G : Option (Nat × Bool)}
theorem boxj_start {m : Nat} (a : Act) (w : World) : BoxJ w T zc fc ia is dst (Array.replicate m false) a w := by
  have hz : ∀ j, (Array.replicate m false).getD j false = false := fun j => by
    simp only [Array.getD_eq_getD_getElem?, Array.getElem?_replicate]
    split <;> rfl
  exact ⟨fun k => (by rw [hz] at k; cases k), fun _ => rfl, fun k => (by rw [hz] at k; cases k), fun k => (by rw [hz] at k; cases k)⟩
theorem BoxJ.grew {listed : Array Bool} {a : Act} {w : World} (h : BoxJ wb T zc fc ia is dst listed a w) : Grew wb w := by
  have ga := (Grew.refl wb).alloc (.cells zc T)
  cases e : listed.getD ia false with
  | false => rw [h.p0 e]; exact Grew.refl _
  | true =>
    cases e2 : listed.getD is false with
    | false => rw [(h.p1 e e2).2]; exact ga
    | true => rw [(h.p2 e2).2]; exact ga.below (B := wb.heap.size) ⟨rfl, rfl, rfl, by simp [World.setRow], fun k hk => setRow_other _ _ _ _ (by omega)⟩ (Nat.le_refl _)
theorem BoxJ.stay {listed : Array Bool} {a : Act} {w : World} (h : BoxJ wb T zc fc ia is dst listed a w) (hia : i ≠ ia) (his : i ≠ is) (hd : d ≠ some dst) (v : Value) : BoxJ wb T zc fc ia is dst (listed.setIfInBounds i true) (a.put d v) w := by
  have ea : (listed.setIfInBounds i true).getD ia false = listed.getD ia false := lset_ne hia
  have es : (listed.setIfInBounds i true).getD is false = listed.getD is false := lset_ne his
  have et : (a.put d v).tmps.getD dst undef = a.tmps.getD dst undef := by
    cases d with
    | none => rfl
    | some d0 => exact getD_put (fun e => hd (by rw [e]))
  exact ⟨fun k => (by rw [es] at k; rw [ea]; exact h.o k), fun k => h.p0 (by rwa [ea] at k), fun k1 k2 => (by rw [ea] at k1; rw [es] at k2; rw [et]; exact h.p1 k1 k2), fun k => (by rw [es] at k; rw [et]; exact h.p2 k)⟩
theorem bj_pure {z : Value} (hia : i ≠ ia) (his : i ≠ is) (hd : d ≠ some dst)
    (hr : ∀ a w, Grew wb w → RR.Env (LowRl wb.heap.size) ops shs a0 w0 A a w → (execOp a.eval ⟨d, op, ty, pos, A, G⟩).run P w = .ok (.value z) w)
    (hg : guardIs ops shs A G = some true) (hs : shs.getD i (.fact fun _ _ => True) = .val z) : StepJ (BoxJ wb T zc fc ia is dst) (LowRl wb.heap.size) P ops Q (shF shs) a0 w0 i ⟨d, op, ty, pos, A, G⟩ := by
  intro listed a w hls hlf hdep hsz hJ hw hsm hdp K hK
  have E : RR.Env (LowRl wb.heap.size) ops shs a0 w0 A a w := ⟨hw, hsm, hdp⟩
  rw [if_pos (E.guard hg)]
  unfold Oper.wp
  rw [hr a w hJ.grew E]
  exact hK z w (LowRl.refl _ w) (by unfold shF; rw [hs]; rfl) (hJ.stay hia his hd z)
theorem bj_move {z : Value} (hia : i ≠ ia) (his : i ≠ is) (hd : d ≠ some dst) {x : Operand} (hg : guardIs ops shs A G = some true) (hx : opSh ops shs A a0 x = .val z) (hs : shs.getD i (.fact fun _ _ => True) = .val z) :
    StepJ (BoxJ wb T zc fc ia is dst) (LowRl wb.heap.size) P ops Q (shF shs) a0 w0 i ⟨d, .move x, ty, pos, A, G⟩ :=
  bj_pure hia his hd (fun a w _ E => by
    have hv : a.eval x = z := E.opv hx
    unfold execOp
    simp [hv]) hg hs
theorem bj_field {t : TypeId} {k : Nat} {p r : Addr} (hf : ∀ w, (Instr.fieldAt t (.pointer (some p)) k).run P w = .ok (.pointer (some r)) w) (hia : i ≠ ia) (his : i ≠ is) (hd : d ≠ some dst) {x : Operand} (hg : guardIs ops shs A G = some true) (hx : opSh ops shs A a0 x = .val (.pointer (some p))) (hs : shs.getD i (.fact fun _ _ => True) = .val (.pointer (some r))) :
    StepJ (BoxJ wb T zc fc ia is dst) (LowRl wb.heap.size) P ops Q (shF shs) a0 w0 i ⟨d, .fieldAddr t x k, ty, pos, A, G⟩ :=
  bj_pure hia his hd (fun a w _ E => by
    have hv : a.eval x = .pointer (some p) := E.opv hx
    unfold execOp
    simp [hv, hf w]) hg hs
theorem bj_index {t : TypeId} {u v z : Value} (hrun : ∀ w, (Instr.indexAt t u v).run P w = .ok z w) (hia : i ≠ ia) (his : i ≠ is) (hd : d ≠ some dst) {x y : Operand}
    (hg : guardIs ops shs A G = some true) (hx : opSh ops shs A a0 x = .val u) (hy : opSh ops shs A a0 y = .val v) (hs : shs.getD i (.fact fun _ _ => True) = .val z) :
    StepJ (BoxJ wb T zc fc ia is dst) (LowRl wb.heap.size) P ops Q (shF shs) a0 w0 i ⟨d, .indexAddr t x y, ty, pos, A, G⟩ :=
  bj_pure hia his hd (fun a w _ E => by
    have hv : a.eval x = u := E.opv hx
    have hw : a.eval y = v := E.opv hy
    unfold execOp
    simp [hv, hw, hrun w]) hg hs
theorem bj_load {t : TypeId} {p : Addr} {z : Value} (hrun : ∀ w, Grew wb w → (Instr.loadAt t (.pointer (some p))).run P w = .ok z w) (hia : i ≠ ia) (his : i ≠ is) (hd : d ≠ some dst) {x : Operand}
    (hg : guardIs ops shs A G = some true) (hx : opSh ops shs A a0 x = .val (.pointer (some p))) (hs : shs.getD i (.fact fun _ _ => True) = .val z) :
    StepJ (BoxJ wb T zc fc ia is dst) (LowRl wb.heap.size) P ops Q (shF shs) a0 w0 i ⟨d, .load t x, ty, pos, A, G⟩ :=
  bj_pure hia his hd (fun a w g E => by
    have hv : a.eval x = .pointer (some p) := E.opv hx
    unfold execOp
    simp [hv, hrun w g]) hg hs
theorem bj_alloc (hial : ia < ops.size) (hdl : dst < a0.tmps.size) (hne : ia ≠ is) (hrun : ∀ (ev : Operand → Value) (w : World), (execOp ev ⟨some dst, .alloc T, ty, pos, A, G⟩).run P w = .ok (.value (.pointer (some ⟨w.heap.size, 0, none⟩))) (w.alloc (.cells zc T)))
    (hg : guardIs ops shs A G = some true) (hs : shs.getD ia (.fact fun _ _ => True) = .fact fun _ _ => True) : StepJ (BoxJ wb T zc fc ia is dst) (LowRl wb.heap.size) P ops Q (shF shs) a0 w0 ia ⟨some dst, .alloc T, ty, pos, A, G⟩ := by
  intro listed a w hls hlf hdep hsz hJ hw hsm hdp K hK
  have E : RR.Env (LowRl wb.heap.size) ops shs a0 w0 A a w := ⟨hw, hsm, hdp⟩
  rw [if_pos (E.guard hg)]
  have hww := hJ.p0 hlf
  subst hww
  unfold Oper.wp
  rw [hrun]
  have hsf : listed.getD is false = false := by
    cases k : listed.getD is false with
    | false => rfl
    | true => rw [hJ.o k] at hlf; cases hlf
  have ht : (a.put (some dst) (.pointer (some ⟨w.heap.size, 0, none⟩))).tmps.getD dst undef = .pointer (some ⟨w.heap.size, 0, none⟩) := getD_put_same (by rw [hsz]; exact hdl)
  have hls2 : (listed.setIfInBounds ia true).getD is false = false := by rw [lset_ne hne]; exact hsf
  have hls3 : (listed.setIfInBounds ia true).getD ia false = true := lset_here (by rw [hls]; exact hial)
  exact hK _ _ (LowRl.of_grew ((Grew.refl _).alloc _)) (by unfold shF; rw [hs]; trivial) ⟨fun k => (by rw [hls2] at k; cases k), fun k => (by rw [hls3] at k; cases k), fun _ _ => ⟨ht, rfl⟩, fun k => (by rw [hls2] at k; cases k)⟩
theorem bj_store (hisl : is < ops.size) (hne : ia ≠ is) {x y : Operand} {fv : Value} (hx : ∀ a : Act, a.eval x = a.tmps.getD dst undef) (hdep1 : onDep A ia = true) (hT : onDep A ia = true → True)
    (hst : ∀ w : World, w.heap[wb.heap.size]? = some (.cells zc T (0, 0)) → (Instr.storeAt T (.pointer (some ⟨wb.heap.size, 0, none⟩)) fv).run P w = .ok () (w.setRow wb.heap.size fc))
    (hg : guardIs ops shs A G = some true) (hy : opSh ops shs A a0 y = .val fv) (hs : shs.getD is (.fact fun _ _ => True) = .fact fun _ _ => True) : StepJ (BoxJ wb T zc fc ia is dst) (LowRl wb.heap.size) P ops Q (shF shs) a0 w0 is ⟨none, .store T x y, ty, pos, A, G⟩ := by
  intro listed a w hls hlf hdep hsz hJ hw hsm hdp K hK
  have E : RR.Env (LowRl wb.heap.size) ops shs a0 w0 A a w := ⟨hw, hsm, hdp⟩
  rw [if_pos (E.guard hg)]
  have hia := onDep_listed hdep1 hdep
  obtain ⟨h1, rfl⟩ := hJ.p1 hia hlf
  have hv : a.eval x = .pointer (some ⟨wb.heap.size, 0, none⟩) := (hx a).trans h1
  have hw2 : a.eval y = fv := E.opv hy
  have hrun := hst _ (heap_alloc_new wb (.cells zc T))
  have ha2 : (listed.setIfInBounds is true).getD ia false = true := by rw [lset_ne (Ne.symm hne)]; exact hia
  have hs2 : (listed.setIfInBounds is true).getD is false = true := lset_here (by rw [hls]; exact hisl)
  have := hK undef _ (LowRl.setRow (B := wb.heap.size) (k := wb.heap.size) (wb.alloc (.cells zc T)) (Nat.le_refl _) fc) (by unfold shF; rw [hs]; trivial) ⟨fun _ => ha2, fun k => (by rw [ha2] at k; cases k), fun _ k => (by rw [hs2] at k; cases k), fun _ => ⟨h1, rfl⟩⟩
  unfold Oper.wp execOp
  simp only [hv, hw2, hrun, Sem.run_bind, Sem.run_pure, Result.andThen_ok]
  exact this
end
section
variable {W wr w' : World} {mb : Nat} {L : List (Nat × Nat)} {i k : Nat} {qv qv' : Value}
end
theorem clsN_pos (C : RA) : 0 < clsN C := by
  obtain ⟨j, hj, _⟩ := fsts_of (colA C) 256 0 (by omega)
  exact List.length_pos_of_mem hj
end Go.Proofs.YtkkdpafkafjfgaaDoor
