/- The document's First, at every pattern (of two million nodes at most). -/
import Derived.Test.YtglfdfeideeeaaaDoorT6G
import Derived.Test.YtglfdfeideeeaaaDoorPT6Q
import Derived.Test.YtglfdfeideeeaaaDoorTnFstC
import Derived.Deep.MidRow
import Derived.Deep.RegionHeld3
namespace Go.Proofs.YtglfdfeideeeaaaDoor
open Go.RowKit
set_option linter.unusedVariables false
def begF (p : Pat) (b : Nat) : Bool := begP (UInt8.ofNat b) p
theorem byte_cell6 (b : Nat) (hb : b < 256) : ((UInt8.ofNat b).toNat : Int) = b := by
  simp only [UInt8.toNat_ofNat']; rw [Nat.mod_eq_of_lt (by omega)]
theorem four_cells6 {w : World} {b : Nat} {v0 v1 v2 v3 : Value} {t : TypeId} (h : w.heap[b]? = some (.cells #[v0, v1, v2, v3] t (0, 0))) :
    (w.cell? ⟨b, 0, none⟩ = some v0 ∧ w.cell? ⟨b, 1, none⟩ = some v1 ∧ w.cell? ⟨b, 2, none⟩ = some v2 ∧ w.cell? ⟨b, 3, none⟩ = some v3) ∧ ∀ o, w.frozen? ⟨b, o, none⟩ = false := by
  refine ⟨⟨?_, ?_, ?_, ?_⟩, fun o => by simp [World.frozen?, h]⟩ <;> simp [World.cell?, h]
set_option maxRecDepth 100000 in
set_option maxHeartbeats 8000000 in
theorem FirstR_ok (kv : Value) (p : Pat) (w : World) (hp : PatV w kv p) (hB : nodesP p ≤ 2000000) (h0 : patErr p = 0) :
    Calls Tryd.prog 10 #[.agg (p.cells kv)] w fun e w' => e = .returned (.tuple #[setV (begF p), .bool (refP p).nl, .int .i64 0]) ∧ Grew w w' := by
  obtain ⟨ka, kc, ekv, hkl⟩ := hp.kids.len
  subst ekv
  have hg0 : Grew w (w.alloc (.cells (p.cells (.slice ka p.kids.length kc)) 24)) := (Grew.refl w).alloc _
  have HBx := hidd (pat_box w p (.slice ka p.kids.length kc))
  have h1 := (patErr_iff p).1 h0
  have HW : Hid (∀ w1, Grew (w.alloc (.cells (p.cells (.slice ka p.kids.length kc)) 24)) w1 → Calls Tryd.prog 13 #[.agg (p.cells (.slice ka p.kids.length kc))] w1 fun e w' => e = .returned (.int .i64 0) ∧ Grew w1 w') := fun w1 g => by
    have h := WrongR_any _ p w1 (hp.kept (hg0.trans g)) hB
    rw [h0] at h
    exact h
  have HBg : Hid (∀ i, i < 256 → ∀ w1, Grew (w.alloc (.cells (p.cells (.slice ka p.kids.length kc)) 24)) w1 → Calls Tryd.prog 20 #[.agg (p.cells (.slice ka p.kids.length kc)), .int .u8 (i : Nat)] w1 fun e w' => e = .returned (.bool (begF p i)) ∧ Grew w1 w') := fun i hi w1 g => by
    have h := BeginsR_any (UInt8.ofNat i) _ _ p w1 (hp.kept (hg0.trans g)) h1.1 (Nat.le_refl _)
    rw [byte_cell6 i hi] at h
    exact h
  have HNl : Hid (∀ w1, Grew (w.alloc (.cells (p.cells (.slice ka p.kids.length kc)) 24)) w1 → Calls Tryd.prog 22 #[.agg (p.cells (.slice ka p.kids.length kc))] w1 fun e w' => e = .returned (.bool (refP p).nl) ∧ Grew w1 w') := fun w1 g => NullR_any _ _ p w1 (hp.kept (hg0.trans g)) h1.1 (Nat.le_refl _)
  have HBk := hidd (Back_any (begF p))
  have HG0 := hidd hg0
  have hz := run_zero_row
  obtain ⟨kl, hkl0⟩ : ∃ kl, p.kids.length = kl := ⟨_, rfl⟩
  unfold Pat.cells at HW HBg HNl HBx HG0 ⊢
  rw [hkl0] at HW HBg HNl HBx HG0 ⊢
  obtain ⟨nl, hnl⟩ : ∃ nl, (refP p).nl = nl := ⟨_, rfl⟩
  rw [hnl] at HNl ⊢
  obtain ⟨F, hF⟩ : ∃ F, begF p = F := ⟨_, rfl⟩
  rw [hF] at HBk HBg ⊢
  have hgs : Grew (w.alloc (.cells #[.int .i64 p.kind, .string p.text, .int .i64 p.n, .string p.name, .slice ka kl kc] 24)) ((w.alloc (.cells #[.int .i64 p.kind, .string p.text, .int .i64 p.n, .string p.name, .slice ka kl kc] 24)).alloc (.cells (wordsB fun _ => 0) 33)) := (Grew.refl _).alloc _
  have HS0 : Hid (((w.alloc (.cells #[.int .i64 p.kind, .string p.text, .int .i64 p.n, .string p.name, .slice ka kl kc] 24)).alloc (.cells (wordsB fun _ => 0) 33)).heap[(w.alloc (.cells #[.int .i64 p.kind, .string p.text, .int .i64 p.n, .string p.name, .slice ka kl kc] 24)).heap.size]? = some (.cells (wordsB fun _ => 0) 33 (0, 0))) := heap_alloc_new _ _
  have hs1 : (w.alloc (.cells #[.int .i64 p.kind, .string p.text, .int .i64 p.n, .string p.name, .slice ka kl kc] 24)).heap.size = w.heap.size + 1 := by simp
  rw [hs1] at HS0
  have HGs := hidd hgs
  unfold wordsB at HGs HS0
  have hgs2 := HGs.out
  obtain ⟨c0, c1, c2, c3, c4⟩ := HBx.out _ HGs.out
  clear hp hg0 h0 h1 hkl0 hnl hF hkl hB hgs hs1 hgs2
  go_enter Tryd.func10, Tryd.ntmps10
  go_wp2_with fail
  refine (HW.out _ HGs.out).mono ?_; rintro e w1 ⟨rfl, hg1⟩
  have G1 := hidd (HGs.out.trans hg1)
  have S1 := hidd ((hg1.block _ (lt_of_block HS0.out)).trans HS0.out)
  clear c0 c1 c2 c3 c4 HS0 HGs hg1
  go_wp2_with fail
  have HA0 : Hid (ArrAt (w1.alloc (.cells (rowB 256 fun _ => .bool false) 46)) w1.heap.size 0 256 (fun j => .bool (decide (j < 0) && F j))) := (row_at w1 fun _ => .bool false).congr fun j hj => by simp
  have HS2 := hidd ((((Grew.refl w1).alloc (.cells (rowB 256 fun _ => .bool false) 46)).block _ (lt_of_block S1.out)).trans S1.out)
  have HG2 := hidd (G1.out.alloc (.cells (rowB 256 fun _ => .bool false) 46))
  have hlow : w.heap.size + 1 < w1.heap.size := by
    exact lt_of_block S1.out
  clear hz S1 G1
  go_loopw [7, 14] (fun _ u14 wr => ∃ i : Nat, u14 = .int .i64 i ∧ i ≤ 256 ∧ Hid (ArrAt wr w1.heap.size 0 256 (fun j => .bool (decide (j < i) && F j))) ∧ Hid (wr.heap[w.heap.size + 1]? = some (.cells #[.int .u64 ((0 : Nat) : Int), .int .u64 ((0 : Nat) : Int), .int .u64 ((0 : Nat) : Int), .int .u64 ((0 : Nat) : Int)] 33 (0, 0))) ∧ Hid (Grew (w.alloc (.cells #[.int .i64 p.kind, .string p.text, .int .i64 p.n, .string p.name, .slice ka kl kc] 24)) wr)) (fun _ u14 _ => 256 - (intOf u14).toNat)
  case atStart => exact ⟨0, rfl, Nat.zero_le _, HA0.out, HS2.out, HG2.out⟩
  case round =>
    obtain ⟨i, rfl, hi, KR, KS, KW⟩ := hrel
    clear HA0 HS2 HG2
    obtain ⟨c0, c1, c2, c3, c4⟩ := HBx.out _ KW.out
    by_cases h : i < 256
    · have s1 : decide ((i : Int) < 256) = true := decide_eq_true (by omega)
      have s2 : decide (i < 256) = true := decide_eq_true h
      have hwb : IntKind.u8.wrap (i : Int) = (i : Int) := by simp [IntKind.wrap, IntKind.signed, IntKind.bits]; omega
      have HC := hidd (HBg.out i h wr KW.out)
      go_wp2_with fail
      refine HC.out.mono ?_; rintro e w2 ⟨rfl, G2⟩
      have KR2 := hidd (KR.out.kept G2)
      have KS2 := hidd ((G2.block _ (lt_of_block KS.out)).trans KS.out)
      have KW2 := hidd (KW.out.trans G2)
      have cr := KR2.out.at0 i h
      have cf := KR2.out.free0 i h
      clear c0 c1 c2 c3 c4 HC KR KS KW G2
      go_wp2_with fail
      refine ⟨⟨i + 1, by go_num, by omega, (KR2.out.set0 i h (.bool (F i))).congr fun j hj => ?_, (setCell_heap_other _ _ _ (show w1.heap.size ≠ w.heap.size + 1 by omega)).trans KS2.out, KW2.out.setCell (p := ⟨w1.heap.size, i, none⟩) (by rw [World.size_alloc]; show w.heap.size + 1 ≤ w1.heap.size; omega) _⟩, by simp [intOf]; omega⟩
      by_cases e : j = i
      · subst e; simp
      · rw [if_neg e]
        have : decide (j < i + 1) = decide (j < i) := by rw [decide_eq_decide]; omega
        rw [this]
    · obtain rfl : i = 256 := by omega
      have s1 : decide ((256 : Int) < 256) = false := rfl
      have hu46 := Tryd.underlying46
      obtain ⟨cs, hcs⟩ : ∃ cs, (List.range 256).map (fun j => Value.bool (F j)) = cs := ⟨_, rfl⟩
      have hi46 : (Tryd.prog.info? 46).map (·.size) = some cs.length := by rw [← hcs, List.length_map, List.length_range]; exact info_row
      have hrow : ∀ g, Grew wr g → g.rangeAt w1.heap.size 0 cs := fun g hg j v hj => by
        rw [← hcs] at hj
        have hj2 := (List.getElem?_eq_some_iff.1 hj).1
        rw [List.length_map, List.length_range] at hj2
        rw [List.getElem?_map] at hj
        have h5 := (KR.out.kept hg).at0 j hj2
        rw [List.getElem?_range hj2] at hj
        have hj : some (Value.bool (F j)) = some v := hj
        rw [Nat.zero_add, h5, ← hj, decide_eq_true hj2, Bool.true_and]
      have HBk2 : Hid (∀ w0, Calls Tryd.prog 21 #[.agg cs.toArray] w0 fun e w' => e = .returned (setV F) ∧ Grew w0 w') := fun w0 => by
        have h := HBk.out w0
        unfold rowF rowB at h
        rw [hcs] at h
        exact h
      have HS : Hid (∀ g, Grew wr g → g.rangeAt w1.heap.size 0 cs ∧ g.cell? ⟨w.heap.size, 0, none⟩ = some (.int .i64 p.kind) ∧ g.cell? ⟨w.heap.size, 1, none⟩ = some (.string p.text) ∧ g.cell? ⟨w.heap.size, 2, none⟩ = some (.int .i64 p.n) ∧ g.cell? ⟨w.heap.size, 3, none⟩ = some (.string p.name) ∧ g.cell? ⟨w.heap.size, 4, none⟩ = some (.slice ka kl kc)) := fun g hg => ⟨hrow g hg, HBx.out g (KW.out.trans hg)⟩
      have HSt : Hid (∀ g, Grew wr g → ∀ b0 b1 b2 b3, (((((g.setCell ⟨w.heap.size + 1, 0, none⟩ b0).setCell ⟨w.heap.size + 1, 1, none⟩ b1).setCell ⟨w.heap.size + 1, 2, none⟩ b2).setCell ⟨w.heap.size + 1, 3, none⟩ b3).rangeAt w1.heap.size 0 cs ∧ ((((g.setCell ⟨w.heap.size + 1, 0, none⟩ b0).setCell ⟨w.heap.size + 1, 1, none⟩ b1).setCell ⟨w.heap.size + 1, 2, none⟩ b2).setCell ⟨w.heap.size + 1, 3, none⟩ b3).cell? ⟨w.heap.size, 0, none⟩ = some (.int .i64 p.kind) ∧ ((((g.setCell ⟨w.heap.size + 1, 0, none⟩ b0).setCell ⟨w.heap.size + 1, 1, none⟩ b1).setCell ⟨w.heap.size + 1, 2, none⟩ b2).setCell ⟨w.heap.size + 1, 3, none⟩ b3).cell? ⟨w.heap.size, 1, none⟩ = some (.string p.text) ∧ ((((g.setCell ⟨w.heap.size + 1, 0, none⟩ b0).setCell ⟨w.heap.size + 1, 1, none⟩ b1).setCell ⟨w.heap.size + 1, 2, none⟩ b2).setCell ⟨w.heap.size + 1, 3, none⟩ b3).cell? ⟨w.heap.size, 2, none⟩ = some (.int .i64 p.n) ∧ ((((g.setCell ⟨w.heap.size + 1, 0, none⟩ b0).setCell ⟨w.heap.size + 1, 1, none⟩ b1).setCell ⟨w.heap.size + 1, 2, none⟩ b2).setCell ⟨w.heap.size + 1, 3, none⟩ b3).cell? ⟨w.heap.size, 3, none⟩ = some (.string p.name) ∧ ((((g.setCell ⟨w.heap.size + 1, 0, none⟩ b0).setCell ⟨w.heap.size + 1, 1, none⟩ b1).setCell ⟨w.heap.size + 1, 2, none⟩ b2).setCell ⟨w.heap.size + 1, 3, none⟩ b3).cell? ⟨w.heap.size, 4, none⟩ = some (.slice ka kl kc))) := fun g hg b0 b1 b2 b3 => by
        have hoff : ∀ a : Addr, w.heap.size + 1 ≠ a.block → ((((g.setCell ⟨w.heap.size + 1, 0, none⟩ b0).setCell ⟨w.heap.size + 1, 1, none⟩ b1).setCell ⟨w.heap.size + 1, 2, none⟩ b2).setCell ⟨w.heap.size + 1, 3, none⟩ b3).cell? a = g.cell? a := fun a ha => by
          exact World.cell?_of_block (by rw [setCell_heap_other _ _ _ ha, setCell_heap_other _ _ _ ha, setCell_heap_other _ _ _ ha, setCell_heap_other _ _ _ ha])
        obtain ⟨e0, e1, e2, e3, e4, e5⟩ := HS.out g hg
        refine ⟨fun j v hj => ?_, ?_, ?_, ?_, ?_, ?_⟩
        · rw [hoff _ (by show w.heap.size + 1 ≠ w1.heap.size; omega)]; exact e0 j v hj
        all_goals (rw [hoff _ (by show w.heap.size + 1 ≠ w.heap.size; omega)]; assumption)
      have HGd := hidd ((Grew.refl wr).drew)
      have hk0 := HS.out _ HGd.out
      unfold setV at HBk2
      clear hrow hcs HBk c0 c1 c2 c3 c4
      go_wp2_with fail
      go_region_held3 (fun g => g.rangeAt w1.heap.size 0 cs ∧ g.cell? ⟨w.heap.size, 0, none⟩ = some (.int .i64 p.kind) ∧ g.cell? ⟨w.heap.size, 1, none⟩ = some (.string p.text) ∧ g.cell? ⟨w.heap.size, 2, none⟩ = some (.int .i64 p.n) ∧ g.cell? ⟨w.heap.size, 3, none⟩ = some (.string p.name) ∧ g.cell? ⟨w.heap.size, 4, none⟩ = some (.slice ka kl kc)) (first | with_reducible exact hk2 | with_reducible exact hst _ _ _ _ | with_reducible exact hk1 | with_reducible exact hk0)
        (first
         | (go_at_call 21; refine (HBk2.out _).mono ?_; rintro e w3 ⟨rfl, G3⟩; have G3b := hidd (HGd.out.trans G3); have hk1 := HS.out w3 G3b.out)
         | (go_at_call 22; refine (HNl.out _ (KW.out.trans G3b.out)).mono ?_; rintro e w4 ⟨rfl, G4⟩; have G4b := hidd (G3b.out.trans G4); have hk2 := HS.out w4 G4b.out; have hw4 := (G4b.out.block _ (lt_of_block KS.out)).trans KS.out; obtain ⟨⟨q0, q1, q2, q3⟩, fz⟩ := four_cells6 hw4; have f0 := fz 0; have f1 := fz 1; have f2 := fz 2; have f3 := fz 3; clear fz; have hst := HSt.out w4 G4b.out; have HW4 := hidd (And.intro hw4 G4b.out); clear hw4))
      go_wp2_with fail
      have hfin := setCell_heap_same (setCell_heap_same (setCell_heap_same (setCell_heap_same HW4.out.1 0 (.int .u64 (word F 0 64 : Nat))) 1 (.int .u64 (word F 64 64 : Nat))) 2 (.int .u64 (word F 128 64 : Nat))) 3 (.int .u64 (word F 192 64 : Nat))
      (try simp only [Exit.inBlock, Exit.then, Exit.noGoto_ret])
      refine bodyPost_ret (results_fst3 rfl rfl rfl rfl hfin rfl) rfl ⟨rfl, ?_⟩
      have hg := KW.out.trans HW4.out.2
      have hl : w.heap.size ≤ w.heap.size + 1 := Nat.le_succ _
      exact ((((HG0.out.trans hg).setCell hl _).setCell hl _).setCell hl _).setCell hl _
set_option maxRecDepth 100000 in
set_option maxHeartbeats 4000000 in
theorem FirstR_bad (kv : Value) (p : Pat) (w : World) (hp : PatV w kv p) (hB : nodesP p ≤ 2000000) (h0 : patErr p ≠ 0) :
    Calls Tryd.prog 10 #[.agg (p.cells kv)] w fun e w' => e = .returned (.tuple #[.agg #[.int .u64 0, .int .u64 0, .int .u64 0, .int .u64 0], .bool false, .int .i64 (patErr p)]) ∧ Grew w w' := by
  obtain ⟨ka, kc, ekv, hkl⟩ := hp.kids.len
  subst ekv
  have hg0 : Grew w (w.alloc (.cells (p.cells (.slice ka p.kids.length kc)) 24)) := (Grew.refl w).alloc _
  have HBx := hidd (pat_box w p (.slice ka p.kids.length kc))
  obtain ⟨er, her⟩ : ∃ er, patErr p = er := ⟨_, rfl⟩
  have HW : Hid (∀ w1, Grew (w.alloc (.cells (p.cells (.slice ka p.kids.length kc)) 24)) w1 → Calls Tryd.prog 13 #[.agg (p.cells (.slice ka p.kids.length kc))] w1 fun e w' => e = .returned (.int .i64 er) ∧ Grew w1 w') := fun w1 g => by
    have h := WrongR_any _ p w1 (hp.kept (hg0.trans g)) hB
    rw [her] at h
    exact h
  rw [her] at h0 ⊢
  have t0 : (er == 0) = false := beq_eq_false_iff_ne.2 h0
  have HG0 := hidd hg0
  obtain ⟨kl, hkl0⟩ : ∃ kl, p.kids.length = kl := ⟨_, rfl⟩
  unfold Pat.cells at HW HBx HG0 ⊢
  rw [hkl0] at HW HBx HG0 ⊢
  have HS0 : Hid (((w.alloc (.cells #[.int .i64 p.kind, .string p.text, .int .i64 p.n, .string p.name, .slice ka kl kc] 24)).alloc (.cells (wordsB fun _ => 0) 33)).heap[(w.alloc (.cells #[.int .i64 p.kind, .string p.text, .int .i64 p.n, .string p.name, .slice ka kl kc] 24)).heap.size]? = some (.cells (wordsB fun _ => 0) 33 (0, 0))) := heap_alloc_new _ _
  have hs1 : (w.alloc (.cells #[.int .i64 p.kind, .string p.text, .int .i64 p.n, .string p.name, .slice ka kl kc] 24)).heap.size = w.heap.size + 1 := by simp
  rw [hs1] at HS0
  have HGs : Hid (Grew (w.alloc (.cells #[.int .i64 p.kind, .string p.text, .int .i64 p.n, .string p.name, .slice ka kl kc] 24)) ((w.alloc (.cells #[.int .i64 p.kind, .string p.text, .int .i64 p.n, .string p.name, .slice ka kl kc] 24)).alloc (.cells (wordsB fun _ => 0) 33))) := (Grew.refl _).alloc _
  unfold wordsB at HGs HS0
  obtain ⟨c0, c1, c2, c3, c4⟩ := HBx.out _ HGs.out
  clear hp hg0 h0 her hkl0 hkl hB hs1
  go_enter Tryd.func10, Tryd.ntmps10
  go_wp2_with fail
  refine (HW.out _ HGs.out).mono ?_; rintro e w1 ⟨rfl, hg1⟩
  have G1 := hidd (HGs.out.trans hg1)
  have S1 := hidd ((hg1.block _ (lt_of_block HS0.out)).trans HS0.out)
  obtain ⟨⟨q0, q1, q2, q3⟩, fz⟩ := four_cells6 S1.out
  have f0 := fz 0
  have f1 := fz 1
  have f2 := fz 2
  have f3 := fz 3
  clear c0 c1 c2 c3 c4 HS0 HGs hg1 fz
  go_wp2_with fail
  have hfin := setCell_heap_same (setCell_heap_same (setCell_heap_same (setCell_heap_same S1.out 0 (.int .u64 0)) 1 (.int .u64 0)) 2 (.int .u64 0)) 3 (.int .u64 0)
  (try simp only [Exit.inBlock, Exit.then, Exit.noGoto_ret])
  refine bodyPost_ret (results_fst3 rfl rfl rfl rfl hfin rfl) rfl ⟨rfl, ?_⟩
  have hl : w.heap.size ≤ w.heap.size + 1 := Nat.le_succ _
  exact ((((HG0.out.trans G1.out).setCell hl _).setCell hl _).setCell hl _).setCell hl _
end Go.Proofs.YtglfdfeideeeaaaDoor
