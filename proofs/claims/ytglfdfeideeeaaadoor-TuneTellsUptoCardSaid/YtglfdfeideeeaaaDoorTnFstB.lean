/- tune: first, at texts, brackets, and at nodes with one kid. Printed. -/
import Derived.Test.YtglfdfeideeeaaaDoorTnFst
namespace Go.Proofs.YtglfdfeideeeaaaDoor
open Go.RowKit
set_option linter.unusedVariables false
theorem text_neF {a b : ByteArray} (h : a ≠ b) : (a.toList == b.toList) = false := by
  rw [beq_eq_false_iff_ne]
  intro e
  exact h (str_ext (by rw [ByteArray.toList_eq, ByteArray.toList_eq] at e; exact e))
theorem nil_of_size {t : ByteArray} (h : t.size = 0) : t.data.toList = [] := List.eq_nil_of_length_eq_zero h
theorem headB_nil {t : ByteArray} (h : t.size = 0) : setOf (headB t).data.toList = emptyS := by
  have : (headB t).size = 0 := by unfold headB; rw [ByteArray.size_extract]; omega
  rw [nil_of_size this]; rfl
theorem of_nil {t : ByteArray} (h : t.size = 0) (w : World) : Calls Tryd.prog 28 #[.string t] w fun e w' => e = .returned (.agg #[.int .u64 0, .int .u64 0, .int .u64 0, .int .u64 0]) ∧ Grew w w' := by
  have k := of_told t (by rw [h]; exact Nat.zero_le _) w
  rw [nil_of_size h, show setOf [] = emptyS from rfl, q4_empty, q4_empty, q4_empty, q4_empty] at k
  exact k
theorem far_cell {w : World} {b o r : Nat} {v : Value} (hb : b ≠ r) (h : w.cell? ⟨b, o, none⟩ = some v) : ∀ u0 u1 u2 u3, ((((w.setCell ⟨r, 0, none⟩ u0).setCell ⟨r, 1, none⟩ u1).setCell ⟨r, 2, none⟩ u2).setCell ⟨r, 3, none⟩ u3).cell? ⟨b, o, none⟩ = some v := fun u0 u1 u2 u3 => by
  rw [setCell_cell_other _ _ _ _ (.inl (by first | exact hb | exact hb.symm)), setCell_cell_other _ _ _ _ (.inl (by first | exact hb | exact hb.symm)), setCell_cell_other _ _ _ _ (.inl (by first | exact hb | exact hb.symm)), setCell_cell_other _ _ _ _ (.inl (by first | exact hb | exact hb.symm))]; exact h
theorem pos_list {t : ByteArray} (h : 0 < t.size) : t.toList.isEmpty = false := by
  rw [ByteArray.toList_eq]
  cases hl : t.data.toList with
  | nil => have : t.data.toList.length = t.size := rfl; rw [hl] at this; simp at this; omega
  | cons c l => rfl
theorem fin_eq {x : Value} {c d : Bool} {A : Array Value} (h : x = .bool c) (k : c = d) : Ending.returned (.tuple #[.agg A, x]) = .returned (.tuple #[.agg A, .bool d]) := by rw [h, k]
theorem less_told (f g : Nat → Bool) (w : World) : Calls Tryd.prog 54 #[.agg #[.int .u64 (q4 f 0), .int .u64 (q4 f 1), .int .u64 (q4 f 2), .int .u64 (q4 f 3)], .agg #[.int .u64 (q4 g 0), .int .u64 (q4 g 1), .int .u64 (q4 g 2), .int .u64 (q4 g 3)]] w fun e w' => e = .returned (.agg #[.int .u64 (q4 (fun i => f i && !g i) 0), .int .u64 (q4 (fun i => f i && !g i) 1), .int .u64 (q4 (fun i => f i && !g i) 2), .int .u64 (q4 (fun i => f i && !g i) 3)]) ∧ Grew w w' := Less_any f g w
theorem union_told (f g : Nat → Bool) (w : World) : Calls Tryd.prog 55 #[.agg #[.int .u64 (q4 f 0), .int .u64 (q4 f 1), .int .u64 (q4 f 2), .int .u64 (q4 f 3)], .agg #[.int .u64 (q4 g 0), .int .u64 (q4 g 1), .int .u64 (q4 g 2), .int .u64 (q4 g 3)]] w fun e w' => e = .returned (.agg #[.int .u64 (q4 (fun i => f i || g i) 0), .int .u64 (q4 (fun i => f i || g i) 1), .int .u64 (q4 (fun i => f i || g i) 2), .int .u64 (q4 (fun i => f i || g i) 3)]) ∧ Grew w w' := Union_any f g w
set_option maxRecDepth 100000 in
set_option maxHeartbeats 1000000 in
theorem fst_k1s (t : ByteArray) (n : Int) (m : ByteArray) (l : List Pat) (b o : Nat) (kv : Value) (w : World) (ht : 0 < t.size) (h : FstIn (.mk 1 t n m l) b o kv w) : Calls Tryd.prog 19 #[.pointer (some ⟨b, o, none⟩)] w (FstEnd (firstP (.mk 1 t n m l)) w) := by
  have HX : Hid (firstP (.mk 1 t n m l) = (setOf (t.extract 0 1).data.toList, false)) := by
    refine hidd ?_
    rw [firstP]
    show (setOf (headB t).data.toList, t.size == 0) = _
    unfold headB
    rw [show min 1 t.size = 1 by omega, show (t.size == 0) = false from beq_eq_false_iff_ne.2 (by omega)]
  have HNd : Hid (NodeAt w b o (.mk 1 t n m l) kv) := h.node
  have HT : Hid (t.size ≤ maxLen) := h.node.ht
  have hbl : b ≠ w.heap.size := by have : b < w.heap.size := lt_of_cell h.node.c0; omega
  have HT2 : (t.extract 0 1).size ≤ maxLen := by have : t.size ≤ maxLen := h.node.ht; rw [ByteArray.size_extract]; omega
  have HOf : Hid (∀ w1, Calls Tryd.prog 28 #[.string (t.extract 0 1)] w1 fun e w' => e = .returned (.agg #[.int .u64 (q4 (setOf (t.extract 0 1).data.toList) 0), .int .u64 (q4 (setOf (t.extract 0 1).data.toList) 1), .int .u64 (q4 (setOf (t.extract 0 1).data.toList) 2), .int .u64 (q4 (setOf (t.extract 0 1).data.toList) 3)]) ∧ Grew w1 w') := fun w1 => of_told _ HT2 w1
  obtain ⟨S, hS⟩ : ∃ S, setOf (t.extract 0 1).data.toList = S := ⟨_, rfl⟩
  rw [hS] at HOf HX
  obtain ⟨n1, hn1⟩ : ∃ n1, t.size = n1 + 1 := ⟨t.size - 1, by omega⟩
  have hmin : min (1 : Int) (t.size : Int) = 1 := by omega
  have hif : (if (t.size : Int) < 1 then (t.size : Int) else 1) = 1 := if_neg (by omega)
  clear hn1
  have hl1 : (1 : Int) ≤ (t.size : Int) := by omega
  have hne : (t.toList == (⟨#[]⟩ : ByteArray).toList) = false := text_neF (by rintro rfl; exact absurd ht (by decide))
  have hl3 : decide ((1 : Int) ≤ (t.size : Int)) = true := decide_eq_true hl1
  have HNE : Hid (t.toList.isEmpty = false) := pos_list ht
  clear hS HT2
  have HZ : Hid ((w.alloc (.cells #[.int .u64 0, .int .u64 0, .int .u64 0, .int .u64 0] 33)).heap[w.heap.size]? = some (.cells #[.int .u64 0, .int .u64 0, .int .u64 0, .int .u64 0] 33 (0, 0))) := heap_alloc_new w _
  unfold FstEnd
  rw [HX.out]
  dsimp only
  clear h
  go_enter Tryd.func19, Tryd.ntmps19
  go_wp2_with fail
  refine (all_told _).mono ?_; rintro e w1 ⟨rfl, g1⟩
  have HG1 := hidd (((Grew.refl w).alloc (.cells #[.int .u64 0, .int .u64 0, .int .u64 0, .int .u64 0] 33)).trans g1)
  have HZ1 := hidd (heap_old g1 HZ.out)
  obtain ⟨d0, d1, d2, c3, d4, _, _, _, _⟩ := HNd.out.kept (HG1.out.alloc (.cells #[.int .u64 (q4 allS 0), .int .u64 (q4 allS 1), .int .u64 (q4 allS 2), .int .u64 (q4 allS 3)] 33))
  have c0 : (w1.alloc (.cells #[.int .u64 (q4 allS 0), .int .u64 (q4 allS 1), .int .u64 (q4 allS 2), .int .u64 (q4 allS 3)] 33)).cell? ⟨b, o, none⟩ = some (.int .i64 1) := d0
  have c1 : (w1.alloc (.cells #[.int .u64 (q4 allS 0), .int .u64 (q4 allS 1), .int .u64 (q4 allS 2), .int .u64 (q4 allS 3)] 33)).cell? ⟨b, o + 1, none⟩ = some (.string t) := d1
  have c2 : (w1.alloc (.cells #[.int .u64 (q4 allS 0), .int .u64 (q4 allS 1), .int .u64 (q4 allS 2), .int .u64 (q4 allS 3)] 33)).cell? ⟨b, o + 2, none⟩ = some (.int .i64 n) := d2
  have c4 : (w1.alloc (.cells #[.int .u64 (q4 allS 0), .int .u64 (q4 allS 1), .int .u64 (q4 allS 2), .int .u64 (q4 allS 3)] 33)).cell? ⟨b, o + 4, none⟩ = some kv := d4
  clear g1 HZ d0 d1 d2 d4 c3
  have HGd := hidd ((HG1.out.alloc (.cells #[.int .u64 (q4 allS 0), .int .u64 (q4 allS 1), .int .u64 (q4 allS 2), .int .u64 (q4 allS 3)] 33)).drew)
  have HZd := hidd (heap_old ((Grew.refl (w1.alloc (.cells #[.int .u64 (q4 allS 0), .int .u64 (q4 allS 1), .int .u64 (q4 allS 2), .int .u64 (q4 allS 3)] 33))).drew) (heap_more (o := (.cells #[.int .u64 (q4 allS 0), .int .u64 (q4 allS 1), .int .u64 (q4 allS 2), .int .u64 (q4 allS 3)] 33)) HZ1.out))
  have HAd := hidd (heap_old ((Grew.refl (w1.alloc (.cells #[.int .u64 (q4 allS 0), .int .u64 (q4 allS 1), .int .u64 (q4 allS 2), .int .u64 (q4 allS 3)] 33))).drew) (heap_alloc_new w1 (.cells #[.int .u64 (q4 allS 0), .int .u64 (q4 allS 1), .int .u64 (q4 allS 2), .int .u64 (q4 allS 3)] 33)))
  have HBL := hidd hbl
  clear hbl
  go_wp2_with fail
  go_region_held3 (fun w' => w'.cell? ⟨b, o + 1, none⟩ = some (.string t)) (first | go_keep | with_reducible exact hnm | with_reducible exact hst _ _ _ _) (first | (go_at_call 28; refine (HOf.out _).mono ?_; rintro e w2 ⟨rfl, g2⟩; have HG2 := hidd (HGd.out.trans g2); have hnm : w2.cell? ⟨b, o + 1, none⟩ = some (.string t) := (HNd.out.kept HG2.out).c1; have HZ2 := hidd (heap_old g2 HZd.out); obtain ⟨⟨z0, z1, z2, z3⟩, zf⟩ := cells_fst HZ2.out; have hst := far_cell HBL.out hnm; clear g2))
  all_goals
    go_wp2_with fail
    refine bodyPost_ret (results_fst rfl rfl rfl (setSet_heap HZ2.out) rfl) rfl ⟨?_, setSet_grew HG2.out (Nat.le_refl _) _ _ _ _⟩
    exact fin_eq rfl HNE.out
set_option maxRecDepth 100000 in
set_option maxHeartbeats 1000000 in
theorem fst_k1z (t : ByteArray) (n : Int) (m : ByteArray) (l : List Pat) (b o : Nat) (kv : Value) (w : World) (ht : t.size = 0) (h : FstIn (.mk 1 t n m l) b o kv w) : Calls Tryd.prog 19 #[.pointer (some ⟨b, o, none⟩)] w (FstEnd (firstP (.mk 1 t n m l)) w) := by
  have HX : Hid (firstP (.mk 1 t n m l) = (emptyS, true)) := by
    refine hidd ?_
    rw [firstP]
    show (setOf (headB t).data.toList, t.size == 0) = _
    rw [show (t.size == 0) = true from beq_iff_eq.2 ht, headB_nil ht]
  have HNd : Hid (NodeAt w b o (.mk 1 t n m l) kv) := h.node
  have HT : Hid (t.size ≤ maxLen) := h.node.ht
  have hbl : b ≠ w.heap.size := by have : b < w.heap.size := lt_of_cell h.node.c0; omega
  have HOf : Hid (∀ u : ByteArray, u.size = 0 → ∀ w1, Calls Tryd.prog 28 #[.string u] w1 fun e w' => e = .returned (.agg #[.int .u64 0, .int .u64 0, .int .u64 0, .int .u64 0]) ∧ Grew w1 w') := fun u hu w1 => of_nil hu w1
  have hmin : min (1 : Int) (t.size : Int) = 0 := by omega
  have HNE : Hid (t.toList.isEmpty = true) := by unfold Hid; rw [ByteArray.toList_eq, nil_of_size ht]; rfl
  have HTZ := hidd ht
  have HZ : Hid ((w.alloc (.cells #[.int .u64 0, .int .u64 0, .int .u64 0, .int .u64 0] 33)).heap[w.heap.size]? = some (.cells #[.int .u64 0, .int .u64 0, .int .u64 0, .int .u64 0] 33 (0, 0))) := heap_alloc_new w _
  unfold FstEnd
  rw [HX.out]
  dsimp only
  clear h
  go_enter Tryd.func19, Tryd.ntmps19
  go_wp2_with fail
  refine (all_told _).mono ?_; rintro e w1 ⟨rfl, g1⟩
  have HG1 := hidd (((Grew.refl w).alloc (.cells #[.int .u64 0, .int .u64 0, .int .u64 0, .int .u64 0] 33)).trans g1)
  have HZ1 := hidd (heap_old g1 HZ.out)
  obtain ⟨d0, d1, d2, c3, d4, _, _, _, _⟩ := HNd.out.kept (HG1.out.alloc (.cells #[.int .u64 (q4 allS 0), .int .u64 (q4 allS 1), .int .u64 (q4 allS 2), .int .u64 (q4 allS 3)] 33))
  have c0 : (w1.alloc (.cells #[.int .u64 (q4 allS 0), .int .u64 (q4 allS 1), .int .u64 (q4 allS 2), .int .u64 (q4 allS 3)] 33)).cell? ⟨b, o, none⟩ = some (.int .i64 1) := d0
  have c1 : (w1.alloc (.cells #[.int .u64 (q4 allS 0), .int .u64 (q4 allS 1), .int .u64 (q4 allS 2), .int .u64 (q4 allS 3)] 33)).cell? ⟨b, o + 1, none⟩ = some (.string t) := d1
  have c2 : (w1.alloc (.cells #[.int .u64 (q4 allS 0), .int .u64 (q4 allS 1), .int .u64 (q4 allS 2), .int .u64 (q4 allS 3)] 33)).cell? ⟨b, o + 2, none⟩ = some (.int .i64 n) := d2
  have c4 : (w1.alloc (.cells #[.int .u64 (q4 allS 0), .int .u64 (q4 allS 1), .int .u64 (q4 allS 2), .int .u64 (q4 allS 3)] 33)).cell? ⟨b, o + 4, none⟩ = some kv := d4
  clear g1 HZ d0 d1 d2 d4 c3
  have HGd := hidd ((HG1.out.alloc (.cells #[.int .u64 (q4 allS 0), .int .u64 (q4 allS 1), .int .u64 (q4 allS 2), .int .u64 (q4 allS 3)] 33)).drew)
  have HZd := hidd (heap_old ((Grew.refl (w1.alloc (.cells #[.int .u64 (q4 allS 0), .int .u64 (q4 allS 1), .int .u64 (q4 allS 2), .int .u64 (q4 allS 3)] 33))).drew) (heap_more (o := (.cells #[.int .u64 (q4 allS 0), .int .u64 (q4 allS 1), .int .u64 (q4 allS 2), .int .u64 (q4 allS 3)] 33)) HZ1.out))
  have HAd := hidd (heap_old ((Grew.refl (w1.alloc (.cells #[.int .u64 (q4 allS 0), .int .u64 (q4 allS 1), .int .u64 (q4 allS 2), .int .u64 (q4 allS 3)] 33))).drew) (heap_alloc_new w1 (.cells #[.int .u64 (q4 allS 0), .int .u64 (q4 allS 1), .int .u64 (q4 allS 2), .int .u64 (q4 allS 3)] 33)))
  have HBL := hidd hbl
  clear hbl
  go_wp2_with fail
  go_region_held3 (fun w' => w'.cell? ⟨b, o + 1, none⟩ = some (.string t)) (first | go_keep | with_reducible exact hnm | with_reducible exact hst _ _ _ _) (first | (go_at_call 28; refine (HOf.out _ (by first | exact HTZ.out | rfl | (rw [ByteArray.size_extract]; omega)) _).mono ?_; rintro e w2 ⟨rfl, g2⟩; have HG2 := hidd (HGd.out.trans g2); have hnm : w2.cell? ⟨b, o + 1, none⟩ = some (.string t) := (HNd.out.kept HG2.out).c1; have HZ2 := hidd (heap_old g2 HZd.out); obtain ⟨⟨z0, z1, z2, z3⟩, zf⟩ := cells_fst HZ2.out; have hst := far_cell HBL.out hnm; clear g2))
  all_goals
    go_wp2_with fail
    refine bodyPost_ret (results_fst rfl rfl rfl (setSet_heap HZ2.out) rfl) rfl ⟨?_, setSet_grew HG2.out (Nat.le_refl _) _ _ _ _⟩
    simp only [q4_empty]
    exact fin_eq rfl HNE.out
set_option maxRecDepth 100000 in
set_option maxHeartbeats 1000000 in
theorem fst_k14 (t : ByteArray) (n : Int) (m : ByteArray) (l : List Pat) (b o : Nat) (kv : Value) (w : World) (h : FstIn (.mk 14 t n m l) b o kv w) : Calls Tryd.prog 19 #[.pointer (some ⟨b, o, none⟩)] w (FstEnd (firstP (.mk 14 t n m l)) w) := by
  have HX : Hid (firstP (.mk 14 t n m l) = ((fun i => allS i && !setOf [41] i), false)) := by
    refine hidd ?_
    rw [firstP]; rfl
  have HNd : Hid (NodeAt w b o (.mk 14 t n m l) kv) := h.node
  have HZ : Hid ((w.alloc (.cells #[.int .u64 0, .int .u64 0, .int .u64 0, .int .u64 0] 33)).heap[w.heap.size]? = some (.cells #[.int .u64 0, .int .u64 0, .int .u64 0, .int .u64 0] 33 (0, 0))) := heap_alloc_new w _
  unfold FstEnd
  rw [HX.out]
  dsimp only
  clear h
  go_enter Tryd.func19, Tryd.ntmps19
  go_wp2_with fail
  refine (all_told _).mono ?_; rintro e w1 ⟨rfl, g1⟩
  have HG1 := hidd (((Grew.refl w).alloc (.cells #[.int .u64 0, .int .u64 0, .int .u64 0, .int .u64 0] 33)).trans g1)
  have HZ1 := hidd (heap_old g1 HZ.out)
  obtain ⟨d0, d1, d2, c3, d4, _, _, _, _⟩ := HNd.out.kept (HG1.out.alloc (.cells #[.int .u64 (q4 allS 0), .int .u64 (q4 allS 1), .int .u64 (q4 allS 2), .int .u64 (q4 allS 3)] 33))
  have c0 : (w1.alloc (.cells #[.int .u64 (q4 allS 0), .int .u64 (q4 allS 1), .int .u64 (q4 allS 2), .int .u64 (q4 allS 3)] 33)).cell? ⟨b, o, none⟩ = some (.int .i64 14) := d0
  have c1 : (w1.alloc (.cells #[.int .u64 (q4 allS 0), .int .u64 (q4 allS 1), .int .u64 (q4 allS 2), .int .u64 (q4 allS 3)] 33)).cell? ⟨b, o + 1, none⟩ = some (.string t) := d1
  have c2 : (w1.alloc (.cells #[.int .u64 (q4 allS 0), .int .u64 (q4 allS 1), .int .u64 (q4 allS 2), .int .u64 (q4 allS 3)] 33)).cell? ⟨b, o + 2, none⟩ = some (.int .i64 n) := d2
  have c4 : (w1.alloc (.cells #[.int .u64 (q4 allS 0), .int .u64 (q4 allS 1), .int .u64 (q4 allS 2), .int .u64 (q4 allS 3)] 33)).cell? ⟨b, o + 4, none⟩ = some kv := d4
  clear g1 HZ d0 d1 d2 d4 c3
  have HGd := hidd ((HG1.out.alloc (.cells #[.int .u64 (q4 allS 0), .int .u64 (q4 allS 1), .int .u64 (q4 allS 2), .int .u64 (q4 allS 3)] 33)).drew)
  have HZd := hidd (heap_old ((Grew.refl (w1.alloc (.cells #[.int .u64 (q4 allS 0), .int .u64 (q4 allS 1), .int .u64 (q4 allS 2), .int .u64 (q4 allS 3)] 33))).drew) (heap_more (o := (.cells #[.int .u64 (q4 allS 0), .int .u64 (q4 allS 1), .int .u64 (q4 allS 2), .int .u64 (q4 allS 3)] 33)) HZ1.out))
  have HAd := hidd (heap_old ((Grew.refl (w1.alloc (.cells #[.int .u64 (q4 allS 0), .int .u64 (q4 allS 1), .int .u64 (q4 allS 2), .int .u64 (q4 allS 3)] 33))).drew) (heap_alloc_new w1 (.cells #[.int .u64 (q4 allS 0), .int .u64 (q4 allS 1), .int .u64 (q4 allS 2), .int .u64 (q4 allS 3)] 33)))
  obtain ⟨⟨y0, y1, y2, y3⟩, yf⟩ := cells_fst HAd.out
  go_wp2_with fail
  go_region_with (first | (go_at_call 28; refine (of_told ⟨#[41]⟩ (by show 1 ≤ maxLen; unfold maxLen; omega) _).mono ?_; rintro e w2 ⟨rfl, g2⟩; have HG2 := hidd (HGd.out.trans g2); have HZ2 := hidd (heap_old g2 HZd.out); obtain ⟨⟨x0, x1, x2, x3⟩, xf⟩ := cells_fst (heap_old g2 HAd.out); clear g2) | (go_at_call 54; refine (less_told _ _ _).mono ?_; rintro e w3 ⟨rfl, g3⟩; have HG3 := hidd (HG2.out.trans g3); have HZ3 := hidd (heap_old g3 HZ2.out); obtain ⟨⟨z0, z1, z2, z3⟩, zf⟩ := cells_fst HZ3.out; clear g3))
  all_goals
    go_wp2_with fail
    refine bodyPost_ret (results_fst rfl rfl rfl (setSet_heap HZ3.out) rfl) rfl ⟨rfl, setSet_grew HG3.out (Nat.le_refl _) _ _ _ _⟩
set_option maxRecDepth 100000 in
set_option maxHeartbeats 1000000 in
theorem fst_k20 (t : ByteArray) (n : Int) (m : ByteArray) (l : List Pat) (b o : Nat) (kv : Value) (w : World) (q : Pat) (hl : l = [q]) (F : Fi) (hF : firstP q = F) (h : FstIn (.mk 20 t n m l) b o kv w) : Calls Tryd.prog 19 #[.pointer (some ⟨b, o, none⟩)] w (FstEnd (firstP (.mk 20 t n m l)) w) := by
  subst hl
  have HX : Hid (firstP (.mk 20 t n m [q]) = (F.1, true)) := by
    refine hidd ?_
    rw [firstP]
    show ((firstP q).1, true) = _
    rw [hF]
  have HNd : Hid (NodeAt w b o (.mk 20 t n m [q]) kv) := h.node
  obtain ⟨b', o', cp, hkv, hcp, hcm, hk⟩ := h.kids (by show 0 < [q].length; exact Nat.one_pos)
  have HK : Hid (∀ w', Grew w w' → Calls Tryd.prog 19 #[.pointer (some ⟨b', o', none⟩)] w' fun e w'' => e = .returned (.tuple #[.agg #[.int .u64 (q4 F.1 0), .int .u64 (q4 F.1 1), .int .u64 (q4 F.1 2), .int .u64 (q4 F.1 3)], .bool F.2]) ∧ Grew w' w'') := fun w' g => by
    have := hk 0 (by show 0 < [q].length; exact Nat.one_pos) w' g
    rw [show o' + 0 * 5 = o' by omega] at this
    rw [← hF]
    exact this
  have hkv2 : kv = .slice (some ⟨b', o', none⟩) 1 cp := hkv
  have hcp : (1 : Nat) ≤ cp := hcp
  clear hkv
  unfold maxLen at hcm
  clear hk hF
  have HZ : Hid ((w.alloc (.cells #[.int .u64 0, .int .u64 0, .int .u64 0, .int .u64 0] 33)).heap[w.heap.size]? = some (.cells #[.int .u64 0, .int .u64 0, .int .u64 0, .int .u64 0] 33 (0, 0))) := heap_alloc_new w _
  unfold FstEnd
  rw [HX.out]
  dsimp only
  clear h
  go_enter Tryd.func19, Tryd.ntmps19
  go_wp2_with fail
  refine (all_told _).mono ?_; rintro e w1 ⟨rfl, g1⟩
  have HG1 := hidd (((Grew.refl w).alloc (.cells #[.int .u64 0, .int .u64 0, .int .u64 0, .int .u64 0] 33)).trans g1)
  have HZ1 := hidd (heap_old g1 HZ.out)
  obtain ⟨d0, d1, d2, c3, d4, _, _, _, _⟩ := HNd.out.kept (HG1.out.alloc (.cells #[.int .u64 (q4 allS 0), .int .u64 (q4 allS 1), .int .u64 (q4 allS 2), .int .u64 (q4 allS 3)] 33))
  have c0 : (w1.alloc (.cells #[.int .u64 (q4 allS 0), .int .u64 (q4 allS 1), .int .u64 (q4 allS 2), .int .u64 (q4 allS 3)] 33)).cell? ⟨b, o, none⟩ = some (.int .i64 20) := d0
  have c1 : (w1.alloc (.cells #[.int .u64 (q4 allS 0), .int .u64 (q4 allS 1), .int .u64 (q4 allS 2), .int .u64 (q4 allS 3)] 33)).cell? ⟨b, o + 1, none⟩ = some (.string t) := d1
  have c2 : (w1.alloc (.cells #[.int .u64 (q4 allS 0), .int .u64 (q4 allS 1), .int .u64 (q4 allS 2), .int .u64 (q4 allS 3)] 33)).cell? ⟨b, o + 2, none⟩ = some (.int .i64 n) := d2
  have c4 : (w1.alloc (.cells #[.int .u64 (q4 allS 0), .int .u64 (q4 allS 1), .int .u64 (q4 allS 2), .int .u64 (q4 allS 3)] 33)).cell? ⟨b, o + 4, none⟩ = some kv := d4
  clear g1 HZ d0 d1 d2 d4 c3
  have c4 : (w1.alloc (.cells #[.int .u64 (q4 allS 0), .int .u64 (q4 allS 1), .int .u64 (q4 allS 2), .int .u64 (q4 allS 3)] 33)).cell? ⟨b, o + 4, none⟩ = some (.slice (some ⟨b', o', none⟩) 1 cp) := by rw [← hkv2]; exact c4
  go_wp2_with fail
  refine (HK.out _ (HG1.out.alloc _)).mono ?_; rintro e w2 ⟨rfl, g2⟩
  have HG2 := hidd ((HG1.out.alloc (.cells #[.int .u64 (q4 allS 0), .int .u64 (q4 allS 1), .int .u64 (q4 allS 2), .int .u64 (q4 allS 3)] 33)).trans g2)
  have HZ2 := hidd (heap_old g2 (heap_more HZ1.out))
  clear g2
  obtain ⟨⟨z0, z1, z2, z3⟩, zf⟩ := cells_fst HZ2.out
  go_wp2_with fail
  exact bodyPost_ret (results_fst rfl rfl rfl (setSet_heap (setSet_heap HZ2.out)) rfl) rfl ⟨rfl, setSet_grew (setSet_grew HG2.out (Nat.le_refl _) _ _ _ _) (Nat.le_refl _) _ _ _ _⟩
set_option maxRecDepth 100000 in
set_option maxHeartbeats 1000000 in
theorem fst_k21 (t : ByteArray) (n : Int) (m : ByteArray) (l : List Pat) (b o : Nat) (kv : Value) (w : World) (q : Pat) (hl : l = [q]) (F : Fi) (hF : firstP q = F) (h : FstIn (.mk 21 t n m l) b o kv w) : Calls Tryd.prog 19 #[.pointer (some ⟨b, o, none⟩)] w (FstEnd (firstP (.mk 21 t n m l)) w) := by
  subst hl
  have HX : Hid (firstP (.mk 21 t n m [q]) = (F.1, F.2)) := by
    refine hidd ?_
    rw [firstP]
    show firstP q = _
    rw [hF]
  have HNd : Hid (NodeAt w b o (.mk 21 t n m [q]) kv) := h.node
  obtain ⟨b', o', cp, hkv, hcp, hcm, hk⟩ := h.kids (by show 0 < [q].length; exact Nat.one_pos)
  have HK : Hid (∀ w', Grew w w' → Calls Tryd.prog 19 #[.pointer (some ⟨b', o', none⟩)] w' fun e w'' => e = .returned (.tuple #[.agg #[.int .u64 (q4 F.1 0), .int .u64 (q4 F.1 1), .int .u64 (q4 F.1 2), .int .u64 (q4 F.1 3)], .bool F.2]) ∧ Grew w' w'') := fun w' g => by
    have := hk 0 (by show 0 < [q].length; exact Nat.one_pos) w' g
    rw [show o' + 0 * 5 = o' by omega] at this
    rw [← hF]
    exact this
  have hkv2 : kv = .slice (some ⟨b', o', none⟩) 1 cp := hkv
  have hcp : (1 : Nat) ≤ cp := hcp
  clear hkv
  unfold maxLen at hcm
  clear hk hF
  have HZ : Hid ((w.alloc (.cells #[.int .u64 0, .int .u64 0, .int .u64 0, .int .u64 0] 33)).heap[w.heap.size]? = some (.cells #[.int .u64 0, .int .u64 0, .int .u64 0, .int .u64 0] 33 (0, 0))) := heap_alloc_new w _
  unfold FstEnd
  rw [HX.out]
  dsimp only
  clear h
  go_enter Tryd.func19, Tryd.ntmps19
  go_wp2_with fail
  refine (all_told _).mono ?_; rintro e w1 ⟨rfl, g1⟩
  have HG1 := hidd (((Grew.refl w).alloc (.cells #[.int .u64 0, .int .u64 0, .int .u64 0, .int .u64 0] 33)).trans g1)
  have HZ1 := hidd (heap_old g1 HZ.out)
  obtain ⟨d0, d1, d2, c3, d4, _, _, _, _⟩ := HNd.out.kept (HG1.out.alloc (.cells #[.int .u64 (q4 allS 0), .int .u64 (q4 allS 1), .int .u64 (q4 allS 2), .int .u64 (q4 allS 3)] 33))
  have c0 : (w1.alloc (.cells #[.int .u64 (q4 allS 0), .int .u64 (q4 allS 1), .int .u64 (q4 allS 2), .int .u64 (q4 allS 3)] 33)).cell? ⟨b, o, none⟩ = some (.int .i64 21) := d0
  have c1 : (w1.alloc (.cells #[.int .u64 (q4 allS 0), .int .u64 (q4 allS 1), .int .u64 (q4 allS 2), .int .u64 (q4 allS 3)] 33)).cell? ⟨b, o + 1, none⟩ = some (.string t) := d1
  have c2 : (w1.alloc (.cells #[.int .u64 (q4 allS 0), .int .u64 (q4 allS 1), .int .u64 (q4 allS 2), .int .u64 (q4 allS 3)] 33)).cell? ⟨b, o + 2, none⟩ = some (.int .i64 n) := d2
  have c4 : (w1.alloc (.cells #[.int .u64 (q4 allS 0), .int .u64 (q4 allS 1), .int .u64 (q4 allS 2), .int .u64 (q4 allS 3)] 33)).cell? ⟨b, o + 4, none⟩ = some kv := d4
  clear g1 HZ d0 d1 d2 d4 c3
  have c4 : (w1.alloc (.cells #[.int .u64 (q4 allS 0), .int .u64 (q4 allS 1), .int .u64 (q4 allS 2), .int .u64 (q4 allS 3)] 33)).cell? ⟨b, o + 4, none⟩ = some (.slice (some ⟨b', o', none⟩) 1 cp) := by rw [← hkv2]; exact c4
  go_wp2_with fail
  refine (HK.out _ (HG1.out.alloc _)).mono ?_; rintro e w2 ⟨rfl, g2⟩
  have HG2 := hidd ((HG1.out.alloc (.cells #[.int .u64 (q4 allS 0), .int .u64 (q4 allS 1), .int .u64 (q4 allS 2), .int .u64 (q4 allS 3)] 33)).trans g2)
  have HZ2 := hidd (heap_old g2 (heap_more HZ1.out))
  clear g2
  obtain ⟨⟨z0, z1, z2, z3⟩, zf⟩ := cells_fst HZ2.out
  go_wp2_with fail
  exact bodyPost_ret (results_fst rfl rfl rfl (setSet_heap HZ2.out) rfl) rfl ⟨rfl, setSet_grew HG2.out (Nat.le_refl _) _ _ _ _⟩
set_option maxRecDepth 100000 in
set_option maxHeartbeats 1000000 in
theorem fst_k22 (t : ByteArray) (n : Int) (m : ByteArray) (l : List Pat) (b o : Nat) (kv : Value) (w : World) (q : Pat) (hl : l = [q]) (F : Fi) (hF : firstP q = F) (h : FstIn (.mk 22 t n m l) b o kv w) : Calls Tryd.prog 19 #[.pointer (some ⟨b, o, none⟩)] w (FstEnd (firstP (.mk 22 t n m l)) w) := by
  subst hl
  have HX : Hid (firstP (.mk 22 t n m [q]) = (F.1, F.2)) := by
    refine hidd ?_
    rw [firstP]
    show firstP q = _
    rw [hF]
  have HNd : Hid (NodeAt w b o (.mk 22 t n m [q]) kv) := h.node
  obtain ⟨b', o', cp, hkv, hcp, hcm, hk⟩ := h.kids (by show 0 < [q].length; exact Nat.one_pos)
  have HK : Hid (∀ w', Grew w w' → Calls Tryd.prog 19 #[.pointer (some ⟨b', o', none⟩)] w' fun e w'' => e = .returned (.tuple #[.agg #[.int .u64 (q4 F.1 0), .int .u64 (q4 F.1 1), .int .u64 (q4 F.1 2), .int .u64 (q4 F.1 3)], .bool F.2]) ∧ Grew w' w'') := fun w' g => by
    have := hk 0 (by show 0 < [q].length; exact Nat.one_pos) w' g
    rw [show o' + 0 * 5 = o' by omega] at this
    rw [← hF]
    exact this
  have hkv2 : kv = .slice (some ⟨b', o', none⟩) 1 cp := hkv
  have hcp : (1 : Nat) ≤ cp := hcp
  clear hkv
  unfold maxLen at hcm
  clear hk hF
  have HZ : Hid ((w.alloc (.cells #[.int .u64 0, .int .u64 0, .int .u64 0, .int .u64 0] 33)).heap[w.heap.size]? = some (.cells #[.int .u64 0, .int .u64 0, .int .u64 0, .int .u64 0] 33 (0, 0))) := heap_alloc_new w _
  unfold FstEnd
  rw [HX.out]
  dsimp only
  clear h
  go_enter Tryd.func19, Tryd.ntmps19
  go_wp2_with fail
  refine (all_told _).mono ?_; rintro e w1 ⟨rfl, g1⟩
  have HG1 := hidd (((Grew.refl w).alloc (.cells #[.int .u64 0, .int .u64 0, .int .u64 0, .int .u64 0] 33)).trans g1)
  have HZ1 := hidd (heap_old g1 HZ.out)
  obtain ⟨d0, d1, d2, c3, d4, _, _, _, _⟩ := HNd.out.kept (HG1.out.alloc (.cells #[.int .u64 (q4 allS 0), .int .u64 (q4 allS 1), .int .u64 (q4 allS 2), .int .u64 (q4 allS 3)] 33))
  have c0 : (w1.alloc (.cells #[.int .u64 (q4 allS 0), .int .u64 (q4 allS 1), .int .u64 (q4 allS 2), .int .u64 (q4 allS 3)] 33)).cell? ⟨b, o, none⟩ = some (.int .i64 22) := d0
  have c1 : (w1.alloc (.cells #[.int .u64 (q4 allS 0), .int .u64 (q4 allS 1), .int .u64 (q4 allS 2), .int .u64 (q4 allS 3)] 33)).cell? ⟨b, o + 1, none⟩ = some (.string t) := d1
  have c2 : (w1.alloc (.cells #[.int .u64 (q4 allS 0), .int .u64 (q4 allS 1), .int .u64 (q4 allS 2), .int .u64 (q4 allS 3)] 33)).cell? ⟨b, o + 2, none⟩ = some (.int .i64 n) := d2
  have c4 : (w1.alloc (.cells #[.int .u64 (q4 allS 0), .int .u64 (q4 allS 1), .int .u64 (q4 allS 2), .int .u64 (q4 allS 3)] 33)).cell? ⟨b, o + 4, none⟩ = some kv := d4
  clear g1 HZ d0 d1 d2 d4 c3
  have c4 : (w1.alloc (.cells #[.int .u64 (q4 allS 0), .int .u64 (q4 allS 1), .int .u64 (q4 allS 2), .int .u64 (q4 allS 3)] 33)).cell? ⟨b, o + 4, none⟩ = some (.slice (some ⟨b', o', none⟩) 1 cp) := by rw [← hkv2]; exact c4
  go_wp2_with fail
  refine (HK.out _ (HG1.out.alloc _)).mono ?_; rintro e w2 ⟨rfl, g2⟩
  have HG2 := hidd ((HG1.out.alloc (.cells #[.int .u64 (q4 allS 0), .int .u64 (q4 allS 1), .int .u64 (q4 allS 2), .int .u64 (q4 allS 3)] 33)).trans g2)
  have HZ2 := hidd (heap_old g2 (heap_more HZ1.out))
  clear g2
  obtain ⟨⟨z0, z1, z2, z3⟩, zf⟩ := cells_fst HZ2.out
  go_wp2_with fail
  exact bodyPost_ret (results_fst rfl rfl rfl (setSet_heap HZ2.out) rfl) rfl ⟨rfl, setSet_grew HG2.out (Nat.le_refl _) _ _ _ _⟩
end Go.Proofs.YtglfdfeideeeaaaDoor
