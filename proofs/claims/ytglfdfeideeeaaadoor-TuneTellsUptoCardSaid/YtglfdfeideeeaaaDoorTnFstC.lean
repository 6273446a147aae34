/- tune: first, at many; first at every pattern; First. Printed. -/
import Derived.Test.YtglfdfeideeeaaaDoorTnFstB
namespace Go.Proofs.YtglfdfeideeeaaaDoor
open Go.RowKit
set_option linter.unusedVariables false
def accF (f : Fi → Fi → Fi) (z : Fi) (l : List Pat) (i : Nat) : Fi := ((l.take i).map firstP).foldl f z
theorem accF_succ (f : Fi → Fi → Fi) (z : Fi) {l : List Pat} {i : Nat} (h : i < l.length) : accF f z l (i + 1) = f (accF f z l i) (firstP (l.getD i Pat.zero)) := by
  unfold accF
  rw [List.take_succ_eq_append_getElem h, List.map_append, List.foldl_append, List.getD_eq_getElem?_getD, List.getElem?_eq_getElem h]; rfl
theorem accF_all (f : Fi → Fi → Fi) (z : Fi) (l : List Pat) : accF f z l l.length = (l.map firstP).foldl f z := by unfold accF; rw [List.take_length]
theorem catF_stop : ∀ (l : List Fi) (s : Fi), s.2 = false → l.foldl catF s = s
  | [], s, h => rfl
  | f :: l, s, h => by
    rw [List.foldl_cons, show catF s f = s from if_neg (by rw [h]; simp)]
    exact catF_stop l s h
theorem accF_stop {l : List Pat} {i : Nat} (z : Fi) (h : (accF catF z l i).2 = false) : (l.map firstP).foldl catF z = accF catF z l i := by
  have e : (l.map firstP).foldl catF z = ((l.drop i).map firstP).foldl catF (accF catF z l i) := by
    unfold accF
    rw [← List.foldl_append, ← List.map_append, List.take_append_drop]
  rw [e]; exact catF_stop _ _ h
theorem fin_set {A B : Nat → Bool} {a b : Bool} (h : (A, a) = (B, b)) : Ending.returned (.tuple #[.agg #[.int .u64 (q4 A 0), .int .u64 (q4 A 1), .int .u64 (q4 A 2), .int .u64 (q4 A 3)], .bool a]) = .returned (.tuple #[.agg #[.int .u64 (q4 B 0), .int .u64 (q4 B 1), .int .u64 (q4 B 2), .int .u64 (q4 B 3)], .bool b]) := by cases h; rfl
theorem fin_set2 {A B : Nat → Bool} {a b : Bool} {x : Value} (e : x = .bool a) (h : (A, a) = (B, b)) : Ending.returned (.tuple #[.agg #[.int .u64 (q4 A 0), .int .u64 (q4 A 1), .int .u64 (q4 A 2), .int .u64 (q4 A 3)], x]) = .returned (.tuple #[.agg #[.int .u64 (q4 B 0), .int .u64 (q4 B 1), .int .u64 (q4 B 2), .int .u64 (q4 B 3)], .bool b]) := by rw [e]; exact fin_set h
theorem set_heap_far {w : World} {b r : Nat} {x : Obj} (hb : b ≠ r) (h : w.heap[b]? = some x) (u0 u1 u2 u3 : Value) : ((((w.setCell ⟨r, 0, none⟩ u0).setCell ⟨r, 1, none⟩ u1).setCell ⟨r, 2, none⟩ u2).setCell ⟨r, 3, none⟩ u3).heap[b]? = some x := by
  rw [setCell_heap_other _ _ _ (Ne.symm hb), setCell_heap_other _ _ _ (Ne.symm hb), setCell_heap_other _ _ _ (Ne.symm hb), setCell_heap_other _ _ _ (Ne.symm hb)]; exact h
set_option maxRecDepth 100000 in
set_option maxHeartbeats 4000000 in
theorem fst_k18 (t : ByteArray) (n : Int) (m : ByteArray) (l : List Pat) (b o : Nat) (kv : Value) (w : World) (h : FstIn (.mk 18 t n m l) b o kv w) : Calls Tryd.prog 19 #[.pointer (some ⟨b, o, none⟩)] w (FstEnd (firstP (.mk 18 t n m l)) w) := by
  have HX : Hid (firstP (.mk 18 t n m l) = (l.map firstP).foldl catF (emptyS, true)) := by
    refine hidd ?_
    rw [firstP, firstL_map]; rfl
  have HNd : Hid (NodeAt w b o (.mk 18 t n m l) kv) := h.node
  have hl0 : 0 < l.length := by have : 2 ≤ l.length := (h.right.many (by show (18 : Int) = (18 : Int) ∨ (18 : Int) = (19 : Int); omega)).1; omega
  obtain ⟨b', o', cp, hkv, hcp, hcm, hk⟩ := h.kids hl0
  have hkv2 : kv = .slice (some ⟨b', o', none⟩) l.length cp := hkv
  have hcp : l.length ≤ cp := hcp
  unfold maxLen at hcm
  have HK : Hid (∀ i, i < l.length → ∀ w', Grew w w' → Calls Tryd.prog 19 #[.pointer (some ⟨b', o' + i * 5, none⟩)] w' fun e w'' => e = .returned (.tuple #[.agg #[.int .u64 (q4 (firstP (l.getD i Pat.zero)).1 0), .int .u64 (q4 (firstP (l.getD i Pat.zero)).1 1), .int .u64 (q4 (firstP (l.getD i Pat.zero)).1 2), .int .u64 (q4 (firstP (l.getD i Pat.zero)).1 3)], .bool (firstP (l.getD i Pat.zero)).2]) ∧ Grew w' w'') := hk
  have HZ : Hid ((w.alloc (.cells #[.int .u64 0, .int .u64 0, .int .u64 0, .int .u64 0] 33)).heap[w.heap.size]? = some (.cells #[.int .u64 0, .int .u64 0, .int .u64 0, .int .u64 0] 33 (0, 0))) := heap_alloc_new w _
  unfold FstEnd
  rw [HX.out]
  obtain ⟨⟨FS, Fn⟩, hF⟩ : ∃ x, (l.map firstP).foldl catF (emptyS, true) = x := ⟨_, rfl⟩
  rw [hF]
  have HF := hidd hF
  dsimp only
  clear h hF hkv hk HX
  go_enter Tryd.func19, Tryd.ntmps19
  go_wp2_with fail
  refine (all_told _).mono ?_; rintro e w1 ⟨rfl, g1⟩
  have HG1 := hidd (((Grew.refl w).alloc (.cells #[.int .u64 0, .int .u64 0, .int .u64 0, .int .u64 0] 33)).trans g1)
  have HZ1 := hidd (heap_old g1 HZ.out)
  obtain ⟨d0, d1, d2, c3, d4, _, _, _, _⟩ := HNd.out.kept (HG1.out.alloc (.cells #[.int .u64 (q4 allS 0), .int .u64 (q4 allS 1), .int .u64 (q4 allS 2), .int .u64 (q4 allS 3)] 33))
  have c0 : (w1.alloc (.cells #[.int .u64 (q4 allS 0), .int .u64 (q4 allS 1), .int .u64 (q4 allS 2), .int .u64 (q4 allS 3)] 33)).cell? ⟨b, o, none⟩ = some (.int .i64 18) := d0
  have c4 : (w1.alloc (.cells #[.int .u64 (q4 allS 0), .int .u64 (q4 allS 1), .int .u64 (q4 allS 2), .int .u64 (q4 allS 3)] 33)).cell? ⟨b, o + 4, none⟩ = some (.slice (some ⟨b', o', none⟩) l.length cp) := by rw [← hkv2]; exact d4
  clear g1 HZ d0 d1 d2 d4 c3
  go_wp2_with fail
  obtain ⟨wA, hwA⟩ : ∃ x, w1.alloc (.cells #[.int .u64 (q4 allS 0), .int .u64 (q4 allS 1), .int .u64 (q4 allS 2), .int .u64 (q4 allS 3)] 33) = x := ⟨_, rfl⟩
  have HA : Hid (Grew w wA ∧ wA.heap[w.heap.size]? = some (.cells #[.int .u64 0, .int .u64 0, .int .u64 0, .int .u64 0] 33 (0, 0))) := by rw [← hwA]; exact ⟨HG1.out.alloc _, heap_more HZ1.out⟩
  rw [hwA]
  clear hwA HZ1 HG1 c0 c4
  go_loopw [3, 5, 6, 90] (fun u3 _ _ uk wr => ∃ (i : Nat) (S : Nat → Bool) (nl : Bool), i ≤ l.length ∧ accF catF (emptyS, true) l i = (S, nl) ∧ uk = .int .i64 i ∧ u3 = .bool nl ∧ Hid (Grew w wr ∧ wr.heap[w.heap.size]? = some (.cells #[.int .u64 (q4 S 0), .int .u64 (q4 S 1), .int .u64 (q4 S 2), .int .u64 (q4 S 3)] 33 (0, 0)))) (fun _ _ _ uk _ => l.length - (intOf uk).toNat)
  case atStart =>
    refine ⟨0, _, _, Nat.zero_le _, rfl, rfl, rfl, HA.out.1, ?_⟩
    simp only [q4_empty]
    exact HA.out.2
  case round =>
    obtain ⟨i, S, nl, hi, hS, rfl, rfl, HI⟩ := hrel
    have HS := hidd hS
    clear hS
    by_cases hlt : i < l.length
    · cases nl with
      | false =>
        have HFF : Hid ((S, false) = (FS, Fn)) := by
          have := accF_stop (l := l) (i := i) (emptyS, true) (by rw [HS.out])
          rw [HF.out, HS.out] at this
          exact this.symm
        obtain ⟨⟨z0, z1, z2, z3⟩, zf⟩ := cells_fst HI.out.2
        go_wp2_with fail
        exact bodyPost_ret (results_fst rfl rfl rfl (setSet_heap HI.out.2) rfl) rfl ⟨fin_set2 rfl HFF.out, setSet_grew HI.out.1 (Nat.le_refl _) _ _ _ _⟩
      | true =>
        have hK := HK.out i hlt (wr.alloc (.cells #[.int .u64 0, .int .u64 0, .int .u64 0, .int .u64 0] 33)) (HI.out.1.alloc _)
        have HN1 := accF_succ catF (emptyS, true) hlt
        obtain ⟨⟨f, fn⟩, hf⟩ : ∃ x, firstP (l.getD i Pat.zero) = x := ⟨_, rfl⟩
        rw [hf] at hK HN1
        dsimp only at hK
        have HNX : Hid (accF catF (emptyS, true) l (i + 1) = (fun j => S j || f j, fn)) := by rw [Hid, HN1, HS.out]; rfl
        have HKK := hidd hK
        clear hK HN1 hf
        have hne : w.heap.size ≠ wr.heap.size := by have := (Array.getElem?_eq_some_iff.1 HI.out.2).1; omega
        obtain ⟨_, _, _, _, d4, _, _, _, _⟩ := HNd.out.kept (HI.out.1.alloc (.cells #[.int .u64 0, .int .u64 0, .int .u64 0, .int .u64 0] 33))
        have c4 : (wr.alloc (.cells #[.int .u64 0, .int .u64 0, .int .u64 0, .int .u64 0] 33)).cell? ⟨b, o + 4, none⟩ = some (.slice (some ⟨b', o', none⟩) l.length cp) := by rw [← hkv2]; exact d4
        clear d4
        go_wp2_with fail
        refine HKK.out.mono ?_; rintro e w2 ⟨rfl, g2⟩
        have HG2 := hidd ((HI.out.1.alloc (.cells #[.int .u64 0, .int .u64 0, .int .u64 0, .int .u64 0] 33)).trans g2)
        have HR2 := hidd (heap_old g2 (heap_more HI.out.2))
        have HT2 := hidd (heap_old g2 (heap_alloc_new wr (.cells #[.int .u64 0, .int .u64 0, .int .u64 0, .int .u64 0] 33)))
        clear g2 c4
        obtain ⟨⟨y0, y1, y2, y3⟩, yf⟩ := cells_fst HT2.out
        obtain ⟨⟨x0, x1, x2, x3⟩, xf⟩ := cells_fst HR2.out
        have r0 := far_cell hne x0
        have r1 := far_cell hne x1
        have r2 := far_cell hne x2
        have r3 := far_cell hne x3
        clear x0 x1 x2 x3 xf
        go_wp2_with fail
        refine (union_told S f _).mono ?_; rintro e w4 ⟨rfl, g4⟩
        have HG4 := hidd ((setSet_grew (b := wr.heap.size) HG2.out (by have := HI.out.1.size; exact this) (.int .u64 (q4 f 0)) (.int .u64 (q4 f 1)) (.int .u64 (q4 f 2)) (.int .u64 (q4 f 3))).trans g4)
        have HR4 := hidd (heap_old g4 (set_heap_far hne HR2.out _ _ _ _))
        obtain ⟨⟨z0, z1, z2, z3⟩, zf⟩ := cells_fst HR4.out
        clear g4 y0 y1 y2 y3 yf r0 r1 r2 r3
        go_wp2_with fail
        go_roundw
        case rel => exact ⟨i + 1, _, _, by omega, HNX.out, by go_num, rfl, setSet_grew HG4.out (Nat.le_refl _) _ _ _ _, setSet_heap HR4.out⟩
        case measure => simp [intOf]; omega
    · have HFF : Hid ((S, nl) = (FS, Fn)) := by
        have := accF_all catF (emptyS, true) l
        rw [HF.out, show l.length = i by omega, HS.out] at this
        exact this
      obtain ⟨⟨z0, z1, z2, z3⟩, zf⟩ := cells_fst HI.out.2
      go_wp2_with fail
      exact bodyPost_ret (results_fst rfl rfl rfl (setSet_heap HI.out.2) rfl) rfl ⟨fin_set2 rfl HFF.out, setSet_grew HI.out.1 (Nat.le_refl _) _ _ _ _⟩
set_option maxRecDepth 100000 in
set_option maxHeartbeats 4000000 in
theorem fst_k19 (t : ByteArray) (n : Int) (m : ByteArray) (l : List Pat) (b o : Nat) (kv : Value) (w : World) (h : FstIn (.mk 19 t n m l) b o kv w) : Calls Tryd.prog 19 #[.pointer (some ⟨b, o, none⟩)] w (FstEnd (firstP (.mk 19 t n m l)) w) := by
  have HX : Hid (firstP (.mk 19 t n m l) = (l.map firstP).foldl altF (emptyS, false)) := by
    refine hidd ?_
    rw [firstP, firstL_map]; rfl
  have HNd : Hid (NodeAt w b o (.mk 19 t n m l) kv) := h.node
  have hl0 : 0 < l.length := by have : 2 ≤ l.length := (h.right.many (by show (19 : Int) = (18 : Int) ∨ (19 : Int) = (19 : Int); omega)).1; omega
  obtain ⟨b', o', cp, hkv, hcp, hcm, hk⟩ := h.kids hl0
  have hkv2 : kv = .slice (some ⟨b', o', none⟩) l.length cp := hkv
  have hcp : l.length ≤ cp := hcp
  unfold maxLen at hcm
  have HK : Hid (∀ i, i < l.length → ∀ w', Grew w w' → Calls Tryd.prog 19 #[.pointer (some ⟨b', o' + i * 5, none⟩)] w' fun e w'' => e = .returned (.tuple #[.agg #[.int .u64 (q4 (firstP (l.getD i Pat.zero)).1 0), .int .u64 (q4 (firstP (l.getD i Pat.zero)).1 1), .int .u64 (q4 (firstP (l.getD i Pat.zero)).1 2), .int .u64 (q4 (firstP (l.getD i Pat.zero)).1 3)], .bool (firstP (l.getD i Pat.zero)).2]) ∧ Grew w' w'') := hk
  have HZ : Hid ((w.alloc (.cells #[.int .u64 0, .int .u64 0, .int .u64 0, .int .u64 0] 33)).heap[w.heap.size]? = some (.cells #[.int .u64 0, .int .u64 0, .int .u64 0, .int .u64 0] 33 (0, 0))) := heap_alloc_new w _
  unfold FstEnd
  rw [HX.out]
  obtain ⟨⟨FS, Fn⟩, hF⟩ : ∃ x, (l.map firstP).foldl altF (emptyS, false) = x := ⟨_, rfl⟩
  rw [hF]
  have HF := hidd hF
  dsimp only
  clear h hF hkv hk HX
  go_enter Tryd.func19, Tryd.ntmps19
  go_wp2_with fail
  refine (all_told _).mono ?_; rintro e w1 ⟨rfl, g1⟩
  have HG1 := hidd (((Grew.refl w).alloc (.cells #[.int .u64 0, .int .u64 0, .int .u64 0, .int .u64 0] 33)).trans g1)
  have HZ1 := hidd (heap_old g1 HZ.out)
  obtain ⟨d0, d1, d2, c3, d4, _, _, _, _⟩ := HNd.out.kept (HG1.out.alloc (.cells #[.int .u64 (q4 allS 0), .int .u64 (q4 allS 1), .int .u64 (q4 allS 2), .int .u64 (q4 allS 3)] 33))
  have c0 : (w1.alloc (.cells #[.int .u64 (q4 allS 0), .int .u64 (q4 allS 1), .int .u64 (q4 allS 2), .int .u64 (q4 allS 3)] 33)).cell? ⟨b, o, none⟩ = some (.int .i64 19) := d0
  have c4 : (w1.alloc (.cells #[.int .u64 (q4 allS 0), .int .u64 (q4 allS 1), .int .u64 (q4 allS 2), .int .u64 (q4 allS 3)] 33)).cell? ⟨b, o + 4, none⟩ = some (.slice (some ⟨b', o', none⟩) l.length cp) := by rw [← hkv2]; exact d4
  clear g1 HZ d0 d1 d2 d4 c3
  go_wp2_with fail
  obtain ⟨wA, hwA⟩ : ∃ x, w1.alloc (.cells #[.int .u64 (q4 allS 0), .int .u64 (q4 allS 1), .int .u64 (q4 allS 2), .int .u64 (q4 allS 3)] 33) = x := ⟨_, rfl⟩
  have HA : Hid (Grew w wA ∧ wA.heap[w.heap.size]? = some (.cells #[.int .u64 0, .int .u64 0, .int .u64 0, .int .u64 0] 33 (0, 0))) := by rw [← hwA]; exact ⟨HG1.out.alloc _, heap_more HZ1.out⟩
  rw [hwA]
  clear hwA HZ1 HG1 c0 c4
  go_loopw [3, 7, 8, 9, 118] (fun u3 _ _ _ uk wr => ∃ (i : Nat) (S : Nat → Bool) (nl : Bool), i ≤ l.length ∧ accF altF (emptyS, false) l i = (S, nl) ∧ uk = .int .i64 i ∧ u3 = .bool nl ∧ Hid (Grew w wr ∧ wr.heap[w.heap.size]? = some (.cells #[.int .u64 (q4 S 0), .int .u64 (q4 S 1), .int .u64 (q4 S 2), .int .u64 (q4 S 3)] 33 (0, 0)))) (fun _ _ _ _ uk _ => l.length - (intOf uk).toNat)
  case atStart =>
    refine ⟨0, _, _, Nat.zero_le _, rfl, rfl, rfl, HA.out.1, ?_⟩
    simp only [q4_empty]
    exact HA.out.2
  case round =>
    obtain ⟨i, S, nl, hi, hS, rfl, rfl, HI⟩ := hrel
    have HS := hidd hS
    clear hS
    by_cases hlt : i < l.length
    · cases nl with
      | false =>
        have hK := HK.out i hlt wr HI.out.1
        have HN1 := accF_succ altF (emptyS, false) hlt
        obtain ⟨⟨f, fn⟩, hf⟩ : ∃ x, firstP (l.getD i Pat.zero) = x := ⟨_, rfl⟩
        rw [hf] at hK HN1
        dsimp only at hK
        have HNX : Hid (accF altF (emptyS, false) l (i + 1) = (fun j => S j || f j, fn)) := by rw [Hid, HN1, HS.out]; rfl
        have HKK := hidd hK
        clear hK HN1 hf
        obtain ⟨_, _, _, _, d4, _, _, _, _⟩ := HNd.out.kept HI.out.1
        have c4 : wr.cell? ⟨b, o + 4, none⟩ = some (.slice (some ⟨b', o', none⟩) l.length cp) := by rw [← hkv2]; exact d4
        clear d4
        go_wp2_with fail
        refine HKK.out.mono ?_; rintro e w2 ⟨rfl, g2⟩
        have HG2 := hidd (HI.out.1.trans g2)
        have HR2 := hidd (heap_old g2 HI.out.2)
        clear g2 c4
        have x0 : ∀ o, (w2.alloc o).cell? ⟨w.heap.size, 0, none⟩ = some (.int .u64 (q4 S 0)) := fun o => (cells_fst (heap_more HR2.out)).1.1
        have x1 : ∀ o, (w2.alloc o).cell? ⟨w.heap.size, 1, none⟩ = some (.int .u64 (q4 S 1)) := fun o => (cells_fst (heap_more HR2.out)).1.2.1
        have x2 : ∀ o, (w2.alloc o).cell? ⟨w.heap.size, 2, none⟩ = some (.int .u64 (q4 S 2)) := fun o => (cells_fst (heap_more HR2.out)).1.2.2.1
        have x3 : ∀ o, (w2.alloc o).cell? ⟨w.heap.size, 3, none⟩ = some (.int .u64 (q4 S 3)) := fun o => (cells_fst (heap_more HR2.out)).1.2.2.2
        go_wp2_with fail
        refine (union_told S f _).mono ?_; rintro e w4 ⟨rfl, g4⟩
        have HG4 := hidd ((HG2.out.alloc (.cells #[.int .u64 (q4 f 0), .int .u64 (q4 f 1), .int .u64 (q4 f 2), .int .u64 (q4 f 3)] 33)).trans g4)
        have HR4 := hidd (heap_old g4 (heap_more HR2.out))
        obtain ⟨⟨z0, z1, z2, z3⟩, zf⟩ := cells_fst HR4.out
        clear g4 x0 x1 x2 x3
        go_wp2_with fail
        go_roundw
        case rel => exact ⟨i + 1, _, _, by omega, HNX.out, by go_num, rfl, setSet_grew HG4.out (Nat.le_refl _) _ _ _ _, setSet_heap HR4.out⟩
        case measure => simp [intOf]; omega
      | true =>
        have hK := HK.out i hlt wr HI.out.1
        have HN1 := accF_succ altF (emptyS, false) hlt
        obtain ⟨⟨f, fn⟩, hf⟩ : ∃ x, firstP (l.getD i Pat.zero) = x := ⟨_, rfl⟩
        rw [hf] at hK HN1
        dsimp only at hK
        have HNX : Hid (accF altF (emptyS, false) l (i + 1) = (fun j => S j || f j, true)) := by rw [Hid, HN1, HS.out]; rfl
        have HKK := hidd hK
        clear hK HN1 hf
        obtain ⟨_, _, _, _, d4, _, _, _, _⟩ := HNd.out.kept HI.out.1
        have c4 : wr.cell? ⟨b, o + 4, none⟩ = some (.slice (some ⟨b', o', none⟩) l.length cp) := by rw [← hkv2]; exact d4
        clear d4
        go_wp2_with fail
        refine HKK.out.mono ?_; rintro e w2 ⟨rfl, g2⟩
        have HG2 := hidd (HI.out.1.trans g2)
        have HR2 := hidd (heap_old g2 HI.out.2)
        clear g2 c4
        have x0 : ∀ o, (w2.alloc o).cell? ⟨w.heap.size, 0, none⟩ = some (.int .u64 (q4 S 0)) := fun o => (cells_fst (heap_more HR2.out)).1.1
        have x1 : ∀ o, (w2.alloc o).cell? ⟨w.heap.size, 1, none⟩ = some (.int .u64 (q4 S 1)) := fun o => (cells_fst (heap_more HR2.out)).1.2.1
        have x2 : ∀ o, (w2.alloc o).cell? ⟨w.heap.size, 2, none⟩ = some (.int .u64 (q4 S 2)) := fun o => (cells_fst (heap_more HR2.out)).1.2.2.1
        have x3 : ∀ o, (w2.alloc o).cell? ⟨w.heap.size, 3, none⟩ = some (.int .u64 (q4 S 3)) := fun o => (cells_fst (heap_more HR2.out)).1.2.2.2
        go_wp2_with fail
        refine (union_told S f _).mono ?_; rintro e w4 ⟨rfl, g4⟩
        have HG4 := hidd ((HG2.out.alloc (.cells #[.int .u64 (q4 f 0), .int .u64 (q4 f 1), .int .u64 (q4 f 2), .int .u64 (q4 f 3)] 33)).trans g4)
        have HR4 := hidd (heap_old g4 (heap_more HR2.out))
        obtain ⟨⟨z0, z1, z2, z3⟩, zf⟩ := cells_fst HR4.out
        clear g4 x0 x1 x2 x3
        go_wp2_with fail
        go_roundw
        case rel => exact ⟨i + 1, _, _, by omega, HNX.out, by go_num, rfl, setSet_grew HG4.out (Nat.le_refl _) _ _ _ _, setSet_heap HR4.out⟩
        case measure => simp [intOf]; omega
    · have HFF : Hid ((S, nl) = (FS, Fn)) := by
        have := accF_all altF (emptyS, false) l
        rw [HF.out, show l.length = i by omega, HS.out] at this
        exact this
      obtain ⟨⟨z0, z1, z2, z3⟩, zf⟩ := cells_fst HI.out.2
      go_wp2_with fail
      exact bodyPost_ret (results_fst rfl rfl rfl (setSet_heap HI.out.2) rfl) rfl ⟨fin_set2 rfl HFF.out, setSet_grew HI.out.1 (Nat.le_refl _) _ _ _ _⟩
theorem fst_at : ∀ (p : Pat) (b o : Nat) (kv : Value) (w : World), FstIn p b o kv w → Calls Tryd.prog 19 #[.pointer (some ⟨b, o, none⟩)] w (FstEnd (firstP p) w)
  | .mk k t n m l, b, o, kv, w, h => by
    have hk : 1 ≤ k ∧ k ≤ 24 := h.right.kind
    have h1 : k = 20 ∨ k = 21 ∨ k = 22 → ∃ q, l = [q] := fun hh => by
      have : l.length = 1 := h.right.only hh
      match l, this with
      | [q], _ => exact ⟨q, rfl⟩
    have hcs : k = 1 ∨ k = 2 ∨ k = 3 ∨ k = 4 ∨ k = 5 ∨ k = 6 ∨ k = 7 ∨ k = 8 ∨ k = 9 ∨ k = 10 ∨ k = 11 ∨ k = 12 ∨ k = 13 ∨ k = 14 ∨ k = 15 ∨ k = 16 ∨ k = 17 ∨ k = 18 ∨ k = 19 ∨ k = 20 ∨ k = 21 ∨ k = 22 ∨ k = 23 ∨ k = 24 := by omega
    rcases hcs with rfl | rfl | rfl | rfl | rfl | rfl | rfl | rfl | rfl | rfl | rfl | rfl | rfl | rfl | rfl | rfl | rfl | rfl | rfl | rfl | rfl | rfl | rfl | rfl
    · by_cases ht : 0 < t.size
      · exact fst_k1s t n m l b o kv w ht h
      · exact fst_k1z t n m l b o kv w (by omega) h
    · by_cases hn : n = 0
      · exact fst_k2z t n m l b o kv w hn h
      · exact fst_k2n t n m l b o kv w hn h
    · exact fst_k3 t n m l b o kv w h
    · exact fst_k4 t n m l b o kv w h
    · exact fst_k5 t n m l b o kv w h
    · exact fst_k6 t n m l b o kv w h
    · exact fst_k7 t n m l b o kv w h
    · exact fst_k8 t n m l b o kv w h
    · exact fst_k9 t n m l b o kv w h
    · exact fst_k10 t n m l b o kv w h
    · exact fst_k11 t n m l b o kv w h
    · exact fst_k12 t n m l b o kv w h
    · exact fst_k13 t n m l b o kv w h
    · exact fst_k14 t n m l b o kv w h
    · exact fst_k15 t n m l b o kv w h
    · exact fst_k16 t n m l b o kv w h
    · exact fst_k17 t n m l b o kv w h
    · exact fst_k18 t n m l b o kv w h
    · exact fst_k19 t n m l b o kv w h
    · obtain ⟨q, hl⟩ := h1 (by omega)
      exact fst_k20 t n m l b o kv w q hl _ rfl h
    · obtain ⟨q, hl⟩ := h1 (by omega)
      exact fst_k21 t n m l b o kv w q hl _ rfl h
    · obtain ⟨q, hl⟩ := h1 (by omega)
      exact fst_k22 t n m l b o kv w q hl _ rfl h
    · exact fst_k23 t n m l b o kv w h
    · exact fst_k24 t n m l b o kv w h
theorem fst_fuel : ∀ (f : Nat) (p : Pat) (b o : Nat) (w : World), nodesP p ≤ f → PatAt w b o p → errW p = 0 → Calls Tryd.prog 19 #[.pointer (some ⟨b, o, none⟩)] w (FstEnd (firstP p) w)
  | 0, p, b, o, w, hf, _, _ => by have := nodesP_pos p; omega
  | f + 1, p, b, o, w, hf, hp, hr => by
    obtain ⟨kv, hn, hk⟩ := hp.open
    obtain ⟨h1, h2⟩ := (errW_iff _).1 hr
    refine fst_at p b o kv w ⟨hn, h1, fun h0 => ?_⟩
    rcases hk with ⟨a, c, _, e⟩ | ⟨b', o', c, rfl, _, hc, hc', hl⟩
    · rw [e] at h0; simp at h0
    · refine ⟨b', o', c, rfl, hc, hc', fun i hi w' g => ?_⟩
      have hm : p.kids.getD i Pat.zero ∈ p.kids := by rw [List.getD_eq_getElem?_getD, List.getElem?_eq_getElem hi]; exact List.getElem_mem hi
      refine fst_fuel f _ b' (o' + i * 5) w' ?_ ((hl i hi).kept g) (h2 _ hm)
      have := nodesL_mem hm
      have := nodesP_eq p
      omega
theorem first_any {p : Pat} {b o : Nat} {w : World} (hp : PatAt w b o p) (hr : errW p = 0) : Calls Tryd.prog 19 #[.pointer (some ⟨b, o, none⟩)] w (FstEnd (firstP p) w) := fst_fuel _ p b o w (Nat.le_refl _) hp hr
def firstOf (p : Pat) : Fi × Int := if patErr p = 0 then (firstP p, 0) else ((emptyS, false), patErr p)
theorem results_fst3 {fn : Func} {p q r : Tmp} (h : fn.results = #[.cell p 33, .tmp q, .tmp r]) {w : World} {tmps : Array Value} {rb : Nat} {cs : Array Value} {v u : Value} (hp : tmps.getD p undef = .pointer (some ⟨rb, 0, none⟩)) (hq : tmps.getD q undef = v) (hr : tmps.getD r undef = u) (hg : w.heap[rb]? = some (.cells cs 33 (0, 0))) (hc : cs.size = 4) :
    (results fn tmps).run Tryd.prog w = .ok (.tuple #[.agg cs, v, u]) w := by
  have hp' : tmps[p]?.getD undef = .pointer (some ⟨rb, 0, none⟩) := by simpa using hp
  have hq' : tmps[q]?.getD undef = v := by simpa using hq
  have hr' : tmps[r]?.getD undef = u := by simpa using hr
  simp [results, h, hp', hq', hr', asAddr, load_fst hg hc]
theorem heap_fst2 (w : World) (o o' : Obj) : ((w.alloc o).alloc o').heap[w.heap.size]? = some o ∧ ((w.alloc o).alloc o').heap[w.heap.size + 1]? = some o' := by
  refine ⟨heap_more (heap_alloc_new w o), ?_⟩
  have e : w.heap.size + 1 = (w.alloc o).heap.size := by simp
  rw [e]; exact heap_alloc_new _ _
def FirstEnd (F : Fi × Int) (w : World) (e : Ending) (w' : World) : Prop := e = .returned (.tuple #[.agg #[.int .u64 (q4 F.1.1 0), .int .u64 (q4 F.1.1 1), .int .u64 (q4 F.1.1 2), .int .u64 (q4 F.1.1 3)], .bool F.1.2, .int .i64 F.2]) ∧ Grew w w'
theorem fin_set3 {A B : Nat → Bool} {a b : Bool} {x y : Value} {n m : Int} (e : x = .bool a) (e2 : y = .int .i64 n) (h : ((A, a), n) = ((B, b), m)) : Ending.returned (.tuple #[.agg #[.int .u64 (q4 A 0), .int .u64 (q4 A 1), .int .u64 (q4 A 2), .int .u64 (q4 A 3)], x, y]) = .returned (.tuple #[.agg #[.int .u64 (q4 B 0), .int .u64 (q4 B 1), .int .u64 (q4 B 2), .int .u64 (q4 B 3)], .bool b, .int .i64 m]) := by cases h; rw [e, e2]
set_option maxRecDepth 100000 in
set_option maxHeartbeats 1000000 in
theorem First_any (p : Pat) (kv : Value) (w : World) (hv : PatV w kv p) :
    Calls Tryd.prog 9 #[.agg (p.cells kv)] w (FirstEnd (firstOf p) w) := by
  have HW : Hid (∀ w1, Grew w w1 → Calls Tryd.prog 11 #[.agg (p.cells kv)] w1 fun e w' => e = .returned (.int .i64 (patErr p)) ∧ Grew w1 w') := fun w1 g => Wrong_any kv p w1 (hv.kept g)
  have HB := hidd (hv.box 24)
  have HH : Hid (Grew w ((w.alloc (.cells (p.cells kv) 24)).alloc (.cells #[.int .u64 0, .int .u64 0, .int .u64 0, .int .u64 0] 33)) ∧ _ ∧ _) := ⟨((Grew.refl w).alloc _).alloc _, heap_fst2 w (.cells (p.cells kv) 24) (.cells #[.int .u64 0, .int .u64 0, .int .u64 0, .int .u64 0] 33)⟩
  unfold FirstEnd
  clear hv
  rw [cells_eq] at HW HB HH ⊢
  by_cases h0 : patErr p = 0
  · have HL : Hid (firstOf p = (firstP p, 0)) := if_pos h0
    rw [HL.out]
    have HM : Hid (∀ w1, Grew (w.alloc (.cells #[.int .i64 p.kind, .string p.text, .int .i64 p.n, .string p.name, kv] 24)) w1 → Calls Tryd.prog 19 #[.pointer (some ⟨w.heap.size, 0, none⟩)] w1 (FstEnd (firstP p) w1)) := fun w1 g => first_any (HB.out.kept g) ((patErr_iff p).1 h0).1
    rw [h0] at HW
    obtain ⟨⟨S, nl⟩, hS⟩ : ∃ x, firstP p = x := ⟨_, rfl⟩
    rw [hS] at HM ⊢
    unfold FstEnd at HM
    dsimp only at HM ⊢
    clear h0 hS HL HB
    go_enter Tryd.func9, Tryd.ntmps9
    go_wp2_with fail
    refine (HW.out _ HH.out.1).mono ?_; rintro e w1 ⟨rfl, g1⟩
    have HG1 := hidd (HH.out.1.trans g1)
    have HGA := hidd (((Grew.refl (w.alloc (.cells #[.int .i64 p.kind, .string p.text, .int .i64 p.n, .string p.name, kv] 24))).alloc (.cells #[.int .u64 0, .int .u64 0, .int .u64 0, .int .u64 0] 33)).trans g1)
    have HZ1 := hidd (heap_old g1 HH.out.2.2)
    clear g1
    go_wp2_with fail
    refine (HM.out _ HGA.out).mono ?_; rintro e w2 ⟨rfl, g2⟩
    have HG2 := hidd (HG1.out.trans g2)
    have HZ2 := hidd (heap_old g2 HZ1.out)
    clear g2
    obtain ⟨⟨z0, z1, z2, z3⟩, zf⟩ := cells_fst HZ2.out
    go_wp2_with fail
    exact bodyPost_ret (results_fst3 rfl rfl rfl rfl (setSet_heap (setSet_heap HZ2.out)) rfl) rfl ⟨fin_set3 rfl rfl rfl, setSet_grew (setSet_grew HG2.out (Nat.le_succ _) _ _ _ _) (Nat.le_succ _) _ _ _ _⟩
  · have HL : Hid (firstOf p = ((emptyS, false), patErr p)) := if_neg h0
    rw [HL.out]
    obtain ⟨z, hz⟩ : ∃ z, patErr p = z := ⟨_, rfl⟩
    rw [hz] at HW ⊢
    have kz : (z == 0) = false := by rw [beq_eq_false_iff_ne, ← hz]; exact h0
    dsimp only
    simp only [q4_empty]
    clear h0 hz HL HB
    go_enter Tryd.func9, Tryd.ntmps9
    go_wp2_with fail
    refine (HW.out _ HH.out.1).mono ?_; rintro e w1 ⟨rfl, g1⟩
    have HG1 := hidd (HH.out.1.trans g1)
    have HZ1 := hidd (heap_old g1 HH.out.2.2)
    clear g1
    obtain ⟨⟨z0, z1, z2, z3⟩, zf⟩ := cells_fst HZ1.out
    go_wp2_with fail
    exact bodyPost_ret (results_fst3 rfl rfl rfl rfl (setSet_heap HZ1.out) rfl) rfl ⟨rfl, setSet_grew HG1.out (Nat.le_succ _) _ _ _ _⟩
end Go.Proofs.YtglfdfeideeeaaaDoor
