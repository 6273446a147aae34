/- tune: measure, kind by kind. Printed. -/
import Derived.Test.YtglfdfeideeeaaaDoorPTnBnd
import Derived.Test.YtglfdfeideeeaaaDoorTnMerge
import Derived.Test.YtglfdfeideeeaaaDoorTnTwo
namespace Go.Proofs.YtglfdfeideeeaaaDoor
open Go.RowKit
set_option linter.unusedVariables false
def foldB (f : Bd → Bd → Bd) : List Bd → Bd
  | [] => ⟨0, 0, false⟩
  | b :: l => l.foldl f b
def measK (k : Int) (t : ByteArray) (n : Int) (bs : List Bd) : Bd :=
  if k = 1 then ⟨t.size, t.size, false⟩
  else if k = 2 then ⟨n, n, false⟩
  else if k = 3 ∨ k = 4 then ⟨1, 1, false⟩
  else if k = 5 ∨ k = 14 then ⟨1, -1, false⟩
  else if k = 10 ∨ k = 11 ∨ k = 16 ∨ k = 23 then ⟨0, 0, false⟩
  else if k = 15 ∨ k = 17 then ⟨0, 0, true⟩
  else if k = 18 then foldB thenB bs
  else if k = 19 then foldB orB bs
  else if k = 20 then (if (foldB thenB bs).never = true ∨ (foldB thenB bs).most = 0 then ⟨0, 0, false⟩ else ⟨0, -1, false⟩)
  else if k = 21 ∨ k = 22 then foldB thenB bs
  else ⟨0, -1, false⟩
mutual
def measureP : Pat → Bd
  | .mk k t n m l => measK k t n (measureL l)
def measureL : List Pat → List Bd
  | [] => []
  | p :: l => measureP p :: measureL l
end
theorem measureL_map : ∀ l : List Pat, measureL l = l.map measureP
  | [] => rfl
  | p :: l => by rw [measureL, measureL_map l]; rfl
def MeasEnd (b : Bd) (w : World) (e : Ending) (w' : World) : Prop := e = .returned (.agg b.cells) ∧ Grew w w'
structure MeasIn (p : Pat) (b o : Nat) (kv : Value) (w : World) : Prop where
  node : NodeAt w b o p kv
  right : NodeOk p
  kids : 0 < p.kids.length → ∃ b' o' c, kv = .slice (some ⟨b', o', none⟩) p.kids.length c ∧ p.kids.length ≤ c ∧ c ≤ maxLen ∧ ∀ i, i < p.kids.length → ∀ w', Grew w w' → Calls Tryd.prog 15 #[.pointer (some ⟨b', o' + i * 5, none⟩)] w' (MeasEnd (measureP (p.kids.getD i Pat.zero)) w')
  ok : ∀ i, i < p.kids.length → BdOk (measureP (p.kids.getD i Pat.zero))
theorem setBd_heap {w : World} {b : Nat} {v0 v1 v2 u0 u1 u2 : Value} {t : TypeId} (h : w.heap[b]? = some (.cells #[v0, v1, v2] t (0, 0))) :
    (((w.setCell ⟨b, 0, none⟩ u0).setCell ⟨b, 1, none⟩ u1).setCell ⟨b, 2, none⟩ u2).heap[b]? = some (.cells #[u0, u1, u2] t (0, 0)) := by
  rw [setCell_heap_same (setCell_heap_same (setCell_heap_same h 0 u0) 1 u1) 2 u2]; rfl
theorem setBd_grew {w0 w : World} {b : Nat} (g : Grew w0 w) (hb : w0.heap.size ≤ b) (u0 u1 u2 : Value) : Grew w0 (((w.setCell ⟨b, 0, none⟩ u0).setCell ⟨b, 1, none⟩ u1).setCell ⟨b, 2, none⟩ u2) :=
  ((g.setCell hb _).setCell hb _).setCell hb _
theorem three_cells {w : World} {b : Nat} {v0 v1 v2 : Value} {t : TypeId} (h : w.heap[b]? = some (.cells #[v0, v1, v2] t (0, 0))) :
    (w.cell? ⟨b, 0, none⟩ = some v0 ∧ w.cell? ⟨b, 1, none⟩ = some v1 ∧ w.cell? ⟨b, 2, none⟩ = some v2) ∧ ∀ o, w.frozen? ⟨b, o, none⟩ = false := by
  refine ⟨⟨?_, ?_, ?_⟩, fun o => by simp [World.frozen?, h]⟩ <;> simp [World.cell?, h]
set_option maxRecDepth 100000 in
set_option maxHeartbeats 1000000 in
theorem meas_k3 (t : ByteArray) (n : Int) (m : ByteArray) (l : List Pat) (b o : Nat) (kv : Value) (w : World) (h : MeasIn (.mk 3 t n m l) b o kv w) : Calls Tryd.prog 15 #[.pointer (some ⟨b, o, none⟩)] w (MeasEnd (measureP (.mk 3 t n m l)) w) := by
  have HX : Hid (measureP (.mk 3 t n m l) = ⟨1, 1, false⟩) := by
    refine hidd ?_
    rw [measureP]; rfl
  rw [HX.out]
  have HT : Hid (t.size ≤ maxLen) := h.node.ht
  obtain ⟨c0, c1, c2, c3, c4, _, _, _, _⟩ := h.node.kept ((Grew.refl w).alloc (.cells #[.int .i64 0, .int .i64 0, .bool false] 40))
  clear h
  go_enter Tryd.func15, Tryd.ntmps15
  go_wp2_with fail
  exact bodyPost_ret (results_bd (rb := w.heap.size) rfl rfl (heap_alloc_new w _) rfl) rfl ⟨rfl, (Grew.refl w).alloc _⟩
set_option maxRecDepth 100000 in
set_option maxHeartbeats 1000000 in
theorem meas_k4 (t : ByteArray) (n : Int) (m : ByteArray) (l : List Pat) (b o : Nat) (kv : Value) (w : World) (h : MeasIn (.mk 4 t n m l) b o kv w) : Calls Tryd.prog 15 #[.pointer (some ⟨b, o, none⟩)] w (MeasEnd (measureP (.mk 4 t n m l)) w) := by
  have HX : Hid (measureP (.mk 4 t n m l) = ⟨1, 1, false⟩) := by
    refine hidd ?_
    rw [measureP]; rfl
  rw [HX.out]
  have HT : Hid (t.size ≤ maxLen) := h.node.ht
  obtain ⟨c0, c1, c2, c3, c4, _, _, _, _⟩ := h.node.kept ((Grew.refl w).alloc (.cells #[.int .i64 0, .int .i64 0, .bool false] 40))
  clear h
  go_enter Tryd.func15, Tryd.ntmps15
  go_wp2_with fail
  exact bodyPost_ret (results_bd (rb := w.heap.size) rfl rfl (heap_alloc_new w _) rfl) rfl ⟨rfl, (Grew.refl w).alloc _⟩
set_option maxRecDepth 100000 in
set_option maxHeartbeats 1000000 in
theorem meas_k5 (t : ByteArray) (n : Int) (m : ByteArray) (l : List Pat) (b o : Nat) (kv : Value) (w : World) (h : MeasIn (.mk 5 t n m l) b o kv w) : Calls Tryd.prog 15 #[.pointer (some ⟨b, o, none⟩)] w (MeasEnd (measureP (.mk 5 t n m l)) w) := by
  have HX : Hid (measureP (.mk 5 t n m l) = ⟨1, -1, false⟩) := by
    refine hidd ?_
    rw [measureP]; rfl
  rw [HX.out]
  have HT : Hid (t.size ≤ maxLen) := h.node.ht
  obtain ⟨c0, c1, c2, c3, c4, _, _, _, _⟩ := h.node.kept ((Grew.refl w).alloc (.cells #[.int .i64 0, .int .i64 0, .bool false] 40))
  clear h
  go_enter Tryd.func15, Tryd.ntmps15
  go_wp2_with fail
  exact bodyPost_ret (results_bd (rb := w.heap.size) rfl rfl (heap_alloc_new w _) rfl) rfl ⟨rfl, (Grew.refl w).alloc _⟩
set_option maxRecDepth 100000 in
set_option maxHeartbeats 1000000 in
theorem meas_k6 (t : ByteArray) (n : Int) (m : ByteArray) (l : List Pat) (b o : Nat) (kv : Value) (w : World) (h : MeasIn (.mk 6 t n m l) b o kv w) : Calls Tryd.prog 15 #[.pointer (some ⟨b, o, none⟩)] w (MeasEnd (measureP (.mk 6 t n m l)) w) := by
  have HX : Hid (measureP (.mk 6 t n m l) = ⟨0, -1, false⟩) := by
    refine hidd ?_
    rw [measureP]; rfl
  rw [HX.out]
  have HT : Hid (t.size ≤ maxLen) := h.node.ht
  obtain ⟨c0, c1, c2, c3, c4, _, _, _, _⟩ := h.node.kept ((Grew.refl w).alloc (.cells #[.int .i64 0, .int .i64 0, .bool false] 40))
  clear h
  go_enter Tryd.func15, Tryd.ntmps15
  go_wp2_with fail
  exact bodyPost_ret (results_bd (rb := w.heap.size) rfl rfl (heap_alloc_new w _) rfl) rfl ⟨rfl, (Grew.refl w).alloc _⟩
set_option maxRecDepth 100000 in
set_option maxHeartbeats 1000000 in
theorem meas_k7 (t : ByteArray) (n : Int) (m : ByteArray) (l : List Pat) (b o : Nat) (kv : Value) (w : World) (h : MeasIn (.mk 7 t n m l) b o kv w) : Calls Tryd.prog 15 #[.pointer (some ⟨b, o, none⟩)] w (MeasEnd (measureP (.mk 7 t n m l)) w) := by
  have HX : Hid (measureP (.mk 7 t n m l) = ⟨0, -1, false⟩) := by
    refine hidd ?_
    rw [measureP]; rfl
  rw [HX.out]
  have HT : Hid (t.size ≤ maxLen) := h.node.ht
  obtain ⟨c0, c1, c2, c3, c4, _, _, _, _⟩ := h.node.kept ((Grew.refl w).alloc (.cells #[.int .i64 0, .int .i64 0, .bool false] 40))
  clear h
  go_enter Tryd.func15, Tryd.ntmps15
  go_wp2_with fail
  exact bodyPost_ret (results_bd (rb := w.heap.size) rfl rfl (heap_alloc_new w _) rfl) rfl ⟨rfl, (Grew.refl w).alloc _⟩
set_option maxRecDepth 100000 in
set_option maxHeartbeats 1000000 in
theorem meas_k8 (t : ByteArray) (n : Int) (m : ByteArray) (l : List Pat) (b o : Nat) (kv : Value) (w : World) (h : MeasIn (.mk 8 t n m l) b o kv w) : Calls Tryd.prog 15 #[.pointer (some ⟨b, o, none⟩)] w (MeasEnd (measureP (.mk 8 t n m l)) w) := by
  have HX : Hid (measureP (.mk 8 t n m l) = ⟨0, -1, false⟩) := by
    refine hidd ?_
    rw [measureP]; rfl
  rw [HX.out]
  have HT : Hid (t.size ≤ maxLen) := h.node.ht
  obtain ⟨c0, c1, c2, c3, c4, _, _, _, _⟩ := h.node.kept ((Grew.refl w).alloc (.cells #[.int .i64 0, .int .i64 0, .bool false] 40))
  clear h
  go_enter Tryd.func15, Tryd.ntmps15
  go_wp2_with fail
  exact bodyPost_ret (results_bd (rb := w.heap.size) rfl rfl (heap_alloc_new w _) rfl) rfl ⟨rfl, (Grew.refl w).alloc _⟩
set_option maxRecDepth 100000 in
set_option maxHeartbeats 1000000 in
theorem meas_k9 (t : ByteArray) (n : Int) (m : ByteArray) (l : List Pat) (b o : Nat) (kv : Value) (w : World) (h : MeasIn (.mk 9 t n m l) b o kv w) : Calls Tryd.prog 15 #[.pointer (some ⟨b, o, none⟩)] w (MeasEnd (measureP (.mk 9 t n m l)) w) := by
  have HX : Hid (measureP (.mk 9 t n m l) = ⟨0, -1, false⟩) := by
    refine hidd ?_
    rw [measureP]; rfl
  rw [HX.out]
  have HT : Hid (t.size ≤ maxLen) := h.node.ht
  obtain ⟨c0, c1, c2, c3, c4, _, _, _, _⟩ := h.node.kept ((Grew.refl w).alloc (.cells #[.int .i64 0, .int .i64 0, .bool false] 40))
  clear h
  go_enter Tryd.func15, Tryd.ntmps15
  go_wp2_with fail
  exact bodyPost_ret (results_bd (rb := w.heap.size) rfl rfl (heap_alloc_new w _) rfl) rfl ⟨rfl, (Grew.refl w).alloc _⟩
set_option maxRecDepth 100000 in
set_option maxHeartbeats 1000000 in
theorem meas_k10 (t : ByteArray) (n : Int) (m : ByteArray) (l : List Pat) (b o : Nat) (kv : Value) (w : World) (h : MeasIn (.mk 10 t n m l) b o kv w) : Calls Tryd.prog 15 #[.pointer (some ⟨b, o, none⟩)] w (MeasEnd (measureP (.mk 10 t n m l)) w) := by
  have HX : Hid (measureP (.mk 10 t n m l) = ⟨0, 0, false⟩) := by
    refine hidd ?_
    rw [measureP]; rfl
  rw [HX.out]
  have HT : Hid (t.size ≤ maxLen) := h.node.ht
  obtain ⟨c0, c1, c2, c3, c4, _, _, _, _⟩ := h.node.kept ((Grew.refl w).alloc (.cells #[.int .i64 0, .int .i64 0, .bool false] 40))
  clear h
  go_enter Tryd.func15, Tryd.ntmps15
  go_wp2_with fail
  exact bodyPost_ret (results_bd (rb := w.heap.size) rfl rfl (heap_alloc_new w _) rfl) rfl ⟨rfl, (Grew.refl w).alloc _⟩
set_option maxRecDepth 100000 in
set_option maxHeartbeats 1000000 in
theorem meas_k11 (t : ByteArray) (n : Int) (m : ByteArray) (l : List Pat) (b o : Nat) (kv : Value) (w : World) (h : MeasIn (.mk 11 t n m l) b o kv w) : Calls Tryd.prog 15 #[.pointer (some ⟨b, o, none⟩)] w (MeasEnd (measureP (.mk 11 t n m l)) w) := by
  have HX : Hid (measureP (.mk 11 t n m l) = ⟨0, 0, false⟩) := by
    refine hidd ?_
    rw [measureP]; rfl
  rw [HX.out]
  have HT : Hid (t.size ≤ maxLen) := h.node.ht
  obtain ⟨c0, c1, c2, c3, c4, _, _, _, _⟩ := h.node.kept ((Grew.refl w).alloc (.cells #[.int .i64 0, .int .i64 0, .bool false] 40))
  clear h
  go_enter Tryd.func15, Tryd.ntmps15
  go_wp2_with fail
  exact bodyPost_ret (results_bd (rb := w.heap.size) rfl rfl (heap_alloc_new w _) rfl) rfl ⟨rfl, (Grew.refl w).alloc _⟩
set_option maxRecDepth 100000 in
set_option maxHeartbeats 1000000 in
theorem meas_k12 (t : ByteArray) (n : Int) (m : ByteArray) (l : List Pat) (b o : Nat) (kv : Value) (w : World) (h : MeasIn (.mk 12 t n m l) b o kv w) : Calls Tryd.prog 15 #[.pointer (some ⟨b, o, none⟩)] w (MeasEnd (measureP (.mk 12 t n m l)) w) := by
  have HX : Hid (measureP (.mk 12 t n m l) = ⟨0, -1, false⟩) := by
    refine hidd ?_
    rw [measureP]; rfl
  rw [HX.out]
  have HT : Hid (t.size ≤ maxLen) := h.node.ht
  obtain ⟨c0, c1, c2, c3, c4, _, _, _, _⟩ := h.node.kept ((Grew.refl w).alloc (.cells #[.int .i64 0, .int .i64 0, .bool false] 40))
  clear h
  go_enter Tryd.func15, Tryd.ntmps15
  go_wp2_with fail
  exact bodyPost_ret (results_bd (rb := w.heap.size) rfl rfl (heap_alloc_new w _) rfl) rfl ⟨rfl, (Grew.refl w).alloc _⟩
set_option maxRecDepth 100000 in
set_option maxHeartbeats 1000000 in
theorem meas_k13 (t : ByteArray) (n : Int) (m : ByteArray) (l : List Pat) (b o : Nat) (kv : Value) (w : World) (h : MeasIn (.mk 13 t n m l) b o kv w) : Calls Tryd.prog 15 #[.pointer (some ⟨b, o, none⟩)] w (MeasEnd (measureP (.mk 13 t n m l)) w) := by
  have HX : Hid (measureP (.mk 13 t n m l) = ⟨0, -1, false⟩) := by
    refine hidd ?_
    rw [measureP]; rfl
  rw [HX.out]
  have HT : Hid (t.size ≤ maxLen) := h.node.ht
  obtain ⟨c0, c1, c2, c3, c4, _, _, _, _⟩ := h.node.kept ((Grew.refl w).alloc (.cells #[.int .i64 0, .int .i64 0, .bool false] 40))
  clear h
  go_enter Tryd.func15, Tryd.ntmps15
  go_wp2_with fail
  exact bodyPost_ret (results_bd (rb := w.heap.size) rfl rfl (heap_alloc_new w _) rfl) rfl ⟨rfl, (Grew.refl w).alloc _⟩
set_option maxRecDepth 100000 in
set_option maxHeartbeats 1000000 in
theorem meas_k14 (t : ByteArray) (n : Int) (m : ByteArray) (l : List Pat) (b o : Nat) (kv : Value) (w : World) (h : MeasIn (.mk 14 t n m l) b o kv w) : Calls Tryd.prog 15 #[.pointer (some ⟨b, o, none⟩)] w (MeasEnd (measureP (.mk 14 t n m l)) w) := by
  have HX : Hid (measureP (.mk 14 t n m l) = ⟨1, -1, false⟩) := by
    refine hidd ?_
    rw [measureP]; rfl
  rw [HX.out]
  have HT : Hid (t.size ≤ maxLen) := h.node.ht
  obtain ⟨c0, c1, c2, c3, c4, _, _, _, _⟩ := h.node.kept ((Grew.refl w).alloc (.cells #[.int .i64 0, .int .i64 0, .bool false] 40))
  clear h
  go_enter Tryd.func15, Tryd.ntmps15
  go_wp2_with fail
  exact bodyPost_ret (results_bd (rb := w.heap.size) rfl rfl (heap_alloc_new w _) rfl) rfl ⟨rfl, (Grew.refl w).alloc _⟩
set_option maxRecDepth 100000 in
set_option maxHeartbeats 1000000 in
theorem meas_k15 (t : ByteArray) (n : Int) (m : ByteArray) (l : List Pat) (b o : Nat) (kv : Value) (w : World) (h : MeasIn (.mk 15 t n m l) b o kv w) : Calls Tryd.prog 15 #[.pointer (some ⟨b, o, none⟩)] w (MeasEnd (measureP (.mk 15 t n m l)) w) := by
  have HX : Hid (measureP (.mk 15 t n m l) = ⟨0, 0, true⟩) := by
    refine hidd ?_
    rw [measureP]; rfl
  rw [HX.out]
  have HT : Hid (t.size ≤ maxLen) := h.node.ht
  obtain ⟨c0, c1, c2, c3, c4, _, _, _, _⟩ := h.node.kept ((Grew.refl w).alloc (.cells #[.int .i64 0, .int .i64 0, .bool false] 40))
  clear h
  go_enter Tryd.func15, Tryd.ntmps15
  go_wp2_with fail
  exact bodyPost_ret (results_bd (rb := w.heap.size) rfl rfl (heap_alloc_new w _) rfl) rfl ⟨rfl, (Grew.refl w).alloc _⟩
set_option maxRecDepth 100000 in
set_option maxHeartbeats 1000000 in
theorem meas_k16 (t : ByteArray) (n : Int) (m : ByteArray) (l : List Pat) (b o : Nat) (kv : Value) (w : World) (h : MeasIn (.mk 16 t n m l) b o kv w) : Calls Tryd.prog 15 #[.pointer (some ⟨b, o, none⟩)] w (MeasEnd (measureP (.mk 16 t n m l)) w) := by
  have HX : Hid (measureP (.mk 16 t n m l) = ⟨0, 0, false⟩) := by
    refine hidd ?_
    rw [measureP]; rfl
  rw [HX.out]
  have HT : Hid (t.size ≤ maxLen) := h.node.ht
  obtain ⟨c0, c1, c2, c3, c4, _, _, _, _⟩ := h.node.kept ((Grew.refl w).alloc (.cells #[.int .i64 0, .int .i64 0, .bool false] 40))
  clear h
  go_enter Tryd.func15, Tryd.ntmps15
  go_wp2_with fail
  exact bodyPost_ret (results_bd (rb := w.heap.size) rfl rfl (heap_alloc_new w _) rfl) rfl ⟨rfl, (Grew.refl w).alloc _⟩
set_option maxRecDepth 100000 in
set_option maxHeartbeats 1000000 in
theorem meas_k17 (t : ByteArray) (n : Int) (m : ByteArray) (l : List Pat) (b o : Nat) (kv : Value) (w : World) (h : MeasIn (.mk 17 t n m l) b o kv w) : Calls Tryd.prog 15 #[.pointer (some ⟨b, o, none⟩)] w (MeasEnd (measureP (.mk 17 t n m l)) w) := by
  have HX : Hid (measureP (.mk 17 t n m l) = ⟨0, 0, true⟩) := by
    refine hidd ?_
    rw [measureP]; rfl
  rw [HX.out]
  have HT : Hid (t.size ≤ maxLen) := h.node.ht
  obtain ⟨c0, c1, c2, c3, c4, _, _, _, _⟩ := h.node.kept ((Grew.refl w).alloc (.cells #[.int .i64 0, .int .i64 0, .bool false] 40))
  clear h
  go_enter Tryd.func15, Tryd.ntmps15
  go_wp2_with fail
  exact bodyPost_ret (results_bd (rb := w.heap.size) rfl rfl (heap_alloc_new w _) rfl) rfl ⟨rfl, (Grew.refl w).alloc _⟩
set_option maxRecDepth 100000 in
set_option maxHeartbeats 1000000 in
theorem meas_k23 (t : ByteArray) (n : Int) (m : ByteArray) (l : List Pat) (b o : Nat) (kv : Value) (w : World) (h : MeasIn (.mk 23 t n m l) b o kv w) : Calls Tryd.prog 15 #[.pointer (some ⟨b, o, none⟩)] w (MeasEnd (measureP (.mk 23 t n m l)) w) := by
  have HX : Hid (measureP (.mk 23 t n m l) = ⟨0, 0, false⟩) := by
    refine hidd ?_
    rw [measureP]; rfl
  rw [HX.out]
  have HT : Hid (t.size ≤ maxLen) := h.node.ht
  obtain ⟨c0, c1, c2, c3, c4, _, _, _, _⟩ := h.node.kept ((Grew.refl w).alloc (.cells #[.int .i64 0, .int .i64 0, .bool false] 40))
  clear h
  go_enter Tryd.func15, Tryd.ntmps15
  go_wp2_with fail
  exact bodyPost_ret (results_bd (rb := w.heap.size) rfl rfl (heap_alloc_new w _) rfl) rfl ⟨rfl, (Grew.refl w).alloc _⟩
set_option maxRecDepth 100000 in
set_option maxHeartbeats 1000000 in
theorem meas_k24 (t : ByteArray) (n : Int) (m : ByteArray) (l : List Pat) (b o : Nat) (kv : Value) (w : World) (h : MeasIn (.mk 24 t n m l) b o kv w) : Calls Tryd.prog 15 #[.pointer (some ⟨b, o, none⟩)] w (MeasEnd (measureP (.mk 24 t n m l)) w) := by
  have HX : Hid (measureP (.mk 24 t n m l) = ⟨0, -1, false⟩) := by
    refine hidd ?_
    rw [measureP]; rfl
  rw [HX.out]
  have HT : Hid (t.size ≤ maxLen) := h.node.ht
  obtain ⟨c0, c1, c2, c3, c4, _, _, _, _⟩ := h.node.kept ((Grew.refl w).alloc (.cells #[.int .i64 0, .int .i64 0, .bool false] 40))
  clear h
  go_enter Tryd.func15, Tryd.ntmps15
  go_wp2_with fail
  exact bodyPost_ret (results_bd (rb := w.heap.size) rfl rfl (heap_alloc_new w _) rfl) rfl ⟨rfl, (Grew.refl w).alloc _⟩
set_option maxRecDepth 100000 in
set_option maxHeartbeats 1000000 in
theorem meas_k20a (t : ByteArray) (n : Int) (m : ByteArray) (l : List Pat) (b o : Nat) (kv : Value) (w : World) (h : MeasIn (.mk 20 t n m l) b o kv w) (e : (measureP (l.getD 0 Pat.zero)).never = true) : Calls Tryd.prog 15 #[.pointer (some ⟨b, o, none⟩)] w (MeasEnd (measureP (.mk 20 t n m l)) w) := by
  obtain ⟨q, rfl⟩ : ∃ q, l = [q] := List.length_eq_one_iff.1 (h.right.only (Or.inl rfl))
  obtain ⟨b', o', c, rfl, _, _, hk⟩ := h.kids (Nat.succ_pos 0)
  have HK := hidd (hk 0 (Nat.succ_pos 0))
  have HX : Hid (measureP (.mk 20 t n m [q]) = ⟨0, 0, false⟩) := by
    refine hidd ?_
    rw [measureP]; exact if_pos (Or.inl e)
  rw [HX.out]
  obtain ⟨c0, c1, c2, c3, c4, _, _, _, _⟩ := h.node.kept ((Grew.refl w).alloc (.cells #[.int .i64 0, .int .i64 0, .bool false] 40))
  have HK : Hid (∀ w', Grew w w' → Calls Tryd.prog 15 #[.pointer (some ⟨b', o', none⟩)] w' (MeasEnd (measureP q) w')) := hidd fun w' g => by
    have := HK.out w' g
    rw [Nat.zero_mul, Nat.add_zero] at this
    exact this
  obtain ⟨B, hB⟩ : ∃ B, measureP q = B := ⟨_, rfl⟩
  have E := hidd hB
  replace c4 : (w.alloc (.cells #[.int .i64 0, .int .i64 0, .bool false] 40)).cell? ⟨b, o + 4, none⟩ = some (.slice (some ⟨b', o', none⟩) 1 c) := c4
  have HC := hidd h.node
  replace e : B.never = true := hB ▸ e
  rw [hB] at HK 
  clear h hk hB HX
  unfold MeasEnd at HK
  go_enter Tryd.func15, Tryd.ntmps15
  go_wp2_with fail
  refine (HK.out _ ((Grew.refl w).alloc _)).mono ?_; rintro e w1 ⟨rfl, g1⟩
  have HG := hidd (((Grew.refl w).alloc (.cells #[.int .i64 0, .int .i64 0, .bool false] 40)).trans g1)
  have HZ := hidd (heap_kept g1 (heap_alloc_new w (.cells #[.int .i64 0, .int .i64 0, .bool false] 40)))
  clear g1
  obtain ⟨⟨z0, z1, z2⟩, zf⟩ := three_cells (heap_kept ((Grew.refl w1).alloc (.cells #[.int .i64 B.least, .int .i64 B.most, .bool true] 40)) HZ.out)
  have cc := HC.out.kept (HG.out.trans ((Grew.refl w1).alloc (.cells #[.int .i64 B.least, .int .i64 B.most, .bool true] 40)))
  obtain ⟨d0, d1, d2, d3, d4, _, _, _, _⟩ := cc
  unfold Bd.cells
  go_wp2_with fail
  exact bodyPost_ret (results_bd (rb := w.heap.size) rfl rfl (setBd_heap (heap_kept ((Grew.refl w1).alloc _) HZ.out)) rfl) rfl ⟨rfl, setBd_grew (HG.out.trans ((Grew.refl w1).alloc _)) (Nat.le_refl _) _ _ _⟩
set_option maxRecDepth 100000 in
set_option maxHeartbeats 1000000 in
theorem meas_k20b (t : ByteArray) (n : Int) (m : ByteArray) (l : List Pat) (b o : Nat) (kv : Value) (w : World) (h : MeasIn (.mk 20 t n m l) b o kv w) (e : (measureP (l.getD 0 Pat.zero)).never = false) (e2 : (measureP (l.getD 0 Pat.zero)).most = 0) : Calls Tryd.prog 15 #[.pointer (some ⟨b, o, none⟩)] w (MeasEnd (measureP (.mk 20 t n m l)) w) := by
  obtain ⟨q, rfl⟩ : ∃ q, l = [q] := List.length_eq_one_iff.1 (h.right.only (Or.inl rfl))
  obtain ⟨b', o', c, rfl, _, _, hk⟩ := h.kids (Nat.succ_pos 0)
  have HK := hidd (hk 0 (Nat.succ_pos 0))
  have HX : Hid (measureP (.mk 20 t n m [q]) = ⟨0, 0, false⟩) := by
    refine hidd ?_
    rw [measureP]; exact if_pos (Or.inr e2)
  rw [HX.out]
  obtain ⟨c0, c1, c2, c3, c4, _, _, _, _⟩ := h.node.kept ((Grew.refl w).alloc (.cells #[.int .i64 0, .int .i64 0, .bool false] 40))
  have HK : Hid (∀ w', Grew w w' → Calls Tryd.prog 15 #[.pointer (some ⟨b', o', none⟩)] w' (MeasEnd (measureP q) w')) := hidd fun w' g => by
    have := HK.out w' g
    rw [Nat.zero_mul, Nat.add_zero] at this
    exact this
  obtain ⟨B, hB⟩ : ∃ B, measureP q = B := ⟨_, rfl⟩
  have E := hidd hB
  replace c4 : (w.alloc (.cells #[.int .i64 0, .int .i64 0, .bool false] 40)).cell? ⟨b, o + 4, none⟩ = some (.slice (some ⟨b', o', none⟩) 1 c) := c4
  have HC := hidd h.node
  replace e : B.never = false := hB ▸ e
  have e3 : (B.most == 0) = true := by rw [beq_iff_eq, ← hB]; exact e2
  clear e2
  rw [hB] at HK 
  clear h hk hB HX
  unfold MeasEnd at HK
  go_enter Tryd.func15, Tryd.ntmps15
  go_wp2_with fail
  refine (HK.out _ ((Grew.refl w).alloc _)).mono ?_; rintro e w1 ⟨rfl, g1⟩
  have HG := hidd (((Grew.refl w).alloc (.cells #[.int .i64 0, .int .i64 0, .bool false] 40)).trans g1)
  have HZ := hidd (heap_kept g1 (heap_alloc_new w (.cells #[.int .i64 0, .int .i64 0, .bool false] 40)))
  clear g1
  obtain ⟨⟨z0, z1, z2⟩, zf⟩ := three_cells (heap_kept ((Grew.refl w1).alloc (.cells #[.int .i64 B.least, .int .i64 B.most, .bool false] 40)) HZ.out)
  have cc := HC.out.kept (HG.out.trans ((Grew.refl w1).alloc (.cells #[.int .i64 B.least, .int .i64 B.most, .bool false] 40)))
  obtain ⟨d0, d1, d2, d3, d4, _, _, _, _⟩ := cc
  unfold Bd.cells
  go_wp2_with fail
  exact bodyPost_ret (results_bd (rb := w.heap.size) rfl rfl (setBd_heap (heap_kept ((Grew.refl w1).alloc _) HZ.out)) rfl) rfl ⟨rfl, setBd_grew (HG.out.trans ((Grew.refl w1).alloc _)) (Nat.le_refl _) _ _ _⟩
set_option maxRecDepth 100000 in
set_option maxHeartbeats 1000000 in
theorem meas_k20c (t : ByteArray) (n : Int) (m : ByteArray) (l : List Pat) (b o : Nat) (kv : Value) (w : World) (h : MeasIn (.mk 20 t n m l) b o kv w) (e : (measureP (l.getD 0 Pat.zero)).never = false) (e2 : ¬ (measureP (l.getD 0 Pat.zero)).most = 0) : Calls Tryd.prog 15 #[.pointer (some ⟨b, o, none⟩)] w (MeasEnd (measureP (.mk 20 t n m l)) w) := by
  obtain ⟨q, rfl⟩ : ∃ q, l = [q] := List.length_eq_one_iff.1 (h.right.only (Or.inl rfl))
  obtain ⟨b', o', c, rfl, _, _, hk⟩ := h.kids (Nat.succ_pos 0)
  have HK := hidd (hk 0 (Nat.succ_pos 0))
  have HX : Hid (measureP (.mk 20 t n m [q]) = ⟨0, -1, false⟩) := by
    refine hidd ?_
    rw [measureP]; exact if_neg (not_or.2 ⟨by rw [show (foldB thenB (measureL [q])).never = false from e]; decide, e2⟩)
  rw [HX.out]
  obtain ⟨c0, c1, c2, c3, c4, _, _, _, _⟩ := h.node.kept ((Grew.refl w).alloc (.cells #[.int .i64 0, .int .i64 0, .bool false] 40))
  have HK : Hid (∀ w', Grew w w' → Calls Tryd.prog 15 #[.pointer (some ⟨b', o', none⟩)] w' (MeasEnd (measureP q) w')) := hidd fun w' g => by
    have := HK.out w' g
    rw [Nat.zero_mul, Nat.add_zero] at this
    exact this
  obtain ⟨B, hB⟩ : ∃ B, measureP q = B := ⟨_, rfl⟩
  have E := hidd hB
  replace c4 : (w.alloc (.cells #[.int .i64 0, .int .i64 0, .bool false] 40)).cell? ⟨b, o + 4, none⟩ = some (.slice (some ⟨b', o', none⟩) 1 c) := c4
  have HC := hidd h.node
  replace e : B.never = false := hB ▸ e
  have e3 : (B.most == 0) = false := by rw [beq_eq_false_iff_ne, ← hB]; exact e2
  clear e2
  rw [hB] at HK 
  clear h hk hB HX
  unfold MeasEnd at HK
  go_enter Tryd.func15, Tryd.ntmps15
  go_wp2_with fail
  refine (HK.out _ ((Grew.refl w).alloc _)).mono ?_; rintro e w1 ⟨rfl, g1⟩
  have HG := hidd (((Grew.refl w).alloc (.cells #[.int .i64 0, .int .i64 0, .bool false] 40)).trans g1)
  have HZ := hidd (heap_kept g1 (heap_alloc_new w (.cells #[.int .i64 0, .int .i64 0, .bool false] 40)))
  clear g1
  obtain ⟨⟨z0, z1, z2⟩, zf⟩ := three_cells (heap_kept ((Grew.refl w1).alloc (.cells #[.int .i64 B.least, .int .i64 B.most, .bool false] 40)) HZ.out)
  have cc := HC.out.kept (HG.out.trans ((Grew.refl w1).alloc (.cells #[.int .i64 B.least, .int .i64 B.most, .bool false] 40)))
  obtain ⟨d0, d1, d2, d3, d4, _, _, _, _⟩ := cc
  unfold Bd.cells
  go_wp2_with fail
  exact bodyPost_ret (results_bd (rb := w.heap.size) rfl rfl (setBd_heap (heap_kept ((Grew.refl w1).alloc _) HZ.out)) rfl) rfl ⟨rfl, setBd_grew (HG.out.trans ((Grew.refl w1).alloc _)) (Nat.le_refl _) _ _ _⟩
set_option maxRecDepth 100000 in
set_option maxHeartbeats 1000000 in
theorem meas_k21 (t : ByteArray) (n : Int) (m : ByteArray) (l : List Pat) (b o : Nat) (kv : Value) (w : World) (h : MeasIn (.mk 21 t n m l) b o kv w) : Calls Tryd.prog 15 #[.pointer (some ⟨b, o, none⟩)] w (MeasEnd (measureP (.mk 21 t n m l)) w) := by
  obtain ⟨q, rfl⟩ : ∃ q, l = [q] := List.length_eq_one_iff.1 (h.right.only (Or.inr (Or.inl rfl)))
  obtain ⟨b', o', c, rfl, _, _, hk⟩ := h.kids (Nat.succ_pos 0)
  have HK := hidd (hk 0 (Nat.succ_pos 0))
  have HX : Hid (measureP (.mk 21 t n m [q]) = measureP q) := by
    refine hidd ?_
    rw [measureP]; rfl
  rw [HX.out]
  obtain ⟨c0, c1, c2, c3, c4, _, _, _, _⟩ := h.node.kept ((Grew.refl w).alloc (.cells #[.int .i64 0, .int .i64 0, .bool false] 40))
  have HK : Hid (∀ w', Grew w w' → Calls Tryd.prog 15 #[.pointer (some ⟨b', o', none⟩)] w' (MeasEnd (measureP q) w')) := hidd fun w' g => by
    have := HK.out w' g
    rw [Nat.zero_mul, Nat.add_zero] at this
    exact this
  obtain ⟨B, hB⟩ : ∃ B, measureP q = B := ⟨_, rfl⟩
  have E := hidd hB
  replace c4 : (w.alloc (.cells #[.int .i64 0, .int .i64 0, .bool false] 40)).cell? ⟨b, o + 4, none⟩ = some (.slice (some ⟨b', o', none⟩) 1 c) := c4
  have HC := hidd h.node
  rw [hB] at HK ⊢
  clear h hk hB HX
  unfold MeasEnd at HK
  go_enter Tryd.func15, Tryd.ntmps15
  go_wp2_with fail
  refine (HK.out _ ((Grew.refl w).alloc _)).mono ?_; rintro e w1 ⟨rfl, g1⟩
  have HG := hidd (((Grew.refl w).alloc (.cells #[.int .i64 0, .int .i64 0, .bool false] 40)).trans g1)
  have HZ := hidd (heap_kept g1 (heap_alloc_new w (.cells #[.int .i64 0, .int .i64 0, .bool false] 40)))
  clear g1
  obtain ⟨⟨z0, z1, z2⟩, zf⟩ := three_cells HZ.out
  unfold Bd.cells
  go_wp2_with fail
  exact bodyPost_ret (results_bd (rb := w.heap.size) rfl rfl (setBd_heap HZ.out) rfl) rfl ⟨rfl, setBd_grew HG.out (Nat.le_refl _) _ _ _⟩
set_option maxRecDepth 100000 in
set_option maxHeartbeats 1000000 in
theorem meas_k22 (t : ByteArray) (n : Int) (m : ByteArray) (l : List Pat) (b o : Nat) (kv : Value) (w : World) (h : MeasIn (.mk 22 t n m l) b o kv w) : Calls Tryd.prog 15 #[.pointer (some ⟨b, o, none⟩)] w (MeasEnd (measureP (.mk 22 t n m l)) w) := by
  obtain ⟨q, rfl⟩ : ∃ q, l = [q] := List.length_eq_one_iff.1 (h.right.only (Or.inr (Or.inr rfl)))
  obtain ⟨b', o', c, rfl, _, _, hk⟩ := h.kids (Nat.succ_pos 0)
  have HK := hidd (hk 0 (Nat.succ_pos 0))
  have HX : Hid (measureP (.mk 22 t n m [q]) = measureP q) := by
    refine hidd ?_
    rw [measureP]; rfl
  rw [HX.out]
  obtain ⟨c0, c1, c2, c3, c4, _, _, _, _⟩ := h.node.kept ((Grew.refl w).alloc (.cells #[.int .i64 0, .int .i64 0, .bool false] 40))
  have HK : Hid (∀ w', Grew w w' → Calls Tryd.prog 15 #[.pointer (some ⟨b', o', none⟩)] w' (MeasEnd (measureP q) w')) := hidd fun w' g => by
    have := HK.out w' g
    rw [Nat.zero_mul, Nat.add_zero] at this
    exact this
  obtain ⟨B, hB⟩ : ∃ B, measureP q = B := ⟨_, rfl⟩
  have E := hidd hB
  replace c4 : (w.alloc (.cells #[.int .i64 0, .int .i64 0, .bool false] 40)).cell? ⟨b, o + 4, none⟩ = some (.slice (some ⟨b', o', none⟩) 1 c) := c4
  have HC := hidd h.node
  rw [hB] at HK ⊢
  clear h hk hB HX
  unfold MeasEnd at HK
  go_enter Tryd.func15, Tryd.ntmps15
  go_wp2_with fail
  refine (HK.out _ ((Grew.refl w).alloc _)).mono ?_; rintro e w1 ⟨rfl, g1⟩
  have HG := hidd (((Grew.refl w).alloc (.cells #[.int .i64 0, .int .i64 0, .bool false] 40)).trans g1)
  have HZ := hidd (heap_kept g1 (heap_alloc_new w (.cells #[.int .i64 0, .int .i64 0, .bool false] 40)))
  clear g1
  obtain ⟨⟨z0, z1, z2⟩, zf⟩ := three_cells HZ.out
  unfold Bd.cells
  go_wp2_with fail
  exact bodyPost_ret (results_bd (rb := w.heap.size) rfl rfl (setBd_heap HZ.out) rfl) rfl ⟨rfl, setBd_grew HG.out (Nat.le_refl _) _ _ _⟩
end Go.Proofs.YtglfdfeideeeaaaDoor
namespace Go.Proofs.YtglfdfeideeeaaaDoor
open Go.RowKit
set_option linter.unusedVariables false
section
open RR
variable {b o bs : Nat} {D : Obj} {ops : Array Oper} {Q : Exit → Act → World → Prop} {shs : List Sh} {a0 : Act} {w0 : World} {A : Array Edge} {i : Nat} {d : Option Tmp} {op : Op} {ty : TypeId} {pos : String} {G : Option (Nat × Bool)}
theorem om_pure {z : Value} (hr : ∀ a w, Env (OneRl bs D) ops shs a0 w0 A a w → (execOp a.eval ⟨d, op, ty, pos, A, G⟩).run Tryd.prog w = .ok (.value z) w) (hg : guardIs ops shs A G = some true) (hs : shs.getD i (.fact fun _ _ => True) = .val z) : StepOk (OneRl bs D) Tryd.prog ops Q (shF shs) a0 w0 i ⟨d, op, ty, pos, A, G⟩ :=
  st_run hg fun a w E K hK => by
    have := hK z w (OneRl.refl _ _ w) (by unfold shF; rw [hs]; rfl)
    unfold Oper.wp
    rw [hr a w E]
    exact this
theorem om_nil {p : Addr} {x : Operand} (hg : guardIs ops shs A G = some true) (hx : opSh ops shs A a0 x = .val (.pointer (some p))) (hs : shs.getD i (.fact fun _ _ => True) = .val (.pointer (some p))) : StepOk (OneRl bs D) Tryd.prog ops Q (shF shs) a0 w0 i ⟨d, .nilCheck x, ty, pos, A, G⟩ :=
  om_pure (fun a w E => by
    have hv : a.eval x = .pointer (some p) := E.opv hx
    unfold execOp
    simp [hv]) hg hs
theorem om_field (n : Nat) (hn : n = 1 ∨ n = 2) {x : Operand} (hg : guardIs ops shs A G = some true) (hx : opSh ops shs A a0 x = .val (.pointer (some ⟨b, o, none⟩))) (hs : shs.getD i (.fact fun _ _ => True) = .val (.pointer (some ⟨b, o + n, none⟩))) : StepOk (OneRl bs D) Tryd.prog ops Q (shF shs) a0 w0 i ⟨d, .fieldAddr 24 x n, ty, pos, A, G⟩ :=
  om_pure (fun a w E => by
    have hv : a.eval x = .pointer (some ⟨b, o, none⟩) := E.opv hx
    have hi1 : (Tryd.prog.info? 9).map (·.size) = some 1 := by kernel_rfl
    have hi2 : (Tryd.prog.info? 3).map (·.size) = some 1 := by kernel_rfl
    cases hq1 : Tryd.prog.info? 9 with
    | none => rw [hq1] at hi1; cases hi1
    | some i1 =>
      cases hq2 : Tryd.prog.info? 3 with
      | none => rw [hq2] at hi2; cases hi2
      | some i2 =>
        have hs1 : i1.size = 1 := by simpa [hq1] using hi1
        have hs2 : i2.size = 1 := by simpa [hq2] using hi2
        unfold execOp
        rcases hn with rfl | rfl <;> simp [hv, Instr.fieldAt, Instr.sureAddr, Sem.run_bind, run_underlying Tryd.underlying24, fieldPlace, sizeOf, typeInfo, hq1, hq2, hs1, hs2, Addr.add]) hg hs
theorem om_cell (hlt : bs < w0.heap.size) (hne : b ≠ bs) {w : World} (g : OneRl bs D w0 w) {v : Value} (hc : w0.cell? ⟨b, o, none⟩ = some v) : w.cell? ⟨b, o, none⟩ = some v := by
  have := (g hlt).1.block b (lt_of_cell hc) (fun e => hne (Option.some.inj e))
  unfold World.cell? at hc ⊢
  rw [this]; exact hc
theorem om_loadS (hlt : bs < w0.heap.size) (hne : b ≠ bs) {t : ByteArray} (hc : w0.cell? ⟨b, o, none⟩ = some (.string t)) {x : Operand} (hg : guardIs ops shs A G = some true) (hx : opSh ops shs A a0 x = .val (.pointer (some ⟨b, o, none⟩))) (hs : shs.getD i (.fact fun _ _ => True) = .val (.string t)) : StepOk (OneRl bs D) Tryd.prog ops Q (shF shs) a0 w0 i ⟨d, .load 9 x, ty, pos, A, G⟩ :=
  st_run hg fun a w E K hK => by
    have hv : a.eval x = .pointer (some ⟨b, o, none⟩) := E.opv hx
    have := hK (.string t) w (OneRl.refl _ _ w) (by unfold shF; rw [hs]; rfl)
    have hc := om_cell hlt hne E.grew hc
    have hagg : (isAgg 9).run Tryd.prog w = .ok false w := by
      unfold isAgg
      rw [Sem.run_bind, run_underlying Tryd.underlying9 w]; rfl
    unfold Oper.wp execOp
    simpa [hv, Instr.loadAt, Instr.sureAddr, loadVar, Sem.run_bind, hagg, hc, Oper.upon] using this
theorem om_loadI (hlt : bs < w0.heap.size) (hne : b ≠ bs) {n : Int} (hc : w0.cell? ⟨b, o, none⟩ = some (.int .i64 n)) {x : Operand} (hg : guardIs ops shs A G = some true) (hx : opSh ops shs A a0 x = .val (.pointer (some ⟨b, o, none⟩))) (hs : shs.getD i (.fact fun _ _ => True) = .val (.int .i64 n)) : StepOk (OneRl bs D) Tryd.prog ops Q (shF shs) a0 w0 i ⟨d, .load 3 x, ty, pos, A, G⟩ :=
  st_run hg fun a w E K hK => by
    have hv : a.eval x = .pointer (some ⟨b, o, none⟩) := E.opv hx
    have := hK (.int .i64 n) w (OneRl.refl _ _ w) (by unfold shF; rw [hs]; rfl)
    have hc := om_cell hlt hne E.grew hc
    have hagg : (isAgg 3).run Tryd.prog w = .ok false w := by
      unfold isAgg
      rw [Sem.run_bind, run_underlying Tryd.underlying3 w]; rfl
    unfold Oper.wp execOp
    simpa [hv, Instr.loadAt, Instr.sureAddr, loadVar, Sem.run_bind, hagg, hc, Oper.upon] using this
theorem build_bd (u v : Int) (w : World) : (Instr.build 40 #[(0, .int .i64 u), (1, .int .i64 v)]).run Tryd.prog w = .ok (.agg #[.int .i64 u, .int .i64 v, .bool false]) w := by kernel_rfl
theorem om_build {u v : Int} {x y : Operand} (hg : guardIs ops shs A G = some true) (hx : opSh ops shs A a0 x = .val (.int .i64 u)) (hy : opSh ops shs A a0 y = .val (.int .i64 v)) (hs : shs.getD i (.fact fun _ _ => True) = .val (.agg #[.int .i64 u, .int .i64 v, .bool false])) : StepOk (OneRl bs D) Tryd.prog ops Q (shF shs) a0 w0 i ⟨d, .build 40 #[(0, x), (1, y)], ty, pos, A, G⟩ :=
  om_pure (fun a w E => by
    have hv : a.eval x = .int .i64 u := E.opv hx
    have hw : a.eval y = .int .i64 v := E.opv hy
    unfold execOp
    simp only [List.map_toArray, List.map_cons, List.map_nil, hv, hw, Sem.run_bind, build_bd, Result.andThen_ok, Sem.run_pure]) hg hs
theorem om_store {u v : Int} (hb : w0.heap[bs]? = some (.cells #[.int .i64 0, .int .i64 0, .bool false] 40 (0, 0))) {x y : Operand} (hg : guardIs ops shs A G = some true) (hx : opSh ops shs A a0 x = .val (.pointer (some ⟨bs, 0, none⟩))) (hy : opSh ops shs A a0 y = .val (.agg #[.int .i64 u, .int .i64 v, .bool false])) (hs : shs.getD i (.fact fun _ _ => True) = .fact fun _ w => w.heap[bs]? = some (.cells #[.int .i64 u, .int .i64 v, .bool false] 40 (0, 0))) : StepOk (OneRl bs (.cells #[.int .i64 u, .int .i64 v, .bool false] 40 (0, 0))) Tryd.prog ops Q (shF shs) a0 w0 i ⟨d, .store 40 x y, ty, pos, A, G⟩ :=
  st_run hg fun a w E K hK => by
    have hlt : bs < w0.heap.size := lt_of_block hb
    have hv : a.eval x = .pointer (some ⟨bs, 0, none⟩) := E.opv hx
    have hv2 : a.eval y = .agg #[.int .i64 u, .int .i64 v, .bool false] := E.opv hy
    have hcur : ∃ cur : Array Value, w.heap[bs]? = some (.cells cur 40 (0, 0)) ∧ cur.size = 3 := by
      rcases (E.grew hlt).2 with k | k
      · exact ⟨_, by rw [k]; exact hb, rfl⟩
      · exact ⟨_, k, rfl⟩
    obtain ⟨cur, hc1, hc2⟩ := hcur
    have hone : ∀ z ∈ (#[Value.int .i64 u, .int .i64 v, .bool false] : Array Value).toList, z.oneCell' = true := by
      intro z hz
      simp only [List.mem_cons, List.not_mem_nil, or_false] at hz
      rcases hz with rfl | rfl | rfl <;> rfl
    have hst := run_storeCells_at (P := Tryd.prog) bs 0 40 (#[Value.int .i64 u, .int .i64 v, .bool false] : Array Value).toList 0 cur w hc1 (by rw [hc2]; exact Nat.le_refl _) hone
    have hrow : (cur.toList.take (0 + 0) ++ (#[Value.int .i64 u, .int .i64 v, .bool false] : Array Value).toList ++ cur.toList.drop (0 + 0 + (#[Value.int .i64 u, .int .i64 v, .bool false] : Array Value).toList.length)).toArray = #[Value.int .i64 u, .int .i64 v, .bool false] := by
      rw [List.drop_eq_nil_of_le (by rw [Array.length_toList, hc2]; exact Nat.le_refl _), List.append_nil]
      simp
    rw [hrow] at hst
    have := hK undef (w.setRow bs #[.int .i64 u, .int .i64 v, .bool false]) (fun _ => ⟨⟨rfl, rfl, rfl, by simp, fun k hk hne => setRow_other w bs k _ (fun e => hne (by rw [e]))⟩, Or.inr (setRow_heap w bs cur _ _ _ hc1)⟩) (by unfold shF; rw [hs]; exact setRow_heap w bs cur _ _ _ hc1)
    unfold Oper.wp execOp
    simpa [hv, hv2, Instr.storeAt, Instr.sureAddr, storeVar, Sem.run_bind, Value.cells, hst, Oper.upon] using this
theorem om_mono {D : Obj} {bs : Nat} {shs : List RR.Sh} (hp : ∀ s ∈ shs, (∃ v, s = .val v) ∨ s = .fact fun _ w' => w'.heap[bs]? = some D) : ∀ i v w w', OneRl bs D w w' → RR.shF shs i v w → RR.shF shs i v w' := by
  intro i v w w' g k
  unfold RR.shF at k ⊢
  rcases Nat.lt_or_ge i shs.length with hi | hi
  · rw [List.getD_eq_getElem?_getD, List.getElem?_eq_getElem hi] at k ⊢
    rcases hp _ (List.getElem_mem hi) with ⟨u, e⟩ | e
    · rw [Option.getD_some, e] at k ⊢; exact k
    · rw [Option.getD_some, e] at k ⊢
      have k : w.heap[bs]? = some D := k
      rcases (g (Array.getElem?_eq_some_iff.1 k).1).2 with g2 | g2
      · exact g2.trans k
      · exact g2
  · rw [List.getD_eq_getElem?_getD, List.getElem?_eq_none hi] at k ⊢; exact k
end
set_option maxRecDepth 100000 in
set_option maxHeartbeats 2000000 in
theorem meas_k2 (t : ByteArray) (n : Int) (m : ByteArray) (l : List Pat) (b o : Nat) (kv : Value) (w : World) (h : MeasIn (.mk 2 t n m l) b o kv w) : Calls Tryd.prog 15 #[.pointer (some ⟨b, o, none⟩)] w (MeasEnd (measureP (.mk 2 t n m l)) w) := by
  have HX : Hid (measureP (.mk 2 t n m l) = ⟨n, n, false⟩) := by
    refine hidd ?_
    rw [measureP]; rfl
  rw [HX.out]
  have hne : b ≠ w.heap.size := by have : b < w.heap.size := lt_of_cell h.node.c0; omega
  obtain ⟨c0, c1, c2, c3, c4, _, _, _, _⟩ := h.node.kept ((Grew.refl w).alloc (.cells #[.int .i64 0, .int .i64 0, .bool false] 40))
  have cc : (w.alloc (.cells #[.int .i64 0, .int .i64 0, .bool false] 40)).cell? ⟨b, o + 2, none⟩ = some (.int .i64 n) := c2
  have hlt : w.heap.size < (w.alloc (.cells #[.int .i64 0, .int .i64 0, .bool false] 40)).heap.size := by simp
  have hz : (w.alloc (.cells #[.int .i64 0, .int .i64 0, .bool false] 40)).heap[w.heap.size]? = some (.cells #[.int .i64 0, .int .i64 0, .bool false] 40 (0, 0)) := heap_alloc_new w _
  have HH := hidd (And.intro hne (And.intro cc (And.intro hlt hz)))
  clear h hne cc hlt hz c1 c2 c3 c4
  go_enter Tryd.func15, Tryd.ntmps15
  go_wp2_with fail
  obtain ⟨hne, cc, hlt, hz⟩ := HH.out
  refine RR.region_told (Rl := OneRl w.heap.size (.cells #[.int .i64 n, .int .i64 n, .bool false] 40 (0, 0))) mixed (OneRl.drew _ _) OneRl.trans [.val (.pointer (some ⟨b, o, none⟩)), .val (.pointer (some ⟨b, o, none⟩)), .val (.pointer (some ⟨b, o + 2, none⟩)), .val (.int .i64 n), .val (.pointer (some ⟨b, o, none⟩)), .val (.pointer (some ⟨b, o, none⟩)), .val (.pointer (some ⟨b, o + 2, none⟩)), .val (.int .i64 n), .val (.agg #[.int .i64 n, .int .i64 n, .bool false]), .fact fun _ w' => w'.heap[w.heap.size]? = some (.cells #[.int .i64 n, .int .i64 n, .bool false] 40 (0, 0))] ?_ (by kernel_rfl)
    ⟨RR.st_move (OneRl.refl _ _) (by kernel_rfl) rfl, om_nil (by kernel_rfl) rfl rfl, om_field 2 (Or.inr rfl) (by kernel_rfl) rfl rfl, om_loadI hlt hne cc (by kernel_rfl) rfl rfl, RR.st_move (OneRl.refl _ _) (by kernel_rfl) rfl, om_nil (by kernel_rfl) rfl rfl, om_field 2 (Or.inr rfl) (by kernel_rfl) rfl rfl, om_loadI hlt hne cc (by kernel_rfl) rfl rfl, om_build (by kernel_rfl) rfl rfl rfl, om_store hz (by kernel_rfl) rfl rfl rfl, trivial⟩ ?_
  · refine om_mono ?_
    intro s hs
    simp only [List.mem_cons, List.not_mem_nil, or_false] at hs
    rcases hs with rfl | rfl | rfl | rfl | rfl | rfl | rfl | rfl | rfl | rfl <;> first | exact Or.inl ⟨_, rfl⟩ | exact Or.inr rfl
  intro a1 w1 g1 hdf hsz hsm ht
  obtain ⟨v9, k9, _⟩ := ht 9 _ rfl
  have k9 : w1.heap[w.heap.size]? = some (.cells #[.int .i64 n, .int .i64 n, .bool false] 40 (0, 0)) := k9
  have e2 : a1.tmps.getD 2 undef = .pointer (some ⟨w.heap.size, 0, none⟩) := hsm 2 (none_dst (by kernel_rfl))
  have hG := one_grew ((Grew.refl w).alloc (.cells #[.int .i64 0, .int .i64 0, .bool false] 40)) (g1 hlt).1 (Nat.le_refl _)
  have HR := hidd (And.intro k9 hG)
  clear ht hsm hsz g1 k9 hG hne cc hlt hz HH
  obtain ⟨tm, df⟩ := a1
  dsimp only at e2 hdf
  subst hdf
  have HE := hidd e2
  clear e2
  go_wp2_with fail
  exact bodyPost_ret (results_bd rfl HE.out HR.out.1 rfl) rfl ⟨rfl, HR.out.2⟩
set_option maxRecDepth 100000 in
set_option maxHeartbeats 2000000 in
theorem meas_k1 (t : ByteArray) (n : Int) (m : ByteArray) (l : List Pat) (b o : Nat) (kv : Value) (w : World) (h : MeasIn (.mk 1 t n m l) b o kv w) : Calls Tryd.prog 15 #[.pointer (some ⟨b, o, none⟩)] w (MeasEnd (measureP (.mk 1 t n m l)) w) := by
  have HX : Hid (measureP (.mk 1 t n m l) = ⟨t.size, t.size, false⟩) := by
    refine hidd ?_
    rw [measureP]; rfl
  rw [HX.out]
  have hne : b ≠ w.heap.size := by have : b < w.heap.size := lt_of_cell h.node.c0; omega
  obtain ⟨c0, c1, c2, c3, c4, _, _, _, _⟩ := h.node.kept ((Grew.refl w).alloc (.cells #[.int .i64 0, .int .i64 0, .bool false] 40))
  have cc : (w.alloc (.cells #[.int .i64 0, .int .i64 0, .bool false] 40)).cell? ⟨b, o + 1, none⟩ = some (.string t) := c1
  have hlt : w.heap.size < (w.alloc (.cells #[.int .i64 0, .int .i64 0, .bool false] 40)).heap.size := by simp
  have hz : (w.alloc (.cells #[.int .i64 0, .int .i64 0, .bool false] 40)).heap[w.heap.size]? = some (.cells #[.int .i64 0, .int .i64 0, .bool false] 40 (0, 0)) := heap_alloc_new w _
  have HH := hidd (And.intro hne (And.intro cc (And.intro hlt hz)))
  clear h hne cc hlt hz c1 c2 c3 c4
  go_enter Tryd.func15, Tryd.ntmps15
  go_wp2_with fail
  obtain ⟨hne, cc, hlt, hz⟩ := HH.out
  refine RR.region_told (Rl := OneRl w.heap.size (.cells #[.int .i64 t.size, .int .i64 t.size, .bool false] 40 (0, 0))) mixed (OneRl.drew _ _) OneRl.trans [.val (.pointer (some ⟨b, o, none⟩)), .val (.pointer (some ⟨b, o, none⟩)), .val (.pointer (some ⟨b, o + 1, none⟩)), .val (.string t), .val (.int .i64 t.size), .val (.pointer (some ⟨b, o, none⟩)), .val (.pointer (some ⟨b, o, none⟩)), .val (.pointer (some ⟨b, o + 1, none⟩)), .val (.string t), .val (.int .i64 t.size), .val (.agg #[.int .i64 t.size, .int .i64 t.size, .bool false]), .fact fun _ w' => w'.heap[w.heap.size]? = some (.cells #[.int .i64 t.size, .int .i64 t.size, .bool false] 40 (0, 0))] ?_ (by kernel_rfl)
    ⟨RR.st_move (OneRl.refl _ _) (by kernel_rfl) rfl, om_nil (by kernel_rfl) rfl rfl, om_field 1 (Or.inl rfl) (by kernel_rfl) rfl rfl, om_loadS hlt hne cc (by kernel_rfl) rfl rfl, so_len rfl (by kernel_rfl) rfl rfl, RR.st_move (OneRl.refl _ _) (by kernel_rfl) rfl, om_nil (by kernel_rfl) rfl rfl, om_field 1 (Or.inl rfl) (by kernel_rfl) rfl rfl, om_loadS hlt hne cc (by kernel_rfl) rfl rfl, so_len rfl (by kernel_rfl) rfl rfl, om_build (by kernel_rfl) rfl rfl rfl, om_store hz (by kernel_rfl) rfl rfl rfl, trivial⟩ ?_
  · refine om_mono ?_
    intro s hs
    simp only [List.mem_cons, List.not_mem_nil, or_false] at hs
    rcases hs with rfl | rfl | rfl | rfl | rfl | rfl | rfl | rfl | rfl | rfl | rfl | rfl <;> first | exact Or.inl ⟨_, rfl⟩ | exact Or.inr rfl
  intro a1 w1 g1 hdf hsz hsm ht
  obtain ⟨v9, k9, _⟩ := ht 11 _ rfl
  have k9 : w1.heap[w.heap.size]? = some (.cells #[.int .i64 t.size, .int .i64 t.size, .bool false] 40 (0, 0)) := k9
  have e2 : a1.tmps.getD 2 undef = .pointer (some ⟨w.heap.size, 0, none⟩) := hsm 2 (none_dst (by kernel_rfl))
  have hG := one_grew ((Grew.refl w).alloc (.cells #[.int .i64 0, .int .i64 0, .bool false] 40)) (g1 hlt).1 (Nat.le_refl _)
  have HR := hidd (And.intro k9 hG)
  clear ht hsm hsz g1 k9 hG hne cc hlt hz HH
  obtain ⟨tm, df⟩ := a1
  dsimp only at e2 hdf
  subst hdf
  have HE := hidd e2
  clear e2
  go_wp2_with fail
  exact bodyPost_ret (results_bd rfl HE.out HR.out.1 rfl) rfl ⟨rfl, HR.out.2⟩
end Go.Proofs.YtglfdfeideeeaaaDoor
namespace Go.Proofs.YtglfdfeideeeaaaDoor
open Go.RowKit
set_option linter.unusedVariables false
def accB (f : Bd → Bd → Bd) (l : List Pat) : Nat → Bd
  | 0 => measureP (l.getD 0 Pat.zero)
  | i + 1 => f (accB f l i) (measureP (l.getD (i + 1) Pat.zero))
theorem fold_snoc (f : Bd → Bd → Bd) : ∀ (l : List Bd) (b : Bd), 0 < l.length → foldB f (l ++ [b]) = f (foldB f l) b
  | [], b, h => by simp at h
  | a :: l, b, _ => by
    show (l ++ [b]).foldl f a = f (l.foldl f a) b
    rw [List.foldl_append]; rfl
theorem acc_take (f : Bd → Bd → Bd) (l : List Pat) : ∀ i, i < l.length → accB f l i = foldB f ((l.take (i + 1)).map measureP)
  | 0, h => by
    cases l with
    | nil => simp at h
    | cons p l => rfl
  | i + 1, h => by
    rw [accB, acc_take f l i (by omega), take_getD h, List.map_append, List.map_cons, List.map_nil, fold_snoc f _ _ (by rw [List.length_map, List.length_take]; omega)]
theorem acc_all (f : Bd → Bd → Bd) (l : List Pat) (h : 0 < l.length) : accB f l (l.length - 1) = foldB f (l.map measureP) := by
  rw [acc_take f l _ (by omega), List.take_of_length_le (by omega)]
theorem acc_ok {f : Bd → Bd → Bd} (hf : ∀ b c, BdOk b → BdOk c → BdOk (f b c)) {l : List Pat} (h : ∀ i, i < l.length → BdOk (measureP (l.getD i Pat.zero))) : ∀ i, i < l.length → BdOk (accB f l i)
  | 0, hi => h 0 hi
  | i + 1, hi => hf _ _ (acc_ok hf h i (by omega)) (h (i + 1) hi)
set_option maxRecDepth 100000 in
set_option maxHeartbeats 2000000 in
theorem meas_k18 (t : ByteArray) (n : Int) (m : ByteArray) (l : List Pat) (b o : Nat) (kv : Value) (w : World) (h : MeasIn (.mk 18 t n m l) b o kv w) : Calls Tryd.prog 15 #[.pointer (some ⟨b, o, none⟩)] w (MeasEnd (measureP (.mk 18 t n m l)) w) := by
  have hl : 2 ≤ l.length ∧ l.length ≤ 4096 := h.right.many (Or.inl rfl)
  obtain ⟨b', o', c, rfl, hc, hc', hk⟩ := h.kids (by show 0 < l.length; omega)
  have HK := hidd hk
  have HOk := hidd h.ok
  have HC := hidd h.node
  have hc : l.length ≤ c := hc
  have hc' : c ≤ 2 ^ 63 - 1 := hc'
  have HX : Hid (measureP (.mk 18 t n m l) = foldB thenB (l.map measureP)) := by
    refine hidd ?_
    rw [measureP, measureL_map]; rfl
  rw [HX.out]
  obtain ⟨c0, c1, c2, c3, c4, _, _, _, _⟩ := h.node.kept ((Grew.refl w).alloc (.cells #[.int .i64 0, .int .i64 0, .bool false] 40))
  replace c4 : (w.alloc (.cells #[.int .i64 0, .int .i64 0, .bool false] 40)).cell? ⟨b, o + 4, none⟩ = some (.slice (some ⟨b', o', none⟩) l.length c) := c4
  have h0 : (0 : Int) < (l.length : Int) := by omega
  have HK0 : Hid (∀ w', Grew w w' → Calls Tryd.prog 15 #[.pointer (some ⟨b', o', none⟩)] w' (MeasEnd (measureP (l.getD 0 Pat.zero)) w')) := hidd fun w' g => by
    have := HK.out 0 (by show 0 < l.length; omega) w' g
    rw [Nat.zero_mul, Nat.add_zero] at this
    exact this
  obtain ⟨B, hB⟩ : ∃ B, measureP (l.getD 0 Pat.zero) = B := ⟨_, rfl⟩
  rw [hB] at HK0
  have HB := hidd hB
  clear h hk hB HX
  unfold MeasEnd at HK0
  go_enter Tryd.func15, Tryd.ntmps15
  go_wp2_with fail
  refine (HK0.out _ ((Grew.refl w).alloc _)).mono ?_; rintro e w1 ⟨rfl, g1⟩
  have HG := hidd (((Grew.refl w).alloc (.cells #[.int .i64 0, .int .i64 0, .bool false] 40)).trans g1)
  have HZ := hidd (heap_kept g1 (heap_alloc_new w (.cells #[.int .i64 0, .int .i64 0, .bool false] 40)))
  clear g1
  obtain ⟨d0, d1, d2, d3, d4, _, _, _, _⟩ := HC.out.kept HG.out
  replace d4 : w1.cell? ⟨b, o + 4, none⟩ = some (.slice (some ⟨b', o', none⟩) l.length c) := d4
  obtain ⟨e0, e1, e2, e3, e4, _, _, _, _⟩ := HC.out.kept (HG.out.alloc (.cells #[.int .i64 B.least, .int .i64 B.most, .bool B.never] 40))
  replace e4 : (w1.alloc (.cells #[.int .i64 B.least, .int .i64 B.most, .bool B.never] 40)).cell? ⟨b, o + 4, none⟩ = some (.slice (some ⟨b', o', none⟩) l.length c) := e4
  have HL := hidd hl
  unfold Bd.cells
  go_wp2_with fail
  go_loopw [68] (fun s68 wr => ∃ i : Nat, s68 = .int .i64 i ∧ i + 1 ≤ l.length ∧ Hid (Grew w1 wr ∧ wr.heap[w1.heap.size]? = some (.cells (accB thenB l i).cells 40 (0, 0)))) (fun s68 _ => l.length - (intOf s68).toNat)
  case atStart => exact ⟨0, rfl, by omega, (Grew.refl w1).alloc _, by rw [accB, HB.out]; exact heap_alloc_new w1 _⟩
  case round =>
    obtain ⟨i, rfl, hi, HD⟩ := hrel
    by_cases hlt : i + 1 < l.length
    · have HGr := hidd (HG.out.trans HD.out.1)
      obtain ⟨q0, q1, q2, q3, q4, _, _, _, _⟩ := HC.out.kept HGr.out
      replace q4 : wr.cell? ⟨b, o + 4, none⟩ = some (.slice (some ⟨b', o', none⟩) l.length c) := q4
      have HKi : Hid (∀ w', Grew w w' → Calls Tryd.prog 15 #[.pointer (some ⟨b', o' + (i + 1) * 5, none⟩)] w' (MeasEnd (measureP (l.getD (i + 1) Pat.zero)) w')) := hidd (HK.out (i + 1) hlt)
      obtain ⟨X, hX⟩ : ∃ X, measureP (l.getD (i + 1) Pat.zero) = X := ⟨_, rfl⟩
      obtain ⟨Y, hY⟩ : ∃ Y, accB thenB l i = Y := ⟨_, rfl⟩
      have HNx := hidd (show accB thenB l (i + 1) = thenB Y X from by rw [accB, hX, hY])
      have HOX := hidd (And.intro (hX ▸ HOk.out (i + 1) hlt) (hY ▸ acc_ok (fun b c => then_ok) HOk.out i (by show i < l.length; omega)))
      rw [hX] at HKi
      rw [hY] at HD
      clear hX hY HK HOk c0 c1 c2 c3 c4 d0 d1 d2 d3 d4 e0 e1 e2 e3 e4
      unfold MeasEnd at HKi
      go_wp2_with fail
      refine (HKi.out _ HGr.out).mono ?_; rintro e w2 ⟨rfl, g2⟩
      have HD2 := hidd (And.intro (HD.out.1.trans g2) (heap_kept g2 HD.out.2))
      have HGr2 := hidd (HGr.out.trans g2)
      clear g2 q0 q1 q2 q3 q4
      obtain ⟨q0, q1, q2, q3, q4, _, _, _, _⟩ := HC.out.kept (HGr2.out.alloc (.cells #[.int .i64 X.least, .int .i64 X.most, .bool X.never] 40))
      replace q0 : (w2.alloc (.cells #[.int .i64 X.least, .int .i64 X.most, .bool X.never] 40)).cell? ⟨b, o, none⟩ = some (.int .i64 18) := q0
      obtain ⟨⟨x0, x1, x2⟩, xf⟩ := three_cells (heap_alloc_new w2 (.cells #[.int .i64 X.least, .int .i64 X.most, .bool X.never] 40))
      obtain ⟨⟨y0, y1, y2⟩, yf⟩ := three_cells (heap_more (o := (.cells #[.int .i64 X.least, .int .i64 X.most, .bool X.never] 40)) HD2.out.2)
      have HTh : Hid (∀ w, Calls Tryd.prog 51 #[.agg Y.cells, .agg X.cells] w fun e w' => e = .returned (.agg (thenB Y X).cells) ∧ Grew w w') := hidd fun w => then_any Y X HOX.out.2 HOX.out.1 w
      unfold Bd.cells at HTh ⊢
      go_wp2_with fail
      refine (HTh.out _).mono ?_; rintro e w3 ⟨rfl, g3⟩
      have HD3 := hidd (And.intro ((HD2.out.1.alloc (.cells #[.int .i64 X.least, .int .i64 X.most, .bool X.never] 40)).trans g3) (heap_kept g3 (heap_more (o := (.cells #[.int .i64 X.least, .int .i64 X.most, .bool X.never] 40)) HD2.out.2)))
      clear g3 q0 q1 q2 q3 q4 x0 x1 x2 xf y0 y1 y2 yf
      obtain ⟨Z, hZ⟩ : ∃ Z, thenB Y X = Z := ⟨_, rfl⟩
      rw [hZ] at HNx ⊢
      clear hZ
      obtain ⟨⟨u0, u1, u2⟩, uf⟩ := three_cells HD3.out.2
      go_wp2_with fail
      go_roundw
      case rel => exact ⟨i + 1, by go_num, by omega, setBd_grew HD3.out.1 (Nat.le_refl _) _ _ _, by rw [HNx.out]; exact setBd_heap HD3.out.2⟩
      case measure => simp [intOf]; omega
    · have hie : l.length - 1 = i := by omega
      have HE := hidd (acc_all thenB l (by omega))
      rw [hie] at HE
      obtain ⟨Y, hY⟩ : ∃ Y, accB thenB l i = Y := ⟨_, rfl⟩
      rw [hY] at HD HE
      have HZ2 := hidd (heap_kept HD.out.1 HZ.out)
      obtain ⟨⟨y0, y1, y2⟩, yf⟩ := three_cells HD.out.2
      obtain ⟨⟨z0, z1, z2⟩, zf⟩ := three_cells HZ2.out
      clear hY hie HK HOk c0 c1 c2 c3 c4 d0 d1 d2 d3 d4 e0 e1 e2 e3 e4
      go_wp2_with fail
      exact bodyPost_ret (results_bd (rb := w.heap.size) rfl rfl (setBd_heap HZ2.out) rfl) rfl ⟨by rw [← HE.out]; rfl, setBd_grew (HG.out.trans HD.out.1) (Nat.le_refl _) _ _ _⟩
set_option maxRecDepth 100000 in
set_option maxHeartbeats 2000000 in
theorem meas_k19 (t : ByteArray) (n : Int) (m : ByteArray) (l : List Pat) (b o : Nat) (kv : Value) (w : World) (h : MeasIn (.mk 19 t n m l) b o kv w) : Calls Tryd.prog 15 #[.pointer (some ⟨b, o, none⟩)] w (MeasEnd (measureP (.mk 19 t n m l)) w) := by
  have hl : 2 ≤ l.length ∧ l.length ≤ 4096 := h.right.many (Or.inr rfl)
  obtain ⟨b', o', c, rfl, hc, hc', hk⟩ := h.kids (by show 0 < l.length; omega)
  have HK := hidd hk
  have HOk := hidd h.ok
  have HC := hidd h.node
  have hc : l.length ≤ c := hc
  have hc' : c ≤ 2 ^ 63 - 1 := hc'
  have HX : Hid (measureP (.mk 19 t n m l) = foldB orB (l.map measureP)) := by
    refine hidd ?_
    rw [measureP, measureL_map]; rfl
  rw [HX.out]
  obtain ⟨c0, c1, c2, c3, c4, _, _, _, _⟩ := h.node.kept ((Grew.refl w).alloc (.cells #[.int .i64 0, .int .i64 0, .bool false] 40))
  replace c4 : (w.alloc (.cells #[.int .i64 0, .int .i64 0, .bool false] 40)).cell? ⟨b, o + 4, none⟩ = some (.slice (some ⟨b', o', none⟩) l.length c) := c4
  have h0 : (0 : Int) < (l.length : Int) := by omega
  have HK0 : Hid (∀ w', Grew w w' → Calls Tryd.prog 15 #[.pointer (some ⟨b', o', none⟩)] w' (MeasEnd (measureP (l.getD 0 Pat.zero)) w')) := hidd fun w' g => by
    have := HK.out 0 (by show 0 < l.length; omega) w' g
    rw [Nat.zero_mul, Nat.add_zero] at this
    exact this
  obtain ⟨B, hB⟩ : ∃ B, measureP (l.getD 0 Pat.zero) = B := ⟨_, rfl⟩
  rw [hB] at HK0
  have HB := hidd hB
  clear h hk hB HX
  unfold MeasEnd at HK0
  go_enter Tryd.func15, Tryd.ntmps15
  go_wp2_with fail
  refine (HK0.out _ ((Grew.refl w).alloc _)).mono ?_; rintro e w1 ⟨rfl, g1⟩
  have HG := hidd (((Grew.refl w).alloc (.cells #[.int .i64 0, .int .i64 0, .bool false] 40)).trans g1)
  have HZ := hidd (heap_kept g1 (heap_alloc_new w (.cells #[.int .i64 0, .int .i64 0, .bool false] 40)))
  clear g1
  obtain ⟨d0, d1, d2, d3, d4, _, _, _, _⟩ := HC.out.kept HG.out
  replace d4 : w1.cell? ⟨b, o + 4, none⟩ = some (.slice (some ⟨b', o', none⟩) l.length c) := d4
  obtain ⟨e0, e1, e2, e3, e4, _, _, _, _⟩ := HC.out.kept (HG.out.alloc (.cells #[.int .i64 B.least, .int .i64 B.most, .bool B.never] 40))
  replace e4 : (w1.alloc (.cells #[.int .i64 B.least, .int .i64 B.most, .bool B.never] 40)).cell? ⟨b, o + 4, none⟩ = some (.slice (some ⟨b', o', none⟩) l.length c) := e4
  have HL := hidd hl
  unfold Bd.cells
  go_wp2_with fail
  go_loopw [68] (fun s68 wr => ∃ i : Nat, s68 = .int .i64 i ∧ i + 1 ≤ l.length ∧ Hid (Grew w1 wr ∧ wr.heap[w1.heap.size]? = some (.cells (accB orB l i).cells 40 (0, 0)))) (fun s68 _ => l.length - (intOf s68).toNat)
  case atStart => exact ⟨0, rfl, by omega, (Grew.refl w1).alloc _, by rw [accB, HB.out]; exact heap_alloc_new w1 _⟩
  case round =>
    obtain ⟨i, rfl, hi, HD⟩ := hrel
    by_cases hlt : i + 1 < l.length
    · have HGr := hidd (HG.out.trans HD.out.1)
      obtain ⟨q0, q1, q2, q3, q4, _, _, _, _⟩ := HC.out.kept HGr.out
      replace q4 : wr.cell? ⟨b, o + 4, none⟩ = some (.slice (some ⟨b', o', none⟩) l.length c) := q4
      have HKi : Hid (∀ w', Grew w w' → Calls Tryd.prog 15 #[.pointer (some ⟨b', o' + (i + 1) * 5, none⟩)] w' (MeasEnd (measureP (l.getD (i + 1) Pat.zero)) w')) := hidd (HK.out (i + 1) hlt)
      obtain ⟨X, hX⟩ : ∃ X, measureP (l.getD (i + 1) Pat.zero) = X := ⟨_, rfl⟩
      obtain ⟨Y, hY⟩ : ∃ Y, accB orB l i = Y := ⟨_, rfl⟩
      have HNx := hidd (show accB orB l (i + 1) = orB Y X from by rw [accB, hX, hY])
      have HOX := hidd (And.intro (hX ▸ HOk.out (i + 1) hlt) (hY ▸ acc_ok (fun b c => or_ok) HOk.out i (by show i < l.length; omega)))
      rw [hX] at HKi
      rw [hY] at HD
      clear hX hY HK HOk c0 c1 c2 c3 c4 d0 d1 d2 d3 d4 e0 e1 e2 e3 e4
      unfold MeasEnd at HKi
      go_wp2_with fail
      refine (HKi.out _ HGr.out).mono ?_; rintro e w2 ⟨rfl, g2⟩
      have HD2 := hidd (And.intro (HD.out.1.trans g2) (heap_kept g2 HD.out.2))
      have HGr2 := hidd (HGr.out.trans g2)
      clear g2 q0 q1 q2 q3 q4
      obtain ⟨q0, q1, q2, q3, q4, _, _, _, _⟩ := HC.out.kept (HGr2.out.alloc (.cells #[.int .i64 X.least, .int .i64 X.most, .bool X.never] 40))
      replace q0 : (w2.alloc (.cells #[.int .i64 X.least, .int .i64 X.most, .bool X.never] 40)).cell? ⟨b, o, none⟩ = some (.int .i64 19) := q0
      obtain ⟨⟨x0, x1, x2⟩, xf⟩ := three_cells (heap_alloc_new w2 (.cells #[.int .i64 X.least, .int .i64 X.most, .bool X.never] 40))
      obtain ⟨⟨y0, y1, y2⟩, yf⟩ := three_cells (heap_more (o := (.cells #[.int .i64 X.least, .int .i64 X.most, .bool X.never] 40)) HD2.out.2)
      have HTh : Hid (∀ w, Calls Tryd.prog 52 #[.agg Y.cells, .agg X.cells] w fun e w' => e = .returned (.agg (orB Y X).cells) ∧ Grew w w') := hidd fun w => or_any Y X HOX.out.2 HOX.out.1 w
      unfold Bd.cells at HTh ⊢
      go_wp2_with fail
      refine (HTh.out _).mono ?_; rintro e w3 ⟨rfl, g3⟩
      have HD3 := hidd (And.intro ((HD2.out.1.alloc (.cells #[.int .i64 X.least, .int .i64 X.most, .bool X.never] 40)).trans g3) (heap_kept g3 (heap_more (o := (.cells #[.int .i64 X.least, .int .i64 X.most, .bool X.never] 40)) HD2.out.2)))
      clear g3 q0 q1 q2 q3 q4 x0 x1 x2 xf y0 y1 y2 yf
      obtain ⟨Z, hZ⟩ : ∃ Z, orB Y X = Z := ⟨_, rfl⟩
      rw [hZ] at HNx ⊢
      clear hZ
      obtain ⟨⟨u0, u1, u2⟩, uf⟩ := three_cells HD3.out.2
      go_wp2_with fail
      go_roundw
      case rel => exact ⟨i + 1, by go_num, by omega, setBd_grew HD3.out.1 (Nat.le_refl _) _ _ _, by rw [HNx.out]; exact setBd_heap HD3.out.2⟩
      case measure => simp [intOf]; omega
    · have hie : l.length - 1 = i := by omega
      have HE := hidd (acc_all orB l (by omega))
      rw [hie] at HE
      obtain ⟨Y, hY⟩ : ∃ Y, accB orB l i = Y := ⟨_, rfl⟩
      rw [hY] at HD HE
      have HZ2 := hidd (heap_kept HD.out.1 HZ.out)
      obtain ⟨⟨y0, y1, y2⟩, yf⟩ := three_cells HD.out.2
      obtain ⟨⟨z0, z1, z2⟩, zf⟩ := three_cells HZ2.out
      clear hY hie HK HOk c0 c1 c2 c3 c4 d0 d1 d2 d3 d4 e0 e1 e2 e3 e4
      go_wp2_with fail
      exact bodyPost_ret (results_bd (rb := w.heap.size) rfl rfl (setBd_heap HZ2.out) rfl) rfl ⟨by rw [← HE.out]; rfl, setBd_grew (HG.out.trans HD.out.1) (Nat.le_refl _) _ _ _⟩
end Go.Proofs.YtglfdfeideeeaaaDoor
