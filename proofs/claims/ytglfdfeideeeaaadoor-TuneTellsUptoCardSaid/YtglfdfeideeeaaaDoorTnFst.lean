/- tune: first, kind by kind. Printed. -/
import Derived.Test.YtglfdfeideeeaaaDoorPT6Door
import Derived.Test.YtglfdfeideeeaaaDoorTnTwo
import Derived.Test.YtglfdfeideeeaaaDoorStEach
import Derived.Test.YtglfdfeideeeaaaDoorStBits
import Derived.Deep.RegionHeld3
import Derived.Deep.QuietTactic
namespace Go.Proofs.YtglfdfeideeeaaaDoor
open Go.RowKit
set_option linter.unusedVariables false
def q4 (f : Nat → Bool) (j : Nat) : Int := (word f (64 * j) 64 : Nat)
theorem q4_empty (j : Nat) : q4 emptyS j = 0 := by unfold q4; rw [word_empty]; rfl
def FstEnd (F : Fi) (w : World) (e : Ending) (w' : World) : Prop := e = .returned (.tuple #[.agg #[.int .u64 (q4 F.1 0), .int .u64 (q4 F.1 1), .int .u64 (q4 F.1 2), .int .u64 (q4 F.1 3)], .bool F.2]) ∧ Grew w w'
structure FstIn (p : Pat) (b o : Nat) (kv : Value) (w : World) : Prop where
  node : NodeAt w b o p kv
  right : NodeOk p
  kids : 0 < p.kids.length → ∃ b' o' c, kv = .slice (some ⟨b', o', none⟩) p.kids.length c ∧ p.kids.length ≤ c ∧ c ≤ maxLen ∧ ∀ i, i < p.kids.length → ∀ w', Grew w w' → Calls Tryd.prog 19 #[.pointer (some ⟨b', o' + i * 5, none⟩)] w' (FstEnd (firstP (p.kids.getD i Pat.zero)) w')
theorem info_fst : (Tryd.prog.info? 33).map (·.size) = some 4 := by kernel_rfl
theorem load_fst {w : World} {rb : Nat} {cs : Array Value} (hg : w.heap[rb]? = some (.cells cs 33 (0, 0))) (hc : cs.size = 4) : (loadVar 33 ⟨rb, 0, none⟩).run Tryd.prog w = .ok (.agg cs) w :=
  run_loadVar_row (P := Tryd.prog) w rb 33 33 cs (0, 0) _ hg Tryd.underlying33 rfl (by rw [hc]; exact info_fst)
theorem results_fst {fn : Func} {p q : Tmp} (h : fn.results = #[.cell p 33, .tmp q]) {w : World} {tmps : Array Value} {rb : Nat} {cs : Array Value} {v : Value} (hp : tmps.getD p undef = .pointer (some ⟨rb, 0, none⟩)) (hq : tmps.getD q undef = v) (hg : w.heap[rb]? = some (.cells cs 33 (0, 0))) (hc : cs.size = 4) :
    (results fn tmps).run Tryd.prog w = .ok (.tuple #[.agg cs, v]) w := by
  have hp' : tmps[p]?.getD undef = .pointer (some ⟨rb, 0, none⟩) := by simpa using hp
  have hq' : tmps[q]?.getD undef = v := by simpa using hq
  simp [results, h, hp', hq', asAddr, load_fst hg hc]
theorem setSet_heap {w : World} {b : Nat} {v0 v1 v2 v3 u0 u1 u2 u3 : Value} {t : TypeId} (h : w.heap[b]? = some (.cells #[v0, v1, v2, v3] t (0, 0))) :
    ((((w.setCell ⟨b, 0, none⟩ u0).setCell ⟨b, 1, none⟩ u1).setCell ⟨b, 2, none⟩ u2).setCell ⟨b, 3, none⟩ u3).heap[b]? = some (.cells #[u0, u1, u2, u3] t (0, 0)) := by
  rw [setCell_heap_same (setCell_heap_same (setCell_heap_same (setCell_heap_same h 0 u0) 1 u1) 2 u2) 3 u3]; rfl
theorem setSet_grew {w0 w : World} {b : Nat} (g : Grew w0 w) (hb : w0.heap.size ≤ b) (u0 u1 u2 u3 : Value) : Grew w0 ((((w.setCell ⟨b, 0, none⟩ u0).setCell ⟨b, 1, none⟩ u1).setCell ⟨b, 2, none⟩ u2).setCell ⟨b, 3, none⟩ u3) :=
  (((g.setCell hb _).setCell hb _).setCell hb _).setCell hb _
theorem cells_fst {w : World} {b : Nat} {v0 v1 v2 v3 : Value} {t : TypeId} (h : w.heap[b]? = some (.cells #[v0, v1, v2, v3] t (0, 0))) :
    (w.cell? ⟨b, 0, none⟩ = some v0 ∧ w.cell? ⟨b, 1, none⟩ = some v1 ∧ w.cell? ⟨b, 2, none⟩ = some v2 ∧ w.cell? ⟨b, 3, none⟩ = some v3) ∧ ∀ o, w.frozen? ⟨b, o, none⟩ = false := by
  refine ⟨⟨?_, ?_, ?_, ?_⟩, fun o => by simp [World.frozen?, h]⟩ <;> simp [World.cell?, h]
theorem heap_old {w w' : World} (g : Grew w w') {b : Nat} {o : Obj} (h : w.heap[b]? = some o) : w'.heap[b]? = some o := by rw [g.block b (Array.getElem?_eq_some_iff.1 h).1]; exact h
theorem not_told (f : Nat → Bool) (w : World) : Calls Tryd.prog 53 #[.agg #[.int .u64 (q4 f 0), .int .u64 (q4 f 1), .int .u64 (q4 f 2), .int .u64 (q4 f 3)]] w fun e w' => e = .returned (.agg #[.int .u64 (q4 (fun i => !f i) 0), .int .u64 (q4 (fun i => !f i) 1), .int .u64 (q4 (fun i => !f i) 2), .int .u64 (q4 (fun i => !f i) 3)]) ∧ Grew w w' := Not_any f w
theorem all_told (w : World) : Calls Tryd.prog 53 #[.agg #[.int .u64 0, .int .u64 0, .int .u64 0, .int .u64 0]] w fun e w' => e = .returned (.agg #[.int .u64 (q4 allS 0), .int .u64 (q4 allS 1), .int .u64 (q4 allS 2), .int .u64 (q4 allS 3)]) ∧ Grew w w' := by
  have h := not_told emptyS w
  rw [q4_empty, q4_empty, q4_empty, q4_empty] at h
  exact h
theorem of_told (t : ByteArray) (ht : t.size ≤ maxLen) (w : World) : Calls Tryd.prog 28 #[.string t] w fun e w' => e = .returned (.agg #[.int .u64 (q4 (setOf t.data.toList) 0), .int .u64 (q4 (setOf t.data.toList) 1), .int .u64 (q4 (setOf t.data.toList) 2), .int .u64 (q4 (setOf t.data.toList) 3)]) ∧ Grew w w' := Of_any t w ht
set_option maxRecDepth 100000 in
set_option maxHeartbeats 1000000 in
theorem fst_k2z (t : ByteArray) (n : Int) (m : ByteArray) (l : List Pat) (b o : Nat) (kv : Value) (w : World) (hn : n = 0) (h : FstIn (.mk 2 t n m l) b o kv w) : Calls Tryd.prog 19 #[.pointer (some ⟨b, o, none⟩)] w (FstEnd (firstP (.mk 2 t n m l)) w) := by
  have HX : Hid (firstP (.mk 2 t n m l) = (emptyS, true)) := by
    refine hidd ?_
    rw [firstP]
    show (if n = 0 then (emptyS, true) else (allS, false)) = _
    rw [if_pos hn]
  have HNd : Hid (NodeAt w b o (.mk 2 t n m l) kv) := h.node
  have kn : (n == 0) = true := by rw [hn]; rfl
  have HZ : Hid ((w.alloc (.cells #[.int .u64 0, .int .u64 0, .int .u64 0, .int .u64 0] 33)).heap[w.heap.size]? = some (.cells #[.int .u64 0, .int .u64 0, .int .u64 0, .int .u64 0] 33 (0, 0))) := heap_alloc_new w _
  unfold FstEnd
  rw [HX.out]
  dsimp only
  clear h
  go_enter Tryd.func19, Tryd.ntmps19
  go_wp2_with fail
  refine (all_told _).mono ?_; rintro e w1 ⟨rfl, g1⟩
  have HG1 := hidd (((Grew.refl w).alloc (.cells #[.int .u64 0, .int .u64 0, .int .u64 0, .int .u64 0] 33)).trans g1)
  have HZ1 := hidd (heap_old g1 HZ.out)
  obtain ⟨d0, d1, d2, c3, d4, _, _, _, _⟩ := HNd.out.kept (HG1.out.alloc (.cells #[.int .u64 (q4 allS 0), .int .u64 (q4 allS 1), .int .u64 (q4 allS 2), .int .u64 (q4 allS 3)] 33))
  have c0 : (w1.alloc (.cells #[.int .u64 (q4 allS 0), .int .u64 (q4 allS 1), .int .u64 (q4 allS 2), .int .u64 (q4 allS 3)] 33)).cell? ⟨b, o, none⟩ = some (.int .i64 2) := d0
  have c1 : (w1.alloc (.cells #[.int .u64 (q4 allS 0), .int .u64 (q4 allS 1), .int .u64 (q4 allS 2), .int .u64 (q4 allS 3)] 33)).cell? ⟨b, o + 1, none⟩ = some (.string t) := d1
  have c2 : (w1.alloc (.cells #[.int .u64 (q4 allS 0), .int .u64 (q4 allS 1), .int .u64 (q4 allS 2), .int .u64 (q4 allS 3)] 33)).cell? ⟨b, o + 2, none⟩ = some (.int .i64 n) := d2
  have c4 : (w1.alloc (.cells #[.int .u64 (q4 allS 0), .int .u64 (q4 allS 1), .int .u64 (q4 allS 2), .int .u64 (q4 allS 3)] 33)).cell? ⟨b, o + 4, none⟩ = some kv := d4
  clear g1 HZ d0 d1 d2 d4 c3
  clear hn
  have z0 : ∀ o, (w1.alloc o).cell? ⟨w.heap.size, 0, none⟩ = some (.int .u64 0) := fun o => (cells_fst (heap_more HZ1.out)).1.1
  have z1 : ∀ o, (w1.alloc o).cell? ⟨w.heap.size, 1, none⟩ = some (.int .u64 0) := fun o => (cells_fst (heap_more HZ1.out)).1.2.1
  have z2 : ∀ o, (w1.alloc o).cell? ⟨w.heap.size, 2, none⟩ = some (.int .u64 0) := fun o => (cells_fst (heap_more HZ1.out)).1.2.2.1
  have z3 : ∀ o, (w1.alloc o).cell? ⟨w.heap.size, 3, none⟩ = some (.int .u64 0) := fun o => (cells_fst (heap_more HZ1.out)).1.2.2.2
  have zf : ∀ o i, (w1.alloc o).frozen? ⟨w.heap.size, i, none⟩ = false := fun o => (cells_fst (heap_more HZ1.out)).2
  go_wp2_with fail
  exact bodyPost_ret (results_fst rfl rfl rfl (setSet_heap (heap_more HZ1.out)) rfl) rfl ⟨by simp only [q4_empty]; rfl, setSet_grew (HG1.out.alloc _) (Nat.le_refl _) _ _ _ _⟩
set_option maxRecDepth 100000 in
set_option maxHeartbeats 1000000 in
theorem fst_k2n (t : ByteArray) (n : Int) (m : ByteArray) (l : List Pat) (b o : Nat) (kv : Value) (w : World) (hn : n ≠ 0) (h : FstIn (.mk 2 t n m l) b o kv w) : Calls Tryd.prog 19 #[.pointer (some ⟨b, o, none⟩)] w (FstEnd (firstP (.mk 2 t n m l)) w) := by
  have HX : Hid (firstP (.mk 2 t n m l) = (allS, false)) := by
    refine hidd ?_
    rw [firstP]
    show (if n = 0 then (emptyS, true) else (allS, false)) = _
    rw [if_neg hn]
  have HNd : Hid (NodeAt w b o (.mk 2 t n m l) kv) := h.node
  have kn : (n == 0) = false := by rw [beq_eq_false_iff_ne]; exact hn
  have HZ : Hid ((w.alloc (.cells #[.int .u64 0, .int .u64 0, .int .u64 0, .int .u64 0] 33)).heap[w.heap.size]? = some (.cells #[.int .u64 0, .int .u64 0, .int .u64 0, .int .u64 0] 33 (0, 0))) := heap_alloc_new w _
  unfold FstEnd
  rw [HX.out]
  dsimp only
  clear h
  go_enter Tryd.func19, Tryd.ntmps19
  go_wp2_with fail
  refine (all_told _).mono ?_; rintro e w1 ⟨rfl, g1⟩
  have HG1 := hidd (((Grew.refl w).alloc (.cells #[.int .u64 0, .int .u64 0, .int .u64 0, .int .u64 0] 33)).trans g1)
  have HZ1 := hidd (heap_old g1 HZ.out)
  obtain ⟨d0, d1, d2, c3, d4, _, _, _, _⟩ := HNd.out.kept (HG1.out.alloc (.cells #[.int .u64 (q4 allS 0), .int .u64 (q4 allS 1), .int .u64 (q4 allS 2), .int .u64 (q4 allS 3)] 33))
  have c0 : (w1.alloc (.cells #[.int .u64 (q4 allS 0), .int .u64 (q4 allS 1), .int .u64 (q4 allS 2), .int .u64 (q4 allS 3)] 33)).cell? ⟨b, o, none⟩ = some (.int .i64 2) := d0
  have c1 : (w1.alloc (.cells #[.int .u64 (q4 allS 0), .int .u64 (q4 allS 1), .int .u64 (q4 allS 2), .int .u64 (q4 allS 3)] 33)).cell? ⟨b, o + 1, none⟩ = some (.string t) := d1
  have c2 : (w1.alloc (.cells #[.int .u64 (q4 allS 0), .int .u64 (q4 allS 1), .int .u64 (q4 allS 2), .int .u64 (q4 allS 3)] 33)).cell? ⟨b, o + 2, none⟩ = some (.int .i64 n) := d2
  have c4 : (w1.alloc (.cells #[.int .u64 (q4 allS 0), .int .u64 (q4 allS 1), .int .u64 (q4 allS 2), .int .u64 (q4 allS 3)] 33)).cell? ⟨b, o + 4, none⟩ = some kv := d4
  clear g1 HZ d0 d1 d2 d4 c3
  clear hn
  have z0 : ∀ o, (w1.alloc o).cell? ⟨w.heap.size, 0, none⟩ = some (.int .u64 0) := fun o => (cells_fst (heap_more HZ1.out)).1.1
  have z1 : ∀ o, (w1.alloc o).cell? ⟨w.heap.size, 1, none⟩ = some (.int .u64 0) := fun o => (cells_fst (heap_more HZ1.out)).1.2.1
  have z2 : ∀ o, (w1.alloc o).cell? ⟨w.heap.size, 2, none⟩ = some (.int .u64 0) := fun o => (cells_fst (heap_more HZ1.out)).1.2.2.1
  have z3 : ∀ o, (w1.alloc o).cell? ⟨w.heap.size, 3, none⟩ = some (.int .u64 0) := fun o => (cells_fst (heap_more HZ1.out)).1.2.2.2
  have zf : ∀ o i, (w1.alloc o).frozen? ⟨w.heap.size, i, none⟩ = false := fun o => (cells_fst (heap_more HZ1.out)).2
  go_wp2_with fail
  exact bodyPost_ret (results_fst rfl rfl rfl (setSet_heap (heap_more HZ1.out)) rfl) rfl ⟨rfl, setSet_grew (HG1.out.alloc _) (Nat.le_refl _) _ _ _ _⟩
set_option maxRecDepth 100000 in
set_option maxHeartbeats 1000000 in
theorem fst_k10 (t : ByteArray) (n : Int) (m : ByteArray) (l : List Pat) (b o : Nat) (kv : Value) (w : World) (h : FstIn (.mk 10 t n m l) b o kv w) : Calls Tryd.prog 19 #[.pointer (some ⟨b, o, none⟩)] w (FstEnd (firstP (.mk 10 t n m l)) w) := by
  have HX : Hid (firstP (.mk 10 t n m l) = (emptyS, true)) := by
    refine hidd ?_
    rw [firstP]; rfl
  have HNd : Hid (NodeAt w b o (.mk 10 t n m l) kv) := h.node
  have HZ : Hid ((w.alloc (.cells #[.int .u64 0, .int .u64 0, .int .u64 0, .int .u64 0] 33)).heap[w.heap.size]? = some (.cells #[.int .u64 0, .int .u64 0, .int .u64 0, .int .u64 0] 33 (0, 0))) := heap_alloc_new w _
  unfold FstEnd
  rw [HX.out]
  dsimp only
  clear h
  go_enter Tryd.func19, Tryd.ntmps19
  go_wp2_with fail
  refine (all_told _).mono ?_; rintro e w1 ⟨rfl, g1⟩
  have HG1 := hidd (((Grew.refl w).alloc (.cells #[.int .u64 0, .int .u64 0, .int .u64 0, .int .u64 0] 33)).trans g1)
  have HZ1 := hidd (heap_old g1 HZ.out)
  obtain ⟨d0, d1, d2, c3, d4, _, _, _, _⟩ := HNd.out.kept (HG1.out.alloc (.cells #[.int .u64 (q4 allS 0), .int .u64 (q4 allS 1), .int .u64 (q4 allS 2), .int .u64 (q4 allS 3)] 33))
  have c0 : (w1.alloc (.cells #[.int .u64 (q4 allS 0), .int .u64 (q4 allS 1), .int .u64 (q4 allS 2), .int .u64 (q4 allS 3)] 33)).cell? ⟨b, o, none⟩ = some (.int .i64 10) := d0
  have c1 : (w1.alloc (.cells #[.int .u64 (q4 allS 0), .int .u64 (q4 allS 1), .int .u64 (q4 allS 2), .int .u64 (q4 allS 3)] 33)).cell? ⟨b, o + 1, none⟩ = some (.string t) := d1
  have c2 : (w1.alloc (.cells #[.int .u64 (q4 allS 0), .int .u64 (q4 allS 1), .int .u64 (q4 allS 2), .int .u64 (q4 allS 3)] 33)).cell? ⟨b, o + 2, none⟩ = some (.int .i64 n) := d2
  have c4 : (w1.alloc (.cells #[.int .u64 (q4 allS 0), .int .u64 (q4 allS 1), .int .u64 (q4 allS 2), .int .u64 (q4 allS 3)] 33)).cell? ⟨b, o + 4, none⟩ = some kv := d4
  clear g1 HZ d0 d1 d2 d4 c3
  have z0 : ∀ o, (w1.alloc o).cell? ⟨w.heap.size, 0, none⟩ = some (.int .u64 0) := fun o => (cells_fst (heap_more HZ1.out)).1.1
  have z1 : ∀ o, (w1.alloc o).cell? ⟨w.heap.size, 1, none⟩ = some (.int .u64 0) := fun o => (cells_fst (heap_more HZ1.out)).1.2.1
  have z2 : ∀ o, (w1.alloc o).cell? ⟨w.heap.size, 2, none⟩ = some (.int .u64 0) := fun o => (cells_fst (heap_more HZ1.out)).1.2.2.1
  have z3 : ∀ o, (w1.alloc o).cell? ⟨w.heap.size, 3, none⟩ = some (.int .u64 0) := fun o => (cells_fst (heap_more HZ1.out)).1.2.2.2
  have zf : ∀ o i, (w1.alloc o).frozen? ⟨w.heap.size, i, none⟩ = false := fun o => (cells_fst (heap_more HZ1.out)).2
  go_wp2_with fail
  exact bodyPost_ret (results_fst rfl rfl rfl (setSet_heap (heap_more HZ1.out)) rfl) rfl ⟨by simp only [q4_empty]; rfl, setSet_grew (HG1.out.alloc _) (Nat.le_refl _) _ _ _ _⟩
set_option maxRecDepth 100000 in
set_option maxHeartbeats 1000000 in
theorem fst_k11 (t : ByteArray) (n : Int) (m : ByteArray) (l : List Pat) (b o : Nat) (kv : Value) (w : World) (h : FstIn (.mk 11 t n m l) b o kv w) : Calls Tryd.prog 19 #[.pointer (some ⟨b, o, none⟩)] w (FstEnd (firstP (.mk 11 t n m l)) w) := by
  have HX : Hid (firstP (.mk 11 t n m l) = (emptyS, true)) := by
    refine hidd ?_
    rw [firstP]; rfl
  have HNd : Hid (NodeAt w b o (.mk 11 t n m l) kv) := h.node
  have HZ : Hid ((w.alloc (.cells #[.int .u64 0, .int .u64 0, .int .u64 0, .int .u64 0] 33)).heap[w.heap.size]? = some (.cells #[.int .u64 0, .int .u64 0, .int .u64 0, .int .u64 0] 33 (0, 0))) := heap_alloc_new w _
  unfold FstEnd
  rw [HX.out]
  dsimp only
  clear h
  go_enter Tryd.func19, Tryd.ntmps19
  go_wp2_with fail
  refine (all_told _).mono ?_; rintro e w1 ⟨rfl, g1⟩
  have HG1 := hidd (((Grew.refl w).alloc (.cells #[.int .u64 0, .int .u64 0, .int .u64 0, .int .u64 0] 33)).trans g1)
  have HZ1 := hidd (heap_old g1 HZ.out)
  obtain ⟨d0, d1, d2, c3, d4, _, _, _, _⟩ := HNd.out.kept (HG1.out.alloc (.cells #[.int .u64 (q4 allS 0), .int .u64 (q4 allS 1), .int .u64 (q4 allS 2), .int .u64 (q4 allS 3)] 33))
  have c0 : (w1.alloc (.cells #[.int .u64 (q4 allS 0), .int .u64 (q4 allS 1), .int .u64 (q4 allS 2), .int .u64 (q4 allS 3)] 33)).cell? ⟨b, o, none⟩ = some (.int .i64 11) := d0
  have c1 : (w1.alloc (.cells #[.int .u64 (q4 allS 0), .int .u64 (q4 allS 1), .int .u64 (q4 allS 2), .int .u64 (q4 allS 3)] 33)).cell? ⟨b, o + 1, none⟩ = some (.string t) := d1
  have c2 : (w1.alloc (.cells #[.int .u64 (q4 allS 0), .int .u64 (q4 allS 1), .int .u64 (q4 allS 2), .int .u64 (q4 allS 3)] 33)).cell? ⟨b, o + 2, none⟩ = some (.int .i64 n) := d2
  have c4 : (w1.alloc (.cells #[.int .u64 (q4 allS 0), .int .u64 (q4 allS 1), .int .u64 (q4 allS 2), .int .u64 (q4 allS 3)] 33)).cell? ⟨b, o + 4, none⟩ = some kv := d4
  clear g1 HZ d0 d1 d2 d4 c3
  have z0 : ∀ o, (w1.alloc o).cell? ⟨w.heap.size, 0, none⟩ = some (.int .u64 0) := fun o => (cells_fst (heap_more HZ1.out)).1.1
  have z1 : ∀ o, (w1.alloc o).cell? ⟨w.heap.size, 1, none⟩ = some (.int .u64 0) := fun o => (cells_fst (heap_more HZ1.out)).1.2.1
  have z2 : ∀ o, (w1.alloc o).cell? ⟨w.heap.size, 2, none⟩ = some (.int .u64 0) := fun o => (cells_fst (heap_more HZ1.out)).1.2.2.1
  have z3 : ∀ o, (w1.alloc o).cell? ⟨w.heap.size, 3, none⟩ = some (.int .u64 0) := fun o => (cells_fst (heap_more HZ1.out)).1.2.2.2
  have zf : ∀ o i, (w1.alloc o).frozen? ⟨w.heap.size, i, none⟩ = false := fun o => (cells_fst (heap_more HZ1.out)).2
  go_wp2_with fail
  exact bodyPost_ret (results_fst rfl rfl rfl (setSet_heap (heap_more HZ1.out)) rfl) rfl ⟨by simp only [q4_empty]; rfl, setSet_grew (HG1.out.alloc _) (Nat.le_refl _) _ _ _ _⟩
set_option maxRecDepth 100000 in
set_option maxHeartbeats 1000000 in
theorem fst_k16 (t : ByteArray) (n : Int) (m : ByteArray) (l : List Pat) (b o : Nat) (kv : Value) (w : World) (h : FstIn (.mk 16 t n m l) b o kv w) : Calls Tryd.prog 19 #[.pointer (some ⟨b, o, none⟩)] w (FstEnd (firstP (.mk 16 t n m l)) w) := by
  have HX : Hid (firstP (.mk 16 t n m l) = (emptyS, true)) := by
    refine hidd ?_
    rw [firstP]; rfl
  have HNd : Hid (NodeAt w b o (.mk 16 t n m l) kv) := h.node
  have HZ : Hid ((w.alloc (.cells #[.int .u64 0, .int .u64 0, .int .u64 0, .int .u64 0] 33)).heap[w.heap.size]? = some (.cells #[.int .u64 0, .int .u64 0, .int .u64 0, .int .u64 0] 33 (0, 0))) := heap_alloc_new w _
  unfold FstEnd
  rw [HX.out]
  dsimp only
  clear h
  go_enter Tryd.func19, Tryd.ntmps19
  go_wp2_with fail
  refine (all_told _).mono ?_; rintro e w1 ⟨rfl, g1⟩
  have HG1 := hidd (((Grew.refl w).alloc (.cells #[.int .u64 0, .int .u64 0, .int .u64 0, .int .u64 0] 33)).trans g1)
  have HZ1 := hidd (heap_old g1 HZ.out)
  obtain ⟨d0, d1, d2, c3, d4, _, _, _, _⟩ := HNd.out.kept (HG1.out.alloc (.cells #[.int .u64 (q4 allS 0), .int .u64 (q4 allS 1), .int .u64 (q4 allS 2), .int .u64 (q4 allS 3)] 33))
  have c0 : (w1.alloc (.cells #[.int .u64 (q4 allS 0), .int .u64 (q4 allS 1), .int .u64 (q4 allS 2), .int .u64 (q4 allS 3)] 33)).cell? ⟨b, o, none⟩ = some (.int .i64 16) := d0
  have c1 : (w1.alloc (.cells #[.int .u64 (q4 allS 0), .int .u64 (q4 allS 1), .int .u64 (q4 allS 2), .int .u64 (q4 allS 3)] 33)).cell? ⟨b, o + 1, none⟩ = some (.string t) := d1
  have c2 : (w1.alloc (.cells #[.int .u64 (q4 allS 0), .int .u64 (q4 allS 1), .int .u64 (q4 allS 2), .int .u64 (q4 allS 3)] 33)).cell? ⟨b, o + 2, none⟩ = some (.int .i64 n) := d2
  have c4 : (w1.alloc (.cells #[.int .u64 (q4 allS 0), .int .u64 (q4 allS 1), .int .u64 (q4 allS 2), .int .u64 (q4 allS 3)] 33)).cell? ⟨b, o + 4, none⟩ = some kv := d4
  clear g1 HZ d0 d1 d2 d4 c3
  have z0 : ∀ o, (w1.alloc o).cell? ⟨w.heap.size, 0, none⟩ = some (.int .u64 0) := fun o => (cells_fst (heap_more HZ1.out)).1.1
  have z1 : ∀ o, (w1.alloc o).cell? ⟨w.heap.size, 1, none⟩ = some (.int .u64 0) := fun o => (cells_fst (heap_more HZ1.out)).1.2.1
  have z2 : ∀ o, (w1.alloc o).cell? ⟨w.heap.size, 2, none⟩ = some (.int .u64 0) := fun o => (cells_fst (heap_more HZ1.out)).1.2.2.1
  have z3 : ∀ o, (w1.alloc o).cell? ⟨w.heap.size, 3, none⟩ = some (.int .u64 0) := fun o => (cells_fst (heap_more HZ1.out)).1.2.2.2
  have zf : ∀ o i, (w1.alloc o).frozen? ⟨w.heap.size, i, none⟩ = false := fun o => (cells_fst (heap_more HZ1.out)).2
  go_wp2_with fail
  exact bodyPost_ret (results_fst rfl rfl rfl (setSet_heap (heap_more HZ1.out)) rfl) rfl ⟨by simp only [q4_empty]; rfl, setSet_grew (HG1.out.alloc _) (Nat.le_refl _) _ _ _ _⟩
set_option maxRecDepth 100000 in
set_option maxHeartbeats 1000000 in
theorem fst_k23 (t : ByteArray) (n : Int) (m : ByteArray) (l : List Pat) (b o : Nat) (kv : Value) (w : World) (h : FstIn (.mk 23 t n m l) b o kv w) : Calls Tryd.prog 19 #[.pointer (some ⟨b, o, none⟩)] w (FstEnd (firstP (.mk 23 t n m l)) w) := by
  have HX : Hid (firstP (.mk 23 t n m l) = (emptyS, true)) := by
    refine hidd ?_
    rw [firstP]; rfl
  have HNd : Hid (NodeAt w b o (.mk 23 t n m l) kv) := h.node
  have HZ : Hid ((w.alloc (.cells #[.int .u64 0, .int .u64 0, .int .u64 0, .int .u64 0] 33)).heap[w.heap.size]? = some (.cells #[.int .u64 0, .int .u64 0, .int .u64 0, .int .u64 0] 33 (0, 0))) := heap_alloc_new w _
  unfold FstEnd
  rw [HX.out]
  dsimp only
  clear h
  go_enter Tryd.func19, Tryd.ntmps19
  go_wp2_with fail
  refine (all_told _).mono ?_; rintro e w1 ⟨rfl, g1⟩
  have HG1 := hidd (((Grew.refl w).alloc (.cells #[.int .u64 0, .int .u64 0, .int .u64 0, .int .u64 0] 33)).trans g1)
  have HZ1 := hidd (heap_old g1 HZ.out)
  obtain ⟨d0, d1, d2, c3, d4, _, _, _, _⟩ := HNd.out.kept (HG1.out.alloc (.cells #[.int .u64 (q4 allS 0), .int .u64 (q4 allS 1), .int .u64 (q4 allS 2), .int .u64 (q4 allS 3)] 33))
  have c0 : (w1.alloc (.cells #[.int .u64 (q4 allS 0), .int .u64 (q4 allS 1), .int .u64 (q4 allS 2), .int .u64 (q4 allS 3)] 33)).cell? ⟨b, o, none⟩ = some (.int .i64 23) := d0
  have c1 : (w1.alloc (.cells #[.int .u64 (q4 allS 0), .int .u64 (q4 allS 1), .int .u64 (q4 allS 2), .int .u64 (q4 allS 3)] 33)).cell? ⟨b, o + 1, none⟩ = some (.string t) := d1
  have c2 : (w1.alloc (.cells #[.int .u64 (q4 allS 0), .int .u64 (q4 allS 1), .int .u64 (q4 allS 2), .int .u64 (q4 allS 3)] 33)).cell? ⟨b, o + 2, none⟩ = some (.int .i64 n) := d2
  have c4 : (w1.alloc (.cells #[.int .u64 (q4 allS 0), .int .u64 (q4 allS 1), .int .u64 (q4 allS 2), .int .u64 (q4 allS 3)] 33)).cell? ⟨b, o + 4, none⟩ = some kv := d4
  clear g1 HZ d0 d1 d2 d4 c3
  have z0 : ∀ o, (w1.alloc o).cell? ⟨w.heap.size, 0, none⟩ = some (.int .u64 0) := fun o => (cells_fst (heap_more HZ1.out)).1.1
  have z1 : ∀ o, (w1.alloc o).cell? ⟨w.heap.size, 1, none⟩ = some (.int .u64 0) := fun o => (cells_fst (heap_more HZ1.out)).1.2.1
  have z2 : ∀ o, (w1.alloc o).cell? ⟨w.heap.size, 2, none⟩ = some (.int .u64 0) := fun o => (cells_fst (heap_more HZ1.out)).1.2.2.1
  have z3 : ∀ o, (w1.alloc o).cell? ⟨w.heap.size, 3, none⟩ = some (.int .u64 0) := fun o => (cells_fst (heap_more HZ1.out)).1.2.2.2
  have zf : ∀ o i, (w1.alloc o).frozen? ⟨w.heap.size, i, none⟩ = false := fun o => (cells_fst (heap_more HZ1.out)).2
  go_wp2_with fail
  exact bodyPost_ret (results_fst rfl rfl rfl (setSet_heap (heap_more HZ1.out)) rfl) rfl ⟨by simp only [q4_empty]; rfl, setSet_grew (HG1.out.alloc _) (Nat.le_refl _) _ _ _ _⟩
set_option maxRecDepth 100000 in
set_option maxHeartbeats 1000000 in
theorem fst_k15 (t : ByteArray) (n : Int) (m : ByteArray) (l : List Pat) (b o : Nat) (kv : Value) (w : World) (h : FstIn (.mk 15 t n m l) b o kv w) : Calls Tryd.prog 19 #[.pointer (some ⟨b, o, none⟩)] w (FstEnd (firstP (.mk 15 t n m l)) w) := by
  have HX : Hid (firstP (.mk 15 t n m l) = (emptyS, false)) := by
    refine hidd ?_
    rw [firstP]; rfl
  have HNd : Hid (NodeAt w b o (.mk 15 t n m l) kv) := h.node
  have HZ : Hid ((w.alloc (.cells #[.int .u64 0, .int .u64 0, .int .u64 0, .int .u64 0] 33)).heap[w.heap.size]? = some (.cells #[.int .u64 0, .int .u64 0, .int .u64 0, .int .u64 0] 33 (0, 0))) := heap_alloc_new w _
  unfold FstEnd
  rw [HX.out]
  dsimp only
  clear h
  go_enter Tryd.func19, Tryd.ntmps19
  go_wp2_with fail
  refine (all_told _).mono ?_; rintro e w1 ⟨rfl, g1⟩
  have HG1 := hidd (((Grew.refl w).alloc (.cells #[.int .u64 0, .int .u64 0, .int .u64 0, .int .u64 0] 33)).trans g1)
  have HZ1 := hidd (heap_old g1 HZ.out)
  obtain ⟨d0, d1, d2, c3, d4, _, _, _, _⟩ := HNd.out.kept (HG1.out.alloc (.cells #[.int .u64 (q4 allS 0), .int .u64 (q4 allS 1), .int .u64 (q4 allS 2), .int .u64 (q4 allS 3)] 33))
  have c0 : (w1.alloc (.cells #[.int .u64 (q4 allS 0), .int .u64 (q4 allS 1), .int .u64 (q4 allS 2), .int .u64 (q4 allS 3)] 33)).cell? ⟨b, o, none⟩ = some (.int .i64 15) := d0
  have c1 : (w1.alloc (.cells #[.int .u64 (q4 allS 0), .int .u64 (q4 allS 1), .int .u64 (q4 allS 2), .int .u64 (q4 allS 3)] 33)).cell? ⟨b, o + 1, none⟩ = some (.string t) := d1
  have c2 : (w1.alloc (.cells #[.int .u64 (q4 allS 0), .int .u64 (q4 allS 1), .int .u64 (q4 allS 2), .int .u64 (q4 allS 3)] 33)).cell? ⟨b, o + 2, none⟩ = some (.int .i64 n) := d2
  have c4 : (w1.alloc (.cells #[.int .u64 (q4 allS 0), .int .u64 (q4 allS 1), .int .u64 (q4 allS 2), .int .u64 (q4 allS 3)] 33)).cell? ⟨b, o + 4, none⟩ = some kv := d4
  clear g1 HZ d0 d1 d2 d4 c3
  have z0 : ∀ o, (w1.alloc o).cell? ⟨w.heap.size, 0, none⟩ = some (.int .u64 0) := fun o => (cells_fst (heap_more HZ1.out)).1.1
  have z1 : ∀ o, (w1.alloc o).cell? ⟨w.heap.size, 1, none⟩ = some (.int .u64 0) := fun o => (cells_fst (heap_more HZ1.out)).1.2.1
  have z2 : ∀ o, (w1.alloc o).cell? ⟨w.heap.size, 2, none⟩ = some (.int .u64 0) := fun o => (cells_fst (heap_more HZ1.out)).1.2.2.1
  have z3 : ∀ o, (w1.alloc o).cell? ⟨w.heap.size, 3, none⟩ = some (.int .u64 0) := fun o => (cells_fst (heap_more HZ1.out)).1.2.2.2
  have zf : ∀ o i, (w1.alloc o).frozen? ⟨w.heap.size, i, none⟩ = false := fun o => (cells_fst (heap_more HZ1.out)).2
  go_wp2_with fail
  exact bodyPost_ret (results_fst rfl rfl rfl (setSet_heap (heap_more HZ1.out)) rfl) rfl ⟨by simp only [q4_empty]; rfl, setSet_grew (HG1.out.alloc _) (Nat.le_refl _) _ _ _ _⟩
set_option maxRecDepth 100000 in
set_option maxHeartbeats 1000000 in
theorem fst_k17 (t : ByteArray) (n : Int) (m : ByteArray) (l : List Pat) (b o : Nat) (kv : Value) (w : World) (h : FstIn (.mk 17 t n m l) b o kv w) : Calls Tryd.prog 19 #[.pointer (some ⟨b, o, none⟩)] w (FstEnd (firstP (.mk 17 t n m l)) w) := by
  have HX : Hid (firstP (.mk 17 t n m l) = (emptyS, false)) := by
    refine hidd ?_
    rw [firstP]; rfl
  have HNd : Hid (NodeAt w b o (.mk 17 t n m l) kv) := h.node
  have HZ : Hid ((w.alloc (.cells #[.int .u64 0, .int .u64 0, .int .u64 0, .int .u64 0] 33)).heap[w.heap.size]? = some (.cells #[.int .u64 0, .int .u64 0, .int .u64 0, .int .u64 0] 33 (0, 0))) := heap_alloc_new w _
  unfold FstEnd
  rw [HX.out]
  dsimp only
  clear h
  go_enter Tryd.func19, Tryd.ntmps19
  go_wp2_with fail
  refine (all_told _).mono ?_; rintro e w1 ⟨rfl, g1⟩
  have HG1 := hidd (((Grew.refl w).alloc (.cells #[.int .u64 0, .int .u64 0, .int .u64 0, .int .u64 0] 33)).trans g1)
  have HZ1 := hidd (heap_old g1 HZ.out)
  obtain ⟨d0, d1, d2, c3, d4, _, _, _, _⟩ := HNd.out.kept (HG1.out.alloc (.cells #[.int .u64 (q4 allS 0), .int .u64 (q4 allS 1), .int .u64 (q4 allS 2), .int .u64 (q4 allS 3)] 33))
  have c0 : (w1.alloc (.cells #[.int .u64 (q4 allS 0), .int .u64 (q4 allS 1), .int .u64 (q4 allS 2), .int .u64 (q4 allS 3)] 33)).cell? ⟨b, o, none⟩ = some (.int .i64 17) := d0
  have c1 : (w1.alloc (.cells #[.int .u64 (q4 allS 0), .int .u64 (q4 allS 1), .int .u64 (q4 allS 2), .int .u64 (q4 allS 3)] 33)).cell? ⟨b, o + 1, none⟩ = some (.string t) := d1
  have c2 : (w1.alloc (.cells #[.int .u64 (q4 allS 0), .int .u64 (q4 allS 1), .int .u64 (q4 allS 2), .int .u64 (q4 allS 3)] 33)).cell? ⟨b, o + 2, none⟩ = some (.int .i64 n) := d2
  have c4 : (w1.alloc (.cells #[.int .u64 (q4 allS 0), .int .u64 (q4 allS 1), .int .u64 (q4 allS 2), .int .u64 (q4 allS 3)] 33)).cell? ⟨b, o + 4, none⟩ = some kv := d4
  clear g1 HZ d0 d1 d2 d4 c3
  have z0 : ∀ o, (w1.alloc o).cell? ⟨w.heap.size, 0, none⟩ = some (.int .u64 0) := fun o => (cells_fst (heap_more HZ1.out)).1.1
  have z1 : ∀ o, (w1.alloc o).cell? ⟨w.heap.size, 1, none⟩ = some (.int .u64 0) := fun o => (cells_fst (heap_more HZ1.out)).1.2.1
  have z2 : ∀ o, (w1.alloc o).cell? ⟨w.heap.size, 2, none⟩ = some (.int .u64 0) := fun o => (cells_fst (heap_more HZ1.out)).1.2.2.1
  have z3 : ∀ o, (w1.alloc o).cell? ⟨w.heap.size, 3, none⟩ = some (.int .u64 0) := fun o => (cells_fst (heap_more HZ1.out)).1.2.2.2
  have zf : ∀ o i, (w1.alloc o).frozen? ⟨w.heap.size, i, none⟩ = false := fun o => (cells_fst (heap_more HZ1.out)).2
  go_wp2_with fail
  exact bodyPost_ret (results_fst rfl rfl rfl (setSet_heap (heap_more HZ1.out)) rfl) rfl ⟨by simp only [q4_empty]; rfl, setSet_grew (HG1.out.alloc _) (Nat.le_refl _) _ _ _ _⟩
set_option maxRecDepth 100000 in
set_option maxHeartbeats 1000000 in
theorem fst_k7 (t : ByteArray) (n : Int) (m : ByteArray) (l : List Pat) (b o : Nat) (kv : Value) (w : World) (h : FstIn (.mk 7 t n m l) b o kv w) : Calls Tryd.prog 19 #[.pointer (some ⟨b, o, none⟩)] w (FstEnd (firstP (.mk 7 t n m l)) w) := by
  have HX : Hid (firstP (.mk 7 t n m l) = (allS, true)) := by
    refine hidd ?_
    rw [firstP]; rfl
  have HNd : Hid (NodeAt w b o (.mk 7 t n m l) kv) := h.node
  have HZ : Hid ((w.alloc (.cells #[.int .u64 0, .int .u64 0, .int .u64 0, .int .u64 0] 33)).heap[w.heap.size]? = some (.cells #[.int .u64 0, .int .u64 0, .int .u64 0, .int .u64 0] 33 (0, 0))) := heap_alloc_new w _
  unfold FstEnd
  rw [HX.out]
  dsimp only
  clear h
  go_enter Tryd.func19, Tryd.ntmps19
  go_wp2_with fail
  refine (all_told _).mono ?_; rintro e w1 ⟨rfl, g1⟩
  have HG1 := hidd (((Grew.refl w).alloc (.cells #[.int .u64 0, .int .u64 0, .int .u64 0, .int .u64 0] 33)).trans g1)
  have HZ1 := hidd (heap_old g1 HZ.out)
  obtain ⟨d0, d1, d2, c3, d4, _, _, _, _⟩ := HNd.out.kept (HG1.out.alloc (.cells #[.int .u64 (q4 allS 0), .int .u64 (q4 allS 1), .int .u64 (q4 allS 2), .int .u64 (q4 allS 3)] 33))
  have c0 : (w1.alloc (.cells #[.int .u64 (q4 allS 0), .int .u64 (q4 allS 1), .int .u64 (q4 allS 2), .int .u64 (q4 allS 3)] 33)).cell? ⟨b, o, none⟩ = some (.int .i64 7) := d0
  have c1 : (w1.alloc (.cells #[.int .u64 (q4 allS 0), .int .u64 (q4 allS 1), .int .u64 (q4 allS 2), .int .u64 (q4 allS 3)] 33)).cell? ⟨b, o + 1, none⟩ = some (.string t) := d1
  have c2 : (w1.alloc (.cells #[.int .u64 (q4 allS 0), .int .u64 (q4 allS 1), .int .u64 (q4 allS 2), .int .u64 (q4 allS 3)] 33)).cell? ⟨b, o + 2, none⟩ = some (.int .i64 n) := d2
  have c4 : (w1.alloc (.cells #[.int .u64 (q4 allS 0), .int .u64 (q4 allS 1), .int .u64 (q4 allS 2), .int .u64 (q4 allS 3)] 33)).cell? ⟨b, o + 4, none⟩ = some kv := d4
  clear g1 HZ d0 d1 d2 d4 c3
  have z0 : ∀ o, (w1.alloc o).cell? ⟨w.heap.size, 0, none⟩ = some (.int .u64 0) := fun o => (cells_fst (heap_more HZ1.out)).1.1
  have z1 : ∀ o, (w1.alloc o).cell? ⟨w.heap.size, 1, none⟩ = some (.int .u64 0) := fun o => (cells_fst (heap_more HZ1.out)).1.2.1
  have z2 : ∀ o, (w1.alloc o).cell? ⟨w.heap.size, 2, none⟩ = some (.int .u64 0) := fun o => (cells_fst (heap_more HZ1.out)).1.2.2.1
  have z3 : ∀ o, (w1.alloc o).cell? ⟨w.heap.size, 3, none⟩ = some (.int .u64 0) := fun o => (cells_fst (heap_more HZ1.out)).1.2.2.2
  have zf : ∀ o i, (w1.alloc o).frozen? ⟨w.heap.size, i, none⟩ = false := fun o => (cells_fst (heap_more HZ1.out)).2
  go_wp2_with fail
  exact bodyPost_ret (results_fst rfl rfl rfl (setSet_heap (heap_more HZ1.out)) rfl) rfl ⟨rfl, setSet_grew (HG1.out.alloc _) (Nat.le_refl _) _ _ _ _⟩
set_option maxRecDepth 100000 in
set_option maxHeartbeats 1000000 in
theorem fst_k8 (t : ByteArray) (n : Int) (m : ByteArray) (l : List Pat) (b o : Nat) (kv : Value) (w : World) (h : FstIn (.mk 8 t n m l) b o kv w) : Calls Tryd.prog 19 #[.pointer (some ⟨b, o, none⟩)] w (FstEnd (firstP (.mk 8 t n m l)) w) := by
  have HX : Hid (firstP (.mk 8 t n m l) = (allS, true)) := by
    refine hidd ?_
    rw [firstP]; rfl
  have HNd : Hid (NodeAt w b o (.mk 8 t n m l) kv) := h.node
  have HZ : Hid ((w.alloc (.cells #[.int .u64 0, .int .u64 0, .int .u64 0, .int .u64 0] 33)).heap[w.heap.size]? = some (.cells #[.int .u64 0, .int .u64 0, .int .u64 0, .int .u64 0] 33 (0, 0))) := heap_alloc_new w _
  unfold FstEnd
  rw [HX.out]
  dsimp only
  clear h
  go_enter Tryd.func19, Tryd.ntmps19
  go_wp2_with fail
  refine (all_told _).mono ?_; rintro e w1 ⟨rfl, g1⟩
  have HG1 := hidd (((Grew.refl w).alloc (.cells #[.int .u64 0, .int .u64 0, .int .u64 0, .int .u64 0] 33)).trans g1)
  have HZ1 := hidd (heap_old g1 HZ.out)
  obtain ⟨d0, d1, d2, c3, d4, _, _, _, _⟩ := HNd.out.kept (HG1.out.alloc (.cells #[.int .u64 (q4 allS 0), .int .u64 (q4 allS 1), .int .u64 (q4 allS 2), .int .u64 (q4 allS 3)] 33))
  have c0 : (w1.alloc (.cells #[.int .u64 (q4 allS 0), .int .u64 (q4 allS 1), .int .u64 (q4 allS 2), .int .u64 (q4 allS 3)] 33)).cell? ⟨b, o, none⟩ = some (.int .i64 8) := d0
  have c1 : (w1.alloc (.cells #[.int .u64 (q4 allS 0), .int .u64 (q4 allS 1), .int .u64 (q4 allS 2), .int .u64 (q4 allS 3)] 33)).cell? ⟨b, o + 1, none⟩ = some (.string t) := d1
  have c2 : (w1.alloc (.cells #[.int .u64 (q4 allS 0), .int .u64 (q4 allS 1), .int .u64 (q4 allS 2), .int .u64 (q4 allS 3)] 33)).cell? ⟨b, o + 2, none⟩ = some (.int .i64 n) := d2
  have c4 : (w1.alloc (.cells #[.int .u64 (q4 allS 0), .int .u64 (q4 allS 1), .int .u64 (q4 allS 2), .int .u64 (q4 allS 3)] 33)).cell? ⟨b, o + 4, none⟩ = some kv := d4
  clear g1 HZ d0 d1 d2 d4 c3
  have z0 : ∀ o, (w1.alloc o).cell? ⟨w.heap.size, 0, none⟩ = some (.int .u64 0) := fun o => (cells_fst (heap_more HZ1.out)).1.1
  have z1 : ∀ o, (w1.alloc o).cell? ⟨w.heap.size, 1, none⟩ = some (.int .u64 0) := fun o => (cells_fst (heap_more HZ1.out)).1.2.1
  have z2 : ∀ o, (w1.alloc o).cell? ⟨w.heap.size, 2, none⟩ = some (.int .u64 0) := fun o => (cells_fst (heap_more HZ1.out)).1.2.2.1
  have z3 : ∀ o, (w1.alloc o).cell? ⟨w.heap.size, 3, none⟩ = some (.int .u64 0) := fun o => (cells_fst (heap_more HZ1.out)).1.2.2.2
  have zf : ∀ o i, (w1.alloc o).frozen? ⟨w.heap.size, i, none⟩ = false := fun o => (cells_fst (heap_more HZ1.out)).2
  go_wp2_with fail
  exact bodyPost_ret (results_fst rfl rfl rfl (setSet_heap (heap_more HZ1.out)) rfl) rfl ⟨rfl, setSet_grew (HG1.out.alloc _) (Nat.le_refl _) _ _ _ _⟩
set_option maxRecDepth 100000 in
set_option maxHeartbeats 1000000 in
theorem fst_k9 (t : ByteArray) (n : Int) (m : ByteArray) (l : List Pat) (b o : Nat) (kv : Value) (w : World) (h : FstIn (.mk 9 t n m l) b o kv w) : Calls Tryd.prog 19 #[.pointer (some ⟨b, o, none⟩)] w (FstEnd (firstP (.mk 9 t n m l)) w) := by
  have HX : Hid (firstP (.mk 9 t n m l) = (allS, true)) := by
    refine hidd ?_
    rw [firstP]; rfl
  have HNd : Hid (NodeAt w b o (.mk 9 t n m l) kv) := h.node
  have HZ : Hid ((w.alloc (.cells #[.int .u64 0, .int .u64 0, .int .u64 0, .int .u64 0] 33)).heap[w.heap.size]? = some (.cells #[.int .u64 0, .int .u64 0, .int .u64 0, .int .u64 0] 33 (0, 0))) := heap_alloc_new w _
  unfold FstEnd
  rw [HX.out]
  dsimp only
  clear h
  go_enter Tryd.func19, Tryd.ntmps19
  go_wp2_with fail
  refine (all_told _).mono ?_; rintro e w1 ⟨rfl, g1⟩
  have HG1 := hidd (((Grew.refl w).alloc (.cells #[.int .u64 0, .int .u64 0, .int .u64 0, .int .u64 0] 33)).trans g1)
  have HZ1 := hidd (heap_old g1 HZ.out)
  obtain ⟨d0, d1, d2, c3, d4, _, _, _, _⟩ := HNd.out.kept (HG1.out.alloc (.cells #[.int .u64 (q4 allS 0), .int .u64 (q4 allS 1), .int .u64 (q4 allS 2), .int .u64 (q4 allS 3)] 33))
  have c0 : (w1.alloc (.cells #[.int .u64 (q4 allS 0), .int .u64 (q4 allS 1), .int .u64 (q4 allS 2), .int .u64 (q4 allS 3)] 33)).cell? ⟨b, o, none⟩ = some (.int .i64 9) := d0
  have c1 : (w1.alloc (.cells #[.int .u64 (q4 allS 0), .int .u64 (q4 allS 1), .int .u64 (q4 allS 2), .int .u64 (q4 allS 3)] 33)).cell? ⟨b, o + 1, none⟩ = some (.string t) := d1
  have c2 : (w1.alloc (.cells #[.int .u64 (q4 allS 0), .int .u64 (q4 allS 1), .int .u64 (q4 allS 2), .int .u64 (q4 allS 3)] 33)).cell? ⟨b, o + 2, none⟩ = some (.int .i64 n) := d2
  have c4 : (w1.alloc (.cells #[.int .u64 (q4 allS 0), .int .u64 (q4 allS 1), .int .u64 (q4 allS 2), .int .u64 (q4 allS 3)] 33)).cell? ⟨b, o + 4, none⟩ = some kv := d4
  clear g1 HZ d0 d1 d2 d4 c3
  have z0 : ∀ o, (w1.alloc o).cell? ⟨w.heap.size, 0, none⟩ = some (.int .u64 0) := fun o => (cells_fst (heap_more HZ1.out)).1.1
  have z1 : ∀ o, (w1.alloc o).cell? ⟨w.heap.size, 1, none⟩ = some (.int .u64 0) := fun o => (cells_fst (heap_more HZ1.out)).1.2.1
  have z2 : ∀ o, (w1.alloc o).cell? ⟨w.heap.size, 2, none⟩ = some (.int .u64 0) := fun o => (cells_fst (heap_more HZ1.out)).1.2.2.1
  have z3 : ∀ o, (w1.alloc o).cell? ⟨w.heap.size, 3, none⟩ = some (.int .u64 0) := fun o => (cells_fst (heap_more HZ1.out)).1.2.2.2
  have zf : ∀ o i, (w1.alloc o).frozen? ⟨w.heap.size, i, none⟩ = false := fun o => (cells_fst (heap_more HZ1.out)).2
  go_wp2_with fail
  exact bodyPost_ret (results_fst rfl rfl rfl (setSet_heap (heap_more HZ1.out)) rfl) rfl ⟨rfl, setSet_grew (HG1.out.alloc _) (Nat.le_refl _) _ _ _ _⟩
set_option maxRecDepth 100000 in
set_option maxHeartbeats 1000000 in
theorem fst_k12 (t : ByteArray) (n : Int) (m : ByteArray) (l : List Pat) (b o : Nat) (kv : Value) (w : World) (h : FstIn (.mk 12 t n m l) b o kv w) : Calls Tryd.prog 19 #[.pointer (some ⟨b, o, none⟩)] w (FstEnd (firstP (.mk 12 t n m l)) w) := by
  have HX : Hid (firstP (.mk 12 t n m l) = (allS, true)) := by
    refine hidd ?_
    rw [firstP]; rfl
  have HNd : Hid (NodeAt w b o (.mk 12 t n m l) kv) := h.node
  have HZ : Hid ((w.alloc (.cells #[.int .u64 0, .int .u64 0, .int .u64 0, .int .u64 0] 33)).heap[w.heap.size]? = some (.cells #[.int .u64 0, .int .u64 0, .int .u64 0, .int .u64 0] 33 (0, 0))) := heap_alloc_new w _
  unfold FstEnd
  rw [HX.out]
  dsimp only
  clear h
  go_enter Tryd.func19, Tryd.ntmps19
  go_wp2_with fail
  refine (all_told _).mono ?_; rintro e w1 ⟨rfl, g1⟩
  have HG1 := hidd (((Grew.refl w).alloc (.cells #[.int .u64 0, .int .u64 0, .int .u64 0, .int .u64 0] 33)).trans g1)
  have HZ1 := hidd (heap_old g1 HZ.out)
  obtain ⟨d0, d1, d2, c3, d4, _, _, _, _⟩ := HNd.out.kept (HG1.out.alloc (.cells #[.int .u64 (q4 allS 0), .int .u64 (q4 allS 1), .int .u64 (q4 allS 2), .int .u64 (q4 allS 3)] 33))
  have c0 : (w1.alloc (.cells #[.int .u64 (q4 allS 0), .int .u64 (q4 allS 1), .int .u64 (q4 allS 2), .int .u64 (q4 allS 3)] 33)).cell? ⟨b, o, none⟩ = some (.int .i64 12) := d0
  have c1 : (w1.alloc (.cells #[.int .u64 (q4 allS 0), .int .u64 (q4 allS 1), .int .u64 (q4 allS 2), .int .u64 (q4 allS 3)] 33)).cell? ⟨b, o + 1, none⟩ = some (.string t) := d1
  have c2 : (w1.alloc (.cells #[.int .u64 (q4 allS 0), .int .u64 (q4 allS 1), .int .u64 (q4 allS 2), .int .u64 (q4 allS 3)] 33)).cell? ⟨b, o + 2, none⟩ = some (.int .i64 n) := d2
  have c4 : (w1.alloc (.cells #[.int .u64 (q4 allS 0), .int .u64 (q4 allS 1), .int .u64 (q4 allS 2), .int .u64 (q4 allS 3)] 33)).cell? ⟨b, o + 4, none⟩ = some kv := d4
  clear g1 HZ d0 d1 d2 d4 c3
  have z0 : ∀ o, (w1.alloc o).cell? ⟨w.heap.size, 0, none⟩ = some (.int .u64 0) := fun o => (cells_fst (heap_more HZ1.out)).1.1
  have z1 : ∀ o, (w1.alloc o).cell? ⟨w.heap.size, 1, none⟩ = some (.int .u64 0) := fun o => (cells_fst (heap_more HZ1.out)).1.2.1
  have z2 : ∀ o, (w1.alloc o).cell? ⟨w.heap.size, 2, none⟩ = some (.int .u64 0) := fun o => (cells_fst (heap_more HZ1.out)).1.2.2.1
  have z3 : ∀ o, (w1.alloc o).cell? ⟨w.heap.size, 3, none⟩ = some (.int .u64 0) := fun o => (cells_fst (heap_more HZ1.out)).1.2.2.2
  have zf : ∀ o i, (w1.alloc o).frozen? ⟨w.heap.size, i, none⟩ = false := fun o => (cells_fst (heap_more HZ1.out)).2
  go_wp2_with fail
  exact bodyPost_ret (results_fst rfl rfl rfl (setSet_heap (heap_more HZ1.out)) rfl) rfl ⟨rfl, setSet_grew (HG1.out.alloc _) (Nat.le_refl _) _ _ _ _⟩
set_option maxRecDepth 100000 in
set_option maxHeartbeats 1000000 in
theorem fst_k13 (t : ByteArray) (n : Int) (m : ByteArray) (l : List Pat) (b o : Nat) (kv : Value) (w : World) (h : FstIn (.mk 13 t n m l) b o kv w) : Calls Tryd.prog 19 #[.pointer (some ⟨b, o, none⟩)] w (FstEnd (firstP (.mk 13 t n m l)) w) := by
  have HX : Hid (firstP (.mk 13 t n m l) = (allS, true)) := by
    refine hidd ?_
    rw [firstP]; rfl
  have HNd : Hid (NodeAt w b o (.mk 13 t n m l) kv) := h.node
  have HZ : Hid ((w.alloc (.cells #[.int .u64 0, .int .u64 0, .int .u64 0, .int .u64 0] 33)).heap[w.heap.size]? = some (.cells #[.int .u64 0, .int .u64 0, .int .u64 0, .int .u64 0] 33 (0, 0))) := heap_alloc_new w _
  unfold FstEnd
  rw [HX.out]
  dsimp only
  clear h
  go_enter Tryd.func19, Tryd.ntmps19
  go_wp2_with fail
  refine (all_told _).mono ?_; rintro e w1 ⟨rfl, g1⟩
  have HG1 := hidd (((Grew.refl w).alloc (.cells #[.int .u64 0, .int .u64 0, .int .u64 0, .int .u64 0] 33)).trans g1)
  have HZ1 := hidd (heap_old g1 HZ.out)
  obtain ⟨d0, d1, d2, c3, d4, _, _, _, _⟩ := HNd.out.kept (HG1.out.alloc (.cells #[.int .u64 (q4 allS 0), .int .u64 (q4 allS 1), .int .u64 (q4 allS 2), .int .u64 (q4 allS 3)] 33))
  have c0 : (w1.alloc (.cells #[.int .u64 (q4 allS 0), .int .u64 (q4 allS 1), .int .u64 (q4 allS 2), .int .u64 (q4 allS 3)] 33)).cell? ⟨b, o, none⟩ = some (.int .i64 13) := d0
  have c1 : (w1.alloc (.cells #[.int .u64 (q4 allS 0), .int .u64 (q4 allS 1), .int .u64 (q4 allS 2), .int .u64 (q4 allS 3)] 33)).cell? ⟨b, o + 1, none⟩ = some (.string t) := d1
  have c2 : (w1.alloc (.cells #[.int .u64 (q4 allS 0), .int .u64 (q4 allS 1), .int .u64 (q4 allS 2), .int .u64 (q4 allS 3)] 33)).cell? ⟨b, o + 2, none⟩ = some (.int .i64 n) := d2
  have c4 : (w1.alloc (.cells #[.int .u64 (q4 allS 0), .int .u64 (q4 allS 1), .int .u64 (q4 allS 2), .int .u64 (q4 allS 3)] 33)).cell? ⟨b, o + 4, none⟩ = some kv := d4
  clear g1 HZ d0 d1 d2 d4 c3
  have z0 : ∀ o, (w1.alloc o).cell? ⟨w.heap.size, 0, none⟩ = some (.int .u64 0) := fun o => (cells_fst (heap_more HZ1.out)).1.1
  have z1 : ∀ o, (w1.alloc o).cell? ⟨w.heap.size, 1, none⟩ = some (.int .u64 0) := fun o => (cells_fst (heap_more HZ1.out)).1.2.1
  have z2 : ∀ o, (w1.alloc o).cell? ⟨w.heap.size, 2, none⟩ = some (.int .u64 0) := fun o => (cells_fst (heap_more HZ1.out)).1.2.2.1
  have z3 : ∀ o, (w1.alloc o).cell? ⟨w.heap.size, 3, none⟩ = some (.int .u64 0) := fun o => (cells_fst (heap_more HZ1.out)).1.2.2.2
  have zf : ∀ o i, (w1.alloc o).frozen? ⟨w.heap.size, i, none⟩ = false := fun o => (cells_fst (heap_more HZ1.out)).2
  go_wp2_with fail
  exact bodyPost_ret (results_fst rfl rfl rfl (setSet_heap (heap_more HZ1.out)) rfl) rfl ⟨rfl, setSet_grew (HG1.out.alloc _) (Nat.le_refl _) _ _ _ _⟩
set_option maxRecDepth 100000 in
set_option maxHeartbeats 1000000 in
theorem fst_k24 (t : ByteArray) (n : Int) (m : ByteArray) (l : List Pat) (b o : Nat) (kv : Value) (w : World) (h : FstIn (.mk 24 t n m l) b o kv w) : Calls Tryd.prog 19 #[.pointer (some ⟨b, o, none⟩)] w (FstEnd (firstP (.mk 24 t n m l)) w) := by
  have HX : Hid (firstP (.mk 24 t n m l) = (allS, true)) := by
    refine hidd ?_
    rw [firstP]; rfl
  have HNd : Hid (NodeAt w b o (.mk 24 t n m l) kv) := h.node
  have HZ : Hid ((w.alloc (.cells #[.int .u64 0, .int .u64 0, .int .u64 0, .int .u64 0] 33)).heap[w.heap.size]? = some (.cells #[.int .u64 0, .int .u64 0, .int .u64 0, .int .u64 0] 33 (0, 0))) := heap_alloc_new w _
  unfold FstEnd
  rw [HX.out]
  dsimp only
  clear h
  go_enter Tryd.func19, Tryd.ntmps19
  go_wp2_with fail
  refine (all_told _).mono ?_; rintro e w1 ⟨rfl, g1⟩
  have HG1 := hidd (((Grew.refl w).alloc (.cells #[.int .u64 0, .int .u64 0, .int .u64 0, .int .u64 0] 33)).trans g1)
  have HZ1 := hidd (heap_old g1 HZ.out)
  obtain ⟨d0, d1, d2, c3, d4, _, _, _, _⟩ := HNd.out.kept (HG1.out.alloc (.cells #[.int .u64 (q4 allS 0), .int .u64 (q4 allS 1), .int .u64 (q4 allS 2), .int .u64 (q4 allS 3)] 33))
  have c0 : (w1.alloc (.cells #[.int .u64 (q4 allS 0), .int .u64 (q4 allS 1), .int .u64 (q4 allS 2), .int .u64 (q4 allS 3)] 33)).cell? ⟨b, o, none⟩ = some (.int .i64 24) := d0
  have c1 : (w1.alloc (.cells #[.int .u64 (q4 allS 0), .int .u64 (q4 allS 1), .int .u64 (q4 allS 2), .int .u64 (q4 allS 3)] 33)).cell? ⟨b, o + 1, none⟩ = some (.string t) := d1
  have c2 : (w1.alloc (.cells #[.int .u64 (q4 allS 0), .int .u64 (q4 allS 1), .int .u64 (q4 allS 2), .int .u64 (q4 allS 3)] 33)).cell? ⟨b, o + 2, none⟩ = some (.int .i64 n) := d2
  have c4 : (w1.alloc (.cells #[.int .u64 (q4 allS 0), .int .u64 (q4 allS 1), .int .u64 (q4 allS 2), .int .u64 (q4 allS 3)] 33)).cell? ⟨b, o + 4, none⟩ = some kv := d4
  clear g1 HZ d0 d1 d2 d4 c3
  have z0 : ∀ o, (w1.alloc o).cell? ⟨w.heap.size, 0, none⟩ = some (.int .u64 0) := fun o => (cells_fst (heap_more HZ1.out)).1.1
  have z1 : ∀ o, (w1.alloc o).cell? ⟨w.heap.size, 1, none⟩ = some (.int .u64 0) := fun o => (cells_fst (heap_more HZ1.out)).1.2.1
  have z2 : ∀ o, (w1.alloc o).cell? ⟨w.heap.size, 2, none⟩ = some (.int .u64 0) := fun o => (cells_fst (heap_more HZ1.out)).1.2.2.1
  have z3 : ∀ o, (w1.alloc o).cell? ⟨w.heap.size, 3, none⟩ = some (.int .u64 0) := fun o => (cells_fst (heap_more HZ1.out)).1.2.2.2
  have zf : ∀ o i, (w1.alloc o).frozen? ⟨w.heap.size, i, none⟩ = false := fun o => (cells_fst (heap_more HZ1.out)).2
  go_wp2_with fail
  exact bodyPost_ret (results_fst rfl rfl rfl (setSet_heap (heap_more HZ1.out)) rfl) rfl ⟨rfl, setSet_grew (HG1.out.alloc _) (Nat.le_refl _) _ _ _ _⟩
set_option maxRecDepth 100000 in
set_option maxHeartbeats 1000000 in
theorem fst_k3 (t : ByteArray) (n : Int) (m : ByteArray) (l : List Pat) (b o : Nat) (kv : Value) (w : World) (h : FstIn (.mk 3 t n m l) b o kv w) : Calls Tryd.prog 19 #[.pointer (some ⟨b, o, none⟩)] w (FstEnd (firstP (.mk 3 t n m l)) w) := by
  have HX : Hid (firstP (.mk 3 t n m l) = (setOf t.data.toList, false)) := by
    refine hidd ?_
    rw [firstP]; rfl
  have HNd : Hid (NodeAt w b o (.mk 3 t n m l) kv) := h.node
  have HT : Hid (t.size ≤ maxLen) := h.node.ht
  have HZ : Hid ((w.alloc (.cells #[.int .u64 0, .int .u64 0, .int .u64 0, .int .u64 0] 33)).heap[w.heap.size]? = some (.cells #[.int .u64 0, .int .u64 0, .int .u64 0, .int .u64 0] 33 (0, 0))) := heap_alloc_new w _
  unfold FstEnd
  rw [HX.out]
  dsimp only
  clear h
  go_enter Tryd.func19, Tryd.ntmps19
  go_wp2_with fail
  refine (all_told _).mono ?_; rintro e w1 ⟨rfl, g1⟩
  have HG1 := hidd (((Grew.refl w).alloc (.cells #[.int .u64 0, .int .u64 0, .int .u64 0, .int .u64 0] 33)).trans g1)
  have HZ1 := hidd (heap_old g1 HZ.out)
  obtain ⟨d0, d1, d2, c3, d4, _, _, _, _⟩ := HNd.out.kept (HG1.out.alloc (.cells #[.int .u64 (q4 allS 0), .int .u64 (q4 allS 1), .int .u64 (q4 allS 2), .int .u64 (q4 allS 3)] 33))
  have c0 : (w1.alloc (.cells #[.int .u64 (q4 allS 0), .int .u64 (q4 allS 1), .int .u64 (q4 allS 2), .int .u64 (q4 allS 3)] 33)).cell? ⟨b, o, none⟩ = some (.int .i64 3) := d0
  have c1 : (w1.alloc (.cells #[.int .u64 (q4 allS 0), .int .u64 (q4 allS 1), .int .u64 (q4 allS 2), .int .u64 (q4 allS 3)] 33)).cell? ⟨b, o + 1, none⟩ = some (.string t) := d1
  have c2 : (w1.alloc (.cells #[.int .u64 (q4 allS 0), .int .u64 (q4 allS 1), .int .u64 (q4 allS 2), .int .u64 (q4 allS 3)] 33)).cell? ⟨b, o + 2, none⟩ = some (.int .i64 n) := d2
  have c4 : (w1.alloc (.cells #[.int .u64 (q4 allS 0), .int .u64 (q4 allS 1), .int .u64 (q4 allS 2), .int .u64 (q4 allS 3)] 33)).cell? ⟨b, o + 4, none⟩ = some kv := d4
  clear g1 HZ d0 d1 d2 d4 c3
  go_wp2_with fail
  refine (of_told t HT.out _).mono ?_; rintro e w2 ⟨rfl, g2⟩
  have HG2 := hidd ((HG1.out.alloc (.cells #[.int .u64 (q4 allS 0), .int .u64 (q4 allS 1), .int .u64 (q4 allS 2), .int .u64 (q4 allS 3)] 33)).trans g2)
  have HZ2 := hidd (heap_old g2 (heap_more HZ1.out))
  clear g2
  obtain ⟨⟨z0, z1, z2, z3⟩, zf⟩ := cells_fst HZ2.out
  go_wp2_with fail
  exact bodyPost_ret (results_fst rfl rfl rfl (setSet_heap HZ2.out) rfl) rfl ⟨rfl, setSet_grew HG2.out (Nat.le_refl _) _ _ _ _⟩
set_option maxRecDepth 100000 in
set_option maxHeartbeats 1000000 in
theorem fst_k5 (t : ByteArray) (n : Int) (m : ByteArray) (l : List Pat) (b o : Nat) (kv : Value) (w : World) (h : FstIn (.mk 5 t n m l) b o kv w) : Calls Tryd.prog 19 #[.pointer (some ⟨b, o, none⟩)] w (FstEnd (firstP (.mk 5 t n m l)) w) := by
  have HX : Hid (firstP (.mk 5 t n m l) = (setOf t.data.toList, false)) := by
    refine hidd ?_
    rw [firstP]; rfl
  have HNd : Hid (NodeAt w b o (.mk 5 t n m l) kv) := h.node
  have HT : Hid (t.size ≤ maxLen) := h.node.ht
  have HZ : Hid ((w.alloc (.cells #[.int .u64 0, .int .u64 0, .int .u64 0, .int .u64 0] 33)).heap[w.heap.size]? = some (.cells #[.int .u64 0, .int .u64 0, .int .u64 0, .int .u64 0] 33 (0, 0))) := heap_alloc_new w _
  unfold FstEnd
  rw [HX.out]
  dsimp only
  clear h
  go_enter Tryd.func19, Tryd.ntmps19
  go_wp2_with fail
  refine (all_told _).mono ?_; rintro e w1 ⟨rfl, g1⟩
  have HG1 := hidd (((Grew.refl w).alloc (.cells #[.int .u64 0, .int .u64 0, .int .u64 0, .int .u64 0] 33)).trans g1)
  have HZ1 := hidd (heap_old g1 HZ.out)
  obtain ⟨d0, d1, d2, c3, d4, _, _, _, _⟩ := HNd.out.kept (HG1.out.alloc (.cells #[.int .u64 (q4 allS 0), .int .u64 (q4 allS 1), .int .u64 (q4 allS 2), .int .u64 (q4 allS 3)] 33))
  have c0 : (w1.alloc (.cells #[.int .u64 (q4 allS 0), .int .u64 (q4 allS 1), .int .u64 (q4 allS 2), .int .u64 (q4 allS 3)] 33)).cell? ⟨b, o, none⟩ = some (.int .i64 5) := d0
  have c1 : (w1.alloc (.cells #[.int .u64 (q4 allS 0), .int .u64 (q4 allS 1), .int .u64 (q4 allS 2), .int .u64 (q4 allS 3)] 33)).cell? ⟨b, o + 1, none⟩ = some (.string t) := d1
  have c2 : (w1.alloc (.cells #[.int .u64 (q4 allS 0), .int .u64 (q4 allS 1), .int .u64 (q4 allS 2), .int .u64 (q4 allS 3)] 33)).cell? ⟨b, o + 2, none⟩ = some (.int .i64 n) := d2
  have c4 : (w1.alloc (.cells #[.int .u64 (q4 allS 0), .int .u64 (q4 allS 1), .int .u64 (q4 allS 2), .int .u64 (q4 allS 3)] 33)).cell? ⟨b, o + 4, none⟩ = some kv := d4
  clear g1 HZ d0 d1 d2 d4 c3
  go_wp2_with fail
  refine (of_told t HT.out _).mono ?_; rintro e w2 ⟨rfl, g2⟩
  have HG2 := hidd ((HG1.out.alloc (.cells #[.int .u64 (q4 allS 0), .int .u64 (q4 allS 1), .int .u64 (q4 allS 2), .int .u64 (q4 allS 3)] 33)).trans g2)
  have HZ2 := hidd (heap_old g2 (heap_more HZ1.out))
  clear g2
  obtain ⟨⟨z0, z1, z2, z3⟩, zf⟩ := cells_fst HZ2.out
  go_wp2_with fail
  exact bodyPost_ret (results_fst rfl rfl rfl (setSet_heap HZ2.out) rfl) rfl ⟨rfl, setSet_grew HG2.out (Nat.le_refl _) _ _ _ _⟩
set_option maxRecDepth 100000 in
set_option maxHeartbeats 1000000 in
theorem fst_k4 (t : ByteArray) (n : Int) (m : ByteArray) (l : List Pat) (b o : Nat) (kv : Value) (w : World) (h : FstIn (.mk 4 t n m l) b o kv w) : Calls Tryd.prog 19 #[.pointer (some ⟨b, o, none⟩)] w (FstEnd (firstP (.mk 4 t n m l)) w) := by
  have HX : Hid (firstP (.mk 4 t n m l) = ((fun i => !setOf t.data.toList i), false)) := by
    refine hidd ?_
    rw [firstP]; rfl
  have HNd : Hid (NodeAt w b o (.mk 4 t n m l) kv) := h.node
  have HT : Hid (t.size ≤ maxLen) := h.node.ht
  have HZ : Hid ((w.alloc (.cells #[.int .u64 0, .int .u64 0, .int .u64 0, .int .u64 0] 33)).heap[w.heap.size]? = some (.cells #[.int .u64 0, .int .u64 0, .int .u64 0, .int .u64 0] 33 (0, 0))) := heap_alloc_new w _
  unfold FstEnd
  rw [HX.out]
  dsimp only
  clear h
  go_enter Tryd.func19, Tryd.ntmps19
  go_wp2_with fail
  refine (all_told _).mono ?_; rintro e w1 ⟨rfl, g1⟩
  have HG1 := hidd (((Grew.refl w).alloc (.cells #[.int .u64 0, .int .u64 0, .int .u64 0, .int .u64 0] 33)).trans g1)
  have HZ1 := hidd (heap_old g1 HZ.out)
  obtain ⟨d0, d1, d2, c3, d4, _, _, _, _⟩ := HNd.out.kept (HG1.out.alloc (.cells #[.int .u64 (q4 allS 0), .int .u64 (q4 allS 1), .int .u64 (q4 allS 2), .int .u64 (q4 allS 3)] 33))
  have c0 : (w1.alloc (.cells #[.int .u64 (q4 allS 0), .int .u64 (q4 allS 1), .int .u64 (q4 allS 2), .int .u64 (q4 allS 3)] 33)).cell? ⟨b, o, none⟩ = some (.int .i64 4) := d0
  have c1 : (w1.alloc (.cells #[.int .u64 (q4 allS 0), .int .u64 (q4 allS 1), .int .u64 (q4 allS 2), .int .u64 (q4 allS 3)] 33)).cell? ⟨b, o + 1, none⟩ = some (.string t) := d1
  have c2 : (w1.alloc (.cells #[.int .u64 (q4 allS 0), .int .u64 (q4 allS 1), .int .u64 (q4 allS 2), .int .u64 (q4 allS 3)] 33)).cell? ⟨b, o + 2, none⟩ = some (.int .i64 n) := d2
  have c4 : (w1.alloc (.cells #[.int .u64 (q4 allS 0), .int .u64 (q4 allS 1), .int .u64 (q4 allS 2), .int .u64 (q4 allS 3)] 33)).cell? ⟨b, o + 4, none⟩ = some kv := d4
  clear g1 HZ d0 d1 d2 d4 c3
  go_wp2_with fail
  refine (of_told t HT.out _).mono ?_; rintro e w2 ⟨rfl, g2⟩
  have HG2 := hidd ((HG1.out.alloc (.cells #[.int .u64 (q4 allS 0), .int .u64 (q4 allS 1), .int .u64 (q4 allS 2), .int .u64 (q4 allS 3)] 33)).trans g2)
  have HZ2 := hidd (heap_old g2 (heap_more HZ1.out))
  clear g2
  go_wp2_with fail
  refine (not_told _ _).mono ?_; rintro e w3 ⟨rfl, g3⟩
  have HG3 := hidd (HG2.out.trans g3)
  have HZ3 := hidd (heap_old g3 HZ2.out)
  clear g3
  obtain ⟨⟨z0, z1, z2, z3⟩, zf⟩ := cells_fst HZ3.out
  go_wp2_with fail
  exact bodyPost_ret (results_fst rfl rfl rfl (setSet_heap HZ3.out) rfl) rfl ⟨rfl, setSet_grew HG3.out (Nat.le_refl _) _ _ _ _⟩
set_option maxRecDepth 100000 in
set_option maxHeartbeats 1000000 in
theorem fst_k6 (t : ByteArray) (n : Int) (m : ByteArray) (l : List Pat) (b o : Nat) (kv : Value) (w : World) (h : FstIn (.mk 6 t n m l) b o kv w) : Calls Tryd.prog 19 #[.pointer (some ⟨b, o, none⟩)] w (FstEnd (firstP (.mk 6 t n m l)) w) := by
  have HX : Hid (firstP (.mk 6 t n m l) = ((fun i => !setOf t.data.toList i), true)) := by
    refine hidd ?_
    rw [firstP]; rfl
  have HNd : Hid (NodeAt w b o (.mk 6 t n m l) kv) := h.node
  have HT : Hid (t.size ≤ maxLen) := h.node.ht
  have HZ : Hid ((w.alloc (.cells #[.int .u64 0, .int .u64 0, .int .u64 0, .int .u64 0] 33)).heap[w.heap.size]? = some (.cells #[.int .u64 0, .int .u64 0, .int .u64 0, .int .u64 0] 33 (0, 0))) := heap_alloc_new w _
  unfold FstEnd
  rw [HX.out]
  dsimp only
  clear h
  go_enter Tryd.func19, Tryd.ntmps19
  go_wp2_with fail
  refine (all_told _).mono ?_; rintro e w1 ⟨rfl, g1⟩
  have HG1 := hidd (((Grew.refl w).alloc (.cells #[.int .u64 0, .int .u64 0, .int .u64 0, .int .u64 0] 33)).trans g1)
  have HZ1 := hidd (heap_old g1 HZ.out)
  obtain ⟨d0, d1, d2, c3, d4, _, _, _, _⟩ := HNd.out.kept (HG1.out.alloc (.cells #[.int .u64 (q4 allS 0), .int .u64 (q4 allS 1), .int .u64 (q4 allS 2), .int .u64 (q4 allS 3)] 33))
  have c0 : (w1.alloc (.cells #[.int .u64 (q4 allS 0), .int .u64 (q4 allS 1), .int .u64 (q4 allS 2), .int .u64 (q4 allS 3)] 33)).cell? ⟨b, o, none⟩ = some (.int .i64 6) := d0
  have c1 : (w1.alloc (.cells #[.int .u64 (q4 allS 0), .int .u64 (q4 allS 1), .int .u64 (q4 allS 2), .int .u64 (q4 allS 3)] 33)).cell? ⟨b, o + 1, none⟩ = some (.string t) := d1
  have c2 : (w1.alloc (.cells #[.int .u64 (q4 allS 0), .int .u64 (q4 allS 1), .int .u64 (q4 allS 2), .int .u64 (q4 allS 3)] 33)).cell? ⟨b, o + 2, none⟩ = some (.int .i64 n) := d2
  have c4 : (w1.alloc (.cells #[.int .u64 (q4 allS 0), .int .u64 (q4 allS 1), .int .u64 (q4 allS 2), .int .u64 (q4 allS 3)] 33)).cell? ⟨b, o + 4, none⟩ = some kv := d4
  clear g1 HZ d0 d1 d2 d4 c3
  go_wp2_with fail
  refine (of_told t HT.out _).mono ?_; rintro e w2 ⟨rfl, g2⟩
  have HG2 := hidd ((HG1.out.alloc (.cells #[.int .u64 (q4 allS 0), .int .u64 (q4 allS 1), .int .u64 (q4 allS 2), .int .u64 (q4 allS 3)] 33)).trans g2)
  have HZ2 := hidd (heap_old g2 (heap_more HZ1.out))
  clear g2
  go_wp2_with fail
  refine (not_told _ _).mono ?_; rintro e w3 ⟨rfl, g3⟩
  have HG3 := hidd (HG2.out.trans g3)
  have HZ3 := hidd (heap_old g3 HZ2.out)
  clear g3
  obtain ⟨⟨z0, z1, z2, z3⟩, zf⟩ := cells_fst HZ3.out
  go_wp2_with fail
  exact bodyPost_ret (results_fst rfl rfl rfl (setSet_heap HZ3.out) rfl) rfl ⟨rfl, setSet_grew HG3.out (Nat.le_refl _) _ _ _ _⟩
end Go.Proofs.YtglfdfeideeeaaaDoor
