/- The document's Simple at kinds that have no kids. Printed. -/
import Derived.Test.YtglfdfeideeeaaaDoorT6W
import Derived.Test.YtglfdfeideeeaaaDoorT6A
namespace Go.Proofs.YtglfdfeideeeaaaDoor
open Go.RowKit
set_option linter.unusedVariables false
theorem lit6_any (s : ByteArray) (w : World) : Calls Tryd.prog 47 #[.string s] w fun e w' => e = .returned (.agg #[.int .i64 1, .string s, .int .i64 0, .string ⟨#[]⟩, .slice none 0 0]) ∧ Grew w w' := by
  go_enter Tryd.func47, Tryd.ntmps47
  go_wp2_with fail
  exact bodyPost_ret (results_pat (rb := w.heap.size) (cs := #[.int .i64 1, .string s, .int .i64 0, .string ⟨#[]⟩, .slice none 0 0]) rfl rfl (heap_alloc_new w _) rfl) rfl ⟨rfl, (Grew.refl w).alloc _⟩
structure SimSt (w : World) (p : Pat) (kv : Value) (qb : Nat) (W : World) (k : Int) (t : ByteArray) (n : Int) (m : ByteArray) (v : Value) : Prop where
  grew : Grew w W
  low : w.heap.size + 1 < qb
  box : W.heap[w.heap.size]? = some (.cells #[.int .i64 p.kind, .string p.text, .int .i64 p.n, .string p.name, kv] 24 (0, 0))
  res : W.heap[w.heap.size + 1]? = some (.cells #[.int .i64 0, .string ⟨#[]⟩, .int .i64 0, .string ⟨#[]⟩, .slice none 0 0] 24 (0, 0))
  out : W.heap[qb]? = some (.cells #[.int .i64 k, .string t, .int .i64 n, .string m, v] 24 (0, 0))
section
variable {w W W' : World} {p : Pat} {kv : Value} {qb : Nat} {k : Int} {t : ByteArray} {n : Int} {m : ByteArray} {v : Value}
theorem SimSt.start {w1 : World} (g : Grew ((w.alloc (.cells #[.int .i64 p.kind, .string p.text, .int .i64 p.n, .string p.name, kv] 24)).alloc (.cells #[.int .i64 0, .string ⟨#[]⟩, .int .i64 0, .string ⟨#[]⟩, .slice none 0 0] 24)) w1) : SimSt w p kv w1.heap.size (w1.alloc (.cells #[.int .i64 k, .string t, .int .i64 n, .string m, v] 24)) k t n m v :=
  ⟨((((Grew.refl w).alloc _).alloc _).trans g).alloc _, by have := g.size; simp at this; omega, heap_more (heap_kept g (heap_more (heap_alloc_new w _))), heap_more (heap_kept g (heap_second w _ _)), heap_alloc_new w1 _⟩
theorem SimSt.kept (h : SimSt w p kv qb W k t n m v) (g : Grew W W') : SimSt w p kv qb W' k t n m v := ⟨h.grew.trans g, h.low, heap_kept g h.box, heap_kept g h.res, heap_kept g h.out⟩
theorem SimSt.hi (h : SimSt w p kv qb W k t n m v) : qb < W.heap.size := (Array.getElem?_eq_some_iff.1 h.out).1
theorem SimSt.cells (h : SimSt w p kv qb W k t n m v) : (W.cell? ⟨w.heap.size, 0, none⟩ = some (.int .i64 p.kind) ∧ W.cell? ⟨w.heap.size, 1, none⟩ = some (.string p.text) ∧ W.cell? ⟨w.heap.size, 2, none⟩ = some (.int .i64 p.n) ∧ W.cell? ⟨w.heap.size, 3, none⟩ = some (.string p.name) ∧ W.cell? ⟨w.heap.size, 4, none⟩ = some kv) ∧
    (W.cell? ⟨w.heap.size + 1, 0, none⟩ = some (.int .i64 0) ∧ W.cell? ⟨w.heap.size + 1, 1, none⟩ = some (.string ⟨#[]⟩) ∧ W.cell? ⟨w.heap.size + 1, 2, none⟩ = some (.int .i64 0) ∧ W.cell? ⟨w.heap.size + 1, 3, none⟩ = some (.string ⟨#[]⟩) ∧ W.cell? ⟨w.heap.size + 1, 4, none⟩ = some (.slice none 0 0)) ∧
    (W.cell? ⟨qb, 0, none⟩ = some (.int .i64 k) ∧ W.cell? ⟨qb, 1, none⟩ = some (.string t) ∧ W.cell? ⟨qb, 2, none⟩ = some (.int .i64 n) ∧ W.cell? ⟨qb, 3, none⟩ = some (.string m) ∧ W.cell? ⟨qb, 4, none⟩ = some v) ∧
    (∀ o, W.frozen? ⟨w.heap.size + 1, o, none⟩ = false) ∧ ∀ o, W.frozen? ⟨qb, o, none⟩ = false := by
  obtain ⟨b, _⟩ := five_cells h.box
  obtain ⟨z, zf⟩ := five_cells h.res
  obtain ⟨o, of⟩ := five_cells h.out
  exact ⟨b, z, o, zf, of⟩
theorem SimSt.setT (h : SimSt w p kv qb W k t n m v) (u : ByteArray) : SimSt w p kv qb (W.setCell ⟨qb, 1, none⟩ (.string u)) k u n m v := by
  have hl := h.low
  exact ⟨h.grew.setCell (by simp; omega) _, hl, by rw [setCell_heap_other _ _ _ (by omega)]; exact h.box, by rw [setCell_heap_other _ _ _ (by omega)]; exact h.res, by rw [setCell_heap_same h.out]; rfl⟩
theorem SimSt.setV (h : SimSt w p kv qb W k t n m v) (u : Value) : SimSt w p kv qb (W.setCell ⟨qb, 4, none⟩ u) k t n m u := by
  have hl := h.low
  exact ⟨h.grew.setCell (by simp; omega) _, hl, by rw [setCell_heap_other _ _ _ (by omega)]; exact h.box, by rw [setCell_heap_other _ _ _ (by omega)]; exact h.res, by rw [setCell_heap_same h.out]; rfl⟩
end
structure SimIn (p : Pat) (kv : Value) (w : World) : Prop where
  pat : PatV w kv p
  right : errW p = 0
  nodes : nodesP p ≤ 4096
set_option maxRecDepth 100000 in
set_option maxHeartbeats 4000000 in
theorem simR_rest (p : Pat) (kv : Value) (w : World) (h : SimIn p kv w) (hk0 : p.kids = []) {T : ByteArray} {NN : Int} {MM : ByteArray} (hbq : bareQ p = .mk p.kind T NN MM [])
    (hsim : simple p = (.mk p.kind T NN MM [])) (hN : NumsOk (.mk p.kind T NN MM []))
    (t3 : (p.kind == 3) = false) (t4 : (p.kind == 4) = false) (t5 : (p.kind == 5) = false) (t6 : (p.kind == 6) = false) (t7 : (p.kind == 7) = false) (t2 : (p.kind == 2) = false) (t9 : (p.kind == 9) = false) (t20 : (p.kind == 20) = false) (t21 : (p.kind == 21) = false) (t22 : (p.kind == 22) = false) (t18 : (p.kind == 18) = false) (t19 : (p.kind == 19) = false) : Calls Tryd.prog 14 #[.agg (p.cells kv)] w (SingleEnd w.heap.size (simple p) w) := by
  have HB : Hid (Calls Tryd.prog 45 #[.agg (p.cells kv)] ((w.alloc (.cells #[.int .i64 p.kind, .string p.text, .int .i64 p.n, .string p.name, kv] 24)).alloc (.cells #[.int .i64 0, .string ⟨#[]⟩, .int .i64 0, .string ⟨#[]⟩, .slice none 0 0] 24)) fun e w' => ∃ a n c, e = .returned (.agg #[.int .i64 p.kind, .string T, .int .i64 NN, .string MM, .slice a n c]) ∧ PatsOwn w' (w.heap.size + 1 + 1) (w.heap.size + 1 + 1) (.slice a n c) [] ∧ Grew ((w.alloc (.cells #[.int .i64 p.kind, .string p.text, .int .i64 p.n, .string p.name, kv] 24)).alloc (.cells #[.int .i64 0, .string ⟨#[]⟩, .int .i64 0, .string ⟨#[]⟩, .slice none 0 0] 24)) w') := by
    have := Bare_any p kv ((w.alloc (.cells #[.int .i64 p.kind, .string p.text, .int .i64 p.n, .string p.name, kv] 24)).alloc (.cells #[.int .i64 0, .string ⟨#[]⟩, .int .i64 0, .string ⟨#[]⟩, .slice none 0 0] 24)) (h.pat.kept (((Grew.refl w).alloc _).alloc _)) h.nodes
    rw [hbq, World.size_alloc, World.size_alloc] at this
    refine this.mono ?_
    rintro e w' ⟨a, n, c, h1, h2, _, h3⟩
    exact ⟨a, n, c, h1, h2, h3⟩
  have HPt := hidd h.pat.ht
  have HNu := hidd hN
  have HSim := hidd hsim
  rw [HSim.out]
  rw [cells_eq] at HB ⊢
  clear h hk0 hbq hsim hN
  go_enter Tryd.func14, Tryd.ntmps14
  go_wp2_with fail
  refine HB.out.mono ?_; rintro e w1 ⟨qa, qn, qc, rfl, ho, hg⟩
  obtain ⟨_, _, e⟩ := ho.len
  have hqn : qn = 0 := by cases e; rfl
  subst hqn
  have hlow : w.heap.size + 1 < w1.heap.size := by have := hg.size; simp at this; omega
  have S0 := hidd (SimSt.start (p := p) (kv := kv) (k := p.kind) (t := T) (n := NN) (m := MM) (v := .slice qa 0 qc) hg)
  clear ho e hg HB
  go_wp2_with fail
  generalize hqb0 : w1.heap.size = qb at S0 hlow ⊢
  generalize w1.alloc (.cells #[.int .i64 p.kind, .string T, .int .i64 NN, .string MM, .slice qa 0 qc] 24) = W1 at S0 ⊢
  clear hqb0
  go_loopw [17] (fun s17 wr => s17 = .int .i64 0 ∧ wr = W1) (fun _ _ => 0)
  case atStart => exact ⟨rfl, rfl⟩
  case round =>
    obtain ⟨rfl, rfl⟩ := hrel
    obtain ⟨⟨c0, c1, c2, c3, c4⟩, ⟨z0, z1, z2, z3, z4⟩, ⟨o0, o1, o2, o3, o4⟩, zf, of⟩ := S0.out.cells
    go_wp2_with fail
    exact bodyPost_ret (results_pat (rb := w.heap.size + 1) rfl rfl (setPat_heap S0.out.res) rfl) rfl ⟨_, rfl, .leaf _ qa qc HNu.out rfl, setPat_grew S0.out.grew (by omega) _ _ _ _ _⟩
set_option maxRecDepth 100000 in
set_option maxHeartbeats 4000000 in
theorem simR_len0 (p : Pat) (kv : Value) (w : World) (h : SimIn p kv w) (hk0 : p.kids = []) {T : ByteArray} {NN : Int} {MM : ByteArray} (hbq : bareQ p = .mk p.kind T NN MM []) (hn : (p.n == 0) = true)
    (hsim : simple p = (litP ByteArray.empty)) (hN : NumsOk (litP ByteArray.empty))
    (t3 : (p.kind == 3) = false) (t4 : (p.kind == 4) = false) (t5 : (p.kind == 5) = false) (t6 : (p.kind == 6) = false) (t7 : (p.kind == 7) = false) (t2 : (p.kind == 2) = true) (t9 : (p.kind == 9) = false) (t20 : (p.kind == 20) = false) (t21 : (p.kind == 21) = false) (t22 : (p.kind == 22) = false) (t18 : (p.kind == 18) = false) (t19 : (p.kind == 19) = false) : Calls Tryd.prog 14 #[.agg (p.cells kv)] w (SingleEnd w.heap.size (simple p) w) := by
  have HB : Hid (Calls Tryd.prog 45 #[.agg (p.cells kv)] ((w.alloc (.cells #[.int .i64 p.kind, .string p.text, .int .i64 p.n, .string p.name, kv] 24)).alloc (.cells #[.int .i64 0, .string ⟨#[]⟩, .int .i64 0, .string ⟨#[]⟩, .slice none 0 0] 24)) fun e w' => ∃ a n c, e = .returned (.agg #[.int .i64 p.kind, .string T, .int .i64 NN, .string MM, .slice a n c]) ∧ PatsOwn w' (w.heap.size + 1 + 1) (w.heap.size + 1 + 1) (.slice a n c) [] ∧ Grew ((w.alloc (.cells #[.int .i64 p.kind, .string p.text, .int .i64 p.n, .string p.name, kv] 24)).alloc (.cells #[.int .i64 0, .string ⟨#[]⟩, .int .i64 0, .string ⟨#[]⟩, .slice none 0 0] 24)) w') := by
    have := Bare_any p kv ((w.alloc (.cells #[.int .i64 p.kind, .string p.text, .int .i64 p.n, .string p.name, kv] 24)).alloc (.cells #[.int .i64 0, .string ⟨#[]⟩, .int .i64 0, .string ⟨#[]⟩, .slice none 0 0] 24)) (h.pat.kept (((Grew.refl w).alloc _).alloc _)) h.nodes
    rw [hbq, World.size_alloc, World.size_alloc] at this
    refine this.mono ?_
    rintro e w' ⟨a, n, c, h1, h2, _, h3⟩
    exact ⟨a, n, c, h1, h2, h3⟩
  have HPt := hidd h.pat.ht
  have HNu := hidd hN
  have HSim := hidd hsim
  rw [HSim.out]
  rw [cells_eq] at HB ⊢
  clear h hk0 hbq hsim hN
  go_enter Tryd.func14, Tryd.ntmps14
  go_wp2_with fail
  refine HB.out.mono ?_; rintro e w1 ⟨qa, qn, qc, rfl, ho, hg⟩
  obtain ⟨_, _, e⟩ := ho.len
  have hqn : qn = 0 := by cases e; rfl
  subst hqn
  have hlow : w.heap.size + 1 < w1.heap.size := by have := hg.size; simp at this; omega
  have S0 := hidd (SimSt.start (p := p) (kv := kv) (k := p.kind) (t := T) (n := NN) (m := MM) (v := .slice qa 0 qc) hg)
  clear ho e hg HB
  go_wp2_with fail
  generalize hqb0 : w1.heap.size = qb at S0 hlow ⊢
  generalize w1.alloc (.cells #[.int .i64 p.kind, .string T, .int .i64 NN, .string MM, .slice qa 0 qc] 24) = W1 at S0 ⊢
  clear hqb0
  go_loopw [17] (fun s17 wr => s17 = .int .i64 0 ∧ wr = W1) (fun _ _ => 0)
  case atStart => exact ⟨rfl, rfl⟩
  case round =>
    obtain ⟨rfl, rfl⟩ := hrel
    obtain ⟨⟨c0, c1, c2, c3, c4⟩, ⟨z0, z1, z2, z3, z4⟩, ⟨o0, o1, o2, o3, o4⟩, zf, of⟩ := S0.out.cells
    go_wp2_with fail
    refine (lit6_any _ _).mono ?_; rintro e w2 ⟨rfl, g2⟩
    have S1 := hidd (S0.out.kept g2)
    clear g2 S0 c0 c1 c2 c3 c4 z0 z1 z2 z3 z4 o0 o1 o2 o3 o4 zf of
    obtain ⟨⟨c0, c1, c2, c3, c4⟩, ⟨z0, z1, z2, z3, z4⟩, ⟨o0, o1, o2, o3, o4⟩, zf, of⟩ := S1.out.cells
    go_wp2_with fail
    exact bodyPost_ret (results_pat (rb := w.heap.size + 1) rfl rfl (setPat_heap S1.out.res) rfl) rfl ⟨_, rfl, .leaf _ none 0 HNu.out rfl, setPat_grew S1.out.grew (by omega) _ _ _ _ _⟩
set_option maxRecDepth 100000 in
set_option maxHeartbeats 4000000 in
theorem simR_len1 (p : Pat) (kv : Value) (w : World) (h : SimIn p kv w) (hk0 : p.kids = []) {T : ByteArray} {NN : Int} {MM : ByteArray} (hbq : bareQ p = .mk p.kind T NN MM []) (hn : (p.n == 0) = false)
    (hsim : simple p = (.mk p.kind T NN MM [])) (hN : NumsOk (.mk p.kind T NN MM []))
    (t3 : (p.kind == 3) = false) (t4 : (p.kind == 4) = false) (t5 : (p.kind == 5) = false) (t6 : (p.kind == 6) = false) (t7 : (p.kind == 7) = false) (t2 : (p.kind == 2) = true) (t9 : (p.kind == 9) = false) (t20 : (p.kind == 20) = false) (t21 : (p.kind == 21) = false) (t22 : (p.kind == 22) = false) (t18 : (p.kind == 18) = false) (t19 : (p.kind == 19) = false) : Calls Tryd.prog 14 #[.agg (p.cells kv)] w (SingleEnd w.heap.size (simple p) w) := by
  have HB : Hid (Calls Tryd.prog 45 #[.agg (p.cells kv)] ((w.alloc (.cells #[.int .i64 p.kind, .string p.text, .int .i64 p.n, .string p.name, kv] 24)).alloc (.cells #[.int .i64 0, .string ⟨#[]⟩, .int .i64 0, .string ⟨#[]⟩, .slice none 0 0] 24)) fun e w' => ∃ a n c, e = .returned (.agg #[.int .i64 p.kind, .string T, .int .i64 NN, .string MM, .slice a n c]) ∧ PatsOwn w' (w.heap.size + 1 + 1) (w.heap.size + 1 + 1) (.slice a n c) [] ∧ Grew ((w.alloc (.cells #[.int .i64 p.kind, .string p.text, .int .i64 p.n, .string p.name, kv] 24)).alloc (.cells #[.int .i64 0, .string ⟨#[]⟩, .int .i64 0, .string ⟨#[]⟩, .slice none 0 0] 24)) w') := by
    have := Bare_any p kv ((w.alloc (.cells #[.int .i64 p.kind, .string p.text, .int .i64 p.n, .string p.name, kv] 24)).alloc (.cells #[.int .i64 0, .string ⟨#[]⟩, .int .i64 0, .string ⟨#[]⟩, .slice none 0 0] 24)) (h.pat.kept (((Grew.refl w).alloc _).alloc _)) h.nodes
    rw [hbq, World.size_alloc, World.size_alloc] at this
    refine this.mono ?_
    rintro e w' ⟨a, n, c, h1, h2, _, h3⟩
    exact ⟨a, n, c, h1, h2, h3⟩
  have HPt := hidd h.pat.ht
  have HNu := hidd hN
  have HSim := hidd hsim
  rw [HSim.out]
  rw [cells_eq] at HB ⊢
  clear h hk0 hbq hsim hN
  go_enter Tryd.func14, Tryd.ntmps14
  go_wp2_with fail
  refine HB.out.mono ?_; rintro e w1 ⟨qa, qn, qc, rfl, ho, hg⟩
  obtain ⟨_, _, e⟩ := ho.len
  have hqn : qn = 0 := by cases e; rfl
  subst hqn
  have hlow : w.heap.size + 1 < w1.heap.size := by have := hg.size; simp at this; omega
  have S0 := hidd (SimSt.start (p := p) (kv := kv) (k := p.kind) (t := T) (n := NN) (m := MM) (v := .slice qa 0 qc) hg)
  clear ho e hg HB
  go_wp2_with fail
  generalize hqb0 : w1.heap.size = qb at S0 hlow ⊢
  generalize w1.alloc (.cells #[.int .i64 p.kind, .string T, .int .i64 NN, .string MM, .slice qa 0 qc] 24) = W1 at S0 ⊢
  clear hqb0
  go_loopw [17] (fun s17 wr => s17 = .int .i64 0 ∧ wr = W1) (fun _ _ => 0)
  case atStart => exact ⟨rfl, rfl⟩
  case round =>
    obtain ⟨rfl, rfl⟩ := hrel
    obtain ⟨⟨c0, c1, c2, c3, c4⟩, ⟨z0, z1, z2, z3, z4⟩, ⟨o0, o1, o2, o3, o4⟩, zf, of⟩ := S0.out.cells
    go_wp2_with fail
    exact bodyPost_ret (results_pat (rb := w.heap.size + 1) rfl rfl (setPat_heap S0.out.res) rfl) rfl ⟨_, rfl, .leaf _ qa qc HNu.out rfl, setPat_grew S0.out.grew (by omega) _ _ _ _ _⟩
set_option maxRecDepth 100000 in
set_option maxHeartbeats 4000000 in
theorem simR_rtab0 (p : Pat) (kv : Value) (w : World) (h : SimIn p kv w) (hk0 : p.kids = []) {T : ByteArray} {NN : Int} {MM : ByteArray} (hbq : bareQ p = .mk p.kind T NN MM []) (hn : (p.n == 0) = true)
    (hsim : simple p = (bareP 12)) (hN : NumsOk (bareP 12))
    (t3 : (p.kind == 3) = false) (t4 : (p.kind == 4) = false) (t5 : (p.kind == 5) = false) (t6 : (p.kind == 6) = false) (t7 : (p.kind == 7) = false) (t2 : (p.kind == 2) = false) (t9 : (p.kind == 9) = true) (t20 : (p.kind == 20) = false) (t21 : (p.kind == 21) = false) (t22 : (p.kind == 22) = false) (t18 : (p.kind == 18) = false) (t19 : (p.kind == 19) = false) : Calls Tryd.prog 14 #[.agg (p.cells kv)] w (SingleEnd w.heap.size (simple p) w) := by
  have HB : Hid (Calls Tryd.prog 45 #[.agg (p.cells kv)] ((w.alloc (.cells #[.int .i64 p.kind, .string p.text, .int .i64 p.n, .string p.name, kv] 24)).alloc (.cells #[.int .i64 0, .string ⟨#[]⟩, .int .i64 0, .string ⟨#[]⟩, .slice none 0 0] 24)) fun e w' => ∃ a n c, e = .returned (.agg #[.int .i64 p.kind, .string T, .int .i64 NN, .string MM, .slice a n c]) ∧ PatsOwn w' (w.heap.size + 1 + 1) (w.heap.size + 1 + 1) (.slice a n c) [] ∧ Grew ((w.alloc (.cells #[.int .i64 p.kind, .string p.text, .int .i64 p.n, .string p.name, kv] 24)).alloc (.cells #[.int .i64 0, .string ⟨#[]⟩, .int .i64 0, .string ⟨#[]⟩, .slice none 0 0] 24)) w') := by
    have := Bare_any p kv ((w.alloc (.cells #[.int .i64 p.kind, .string p.text, .int .i64 p.n, .string p.name, kv] 24)).alloc (.cells #[.int .i64 0, .string ⟨#[]⟩, .int .i64 0, .string ⟨#[]⟩, .slice none 0 0] 24)) (h.pat.kept (((Grew.refl w).alloc _).alloc _)) h.nodes
    rw [hbq, World.size_alloc, World.size_alloc] at this
    refine this.mono ?_
    rintro e w' ⟨a, n, c, h1, h2, _, h3⟩
    exact ⟨a, n, c, h1, h2, h3⟩
  have HPt := hidd h.pat.ht
  have HNu := hidd hN
  have HSim := hidd hsim
  rw [HSim.out]
  rw [cells_eq] at HB ⊢
  clear h hk0 hbq hsim hN
  go_enter Tryd.func14, Tryd.ntmps14
  go_wp2_with fail
  refine HB.out.mono ?_; rintro e w1 ⟨qa, qn, qc, rfl, ho, hg⟩
  obtain ⟨_, _, e⟩ := ho.len
  have hqn : qn = 0 := by cases e; rfl
  subst hqn
  have hlow : w.heap.size + 1 < w1.heap.size := by have := hg.size; simp at this; omega
  have S0 := hidd (SimSt.start (p := p) (kv := kv) (k := p.kind) (t := T) (n := NN) (m := MM) (v := .slice qa 0 qc) hg)
  clear ho e hg HB
  go_wp2_with fail
  generalize hqb0 : w1.heap.size = qb at S0 hlow ⊢
  generalize w1.alloc (.cells #[.int .i64 p.kind, .string T, .int .i64 NN, .string MM, .slice qa 0 qc] 24) = W1 at S0 ⊢
  clear hqb0
  go_loopw [17] (fun s17 wr => s17 = .int .i64 0 ∧ wr = W1) (fun _ _ => 0)
  case atStart => exact ⟨rfl, rfl⟩
  case round =>
    obtain ⟨rfl, rfl⟩ := hrel
    obtain ⟨⟨c0, c1, c2, c3, c4⟩, ⟨z0, z1, z2, z3, z4⟩, ⟨o0, o1, o2, o3, o4⟩, zf, of⟩ := S0.out.cells
    go_wp2_with fail
    exact bodyPost_ret (results_pat (rb := w.heap.size + 1) rfl rfl (setPat_heap S0.out.res) rfl) rfl ⟨_, rfl, .leaf _ none 0 HNu.out rfl, setPat_grew S0.out.grew (by omega) _ _ _ _ _⟩
set_option maxRecDepth 100000 in
set_option maxHeartbeats 4000000 in
theorem simR_rtab1 (p : Pat) (kv : Value) (w : World) (h : SimIn p kv w) (hk0 : p.kids = []) {T : ByteArray} {NN : Int} {MM : ByteArray} (hbq : bareQ p = .mk p.kind T NN MM []) (hn : (p.n == 0) = false)
    (hsim : simple p = (.mk p.kind T NN MM [])) (hN : NumsOk (.mk p.kind T NN MM []))
    (t3 : (p.kind == 3) = false) (t4 : (p.kind == 4) = false) (t5 : (p.kind == 5) = false) (t6 : (p.kind == 6) = false) (t7 : (p.kind == 7) = false) (t2 : (p.kind == 2) = false) (t9 : (p.kind == 9) = true) (t20 : (p.kind == 20) = false) (t21 : (p.kind == 21) = false) (t22 : (p.kind == 22) = false) (t18 : (p.kind == 18) = false) (t19 : (p.kind == 19) = false) : Calls Tryd.prog 14 #[.agg (p.cells kv)] w (SingleEnd w.heap.size (simple p) w) := by
  have HB : Hid (Calls Tryd.prog 45 #[.agg (p.cells kv)] ((w.alloc (.cells #[.int .i64 p.kind, .string p.text, .int .i64 p.n, .string p.name, kv] 24)).alloc (.cells #[.int .i64 0, .string ⟨#[]⟩, .int .i64 0, .string ⟨#[]⟩, .slice none 0 0] 24)) fun e w' => ∃ a n c, e = .returned (.agg #[.int .i64 p.kind, .string T, .int .i64 NN, .string MM, .slice a n c]) ∧ PatsOwn w' (w.heap.size + 1 + 1) (w.heap.size + 1 + 1) (.slice a n c) [] ∧ Grew ((w.alloc (.cells #[.int .i64 p.kind, .string p.text, .int .i64 p.n, .string p.name, kv] 24)).alloc (.cells #[.int .i64 0, .string ⟨#[]⟩, .int .i64 0, .string ⟨#[]⟩, .slice none 0 0] 24)) w') := by
    have := Bare_any p kv ((w.alloc (.cells #[.int .i64 p.kind, .string p.text, .int .i64 p.n, .string p.name, kv] 24)).alloc (.cells #[.int .i64 0, .string ⟨#[]⟩, .int .i64 0, .string ⟨#[]⟩, .slice none 0 0] 24)) (h.pat.kept (((Grew.refl w).alloc _).alloc _)) h.nodes
    rw [hbq, World.size_alloc, World.size_alloc] at this
    refine this.mono ?_
    rintro e w' ⟨a, n, c, h1, h2, _, h3⟩
    exact ⟨a, n, c, h1, h2, h3⟩
  have HPt := hidd h.pat.ht
  have HNu := hidd hN
  have HSim := hidd hsim
  rw [HSim.out]
  rw [cells_eq] at HB ⊢
  clear h hk0 hbq hsim hN
  go_enter Tryd.func14, Tryd.ntmps14
  go_wp2_with fail
  refine HB.out.mono ?_; rintro e w1 ⟨qa, qn, qc, rfl, ho, hg⟩
  obtain ⟨_, _, e⟩ := ho.len
  have hqn : qn = 0 := by cases e; rfl
  subst hqn
  have hlow : w.heap.size + 1 < w1.heap.size := by have := hg.size; simp at this; omega
  have S0 := hidd (SimSt.start (p := p) (kv := kv) (k := p.kind) (t := T) (n := NN) (m := MM) (v := .slice qa 0 qc) hg)
  clear ho e hg HB
  go_wp2_with fail
  generalize hqb0 : w1.heap.size = qb at S0 hlow ⊢
  generalize w1.alloc (.cells #[.int .i64 p.kind, .string T, .int .i64 NN, .string MM, .slice qa 0 qc] 24) = W1 at S0 ⊢
  clear hqb0
  go_loopw [17] (fun s17 wr => s17 = .int .i64 0 ∧ wr = W1) (fun _ _ => 0)
  case atStart => exact ⟨rfl, rfl⟩
  case round =>
    obtain ⟨rfl, rfl⟩ := hrel
    obtain ⟨⟨c0, c1, c2, c3, c4⟩, ⟨z0, z1, z2, z3, z4⟩, ⟨o0, o1, o2, o3, o4⟩, zf, of⟩ := S0.out.cells
    go_wp2_with fail
    exact bodyPost_ret (results_pat (rb := w.heap.size + 1) rfl rfl (setPat_heap S0.out.res) rfl) rfl ⟨_, rfl, .leaf _ qa qc HNu.out rfl, setPat_grew S0.out.grew (by omega) _ _ _ _ _⟩
set_option maxRecDepth 100000 in
set_option maxHeartbeats 4000000 in
theorem simR_any1 (p : Pat) (kv : Value) (w : World) (h : SimIn p kv w) (hk0 : p.kids = []) {T : ByteArray} {NN : Int} {MM : ByteArray} (hbq : bareQ p = .mk p.kind T NN MM []) {sp : ByteArray} (hsp : spell p.text = sp) (hlen : ((sp.size : Int) == 1) = true) (hlen2 : sp.size = 1)
    (hsim : simple p = (litP sp)) (hN : NumsOk (litP sp))
    (t3 : (p.kind == 3) = true) (t4 : (p.kind == 4) = false) (t5 : (p.kind == 5) = false) (t6 : (p.kind == 6) = false) (t7 : (p.kind == 7) = false) (t2 : (p.kind == 2) = false) (t9 : (p.kind == 9) = false) (t20 : (p.kind == 20) = false) (t21 : (p.kind == 21) = false) (t22 : (p.kind == 22) = false) (t18 : (p.kind == 18) = false) (t19 : (p.kind == 19) = false) : Calls Tryd.prog 14 #[.agg (p.cells kv)] w (SingleEnd w.heap.size (simple p) w) := by
  have HB : Hid (Calls Tryd.prog 45 #[.agg (p.cells kv)] ((w.alloc (.cells #[.int .i64 p.kind, .string p.text, .int .i64 p.n, .string p.name, kv] 24)).alloc (.cells #[.int .i64 0, .string ⟨#[]⟩, .int .i64 0, .string ⟨#[]⟩, .slice none 0 0] 24)) fun e w' => ∃ a n c, e = .returned (.agg #[.int .i64 p.kind, .string T, .int .i64 NN, .string MM, .slice a n c]) ∧ PatsOwn w' (w.heap.size + 1 + 1) (w.heap.size + 1 + 1) (.slice a n c) [] ∧ Grew ((w.alloc (.cells #[.int .i64 p.kind, .string p.text, .int .i64 p.n, .string p.name, kv] 24)).alloc (.cells #[.int .i64 0, .string ⟨#[]⟩, .int .i64 0, .string ⟨#[]⟩, .slice none 0 0] 24)) w') := by
    have := Bare_any p kv ((w.alloc (.cells #[.int .i64 p.kind, .string p.text, .int .i64 p.n, .string p.name, kv] 24)).alloc (.cells #[.int .i64 0, .string ⟨#[]⟩, .int .i64 0, .string ⟨#[]⟩, .slice none 0 0] 24)) (h.pat.kept (((Grew.refl w).alloc _).alloc _)) h.nodes
    rw [hbq, World.size_alloc, World.size_alloc] at this
    refine this.mono ?_
    rintro e w' ⟨a, n, c, h1, h2, _, h3⟩
    exact ⟨a, n, c, h1, h2, h3⟩
  have HPt := hidd h.pat.ht
  have HNu := hidd hN
  have HSim := hidd hsim
  rw [HSim.out]
  rw [cells_eq] at HB ⊢
  clear h hk0 hbq hsim hN
  go_enter Tryd.func14, Tryd.ntmps14
  go_wp2_with fail
  refine HB.out.mono ?_; rintro e w1 ⟨qa, qn, qc, rfl, ho, hg⟩
  obtain ⟨_, _, e⟩ := ho.len
  have hqn : qn = 0 := by cases e; rfl
  subst hqn
  have hlow : w.heap.size + 1 < w1.heap.size := by have := hg.size; simp at this; omega
  have S0 := hidd (SimSt.start (p := p) (kv := kv) (k := p.kind) (t := T) (n := NN) (m := MM) (v := .slice qa 0 qc) hg)
  clear ho e hg HB
  go_wp2_with fail
  generalize hqb0 : w1.heap.size = qb at S0 hlow ⊢
  generalize w1.alloc (.cells #[.int .i64 p.kind, .string T, .int .i64 NN, .string MM, .slice qa 0 qc] 24) = W1 at S0 ⊢
  clear hqb0
  go_loopw [17] (fun s17 wr => s17 = .int .i64 0 ∧ wr = W1) (fun _ _ => 0)
  case atStart => exact ⟨rfl, rfl⟩
  case round =>
    obtain ⟨rfl, rfl⟩ := hrel
    obtain ⟨⟨c0, c1, c2, c3, c4⟩, ⟨z0, z1, z2, z3, z4⟩, ⟨o0, o1, o2, o3, o4⟩, zf, of⟩ := S0.out.cells
    have HBy := hidd (fun w1 => bytes6_any p.text w1 HPt.out)
    rw [hsp] at HBy
    go_wp2_with fail
    refine (HBy.out _).mono ?_; rintro e w2 ⟨rfl, g2⟩
    have S1 := hidd (S0.out.kept g2)
    clear g2 S0 HBy hsp c0 c1 c2 c3 c4 z0 z1 z2 z3 z4 o0 o1 o2 o3 o4 zf of
    obtain ⟨⟨c0, c1, c2, c3, c4⟩, ⟨z0, z1, z2, z3, z4⟩, ⟨o0, o1, o2, o3, o4⟩, zf, of⟩ := S1.out.cells
    have S2 := hidd (S1.out.setT sp)
    have hqz : qb ≠ w.heap.size + 1 := by omega
    have hqw : qb ≠ w.heap.size := by omega
    go_wp2_with fail
    generalize w2.setCell ⟨qb, 1, none⟩ (.string sp) = W2 at S2 ⊢
    refine (lit6_any _ _).mono ?_; rintro e w3 ⟨rfl, g3⟩
    have S3 := hidd (S2.out.kept g3)
    clear g3 S1 S2 c0 c1 c2 c3 c4 z0 z1 z2 z3 z4 o0 o1 o2 o3 o4 zf of
    obtain ⟨⟨c0, c1, c2, c3, c4⟩, ⟨z0, z1, z2, z3, z4⟩, ⟨o0, o1, o2, o3, o4⟩, zf, of⟩ := S3.out.cells
    go_wp2_with fail
    exact bodyPost_ret (results_pat (rb := w.heap.size + 1) rfl rfl (setPat_heap S3.out.res) rfl) rfl ⟨_, rfl, .leaf _ none 0 HNu.out rfl, setPat_grew S3.out.grew (by omega) _ _ _ _ _⟩
set_option maxRecDepth 100000 in
set_option maxHeartbeats 4000000 in
theorem simR_any (p : Pat) (kv : Value) (w : World) (h : SimIn p kv w) (hk0 : p.kids = []) {T : ByteArray} {NN : Int} {MM : ByteArray} (hbq : bareQ p = .mk p.kind T NN MM []) {sp : ByteArray} (hsp : spell p.text = sp) (hlen : ((sp.size : Int) == 1) = false) (hlen2 : (sp.size == 1) = false)
    (hsim : simple p = (.mk p.kind sp NN MM [])) (hN : NumsOk (.mk p.kind sp NN MM []))
    (t3 : (p.kind == 3) = true) (t4 : (p.kind == 4) = false) (t5 : (p.kind == 5) = false) (t6 : (p.kind == 6) = false) (t7 : (p.kind == 7) = false) (t2 : (p.kind == 2) = false) (t9 : (p.kind == 9) = false) (t20 : (p.kind == 20) = false) (t21 : (p.kind == 21) = false) (t22 : (p.kind == 22) = false) (t18 : (p.kind == 18) = false) (t19 : (p.kind == 19) = false) : Calls Tryd.prog 14 #[.agg (p.cells kv)] w (SingleEnd w.heap.size (simple p) w) := by
  have HB : Hid (Calls Tryd.prog 45 #[.agg (p.cells kv)] ((w.alloc (.cells #[.int .i64 p.kind, .string p.text, .int .i64 p.n, .string p.name, kv] 24)).alloc (.cells #[.int .i64 0, .string ⟨#[]⟩, .int .i64 0, .string ⟨#[]⟩, .slice none 0 0] 24)) fun e w' => ∃ a n c, e = .returned (.agg #[.int .i64 p.kind, .string T, .int .i64 NN, .string MM, .slice a n c]) ∧ PatsOwn w' (w.heap.size + 1 + 1) (w.heap.size + 1 + 1) (.slice a n c) [] ∧ Grew ((w.alloc (.cells #[.int .i64 p.kind, .string p.text, .int .i64 p.n, .string p.name, kv] 24)).alloc (.cells #[.int .i64 0, .string ⟨#[]⟩, .int .i64 0, .string ⟨#[]⟩, .slice none 0 0] 24)) w') := by
    have := Bare_any p kv ((w.alloc (.cells #[.int .i64 p.kind, .string p.text, .int .i64 p.n, .string p.name, kv] 24)).alloc (.cells #[.int .i64 0, .string ⟨#[]⟩, .int .i64 0, .string ⟨#[]⟩, .slice none 0 0] 24)) (h.pat.kept (((Grew.refl w).alloc _).alloc _)) h.nodes
    rw [hbq, World.size_alloc, World.size_alloc] at this
    refine this.mono ?_
    rintro e w' ⟨a, n, c, h1, h2, _, h3⟩
    exact ⟨a, n, c, h1, h2, h3⟩
  have HPt := hidd h.pat.ht
  have HNu := hidd hN
  have HSim := hidd hsim
  rw [HSim.out]
  rw [cells_eq] at HB ⊢
  clear h hk0 hbq hsim hN
  go_enter Tryd.func14, Tryd.ntmps14
  go_wp2_with fail
  refine HB.out.mono ?_; rintro e w1 ⟨qa, qn, qc, rfl, ho, hg⟩
  obtain ⟨_, _, e⟩ := ho.len
  have hqn : qn = 0 := by cases e; rfl
  subst hqn
  have hlow : w.heap.size + 1 < w1.heap.size := by have := hg.size; simp at this; omega
  have S0 := hidd (SimSt.start (p := p) (kv := kv) (k := p.kind) (t := T) (n := NN) (m := MM) (v := .slice qa 0 qc) hg)
  clear ho e hg HB
  go_wp2_with fail
  generalize hqb0 : w1.heap.size = qb at S0 hlow ⊢
  generalize w1.alloc (.cells #[.int .i64 p.kind, .string T, .int .i64 NN, .string MM, .slice qa 0 qc] 24) = W1 at S0 ⊢
  clear hqb0
  go_loopw [17] (fun s17 wr => s17 = .int .i64 0 ∧ wr = W1) (fun _ _ => 0)
  case atStart => exact ⟨rfl, rfl⟩
  case round =>
    obtain ⟨rfl, rfl⟩ := hrel
    obtain ⟨⟨c0, c1, c2, c3, c4⟩, ⟨z0, z1, z2, z3, z4⟩, ⟨o0, o1, o2, o3, o4⟩, zf, of⟩ := S0.out.cells
    have HBy := hidd (fun w1 => bytes6_any p.text w1 HPt.out)
    rw [hsp] at HBy
    go_wp2_with fail
    refine (HBy.out _).mono ?_; rintro e w2 ⟨rfl, g2⟩
    have S1 := hidd (S0.out.kept g2)
    clear g2 S0 HBy hsp c0 c1 c2 c3 c4 z0 z1 z2 z3 z4 o0 o1 o2 o3 o4 zf of
    obtain ⟨⟨c0, c1, c2, c3, c4⟩, ⟨z0, z1, z2, z3, z4⟩, ⟨o0, o1, o2, o3, o4⟩, zf, of⟩ := S1.out.cells
    have S2 := hidd (S1.out.setT sp)
    have hqz : qb ≠ w.heap.size + 1 := by omega
    have hqw : qb ≠ w.heap.size := by omega
    go_wp2_with fail
    exact bodyPost_ret (results_pat (rb := w.heap.size + 1) rfl rfl (setPat_heap S2.out.res) rfl) rfl ⟨_, rfl, .leaf _ qa qc HNu.out rfl, setPat_grew S2.out.grew (by omega) _ _ _ _ _⟩
set_option maxRecDepth 100000 in
set_option maxHeartbeats 4000000 in
theorem simR_text4 (p : Pat) (kv : Value) (w : World) (h : SimIn p kv w) (hk0 : p.kids = []) {T : ByteArray} {NN : Int} {MM : ByteArray} (hbq : bareQ p = .mk p.kind T NN MM []) {sp : ByteArray} (hsp : spell p.text = sp)
    (hsim : simple p = (.mk p.kind sp NN MM [])) (hN : NumsOk (.mk p.kind sp NN MM []))
    (t3 : (p.kind == 3) = false) (t4 : (p.kind == 4) = true) (t5 : (p.kind == 5) = false) (t6 : (p.kind == 6) = false) (t7 : (p.kind == 7) = false) (t2 : (p.kind == 2) = false) (t9 : (p.kind == 9) = false) (t20 : (p.kind == 20) = false) (t21 : (p.kind == 21) = false) (t22 : (p.kind == 22) = false) (t18 : (p.kind == 18) = false) (t19 : (p.kind == 19) = false) : Calls Tryd.prog 14 #[.agg (p.cells kv)] w (SingleEnd w.heap.size (simple p) w) := by
  have HB : Hid (Calls Tryd.prog 45 #[.agg (p.cells kv)] ((w.alloc (.cells #[.int .i64 p.kind, .string p.text, .int .i64 p.n, .string p.name, kv] 24)).alloc (.cells #[.int .i64 0, .string ⟨#[]⟩, .int .i64 0, .string ⟨#[]⟩, .slice none 0 0] 24)) fun e w' => ∃ a n c, e = .returned (.agg #[.int .i64 p.kind, .string T, .int .i64 NN, .string MM, .slice a n c]) ∧ PatsOwn w' (w.heap.size + 1 + 1) (w.heap.size + 1 + 1) (.slice a n c) [] ∧ Grew ((w.alloc (.cells #[.int .i64 p.kind, .string p.text, .int .i64 p.n, .string p.name, kv] 24)).alloc (.cells #[.int .i64 0, .string ⟨#[]⟩, .int .i64 0, .string ⟨#[]⟩, .slice none 0 0] 24)) w') := by
    have := Bare_any p kv ((w.alloc (.cells #[.int .i64 p.kind, .string p.text, .int .i64 p.n, .string p.name, kv] 24)).alloc (.cells #[.int .i64 0, .string ⟨#[]⟩, .int .i64 0, .string ⟨#[]⟩, .slice none 0 0] 24)) (h.pat.kept (((Grew.refl w).alloc _).alloc _)) h.nodes
    rw [hbq, World.size_alloc, World.size_alloc] at this
    refine this.mono ?_
    rintro e w' ⟨a, n, c, h1, h2, _, h3⟩
    exact ⟨a, n, c, h1, h2, h3⟩
  have HPt := hidd h.pat.ht
  have HNu := hidd hN
  have HSim := hidd hsim
  rw [HSim.out]
  rw [cells_eq] at HB ⊢
  clear h hk0 hbq hsim hN
  go_enter Tryd.func14, Tryd.ntmps14
  go_wp2_with fail
  refine HB.out.mono ?_; rintro e w1 ⟨qa, qn, qc, rfl, ho, hg⟩
  obtain ⟨_, _, e⟩ := ho.len
  have hqn : qn = 0 := by cases e; rfl
  subst hqn
  have hlow : w.heap.size + 1 < w1.heap.size := by have := hg.size; simp at this; omega
  have S0 := hidd (SimSt.start (p := p) (kv := kv) (k := p.kind) (t := T) (n := NN) (m := MM) (v := .slice qa 0 qc) hg)
  clear ho e hg HB
  go_wp2_with fail
  generalize hqb0 : w1.heap.size = qb at S0 hlow ⊢
  generalize w1.alloc (.cells #[.int .i64 p.kind, .string T, .int .i64 NN, .string MM, .slice qa 0 qc] 24) = W1 at S0 ⊢
  clear hqb0
  go_loopw [17] (fun s17 wr => s17 = .int .i64 0 ∧ wr = W1) (fun _ _ => 0)
  case atStart => exact ⟨rfl, rfl⟩
  case round =>
    obtain ⟨rfl, rfl⟩ := hrel
    obtain ⟨⟨c0, c1, c2, c3, c4⟩, ⟨z0, z1, z2, z3, z4⟩, ⟨o0, o1, o2, o3, o4⟩, zf, of⟩ := S0.out.cells
    have HBy := hidd (fun w1 => bytes6_any p.text w1 HPt.out)
    rw [hsp] at HBy
    go_wp2_with fail
    refine (HBy.out _).mono ?_; rintro e w2 ⟨rfl, g2⟩
    have S1 := hidd (S0.out.kept g2)
    clear g2 S0 HBy hsp c0 c1 c2 c3 c4 z0 z1 z2 z3 z4 o0 o1 o2 o3 o4 zf of
    obtain ⟨⟨c0, c1, c2, c3, c4⟩, ⟨z0, z1, z2, z3, z4⟩, ⟨o0, o1, o2, o3, o4⟩, zf, of⟩ := S1.out.cells
    have S2 := hidd (S1.out.setT sp)
    have hqz : qb ≠ w.heap.size + 1 := by omega
    have hqw : qb ≠ w.heap.size := by omega
    go_wp2_with fail
    exact bodyPost_ret (results_pat (rb := w.heap.size + 1) rfl rfl (setPat_heap S2.out.res) rfl) rfl ⟨_, rfl, .leaf _ qa qc HNu.out rfl, setPat_grew S2.out.grew (by omega) _ _ _ _ _⟩
set_option maxRecDepth 100000 in
set_option maxHeartbeats 4000000 in
theorem simR_text5 (p : Pat) (kv : Value) (w : World) (h : SimIn p kv w) (hk0 : p.kids = []) {T : ByteArray} {NN : Int} {MM : ByteArray} (hbq : bareQ p = .mk p.kind T NN MM []) {sp : ByteArray} (hsp : spell p.text = sp)
    (hsim : simple p = (.mk p.kind sp NN MM [])) (hN : NumsOk (.mk p.kind sp NN MM []))
    (t3 : (p.kind == 3) = false) (t4 : (p.kind == 4) = false) (t5 : (p.kind == 5) = true) (t6 : (p.kind == 6) = false) (t7 : (p.kind == 7) = false) (t2 : (p.kind == 2) = false) (t9 : (p.kind == 9) = false) (t20 : (p.kind == 20) = false) (t21 : (p.kind == 21) = false) (t22 : (p.kind == 22) = false) (t18 : (p.kind == 18) = false) (t19 : (p.kind == 19) = false) : Calls Tryd.prog 14 #[.agg (p.cells kv)] w (SingleEnd w.heap.size (simple p) w) := by
  have HB : Hid (Calls Tryd.prog 45 #[.agg (p.cells kv)] ((w.alloc (.cells #[.int .i64 p.kind, .string p.text, .int .i64 p.n, .string p.name, kv] 24)).alloc (.cells #[.int .i64 0, .string ⟨#[]⟩, .int .i64 0, .string ⟨#[]⟩, .slice none 0 0] 24)) fun e w' => ∃ a n c, e = .returned (.agg #[.int .i64 p.kind, .string T, .int .i64 NN, .string MM, .slice a n c]) ∧ PatsOwn w' (w.heap.size + 1 + 1) (w.heap.size + 1 + 1) (.slice a n c) [] ∧ Grew ((w.alloc (.cells #[.int .i64 p.kind, .string p.text, .int .i64 p.n, .string p.name, kv] 24)).alloc (.cells #[.int .i64 0, .string ⟨#[]⟩, .int .i64 0, .string ⟨#[]⟩, .slice none 0 0] 24)) w') := by
    have := Bare_any p kv ((w.alloc (.cells #[.int .i64 p.kind, .string p.text, .int .i64 p.n, .string p.name, kv] 24)).alloc (.cells #[.int .i64 0, .string ⟨#[]⟩, .int .i64 0, .string ⟨#[]⟩, .slice none 0 0] 24)) (h.pat.kept (((Grew.refl w).alloc _).alloc _)) h.nodes
    rw [hbq, World.size_alloc, World.size_alloc] at this
    refine this.mono ?_
    rintro e w' ⟨a, n, c, h1, h2, _, h3⟩
    exact ⟨a, n, c, h1, h2, h3⟩
  have HPt := hidd h.pat.ht
  have HNu := hidd hN
  have HSim := hidd hsim
  rw [HSim.out]
  rw [cells_eq] at HB ⊢
  clear h hk0 hbq hsim hN
  go_enter Tryd.func14, Tryd.ntmps14
  go_wp2_with fail
  refine HB.out.mono ?_; rintro e w1 ⟨qa, qn, qc, rfl, ho, hg⟩
  obtain ⟨_, _, e⟩ := ho.len
  have hqn : qn = 0 := by cases e; rfl
  subst hqn
  have hlow : w.heap.size + 1 < w1.heap.size := by have := hg.size; simp at this; omega
  have S0 := hidd (SimSt.start (p := p) (kv := kv) (k := p.kind) (t := T) (n := NN) (m := MM) (v := .slice qa 0 qc) hg)
  clear ho e hg HB
  go_wp2_with fail
  generalize hqb0 : w1.heap.size = qb at S0 hlow ⊢
  generalize w1.alloc (.cells #[.int .i64 p.kind, .string T, .int .i64 NN, .string MM, .slice qa 0 qc] 24) = W1 at S0 ⊢
  clear hqb0
  go_loopw [17] (fun s17 wr => s17 = .int .i64 0 ∧ wr = W1) (fun _ _ => 0)
  case atStart => exact ⟨rfl, rfl⟩
  case round =>
    obtain ⟨rfl, rfl⟩ := hrel
    obtain ⟨⟨c0, c1, c2, c3, c4⟩, ⟨z0, z1, z2, z3, z4⟩, ⟨o0, o1, o2, o3, o4⟩, zf, of⟩ := S0.out.cells
    have HBy := hidd (fun w1 => bytes6_any p.text w1 HPt.out)
    rw [hsp] at HBy
    go_wp2_with fail
    refine (HBy.out _).mono ?_; rintro e w2 ⟨rfl, g2⟩
    have S1 := hidd (S0.out.kept g2)
    clear g2 S0 HBy hsp c0 c1 c2 c3 c4 z0 z1 z2 z3 z4 o0 o1 o2 o3 o4 zf of
    obtain ⟨⟨c0, c1, c2, c3, c4⟩, ⟨z0, z1, z2, z3, z4⟩, ⟨o0, o1, o2, o3, o4⟩, zf, of⟩ := S1.out.cells
    have S2 := hidd (S1.out.setT sp)
    have hqz : qb ≠ w.heap.size + 1 := by omega
    have hqw : qb ≠ w.heap.size := by omega
    go_wp2_with fail
    exact bodyPost_ret (results_pat (rb := w.heap.size + 1) rfl rfl (setPat_heap S2.out.res) rfl) rfl ⟨_, rfl, .leaf _ qa qc HNu.out rfl, setPat_grew S2.out.grew (by omega) _ _ _ _ _⟩
set_option maxRecDepth 100000 in
set_option maxHeartbeats 4000000 in
theorem simR_text6 (p : Pat) (kv : Value) (w : World) (h : SimIn p kv w) (hk0 : p.kids = []) {T : ByteArray} {NN : Int} {MM : ByteArray} (hbq : bareQ p = .mk p.kind T NN MM []) {sp : ByteArray} (hsp : spell p.text = sp)
    (hsim : simple p = (.mk p.kind sp NN MM [])) (hN : NumsOk (.mk p.kind sp NN MM []))
    (t3 : (p.kind == 3) = false) (t4 : (p.kind == 4) = false) (t5 : (p.kind == 5) = false) (t6 : (p.kind == 6) = true) (t7 : (p.kind == 7) = false) (t2 : (p.kind == 2) = false) (t9 : (p.kind == 9) = false) (t20 : (p.kind == 20) = false) (t21 : (p.kind == 21) = false) (t22 : (p.kind == 22) = false) (t18 : (p.kind == 18) = false) (t19 : (p.kind == 19) = false) : Calls Tryd.prog 14 #[.agg (p.cells kv)] w (SingleEnd w.heap.size (simple p) w) := by
  have HB : Hid (Calls Tryd.prog 45 #[.agg (p.cells kv)] ((w.alloc (.cells #[.int .i64 p.kind, .string p.text, .int .i64 p.n, .string p.name, kv] 24)).alloc (.cells #[.int .i64 0, .string ⟨#[]⟩, .int .i64 0, .string ⟨#[]⟩, .slice none 0 0] 24)) fun e w' => ∃ a n c, e = .returned (.agg #[.int .i64 p.kind, .string T, .int .i64 NN, .string MM, .slice a n c]) ∧ PatsOwn w' (w.heap.size + 1 + 1) (w.heap.size + 1 + 1) (.slice a n c) [] ∧ Grew ((w.alloc (.cells #[.int .i64 p.kind, .string p.text, .int .i64 p.n, .string p.name, kv] 24)).alloc (.cells #[.int .i64 0, .string ⟨#[]⟩, .int .i64 0, .string ⟨#[]⟩, .slice none 0 0] 24)) w') := by
    have := Bare_any p kv ((w.alloc (.cells #[.int .i64 p.kind, .string p.text, .int .i64 p.n, .string p.name, kv] 24)).alloc (.cells #[.int .i64 0, .string ⟨#[]⟩, .int .i64 0, .string ⟨#[]⟩, .slice none 0 0] 24)) (h.pat.kept (((Grew.refl w).alloc _).alloc _)) h.nodes
    rw [hbq, World.size_alloc, World.size_alloc] at this
    refine this.mono ?_
    rintro e w' ⟨a, n, c, h1, h2, _, h3⟩
    exact ⟨a, n, c, h1, h2, h3⟩
  have HPt := hidd h.pat.ht
  have HNu := hidd hN
  have HSim := hidd hsim
  rw [HSim.out]
  rw [cells_eq] at HB ⊢
  clear h hk0 hbq hsim hN
  go_enter Tryd.func14, Tryd.ntmps14
  go_wp2_with fail
  refine HB.out.mono ?_; rintro e w1 ⟨qa, qn, qc, rfl, ho, hg⟩
  obtain ⟨_, _, e⟩ := ho.len
  have hqn : qn = 0 := by cases e; rfl
  subst hqn
  have hlow : w.heap.size + 1 < w1.heap.size := by have := hg.size; simp at this; omega
  have S0 := hidd (SimSt.start (p := p) (kv := kv) (k := p.kind) (t := T) (n := NN) (m := MM) (v := .slice qa 0 qc) hg)
  clear ho e hg HB
  go_wp2_with fail
  generalize hqb0 : w1.heap.size = qb at S0 hlow ⊢
  generalize w1.alloc (.cells #[.int .i64 p.kind, .string T, .int .i64 NN, .string MM, .slice qa 0 qc] 24) = W1 at S0 ⊢
  clear hqb0
  go_loopw [17] (fun s17 wr => s17 = .int .i64 0 ∧ wr = W1) (fun _ _ => 0)
  case atStart => exact ⟨rfl, rfl⟩
  case round =>
    obtain ⟨rfl, rfl⟩ := hrel
    obtain ⟨⟨c0, c1, c2, c3, c4⟩, ⟨z0, z1, z2, z3, z4⟩, ⟨o0, o1, o2, o3, o4⟩, zf, of⟩ := S0.out.cells
    have HBy := hidd (fun w1 => bytes6_any p.text w1 HPt.out)
    rw [hsp] at HBy
    go_wp2_with fail
    refine (HBy.out _).mono ?_; rintro e w2 ⟨rfl, g2⟩
    have S1 := hidd (S0.out.kept g2)
    clear g2 S0 HBy hsp c0 c1 c2 c3 c4 z0 z1 z2 z3 z4 o0 o1 o2 o3 o4 zf of
    obtain ⟨⟨c0, c1, c2, c3, c4⟩, ⟨z0, z1, z2, z3, z4⟩, ⟨o0, o1, o2, o3, o4⟩, zf, of⟩ := S1.out.cells
    have S2 := hidd (S1.out.setT sp)
    have hqz : qb ≠ w.heap.size + 1 := by omega
    have hqw : qb ≠ w.heap.size := by omega
    go_wp2_with fail
    exact bodyPost_ret (results_pat (rb := w.heap.size + 1) rfl rfl (setPat_heap S2.out.res) rfl) rfl ⟨_, rfl, .leaf _ qa qc HNu.out rfl, setPat_grew S2.out.grew (by omega) _ _ _ _ _⟩
set_option maxRecDepth 100000 in
set_option maxHeartbeats 4000000 in
theorem simR_text7 (p : Pat) (kv : Value) (w : World) (h : SimIn p kv w) (hk0 : p.kids = []) {T : ByteArray} {NN : Int} {MM : ByteArray} (hbq : bareQ p = .mk p.kind T NN MM []) {sp : ByteArray} (hsp : spell p.text = sp)
    (hsim : simple p = (.mk p.kind sp NN MM [])) (hN : NumsOk (.mk p.kind sp NN MM []))
    (t3 : (p.kind == 3) = false) (t4 : (p.kind == 4) = false) (t5 : (p.kind == 5) = false) (t6 : (p.kind == 6) = false) (t7 : (p.kind == 7) = true) (t2 : (p.kind == 2) = false) (t9 : (p.kind == 9) = false) (t20 : (p.kind == 20) = false) (t21 : (p.kind == 21) = false) (t22 : (p.kind == 22) = false) (t18 : (p.kind == 18) = false) (t19 : (p.kind == 19) = false) : Calls Tryd.prog 14 #[.agg (p.cells kv)] w (SingleEnd w.heap.size (simple p) w) := by
  have HB : Hid (Calls Tryd.prog 45 #[.agg (p.cells kv)] ((w.alloc (.cells #[.int .i64 p.kind, .string p.text, .int .i64 p.n, .string p.name, kv] 24)).alloc (.cells #[.int .i64 0, .string ⟨#[]⟩, .int .i64 0, .string ⟨#[]⟩, .slice none 0 0] 24)) fun e w' => ∃ a n c, e = .returned (.agg #[.int .i64 p.kind, .string T, .int .i64 NN, .string MM, .slice a n c]) ∧ PatsOwn w' (w.heap.size + 1 + 1) (w.heap.size + 1 + 1) (.slice a n c) [] ∧ Grew ((w.alloc (.cells #[.int .i64 p.kind, .string p.text, .int .i64 p.n, .string p.name, kv] 24)).alloc (.cells #[.int .i64 0, .string ⟨#[]⟩, .int .i64 0, .string ⟨#[]⟩, .slice none 0 0] 24)) w') := by
    have := Bare_any p kv ((w.alloc (.cells #[.int .i64 p.kind, .string p.text, .int .i64 p.n, .string p.name, kv] 24)).alloc (.cells #[.int .i64 0, .string ⟨#[]⟩, .int .i64 0, .string ⟨#[]⟩, .slice none 0 0] 24)) (h.pat.kept (((Grew.refl w).alloc _).alloc _)) h.nodes
    rw [hbq, World.size_alloc, World.size_alloc] at this
    refine this.mono ?_
    rintro e w' ⟨a, n, c, h1, h2, _, h3⟩
    exact ⟨a, n, c, h1, h2, h3⟩
  have HPt := hidd h.pat.ht
  have HNu := hidd hN
  have HSim := hidd hsim
  rw [HSim.out]
  rw [cells_eq] at HB ⊢
  clear h hk0 hbq hsim hN
  go_enter Tryd.func14, Tryd.ntmps14
  go_wp2_with fail
  refine HB.out.mono ?_; rintro e w1 ⟨qa, qn, qc, rfl, ho, hg⟩
  obtain ⟨_, _, e⟩ := ho.len
  have hqn : qn = 0 := by cases e; rfl
  subst hqn
  have hlow : w.heap.size + 1 < w1.heap.size := by have := hg.size; simp at this; omega
  have S0 := hidd (SimSt.start (p := p) (kv := kv) (k := p.kind) (t := T) (n := NN) (m := MM) (v := .slice qa 0 qc) hg)
  clear ho e hg HB
  go_wp2_with fail
  generalize hqb0 : w1.heap.size = qb at S0 hlow ⊢
  generalize w1.alloc (.cells #[.int .i64 p.kind, .string T, .int .i64 NN, .string MM, .slice qa 0 qc] 24) = W1 at S0 ⊢
  clear hqb0
  go_loopw [17] (fun s17 wr => s17 = .int .i64 0 ∧ wr = W1) (fun _ _ => 0)
  case atStart => exact ⟨rfl, rfl⟩
  case round =>
    obtain ⟨rfl, rfl⟩ := hrel
    obtain ⟨⟨c0, c1, c2, c3, c4⟩, ⟨z0, z1, z2, z3, z4⟩, ⟨o0, o1, o2, o3, o4⟩, zf, of⟩ := S0.out.cells
    have HBy := hidd (fun w1 => bytes6_any p.text w1 HPt.out)
    rw [hsp] at HBy
    go_wp2_with fail
    refine (HBy.out _).mono ?_; rintro e w2 ⟨rfl, g2⟩
    have S1 := hidd (S0.out.kept g2)
    clear g2 S0 HBy hsp c0 c1 c2 c3 c4 z0 z1 z2 z3 z4 o0 o1 o2 o3 o4 zf of
    obtain ⟨⟨c0, c1, c2, c3, c4⟩, ⟨z0, z1, z2, z3, z4⟩, ⟨o0, o1, o2, o3, o4⟩, zf, of⟩ := S1.out.cells
    have S2 := hidd (S1.out.setT sp)
    have hqz : qb ≠ w.heap.size + 1 := by omega
    have hqw : qb ≠ w.heap.size := by omega
    go_wp2_with fail
    exact bodyPost_ret (results_pat (rb := w.heap.size + 1) rfl rfl (setPat_heap S2.out.res) rfl) rfl ⟨_, rfl, .leaf _ qa qc HNu.out rfl, setPat_grew S2.out.grew (by omega) _ _ _ _ _⟩
end Go.Proofs.YtglfdfeideeeaaaDoor
