/- tune: simple at every right pattern. Printed. -/
import Derived.Test.YtglfdfeideeeaaaDoorTnSimA
namespace Go.Proofs.YtglfdfeideeeaaaDoor
open Go.RowKit
set_option linter.unusedVariables false
theorem nodes_pos (p : Pat) : 0 < nodesP p := by
  obtain ⟨k, t, n, m, l⟩ := p
  rw [nodesP]; omega
theorem nodes_mem {q : Pat} : ∀ {l : List Pat}, q ∈ l → nodesP q ≤ nodesL l
  | p :: l, h => by
    rw [nodesL]
    rcases List.mem_cons.1 h with rfl | h
    · omega
    · have := nodes_mem h; omega
theorem simple_at (p : Pat) (kv : Value) (w : World) (h : SimpIn p kv w) : Calls Tryd.prog 12 #[.agg (p.cells kv)] w (SingleEnd w.heap.size (simple p) w) := by
  obtain ⟨k, t, n, m, l⟩ := p
  have hk : 1 ≤ k ∧ k ≤ 24 := ((errW_iff _).1 h.right).1.kind
  show Calls _ _ #[.agg #[.int .i64 k, .string t, .int .i64 n, .string m, kv]] _ _
  have hc : k = 1 ∨ k = 2 ∨ k = 3 ∨ k = 4 ∨ k = 5 ∨ k = 6 ∨ k = 7 ∨ k = 8 ∨ k = 9 ∨ k = 10 ∨ k = 11 ∨ k = 12 ∨ k = 13 ∨ k = 14 ∨ k = 15 ∨ k = 16 ∨ k = 17 ∨ k = 18 ∨ k = 19 ∨ k = 20 ∨ k = 21 ∨ k = 22 ∨ k = 23 ∨ k = 24 := by omega
  obtain ⟨q, hq⟩ : ∃ q, (l.map simple).getD 0 Pat.zero = q := ⟨_, rfl⟩
  rcases hc with rfl | rfl | rfl | rfl | rfl | rfl | rfl | rfl | rfl | rfl | rfl | rfl | rfl | rfl | rfl | rfl | rfl | rfl | rfl | rfl | rfl | rfl | rfl | rfl
  · exact simple_k1 t n m l kv w h
  · by_cases e : n = 0
    · exact simple_k2b t n m l kv w h e
    · exact simple_k2a t n m l kv w h e
  · by_cases e : (spell t).size = 1
    · exact simple_k3b t n m l kv w h e
    · exact simple_k3a t n m l kv w h e
  · exact simple_k4 t n m l kv w h
  · exact simple_k5 t n m l kv w h
  · exact simple_k6 t n m l kv w h
  · exact simple_k7 t n m l kv w h
  · exact simple_k8 t n m l kv w h
  · by_cases e : n = 0
    · exact simple_k9b t n m l kv w h e
    · exact simple_k9a t n m l kv w h e
  · exact simple_k10 t n m l kv w h
  · exact simple_k11 t n m l kv w h
  · exact simple_k12 t n m l kv w h
  · exact simple_k13 t n m l kv w h
  · exact simple_k14 t n m l kv w h
  · exact simple_k15 t n m l kv w h
  · exact simple_k16 t n m l kv w h
  · exact simple_k17 t n m l kv w h
  · exact simple_k18 t n m l kv w h
  · exact simple_k19 t n m l kv w h
  · cases e1 : emptyP ((l.map simple).getD 0 Pat.zero) with
    | true => exact simple_k20a t n m l kv w h e1
    | false =>
      cases e2 : (((l.map simple).getD 0 Pat.zero).kind == 15) with
      | true => exact simple_k20b t n m l kv w h e1 e2
      | false =>
        cases e3 : (((l.map simple).getD 0 Pat.zero).kind == 2) with
        | true =>
          by_cases e4 : ((l.map simple).getD 0 Pat.zero).n = 1
          · exact simple_k20c t n m l kv w h e1 e2 e3 e4
          · exact simple_k20e t n m l kv w h e1 e2 e3 e4
        | false => exact simple_k20d t n m l kv w h e1 e2 e3
  · cases e1 : (((l.map simple).getD 0 Pat.zero).kind == 15) with
    | true => exact simple_k21a t n m l kv w h e1
    | false =>
      cases e2 : (((l.map simple).getD 0 Pat.zero).kind == 17) with
      | true => exact simple_k21b t n m l kv w h e1 e2
      | false => exact simple_k21c t n m l kv w h e1 e2
  · cases e1 : (((l.map simple).getD 0 Pat.zero).kind == 15) with
    | true => exact simple_k22a t n m l kv w h e1
    | false =>
      cases e2 : (((l.map simple).getD 0 Pat.zero).kind == 17) with
      | true => exact simple_k22b t n m l kv w h e1 e2
      | false => exact simple_k22c t n m l kv w h e1 e2
  · exact simple_k23 t n m l kv w h
  · exact simple_k24 t n m l kv w h
theorem simple_fuel : ∀ (f : Nat) (p : Pat) (kv : Value) (w : World), nodesP p ≤ f → PatV w kv p → errW p = 0 → nodesP p ≤ 4096 → TabZ w →
    Calls Tryd.prog 12 #[.agg (p.cells kv)] w (SingleEnd w.heap.size (simple p) w)
  | 0, p, kv, w, hf, _, _, _, _ => by have := nodes_pos p; omega
  | f + 1, p, kv, w, hf, hv, hr, hn, hT => by
    refine simple_at p kv w ⟨hv, hr, hn, hT, fun q hq kv' w' g hv' => ?_⟩
    have h1 : nodesP q + 1 ≤ nodesP p := by
      obtain ⟨k, t, n, m, l⟩ := p
      have := nodes_mem (show q ∈ l from hq)
      rw [nodesP]; omega
    exact simple_fuel f q kv' w' (by omega) hv' (((errW_iff _).1 hr).2 q hq) (by omega) (hT.kept g)
theorem simple_any (p : Pat) (kv : Value) (w : World) (hv : PatV w kv p) (hr : errW p = 0) (hn : nodesP p ≤ 4096) (hT : TabZ w) :
    Calls Tryd.prog 12 #[.agg (p.cells kv)] w (SingleEnd w.heap.size (simple p) w) := simple_fuel _ p kv w (Nat.le_refl _) hv hr hn hT
end Go.Proofs.YtglfdfeideeeaaaDoor
namespace Go.Proofs.YtglfdfeideeeaaaDoor
open Go.RowKit
set_option linter.unusedVariables false
def SimplifyEnd (p : Pat) (w : World) (e : Ending) (w' : World) : Prop :=
  (patErr p = 0 ∧ ∃ a n c, e = .returned (.tuple #[.agg #[.int .i64 (simple p).kind, .string (simple p).text, .int .i64 (simple p).n, .string (simple p).name, .slice a n c], .int .i64 0]) ∧ PQ w' (fun b => w.heap.size ≤ b) (.slice a n c) (simple p) ∧ Grew w w') ∨
  (patErr p ≠ 0 ∧ e = .returned (.tuple #[.agg #[.int .i64 0, .string ⟨#[]⟩, .int .i64 0, .string ⟨#[]⟩, .slice none 0 0], .int .i64 (patErr p)]) ∧ Grew w w')
set_option maxRecDepth 100000 in
set_option maxHeartbeats 1000000 in
theorem Simplify_any (p : Pat) (kv : Value) (w : World) (hv : PatV w kv p) (hT : TabZ w) :
    Calls Tryd.prog 4 #[.agg (p.cells kv)] w (SimplifyEnd p w) := by
  have HV := hidd (And.intro hv hT)
  have HW : Hid (∀ w1, Grew w w1 → Calls Tryd.prog 11 #[.agg (p.cells kv)] w1 fun e w' => e = .returned (.int .i64 (patErr p)) ∧ Grew w1 w') := fun w1 g => Wrong_any kv p w1 (hv.kept g)
  clear hv hT
  rw [cells_eq] at HW ⊢
  have HH0 : Hid (Grew w ((w.alloc (.cells #[.int .i64 p.kind, .string p.text, .int .i64 p.n, .string p.name, kv] 24)).alloc (.cells #[.int .i64 0, .string ⟨#[]⟩, .int .i64 0, .string ⟨#[]⟩, .slice none 0 0] 24)) ∧ ((w.alloc (.cells #[.int .i64 p.kind, .string p.text, .int .i64 p.n, .string p.name, kv] 24)).alloc (.cells #[.int .i64 0, .string ⟨#[]⟩, .int .i64 0, .string ⟨#[]⟩, .slice none 0 0] 24)).heap[w.heap.size]? = some (.cells #[.int .i64 p.kind, .string p.text, .int .i64 p.n, .string p.name, kv] 24 (0, 0)) ∧ ((w.alloc (.cells #[.int .i64 p.kind, .string p.text, .int .i64 p.n, .string p.name, kv] 24)).alloc (.cells #[.int .i64 0, .string ⟨#[]⟩, .int .i64 0, .string ⟨#[]⟩, .slice none 0 0] 24)).heap[w.heap.size + 1]? = some (.cells #[.int .i64 0, .string ⟨#[]⟩, .int .i64 0, .string ⟨#[]⟩, .slice none 0 0] 24 (0, 0))) :=
    ⟨((Grew.refl w).alloc _).alloc _, heap_more (heap_alloc_new w _), heap_second w _ _⟩
  by_cases h0 : patErr p = 0
  · have HE := hidd h0
    rw [h0] at HW
    have HS : Hid (∀ w1, Grew w w1 → Calls Tryd.prog 12 #[.agg (p.cells kv)] w1 (SingleEnd w1.heap.size (simple p) w1)) := fun w1 g => simple_any p kv w1 (HV.out.1.kept g) ((patErr_iff p).1 h0).1 ((patErr_iff p).1 h0).2.1 (HV.out.2.kept g)
    rw [cells_eq] at HS
    clear h0
    go_enter Tryd.func4, Tryd.ntmps4
    go_wp2_with fail
    refine (HW.out _ HH0.out.1).mono ?_; rintro e w1 ⟨rfl, g1⟩
    have HG1 := hidd (HH0.out.1.trans g1)
    have HB1 := hidd (heap_kept g1 HH0.out.2.1)
    have HZ1 := hidd (heap_kept g1 HH0.out.2.2)
    clear g1
    obtain ⟨⟨b0, b1, b2, b3, b4⟩, bf⟩ := five_cells HB1.out
    go_wp2_with fail
    refine (HS.out _ HG1.out).mono ?_; rintro e w2 ⟨kv2, rfl, hq, g2⟩
    obtain ⟨qa, qn, qc, rfl⟩ := hq.form
    have HG2 := hidd (HG1.out.trans g2)
    have HZ2 := hidd (heap_kept g2 HZ1.out)
    have HQ := hidd hq
    have hs : w.heap.size + 1 < w1.heap.size := (Array.getElem?_eq_some_iff.1 HZ1.out).1
    obtain ⟨⟨z0, z1, z2, z3, z4⟩, zf⟩ := five_cells HZ2.out
    rw [cells_eq]
    obtain ⟨X, hX⟩ : ∃ X, simple p = X := ⟨_, rfl⟩
    rw [hX] at HQ ⊢
    have HXX := hidd hX
    clear g2 hq hX b0 b1 b2 b3 b4 bf HB1 HZ1 HH0
    go_wp2_with fail
    refine bodyPost_ret (results_pat2 rfl rfl rfl (setPat_heap HZ2.out) rfl) rfl (Or.inl ⟨HE.out, ?_⟩)
    rw [HXX.out]
    obtain ⟨v, h1, h2, h3⟩ := own_end X (N0 := w.heap.size) (w0 := w) HQ.out hs (by omega) HG2.out (Nat.le_succ _) (.int .i64 X.kind) (.string X.text) (.int .i64 X.n) (.string X.name) (.slice qa qn qc)
    cases h1
    exact ⟨qa, qn, qc, rfl, h2, h3⟩
  · have HE := hidd h0
    obtain ⟨z, hz⟩ : ∃ z, patErr p = z := ⟨_, rfl⟩
    rw [hz] at HW
    have kz : (z == 0) = false := by rw [beq_eq_false_iff_ne, ← hz]; exact h0
    have HZZ := hidd hz
    clear h0 hz
    go_enter Tryd.func4, Tryd.ntmps4
    go_wp2_with fail
    refine (HW.out _ HH0.out.1).mono ?_; rintro e w1 ⟨rfl, g1⟩
    have HG1 := hidd (HH0.out.1.trans g1)
    have HZ1 := hidd (heap_kept g1 HH0.out.2.2)
    clear g1
    obtain ⟨⟨z0, z1, z2, z3, z4⟩, zf⟩ := five_cells HZ1.out
    go_wp2_with fail
    exact bodyPost_ret (results_pat2 rfl rfl rfl (setPat_heap HZ1.out) rfl) rfl (Or.inr ⟨HE.out, by rw [HZZ.out]; rfl, setPat_grew HG1.out (Nat.le_succ _) _ _ _ _ _⟩)
end Go.Proofs.YtglfdfeideeeaaaDoor
