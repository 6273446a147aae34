/- The document's Ends: where a piece ends that has one end at most: the kinds whose end is reckoned. Printed. -/
import Derived.Test.YtcmdhgamlhnioaaDoorScRO
import Derived.Deep.DeepAppendWide
import Derived.Test.YtcmdhgamlhnioaaDoorScEnd
import Derived.Test.YtcmdhgamlhnioaaDoorScRN
import Derived.Test.YtcmdhgamlhnioaaDoorScInv
/-! The document's Ends: where a piece ends that has one end at most: the kinds whose end is reckoned. Printed. -/
namespace Go.Proofs.YtcmdhgamlhnioaaDoor
open Go.RowKit
set_option linter.unusedVariables false
theorem info_int : (Tryd.prog.info? 3).map (fun i => (i.zero, i.size, i.bytes)) = some (some (.int .i64 0), 1, 8) := by kernel_rfl
/-- The slice v holds the end, or none. -/
def EndsAt (w : World) (v : Value) : Option Nat → Prop
  | none => v = .slice none 0 0
  | some e => ∃ g c, v = .slice (some ⟨g, 0, none⟩) 1 c ∧ w.cell? ⟨g, 0, none⟩ = some (.int .i64 (e : Nat))
theorem one_int (w : World) (z : Int) (e : Nat) (hz : z = e) : ∃ v w', (Builtin.append_ #[86, 86] 86 #[.slice none 0 0, .slice (some ⟨w.heap.size, 0, none⟩) 1 1]).run Tryd.prog (w.alloc (.cells #[.int .i64 z] 3)) = .ok v w' ∧ Grew w w' ∧ EndsAt w' v (some e) := by
  subst hz
  obtain ⟨i0, hi, hz0, hz1, hz2⟩ := info_parts info_int
  have hc : (w.alloc (.cells #[.int .i64 (e : Int)] 3)).cell? ⟨w.heap.size, 0, none⟩ = some (.int .i64 (e : Int)) := cell_of_heap (heap_alloc_new _ _) rfl
  obtain ⟨v, w', h1, h2, h3, _⟩ := run_append_own_wide (P := Tryd.prog) (w.alloc (.cells #[.int .i64 (e : Int)] 3)) w.heap.size 86 86 3 i0 _ 1 8 Tryd.underlying86 hi hz0 hz1 hz2 rfl (by decide) (.slice none 0 0) 0 [] ⟨rfl, Or.inl ⟨rfl, rfl⟩⟩ ⟨w.heap.size, 0, none⟩ 1 1 [.int .i64 (e : Int)] rfl
    (fun j u hj => by
      match j, hj with
      | 0, hj => simp at hj; subst hj; exact hc
      | j + 1, hj => simp at hj) (fun u hu => by simp at hu; subst hu; rfl) (by unfold maxLen; omega) (by omega) (by simp)
  rw [Nat.zero_add, List.nil_append] at h2
  refine ⟨v, w', h1, ((Grew.refl w).alloc _).grown h3 (fun b hb => by cases hb), ?_⟩
  rcases h2.2 with ⟨_, e2⟩ | ⟨g, cap, cur, e1, _, _, _, _, _, _⟩
  · cases e2
  · subst e1
    refine ⟨g, cap, rfl, ?_⟩
    have := World.ownsRow.cellAt h2 0 (by decide)
    simpa using this
section
variable {w : World} {lb : Nat} {S : ByteArray}
set_option maxRecDepth 100000 in
set_option maxHeartbeats 2000000 in
theorem Ends_2 (p : Pat) (kv : Value) (a n : Nat) (hk : p.kind = 2) (hn : p.n = (n : Int)) (hS : w.cell? ⟨lb, 1, none⟩ = some (.string S)) (hL : S.size ≤ 65536) (ha : a ≤ S.size) (hn6 : n ≤ 65536) :
    Calls Tryd.prog 39 #[.pointer (some ⟨lb, 0, none⟩), .agg (p.cells kv), .int .i64 a] w fun r w' => ∃ v, r = .returned v ∧ Grew w w' ∧ EndsAt w' v (if a + n ≤ S.size then some (a + n) else none) := by
  have HG : Hid (Grew w (w.alloc (.cells (p.cells kv) 25))) := (Grew.refl w).alloc _
  have HQ : Hid ((w.alloc (.cells (p.cells kv) 25)).heap[w.heap.size]? = some (.cells (p.cells kv) 25 (0, 0))) := heap_alloc_new w _
  unfold Pat.cells at HG HQ ⊢
  rw [hk, hn] at HG HQ ⊢
  go_enter Tryd.func39, Tryd.ntmps39
  go_upto_region 1 with fail
  generalize w.alloc (.cells #[.int .i64 2, .string p.text, .int .i64 (n : Int), .string p.name, kv] 25) = W at HG HQ ⊢
  have q0 : W.cell? ⟨w.heap.size, 0, none⟩ = some (.int .i64 2) := cell_of_heap HQ.out rfl
  have q1 : W.cell? ⟨w.heap.size, 1, none⟩ = some (.string p.text) := cell_of_heap HQ.out rfl
  have q2 : W.cell? ⟨w.heap.size, 2, none⟩ = some (.int .i64 (n : Int)) := cell_of_heap HQ.out rfl
  have c1 := HG.out.keeps hS
  generalize w.heap.size = b at q0 q1 q2 HQ ⊢
  by_cases hc : a + n ≤ S.size
  · have HX : Hid ((if a + n ≤ S.size then some (a + n) else none) = some (a + n)) := if_pos hc
    have w1 : wrap64 ((a : Int) + (n : Int)) = (a : Int) + (n : Int) := by unfold wrap64; omega
    have d1 : decide ((a : Int) + (n : Int) ≤ (S.size : Int)) = true := decide_eq_true (by omega)
    have d2 : decide (a + n ≤ S.size) = true := decide_eq_true (by omega)
    obtain ⟨v, w', hap, g1, h1⟩ := one_int W ((a : Int) + (n : Int)) (a + n) (by omega)
    have HE := hidd (And.intro g1 h1)
    clear g1 h1
    go_wp2_with (at_builtin; refine wpList_append_eq rfl rfl rfl rfl hap ?_)
    go_ret
    exact ⟨_, rfl, HG.out.trans HE.out.1, by first | exact HE.out.2 | (rw [HX.out]; exact HE.out.2)⟩
  · have HX : Hid ((if a + n ≤ S.size then some (a + n) else none) = none) := if_neg hc
    have w1 : wrap64 ((a : Int) + (n : Int)) = (a : Int) + (n : Int) := by unfold wrap64; omega
    have d1 : decide ((a : Int) + (n : Int) ≤ (S.size : Int)) = false := decide_eq_false (by omega)
    have d2 : decide (a + n ≤ S.size) = false := decide_eq_false (by omega)
    go_wp2_with fail
    go_ret
    exact ⟨_, rfl, HG.out, by first | rfl | (rw [HX.out]; rfl)⟩
set_option maxRecDepth 100000 in
set_option maxHeartbeats 2000000 in
theorem Ends_9 (p : Pat) (kv : Value) (a n : Nat) (hk : p.kind = 9) (hn : p.n = (n : Int)) (hS : w.cell? ⟨lb, 1, none⟩ = some (.string S)) (hL : S.size ≤ 65536) (ha : a ≤ S.size) (hn6 : n ≤ 65536) :
    Calls Tryd.prog 39 #[.pointer (some ⟨lb, 0, none⟩), .agg (p.cells kv), .int .i64 a] w fun r w' => ∃ v, r = .returned v ∧ Grew w w' ∧ EndsAt w' v (if a + n ≤ S.size then some (S.size - n) else none) := by
  have HG : Hid (Grew w (w.alloc (.cells (p.cells kv) 25))) := (Grew.refl w).alloc _
  have HQ : Hid ((w.alloc (.cells (p.cells kv) 25)).heap[w.heap.size]? = some (.cells (p.cells kv) 25 (0, 0))) := heap_alloc_new w _
  unfold Pat.cells at HG HQ ⊢
  rw [hk, hn] at HG HQ ⊢
  go_enter Tryd.func39, Tryd.ntmps39
  go_upto_region 1 with fail
  generalize w.alloc (.cells #[.int .i64 9, .string p.text, .int .i64 (n : Int), .string p.name, kv] 25) = W at HG HQ ⊢
  have q0 : W.cell? ⟨w.heap.size, 0, none⟩ = some (.int .i64 9) := cell_of_heap HQ.out rfl
  have q1 : W.cell? ⟨w.heap.size, 1, none⟩ = some (.string p.text) := cell_of_heap HQ.out rfl
  have q2 : W.cell? ⟨w.heap.size, 2, none⟩ = some (.int .i64 (n : Int)) := cell_of_heap HQ.out rfl
  have c1 := HG.out.keeps hS
  generalize w.heap.size = b at q0 q1 q2 HQ ⊢
  by_cases hc : a + n ≤ S.size
  · have HX : Hid ((if a + n ≤ S.size then some (S.size - n) else none) = some (S.size - n)) := if_pos hc
    have w1 : wrap64 ((a : Int) + (n : Int)) = (a : Int) + (n : Int) := by unfold wrap64; omega
    have d1 : decide ((a : Int) + (n : Int) ≤ (S.size : Int)) = true := decide_eq_true (by omega)
    have d2 : decide (a + n ≤ S.size) = true := decide_eq_true (by omega)
    have w2 : wrap64 ((S.size : Int) - (n : Int)) = (S.size : Int) - (n : Int) := by unfold wrap64; omega
    obtain ⟨v, w', hap, g1, h1⟩ := one_int W ((S.size : Int) - (n : Int)) (S.size - n) (by omega)
    have HE := hidd (And.intro g1 h1)
    clear g1 h1
    go_wp2_with (at_builtin; refine wpList_append_eq rfl rfl rfl rfl hap ?_)
    go_ret
    exact ⟨_, rfl, HG.out.trans HE.out.1, by first | exact HE.out.2 | (rw [HX.out]; exact HE.out.2)⟩
  · have HX : Hid ((if a + n ≤ S.size then some (S.size - n) else none) = none) := if_neg hc
    have w1 : wrap64 ((a : Int) + (n : Int)) = (a : Int) + (n : Int) := by unfold wrap64; omega
    have d1 : decide ((a : Int) + (n : Int) ≤ (S.size : Int)) = false := decide_eq_false (by omega)
    have d2 : decide (a + n ≤ S.size) = false := decide_eq_false (by omega)
    go_wp2_with fail
    go_ret
    exact ⟨_, rfl, HG.out, by first | rfl | (rw [HX.out]; rfl)⟩
set_option maxRecDepth 100000 in
set_option maxHeartbeats 2000000 in
theorem Ends_10 (p : Pat) (kv : Value) (a n : Nat) (hk : p.kind = 10) (hn : p.n = (n : Int)) (hS : w.cell? ⟨lb, 1, none⟩ = some (.string S)) (hL : S.size ≤ 65536) (ha : a ≤ S.size) (hn6 : n ≤ 65536) :
    Calls Tryd.prog 39 #[.pointer (some ⟨lb, 0, none⟩), .agg (p.cells kv), .int .i64 a] w fun r w' => ∃ v, r = .returned v ∧ Grew w w' ∧ EndsAt w' v (if a = n then some a else none) := by
  have HG : Hid (Grew w (w.alloc (.cells (p.cells kv) 25))) := (Grew.refl w).alloc _
  have HQ : Hid ((w.alloc (.cells (p.cells kv) 25)).heap[w.heap.size]? = some (.cells (p.cells kv) 25 (0, 0))) := heap_alloc_new w _
  unfold Pat.cells at HG HQ ⊢
  rw [hk, hn] at HG HQ ⊢
  go_enter Tryd.func39, Tryd.ntmps39
  go_upto_region 1 with fail
  generalize w.alloc (.cells #[.int .i64 10, .string p.text, .int .i64 (n : Int), .string p.name, kv] 25) = W at HG HQ ⊢
  have q0 : W.cell? ⟨w.heap.size, 0, none⟩ = some (.int .i64 10) := cell_of_heap HQ.out rfl
  have q1 : W.cell? ⟨w.heap.size, 1, none⟩ = some (.string p.text) := cell_of_heap HQ.out rfl
  have q2 : W.cell? ⟨w.heap.size, 2, none⟩ = some (.int .i64 (n : Int)) := cell_of_heap HQ.out rfl
  have c1 := HG.out.keeps hS
  generalize w.heap.size = b at q0 q1 q2 HQ ⊢
  by_cases hc : a = n
  · have HX : Hid ((if a = n then some a else none) = some (a)) := if_pos hc
    subst hc
    obtain ⟨v, w', hap, g1, h1⟩ := one_int W (a : Int) (a) (by omega)
    have HE := hidd (And.intro g1 h1)
    clear g1 h1
    go_wp2_with (at_builtin; refine wpList_append_eq rfl rfl rfl rfl hap ?_)
    go_ret
    exact ⟨_, rfl, HG.out.trans HE.out.1, by first | exact HE.out.2 | (rw [HX.out]; exact HE.out.2)⟩
  · have HX : Hid ((if a = n then some a else none) = none) := if_neg hc
    have d1 : ((a : Int) == (n : Int)) = false := by rw [beq_eq_false_iff_ne]; omega
    go_wp2_with fail
    go_ret
    exact ⟨_, rfl, HG.out, by first | rfl | (rw [HX.out]; rfl)⟩
set_option maxRecDepth 100000 in
set_option maxHeartbeats 2000000 in
theorem Ends_11 (p : Pat) (kv : Value) (a n : Nat) (hk : p.kind = 11) (hn : p.n = (n : Int)) (hS : w.cell? ⟨lb, 1, none⟩ = some (.string S)) (hL : S.size ≤ 65536) (ha : a ≤ S.size) (hn6 : n ≤ 65536) :
    Calls Tryd.prog 39 #[.pointer (some ⟨lb, 0, none⟩), .agg (p.cells kv), .int .i64 a] w fun r w' => ∃ v, r = .returned v ∧ Grew w w' ∧ EndsAt w' v (if a + n = S.size then some a else none) := by
  have HG : Hid (Grew w (w.alloc (.cells (p.cells kv) 25))) := (Grew.refl w).alloc _
  have HQ : Hid ((w.alloc (.cells (p.cells kv) 25)).heap[w.heap.size]? = some (.cells (p.cells kv) 25 (0, 0))) := heap_alloc_new w _
  unfold Pat.cells at HG HQ ⊢
  rw [hk, hn] at HG HQ ⊢
  go_enter Tryd.func39, Tryd.ntmps39
  go_upto_region 1 with fail
  generalize w.alloc (.cells #[.int .i64 11, .string p.text, .int .i64 (n : Int), .string p.name, kv] 25) = W at HG HQ ⊢
  have q0 : W.cell? ⟨w.heap.size, 0, none⟩ = some (.int .i64 11) := cell_of_heap HQ.out rfl
  have q1 : W.cell? ⟨w.heap.size, 1, none⟩ = some (.string p.text) := cell_of_heap HQ.out rfl
  have q2 : W.cell? ⟨w.heap.size, 2, none⟩ = some (.int .i64 (n : Int)) := cell_of_heap HQ.out rfl
  have c1 := HG.out.keeps hS
  generalize w.heap.size = b at q0 q1 q2 HQ ⊢
  by_cases hc : a + n = S.size
  · have HX : Hid ((if a + n = S.size then some a else none) = some (a)) := if_pos hc
    have w1 : wrap64 ((a : Int) + (n : Int)) = (a : Int) + (n : Int) := by unfold wrap64; omega
    have d1 : ((a : Int) + (n : Int) == (S.size : Int)) = true := by rw [beq_iff_eq]; omega
    obtain ⟨v, w', hap, g1, h1⟩ := one_int W (a : Int) (a) (by omega)
    have HE := hidd (And.intro g1 h1)
    clear g1 h1
    go_wp2_with (at_builtin; refine wpList_append_eq rfl rfl rfl rfl hap ?_)
    go_ret
    exact ⟨_, rfl, HG.out.trans HE.out.1, by first | exact HE.out.2 | (rw [HX.out]; exact HE.out.2)⟩
  · have HX : Hid ((if a + n = S.size then some a else none) = none) := if_neg hc
    have w1 : wrap64 ((a : Int) + (n : Int)) = (a : Int) + (n : Int) := by unfold wrap64; omega
    have d1 : ((a : Int) + (n : Int) == (S.size : Int)) = false := by rw [beq_eq_false_iff_ne]; omega
    go_wp2_with fail
    go_ret
    exact ⟨_, rfl, HG.out, by first | rfl | (rw [HX.out]; rfl)⟩
set_option maxRecDepth 100000 in
set_option maxHeartbeats 2000000 in
theorem Ends_12 (p : Pat) (kv : Value) (a n : Nat) (hk : p.kind = 12) (hn : p.n = (n : Int)) (hS : w.cell? ⟨lb, 1, none⟩ = some (.string S)) (hL : S.size ≤ 65536) (ha : a ≤ S.size) (hn6 : n ≤ 65536) :
    Calls Tryd.prog 39 #[.pointer (some ⟨lb, 0, none⟩), .agg (p.cells kv), .int .i64 a] w fun r w' => ∃ v, r = .returned v ∧ Grew w w' ∧ EndsAt w' v (some S.size) := by
  have HG : Hid (Grew w (w.alloc (.cells (p.cells kv) 25))) := (Grew.refl w).alloc _
  have HQ : Hid ((w.alloc (.cells (p.cells kv) 25)).heap[w.heap.size]? = some (.cells (p.cells kv) 25 (0, 0))) := heap_alloc_new w _
  unfold Pat.cells at HG HQ ⊢
  rw [hk, hn] at HG HQ ⊢
  go_enter Tryd.func39, Tryd.ntmps39
  go_upto_region 1 with fail
  generalize w.alloc (.cells #[.int .i64 12, .string p.text, .int .i64 (n : Int), .string p.name, kv] 25) = W at HG HQ ⊢
  have q0 : W.cell? ⟨w.heap.size, 0, none⟩ = some (.int .i64 12) := cell_of_heap HQ.out rfl
  have q1 : W.cell? ⟨w.heap.size, 1, none⟩ = some (.string p.text) := cell_of_heap HQ.out rfl
  have q2 : W.cell? ⟨w.heap.size, 2, none⟩ = some (.int .i64 (n : Int)) := cell_of_heap HQ.out rfl
  have c1 := HG.out.keeps hS
  generalize w.heap.size = b at q0 q1 q2 HQ ⊢
  have HX : Hid ((some S.size) = some (S.size)) := rfl
  obtain ⟨v, w', hap, g1, h1⟩ := one_int W (S.size : Int) (S.size) (by omega)
  have HE := hidd (And.intro g1 h1)
  clear g1 h1
  go_wp2_with (at_builtin; refine wpList_append_eq rfl rfl rfl rfl hap ?_)
  go_ret
  exact ⟨_, rfl, HG.out.trans HE.out.1, by first | exact HE.out.2 | (rw [HX.out]; exact HE.out.2)⟩
set_option maxRecDepth 100000 in
set_option maxHeartbeats 2000000 in
theorem Ends_8 (p : Pat) (kv : Value) (a n : Nat) (hk : p.kind = 8) (hn : p.n = (n : Int)) (hS : w.cell? ⟨lb, 1, none⟩ = some (.string S)) (hL : S.size ≤ 65536) (ha : a ≤ S.size) (hn6 : n ≤ 65536) :
    Calls Tryd.prog 39 #[.pointer (some ⟨lb, 0, none⟩), .agg (p.cells kv), .int .i64 a] w fun r w' => ∃ v, r = .returned v ∧ Grew w w' ∧ EndsAt w' v (if a ≤ n ∧ n ≤ S.size then some n else none) := by
  have HG : Hid (Grew w (w.alloc (.cells (p.cells kv) 25))) := (Grew.refl w).alloc _
  have HQ : Hid ((w.alloc (.cells (p.cells kv) 25)).heap[w.heap.size]? = some (.cells (p.cells kv) 25 (0, 0))) := heap_alloc_new w _
  unfold Pat.cells at HG HQ ⊢
  rw [hk, hn] at HG HQ ⊢
  go_enter Tryd.func39, Tryd.ntmps39
  go_upto_region 1 with fail
  generalize w.alloc (.cells #[.int .i64 8, .string p.text, .int .i64 (n : Int), .string p.name, kv] 25) = W at HG HQ ⊢
  have q0 : W.cell? ⟨w.heap.size, 0, none⟩ = some (.int .i64 8) := cell_of_heap HQ.out rfl
  have q1 : W.cell? ⟨w.heap.size, 1, none⟩ = some (.string p.text) := cell_of_heap HQ.out rfl
  have q2 : W.cell? ⟨w.heap.size, 2, none⟩ = some (.int .i64 (n : Int)) := cell_of_heap HQ.out rfl
  have c1 := HG.out.keeps hS
  generalize w.heap.size = b at q0 q1 q2 HQ ⊢
  by_cases hc : a ≤ n ∧ n ≤ S.size
  · have HX : Hid ((if a ≤ n ∧ n ≤ S.size then some n else none) = some (n)) := if_pos hc
    have d1 : decide ((a : Int) ≤ (n : Int)) = true := decide_eq_true (by omega)
    have d2 : decide (a ≤ n) = true := decide_eq_true (by omega)
    have d3 : decide ((n : Int) ≤ (S.size : Int)) = true := decide_eq_true (by omega)
    have d4 : decide (n ≤ S.size) = true := decide_eq_true (by omega)
    obtain ⟨v, w', hap, g1, h1⟩ := one_int W (n : Int) (n) (by omega)
    have HE := hidd (And.intro g1 h1)
    clear g1 h1
    go_wp2_with (at_builtin; refine wpList_append_eq rfl rfl rfl rfl hap ?_)
    go_ret
    exact ⟨_, rfl, HG.out.trans HE.out.1, by first | exact HE.out.2 | (rw [HX.out]; exact HE.out.2)⟩
  · have HX : Hid ((if a ≤ n ∧ n ≤ S.size then some n else none) = none) := if_neg hc
    by_cases hc1 : a ≤ n
    · have d1 : decide ((a : Int) ≤ (n : Int)) = true := decide_eq_true (by omega)
      have d2 : decide (a ≤ n) = true := decide_eq_true (by omega)
      have d3 : decide ((n : Int) ≤ (S.size : Int)) = false := decide_eq_false (by omega)
      have d4 : decide (n ≤ S.size) = false := decide_eq_false (by omega)
      go_wp2_with fail
      go_ret
      exact ⟨_, rfl, HG.out, by first | rfl | (rw [HX.out]; rfl)⟩
    · have d1 : decide ((a : Int) ≤ (n : Int)) = false := decide_eq_false (by omega)
      have d2 : decide (a ≤ n) = false := decide_eq_false (by omega)
      go_wp2_with fail
      go_ret
      exact ⟨_, rfl, HG.out, by first | rfl | (rw [HX.out]; rfl)⟩
end
end Go.Proofs.YtcmdhgamlhnioaaDoor
/-! The document's Ends: the kinds that look at bytes. Printed. -/
namespace Go.Proofs.YtcmdhgamlhnioaaDoor
open Go.RowKit
set_option linter.unusedVariables false
theorem txt_eq' {a b : ByteArray} (h : a = b) : (a.toList == b.toList) = true := by subst h; simp
theorem txt_ne' {a b : ByteArray} (h : a ≠ b) : (a.toList == b.toList) = false := by
  rw [beq_eq_false_iff_ne]
  intro e
  rw [Lib.toList_data, Lib.toList_data] at e
  exact h (sameText_iff.1 (by unfold sameText; rw [e]; simp))
section
variable {w : World} {lb : Nat} {S : ByteArray}
set_option maxRecDepth 100000 in
set_option maxHeartbeats 4000000 in
theorem Ends_3 (p : Pat) (kv : Value) (a : Nat) (hk : p.kind = 3) (hpt : p.text.size ≤ maxLen) (hS : w.cell? ⟨lb, 1, none⟩ = some (.string S)) (hL : S.size ≤ 65536) (ha : a ≤ S.size) :
    Calls Tryd.prog 39 #[.pointer (some ⟨lb, 0, none⟩), .agg (p.cells kv), .int .i64 a] w fun r w' => ∃ v, r = .returned v ∧ Grew w w' ∧ EndsAt w' v (if h : a < S.size then (if p.text.data.toList.contains (S[a]'h) = true then some (a + 1) else none) else none) := by
  have HIn := hidd (fun (c : UInt8) w => in_any c p.text w hpt)
  clear hpt
  obtain ⟨X, hX⟩ : ∃ X, (if h : a < S.size then (if p.text.data.toList.contains (S[a]'h) = true then some (a + 1) else none) else none) = X := ⟨_, rfl⟩
  rw [hX]
  have HXd := hidd hX
  clear hX
  have HG : Hid (Grew w (w.alloc (.cells (p.cells kv) 25))) := (Grew.refl w).alloc _
  have HQ : Hid ((w.alloc (.cells (p.cells kv) 25)).heap[w.heap.size]? = some (.cells (p.cells kv) 25 (0, 0))) := heap_alloc_new w _
  unfold Pat.cells at HG HQ ⊢
  rw [hk] at HG HQ ⊢
  go_enter Tryd.func39, Tryd.ntmps39
  go_upto_region 1 with fail
  generalize w.alloc (.cells #[.int .i64 3, .string p.text, .int .i64 p.n, .string p.name, kv] 25) = W at HG HQ ⊢
  have q0 : W.cell? ⟨w.heap.size, 0, none⟩ = some (.int .i64 3) := cell_of_heap HQ.out rfl
  have q1 : W.cell? ⟨w.heap.size, 1, none⟩ = some (.string p.text) := cell_of_heap HQ.out rfl
  have c1 := HG.out.keeps hS
  generalize w.heap.size = b at q0 q1 HQ ⊢
  by_cases hlt : a < S.size
  · have d1 : decide ((a : Int) < (S.size : Int)) = true := decide_eq_true (by omega)
    have d2 : decide (a < S.size) = true := decide_eq_true hlt
    have w1 : wrap64 ((a : Int) + 1) = (a : Int) + 1 := by unfold wrap64; omega
    have HI := hidd (fun w => HIn.out (S[a]'hlt) w)
    have HX : Hid (X = if p.text.data.toList.contains (S[a]'hlt) = true then some (a + 1) else none) := HXd.out.symm.trans (dif_pos hlt)
    by_cases hc : p.text.data.toList.contains (S[a]'hlt) = true
    · rw [hc] at HI HX
      have HOne := hidd (fun n => one_int (W.drewN n) ((a : Int) + 1) (a + 1) (by omega))
      clear hc
      go_wp2_with fail
      go_quiet ((go_at_call 33; exact Calls.quiet_of_same (HI.out _)))
      obtain ⟨v, w', hap, g1, h1⟩ := HOne.out nq
      rw [show (W.drewN nq).heap.size = W.heap.size by simp] at hap
      have HE := hidd (And.intro g1 h1)
      clear g1 h1
      go_wp2_with (at_builtin; refine wpList_append_eq rfl rfl rfl rfl hap ?_)
      go_ret
      exact ⟨_, rfl, (HG.out.drewN _).trans HE.out.1, by rw [HX.out]; exact HE.out.2⟩
    · rw [Bool.not_eq_true] at hc
      rw [hc] at HI HX
      have HOne := hidd (fun n => one_int (W.drewN n) ((a : Int) + 1) (a + 1) (by omega))
      clear hc
      go_wp2_with fail
      go_quiet ((go_at_call 33; exact Calls.quiet_of_same (HI.out _)))
      go_wp2_with fail
      go_ret
      exact ⟨_, rfl, HG.out.drewN _, by rw [HX.out]; rfl⟩
  · have d1 : decide ((a : Int) < (S.size : Int)) = false := decide_eq_false (by omega)
    have d2 : decide (a < S.size) = false := decide_eq_false hlt
    have HX : Hid (X = none) := HXd.out.symm.trans (dif_neg hlt)
    go_wp2_with fail
    go_quiet (fail)
    go_wp2_with fail
    go_ret
    exact ⟨_, rfl, HG.out.drewN _, by rw [HX.out]; rfl⟩
set_option maxRecDepth 100000 in
set_option maxHeartbeats 4000000 in
theorem Ends_4 (p : Pat) (kv : Value) (a : Nat) (hk : p.kind = 4) (hpt : p.text.size ≤ maxLen) (hS : w.cell? ⟨lb, 1, none⟩ = some (.string S)) (hL : S.size ≤ 65536) (ha : a ≤ S.size) :
    Calls Tryd.prog 39 #[.pointer (some ⟨lb, 0, none⟩), .agg (p.cells kv), .int .i64 a] w fun r w' => ∃ v, r = .returned v ∧ Grew w w' ∧ EndsAt w' v (if h : a < S.size then (if p.text.data.toList.contains (S[a]'h) = false then some (a + 1) else none) else none) := by
  have HIn := hidd (fun (c : UInt8) w => in_any c p.text w hpt)
  clear hpt
  obtain ⟨X, hX⟩ : ∃ X, (if h : a < S.size then (if p.text.data.toList.contains (S[a]'h) = false then some (a + 1) else none) else none) = X := ⟨_, rfl⟩
  rw [hX]
  have HXd := hidd hX
  clear hX
  have HG : Hid (Grew w (w.alloc (.cells (p.cells kv) 25))) := (Grew.refl w).alloc _
  have HQ : Hid ((w.alloc (.cells (p.cells kv) 25)).heap[w.heap.size]? = some (.cells (p.cells kv) 25 (0, 0))) := heap_alloc_new w _
  unfold Pat.cells at HG HQ ⊢
  rw [hk] at HG HQ ⊢
  go_enter Tryd.func39, Tryd.ntmps39
  go_upto_region 1 with fail
  generalize w.alloc (.cells #[.int .i64 4, .string p.text, .int .i64 p.n, .string p.name, kv] 25) = W at HG HQ ⊢
  have q0 : W.cell? ⟨w.heap.size, 0, none⟩ = some (.int .i64 4) := cell_of_heap HQ.out rfl
  have q1 : W.cell? ⟨w.heap.size, 1, none⟩ = some (.string p.text) := cell_of_heap HQ.out rfl
  have c1 := HG.out.keeps hS
  generalize w.heap.size = b at q0 q1 HQ ⊢
  by_cases hlt : a < S.size
  · have d1 : decide ((a : Int) < (S.size : Int)) = true := decide_eq_true (by omega)
    have d2 : decide (a < S.size) = true := decide_eq_true hlt
    have w1 : wrap64 ((a : Int) + 1) = (a : Int) + 1 := by unfold wrap64; omega
    have HI := hidd (fun w => HIn.out (S[a]'hlt) w)
    have HX : Hid (X = if p.text.data.toList.contains (S[a]'hlt) = false then some (a + 1) else none) := HXd.out.symm.trans (dif_pos hlt)
    by_cases hc : p.text.data.toList.contains (S[a]'hlt) = true
    · rw [hc] at HI HX
      have HOne := hidd (fun n => one_int (W.drewN n) ((a : Int) + 1) (a + 1) (by omega))
      clear hc
      go_wp2_with fail
      go_quiet ((go_at_call 33; exact Calls.quiet_of_same (HI.out _)))
      go_wp2_with fail
      go_ret
      exact ⟨_, rfl, HG.out.drewN _, by rw [HX.out]; rfl⟩
    · rw [Bool.not_eq_true] at hc
      rw [hc] at HI HX
      have HOne := hidd (fun n => one_int (W.drewN n) ((a : Int) + 1) (a + 1) (by omega))
      clear hc
      go_wp2_with fail
      go_quiet ((go_at_call 33; exact Calls.quiet_of_same (HI.out _)))
      obtain ⟨v, w', hap, g1, h1⟩ := HOne.out nq
      rw [show (W.drewN nq).heap.size = W.heap.size by simp] at hap
      have HE := hidd (And.intro g1 h1)
      clear g1 h1
      go_wp2_with (at_builtin; refine wpList_append_eq rfl rfl rfl rfl hap ?_)
      go_ret
      exact ⟨_, rfl, (HG.out.drewN _).trans HE.out.1, by rw [HX.out]; exact HE.out.2⟩
  · have d1 : decide ((a : Int) < (S.size : Int)) = false := decide_eq_false (by omega)
    have d2 : decide (a < S.size) = false := decide_eq_false hlt
    have HX : Hid (X = none) := HXd.out.symm.trans (dif_neg hlt)
    go_wp2_with fail
    go_quiet (fail)
    go_wp2_with fail
    go_ret
    exact ⟨_, rfl, HG.out.drewN _, by rw [HX.out]; rfl⟩
end
end Go.Proofs.YtcmdhgamlhnioaaDoor
/-! The document's Ends: a literal. Printed. -/
namespace Go.Proofs.YtcmdhgamlhnioaaDoor
open Go.RowKit
set_option linter.unusedVariables false
section
variable {w : World} {lb : Nat} {S : ByteArray}
set_option maxRecDepth 100000 in
set_option maxHeartbeats 4000000 in
theorem Ends_1 (p : Pat) (kv : Value) (a : Nat) (hk : p.kind = 1) (hpt : p.text.size ≤ maxLen) (hS : w.cell? ⟨lb, 1, none⟩ = some (.string S)) (hL : S.size ≤ 65536) (ha : a ≤ S.size) :
    Calls Tryd.prog 39 #[.pointer (some ⟨lb, 0, none⟩), .agg (p.cells kv), .int .i64 a] w fun r w' => ∃ v, r = .returned v ∧ Grew w w' ∧ EndsAt w' v (if p.bytes.isPrefixOf (S.data.toList.drop a) then some (a + p.bytes.length) else none) := by
  have hsz : p.bytes.length = p.text.size := rfl
  have hp9 : p.text.size ≤ 9223372036854775807 := by unfold maxLen at hpt; omega
  have wb : wrap64 ((S.size : Int) - (a : Int)) = (S.size : Int) - (a : Int) := by unfold wrap64; omega
  clear hpt
  obtain ⟨X, hX⟩ : ∃ X, (if p.bytes.isPrefixOf (S.data.toList.drop a) then some (a + p.bytes.length) else none) = X := ⟨_, rfl⟩
  rw [hX]
  have HXd := hidd hX
  clear hX
  have HG : Hid (Grew w (w.alloc (.cells (p.cells kv) 25))) := (Grew.refl w).alloc _
  have HQ : Hid ((w.alloc (.cells (p.cells kv) 25)).heap[w.heap.size]? = some (.cells (p.cells kv) 25 (0, 0))) := heap_alloc_new w _
  unfold Pat.cells at HG HQ ⊢
  rw [hk] at HG HQ ⊢
  go_enter Tryd.func39, Tryd.ntmps39
  go_upto_region 1 with fail
  generalize w.alloc (.cells #[.int .i64 1, .string p.text, .int .i64 p.n, .string p.name, kv] 25) = W at HG HQ ⊢
  have q0 : W.cell? ⟨w.heap.size, 0, none⟩ = some (.int .i64 1) := cell_of_heap HQ.out rfl
  have q1 : W.cell? ⟨w.heap.size, 1, none⟩ = some (.string p.text) := cell_of_heap HQ.out rfl
  have c1 := HG.out.keeps hS
  generalize w.heap.size = b at q0 q1 HQ ⊢
  by_cases hle : a + p.text.size ≤ S.size
  · have d1 : decide ((p.text.size : Int) ≤ (S.size : Int) - (a : Int)) = true := decide_eq_true (by omega)
    have w1 : wrap64 ((a : Int) + (p.text.size : Int)) = ((a + p.text.size : Nat) : Int) := by unfold wrap64; omega
    have i1 : (a : Int) ≤ ((a + p.text.size : Nat) : Int) := by omega
    have i2 : ((a + p.text.size : Nat) : Int) ≤ (S.size : Int) := by omega
    have hex : (S.extract a (a + p.text.size)).data.toList = (S.data.toList.drop a).take p.text.size := by
      rw [Lib.extract_data, Nat.add_sub_cancel_left]
    have hpf : p.bytes.isPrefixOf (S.data.toList.drop a) = true ↔ S.extract a (a + p.text.size) = p.text := by
      rw [List.isPrefixOf_iff_prefix, List.prefix_iff_eq_take]
      constructor
      · intro e
        have e2 : p.text.data.toList = (S.data.toList.drop a).take p.text.size := e
        rw [← hex] at e2
        exact ByteArray.ext (Array.ext' e2.symm)
      · intro e
        show p.text.data.toList = (S.data.toList.drop a).take p.text.size
        rw [← hex, e]
    obtain ⟨z, hz⟩ : ∃ z, a + p.text.size = z := ⟨_, rfl⟩
    obtain ⟨U, hU⟩ : ∃ U, S.extract a z = U := ⟨_, rfl⟩
    by_cases hc : S.extract a (a + p.text.size) = p.text
    · have HX : Hid (X = some z) := by rw [Hid, ← HXd.out, if_pos (hpf.2 hc)]; exact congrArg some hz
      have e1 := txt_eq' hc
      rw [hz] at w1 i1 i2 e1
      rw [hU] at e1
      have HOne := hidd (fun n => one_int (W.drewN n) ((a : Int) + (p.text.size : Int)) z (by omega))
      clear hc hex hsz hpf
      go_wp2_with fail
      go_quiet (fail)
      obtain ⟨v, w', hap, g1, h1⟩ := HOne.out nq
      rw [show (W.drewN nq).heap.size = W.heap.size by simp] at hap
      have HE := hidd (And.intro g1 h1)
      clear g1 h1
      go_wp2_with (at_builtin; refine wpList_append_eq rfl rfl rfl rfl hap ?_)
      go_ret
      exact ⟨_, rfl, (HG.out.drewN _).trans HE.out.1, by rw [HX.out]; exact HE.out.2⟩
    · have HX : Hid (X = none) := by rw [Hid, ← HXd.out, if_neg (fun h => hc (hpf.1 h))]
      have e1 := txt_ne' hc
      rw [hz] at w1 i1 i2 e1
      rw [hU] at e1
      clear hc hex hsz hpf
      go_wp2_with fail
      go_quiet (fail)
      go_wp2_with fail
      go_ret
      exact ⟨_, rfl, HG.out.drewN _, by rw [HX.out]; rfl⟩
  · have d1 : decide ((p.text.size : Int) ≤ (S.size : Int) - (a : Int)) = false := decide_eq_false (by omega)
    have HX : Hid (X = none) := by
      rw [Hid, ← HXd.out, if_neg]
      rw [List.isPrefixOf_iff_prefix]
      intro h
      have h2 := h.length_le
      have h3 : S.data.toList.length = S.size := rfl
      rw [List.length_drop, h3, hsz] at h2
      omega
    go_wp2_with fail
    go_quiet (fail)
    go_wp2_with fail
    go_ret
    exact ⟨_, rfl, HG.out.drewN _, by rw [HX.out]; rfl⟩
end
end Go.Proofs.YtcmdhgamlhnioaaDoor
/-! The document's Ends: spans and breaks. Printed. -/
namespace Go.Proofs.YtcmdhgamlhnioaaDoor
open Go.RowKit
set_option linter.unusedVariables false
theorem tw_len {P : UInt8 → Bool} {l : List UInt8} : ∀ (k a : Nat), a + k ≤ l.length → (∀ j (h : j < l.length), a ≤ j → j < a + k → P l[j] = true) → (∀ h : a + k < l.length, P l[a + k] = false) → ((l.drop a).takeWhile P).length = k
  | 0, a, hk, _, h => by
    by_cases hl : a < l.length
    · simp only [Nat.add_zero] at h
      rw [List.drop_eq_getElem_cons hl, List.takeWhile_cons, if_neg (by rw [h hl]; decide)]; rfl
    · rw [List.drop_of_length_le (by omega)]; rfl
  | k + 1, a, hk, h1, h2 => by
    have hl : a < l.length := by omega
    rw [List.drop_eq_getElem_cons hl, List.takeWhile_cons, if_pos (h1 a hl (Nat.le_refl _) (by omega)), List.length_cons, tw_len k (a + 1) (by omega) (fun j h k1 k2 => h1 j h (by omega) (by omega)) (fun h => by
      have := h2 (by omega)
      simp only [show a + (k + 1) = a + 1 + k by omega] at this
      exact this)]
section
variable {w : World} {lb : Nat} {S : ByteArray}
set_option maxRecDepth 100000 in
set_option maxHeartbeats 4000000 in
theorem Ends_5 (p : Pat) (kv : Value) (a : Nat) (hk : p.kind = 5) (hpt : p.text.size ≤ maxLen) (hS : w.cell? ⟨lb, 1, none⟩ = some (.string S)) (hL : S.size ≤ 65536) (ha : a ≤ S.size) :
    Calls Tryd.prog 39 #[.pointer (some ⟨lb, 0, none⟩), .agg (p.cells kv), .int .i64 a] w fun r w' => ∃ v, r = .returned v ∧ Grew w w' ∧ EndsAt w' v (if 0 < ((S.data.toList.drop a).takeWhile p.bytes.contains).length then some (a + ((S.data.toList.drop a).takeWhile p.bytes.contains).length) else none) := by
  have HIn := hidd (fun (c : UInt8) w => in_any c p.text w hpt)
  clear hpt
  have HTw : Hid (∀ e, a ≤ e → e ≤ S.size → (∀ j (h : j < S.size), a ≤ j → j < e → p.text.data.toList.contains (S[j]'h) = true) → (∀ h : e < S.size, p.text.data.toList.contains (S[e]'h) = false) → ((S.data.toList.drop a).takeWhile p.bytes.contains).length = e - a) := fun e h1 h2 h3 h4 => by
    obtain ⟨k, rfl⟩ : ∃ k, e = a + k := ⟨e - a, by omega⟩
    rw [Nat.add_sub_cancel_left]
    exact tw_len k a h2 (fun j h k1 k2 => by have := h3 j h k1 k2; exact this) (fun h => by have := h4 h; exact this)
  obtain ⟨X, hX⟩ : ∃ X, (if 0 < ((S.data.toList.drop a).takeWhile p.bytes.contains).length then some (a + ((S.data.toList.drop a).takeWhile p.bytes.contains).length) else none) = X := ⟨_, rfl⟩
  rw [hX]
  have HXd := hidd hX
  clear hX
  have HG : Hid (Grew w (w.alloc (.cells (p.cells kv) 25))) := (Grew.refl w).alloc _
  have HQ : Hid ((w.alloc (.cells (p.cells kv) 25)).heap[w.heap.size]? = some (.cells (p.cells kv) 25 (0, 0))) := heap_alloc_new w _
  unfold Pat.cells at HG HQ ⊢
  rw [hk] at HG HQ ⊢
  go_enter Tryd.func39, Tryd.ntmps39
  go_upto_region 1 with fail
  generalize w.alloc (.cells #[.int .i64 5, .string p.text, .int .i64 p.n, .string p.name, kv] 25) = W at HG HQ ⊢
  have q0 : W.cell? ⟨w.heap.size, 0, none⟩ = some (.int .i64 5) := cell_of_heap HQ.out rfl
  have q1 : W.cell? ⟨w.heap.size, 1, none⟩ = some (.string p.text) := cell_of_heap HQ.out rfl
  have c1 := HG.out.keeps hS
  generalize w.heap.size = b at q0 q1 HQ ⊢
  go_wp2_with fail
  go_loopw [10] (fun u wr => ∃ e : Nat, u = .int .i64 e ∧ a ≤ e ∧ e ≤ S.size ∧ Hid (∀ j (h : j < S.size), a ≤ j → j < e → p.text.data.toList.contains (S[j]'h) = true) ∧ Hid (Grew w wr) ∧ wr.cell? ⟨b, 0, none⟩ = some (.int .i64 5) ∧ wr.cell? ⟨b, 1, none⟩ = some (.string p.text) ∧ wr.cell? ⟨lb, 1, none⟩ = some (.string S)) (fun u _ => S.size - (intOf u).toNat)
  case atStart => exact ⟨a, rfl, Nat.le_refl _, ha, (fun j h k1 k2 => by omega), HG, q0, q1, c1⟩
  case round =>
    obtain ⟨e, rfl, hae, heL, HJ, HGr, r0, r1, r2⟩ := hrel
    clear HG q0 q1 c1
    by_cases hlt : e < S.size
    · have d1 : decide ((e : Int) < (S.size : Int)) = true := decide_eq_true (by omega)
      have d2 : decide (e < S.size) = true := decide_eq_true hlt
      have w1 : wrap64 ((e : Int) + 1) = ((e + 1 : Nat) : Int) := by unfold wrap64; omega
      have HI := hidd (fun w => HIn.out (S[e]'hlt) w)
      by_cases hc : p.text.data.toList.contains (S[e]'hlt) = true
      · rw [hc] at HI
        have HJ2 : Hid (∀ j (h : j < S.size), a ≤ j → j < e + 1 → p.text.data.toList.contains (S[j]'h) = true) := fun j h k1 k2 => by
          by_cases q : j = e
          · subst q; exact hc
          · exact HJ.out j h k1 (by omega)
        clear hc
        go_wp2_with fail
        go_quiet ((go_at_call 33; exact Calls.quiet_of_same (HI.out _)))
        go_wp2_with fail
        go_roundw
        case rel => exact ⟨e + 1, by go_num, by omega, by omega, HJ2, HGr.out.drewN _, by simpa using r0, by simpa using r1, by simpa using r2⟩
        case measure => simp [intOf]; omega
      · have hc2 : p.text.data.toList.contains (S[e]'hlt) = false := by cases h : p.text.data.toList.contains (S[e]'hlt) <;> simp_all
        rw [hc2] at HI
        have hlen := HTw.out e hae heL HJ.out (fun h => hc2)
        have HXe : Hid (X = if a < e then some e else none) := by
          rw [Hid, ← HXd.out, hlen, show a + (e - a) = e by omega]
          by_cases q : a < e
          · rw [if_pos q, if_pos (by omega)]
          · rw [if_neg q, if_neg (by omega)]
        have HOne := hidd (fun n => one_int (wr.drewN n) (e : Int) e rfl)
        clear hc hc2 hlen
        by_cases q : a < e
        · have HXe2 : Hid (X = some e) := by rw [Hid, HXe.out, if_pos q]
          have z1 : decide ((a : Int) < (e : Int)) = true := decide_eq_true (by omega)
          have z2 : decide (a < e) = true := decide_eq_true q
          go_wp2_with fail
          go_quiet ((go_at_call 33; exact Calls.quiet_of_same (HI.out _)))
          obtain ⟨v, w', hap, g1, h1⟩ := HOne.out nq
          rw [show (wr.drewN nq).heap.size = wr.heap.size by simp] at hap
          have HE := hidd (And.intro g1 h1)
          clear g1 h1
          go_wp2_with (at_builtin; refine wpList_append_eq rfl rfl rfl rfl hap ?_)
          go_ret
          exact ⟨_, rfl, (HGr.out.drewN _).trans HE.out.1, by rw [HXe2.out]; exact HE.out.2⟩
        · have HXe2 : Hid (X = none) := by rw [Hid, HXe.out, if_neg q]
          have z1 : decide ((a : Int) < (e : Int)) = false := decide_eq_false (by omega)
          have z2 : decide (a < e) = false := decide_eq_false q
          go_wp2_with fail
          go_quiet ((go_at_call 33; exact Calls.quiet_of_same (HI.out _)))
          go_wp2_with fail
          go_ret
          exact ⟨_, rfl, HGr.out.drewN _, by rw [HXe2.out]; rfl⟩
    · have d1 : decide ((e : Int) < (S.size : Int)) = false := decide_eq_false (by omega)
      have d2 : decide (e < S.size) = false := decide_eq_false hlt
      have hlen := HTw.out e hae heL HJ.out (fun h => absurd h hlt)
      have HXe : Hid (X = if a < e then some e else none) := by
        rw [Hid, ← HXd.out, hlen, show a + (e - a) = e by omega]
        by_cases q : a < e
        · rw [if_pos q, if_pos (by omega)]
        · rw [if_neg q, if_neg (by omega)]
      have HOne := hidd (fun n => one_int (wr.drewN n) (e : Int) e rfl)
      clear hlen
      by_cases q : a < e
      · have HXe2 : Hid (X = some e) := by rw [Hid, HXe.out, if_pos q]
        have z1 : decide ((a : Int) < (e : Int)) = true := decide_eq_true (by omega)
        have z2 : decide (a < e) = true := decide_eq_true q
        go_wp2_with fail
        go_quiet (fail)
        obtain ⟨v, w', hap, g1, h1⟩ := HOne.out nq
        rw [show (wr.drewN nq).heap.size = wr.heap.size by simp] at hap
        have HE := hidd (And.intro g1 h1)
        clear g1 h1
        go_wp2_with (at_builtin; refine wpList_append_eq rfl rfl rfl rfl hap ?_)
        go_ret
        exact ⟨_, rfl, (HGr.out.drewN _).trans HE.out.1, by rw [HXe2.out]; exact HE.out.2⟩
      · have HXe2 : Hid (X = none) := by rw [Hid, HXe.out, if_neg q]
        have z1 : decide ((a : Int) < (e : Int)) = false := decide_eq_false (by omega)
        have z2 : decide (a < e) = false := decide_eq_false q
        go_wp2_with fail
        go_quiet (fail)
        go_wp2_with fail
        go_ret
        exact ⟨_, rfl, HGr.out.drewN _, by rw [HXe2.out]; rfl⟩
set_option maxRecDepth 100000 in
set_option maxHeartbeats 4000000 in
theorem Ends_6 (p : Pat) (kv : Value) (a : Nat) (hk : p.kind = 6) (hpt : p.text.size ≤ maxLen) (hS : w.cell? ⟨lb, 1, none⟩ = some (.string S)) (hL : S.size ≤ 65536) (ha : a ≤ S.size) :
    Calls Tryd.prog 39 #[.pointer (some ⟨lb, 0, none⟩), .agg (p.cells kv), .int .i64 a] w fun r w' => ∃ v, r = .returned v ∧ Grew w w' ∧ EndsAt w' v (if a + ((S.data.toList.drop a).takeWhile (fun c => !p.bytes.contains c)).length < S.size then some (a + ((S.data.toList.drop a).takeWhile (fun c => !p.bytes.contains c)).length) else none) := by
  have HIn := hidd (fun (c : UInt8) w => in_any c p.text w hpt)
  clear hpt
  have HTw : Hid (∀ e, a ≤ e → e ≤ S.size → (∀ j (h : j < S.size), a ≤ j → j < e → p.text.data.toList.contains (S[j]'h) = false) → (∀ h : e < S.size, p.text.data.toList.contains (S[e]'h) = true) → ((S.data.toList.drop a).takeWhile (fun c => !p.bytes.contains c)).length = e - a) := fun e h1 h2 h3 h4 => by
    obtain ⟨k, rfl⟩ : ∃ k, e = a + k := ⟨e - a, by omega⟩
    rw [Nat.add_sub_cancel_left]
    exact tw_len k a h2 (fun j h k1 k2 => by have := h3 j h k1 k2; show (!p.text.data.toList.contains (S[j]'h)) = true; rw [this]; rfl) (fun h => by have := h4 h; show (!p.text.data.toList.contains (S[a + k]'h)) = false; rw [this]; rfl)
  obtain ⟨X, hX⟩ : ∃ X, (if a + ((S.data.toList.drop a).takeWhile (fun c => !p.bytes.contains c)).length < S.size then some (a + ((S.data.toList.drop a).takeWhile (fun c => !p.bytes.contains c)).length) else none) = X := ⟨_, rfl⟩
  rw [hX]
  have HXd := hidd hX
  clear hX
  have HG : Hid (Grew w (w.alloc (.cells (p.cells kv) 25))) := (Grew.refl w).alloc _
  have HQ : Hid ((w.alloc (.cells (p.cells kv) 25)).heap[w.heap.size]? = some (.cells (p.cells kv) 25 (0, 0))) := heap_alloc_new w _
  unfold Pat.cells at HG HQ ⊢
  rw [hk] at HG HQ ⊢
  go_enter Tryd.func39, Tryd.ntmps39
  go_upto_region 1 with fail
  generalize w.alloc (.cells #[.int .i64 6, .string p.text, .int .i64 p.n, .string p.name, kv] 25) = W at HG HQ ⊢
  have q0 : W.cell? ⟨w.heap.size, 0, none⟩ = some (.int .i64 6) := cell_of_heap HQ.out rfl
  have q1 : W.cell? ⟨w.heap.size, 1, none⟩ = some (.string p.text) := cell_of_heap HQ.out rfl
  have c1 := HG.out.keeps hS
  generalize w.heap.size = b at q0 q1 HQ ⊢
  go_wp2_with fail
  go_loopw [11] (fun u wr => ∃ e : Nat, u = .int .i64 e ∧ a ≤ e ∧ e ≤ S.size ∧ Hid (∀ j (h : j < S.size), a ≤ j → j < e → p.text.data.toList.contains (S[j]'h) = false) ∧ Hid (Grew w wr) ∧ wr.cell? ⟨b, 0, none⟩ = some (.int .i64 6) ∧ wr.cell? ⟨b, 1, none⟩ = some (.string p.text) ∧ wr.cell? ⟨lb, 1, none⟩ = some (.string S)) (fun u _ => S.size - (intOf u).toNat)
  case atStart => exact ⟨a, rfl, Nat.le_refl _, ha, (fun j h k1 k2 => by omega), HG, q0, q1, c1⟩
  case round =>
    obtain ⟨e, rfl, hae, heL, HJ, HGr, r0, r1, r2⟩ := hrel
    clear HG q0 q1 c1
    by_cases hlt : e < S.size
    · have d1 : decide ((e : Int) < (S.size : Int)) = true := decide_eq_true (by omega)
      have d2 : decide (e < S.size) = true := decide_eq_true hlt
      have w1 : wrap64 ((e : Int) + 1) = ((e + 1 : Nat) : Int) := by unfold wrap64; omega
      have HI := hidd (fun w => HIn.out (S[e]'hlt) w)
      by_cases hc : p.text.data.toList.contains (S[e]'hlt) = false
      · rw [hc] at HI
        have HJ2 : Hid (∀ j (h : j < S.size), a ≤ j → j < e + 1 → p.text.data.toList.contains (S[j]'h) = false) := fun j h k1 k2 => by
          by_cases q : j = e
          · subst q; exact hc
          · exact HJ.out j h k1 (by omega)
        clear hc
        go_wp2_with fail
        go_quiet ((go_at_call 33; exact Calls.quiet_of_same (HI.out _)))
        go_wp2_with fail
        go_roundw
        case rel => exact ⟨e + 1, by go_num, by omega, by omega, HJ2, HGr.out.drewN _, by simpa using r0, by simpa using r1, by simpa using r2⟩
        case measure => simp [intOf]; omega
      · have hc2 : p.text.data.toList.contains (S[e]'hlt) = true := by cases h : p.text.data.toList.contains (S[e]'hlt) <;> simp_all
        rw [hc2] at HI
        have hlen := HTw.out e hae heL HJ.out (fun h => hc2)
        have HXe : Hid (X = some e) := by
          rw [Hid, ← HXd.out, hlen, show a + (e - a) = e by omega]
          rw [if_pos hlt]
        have HOne := hidd (fun n => one_int (wr.drewN n) (e : Int) e rfl)
        clear hc hc2 hlen
        have HXe2 := HXe
        go_wp2_with fail
        go_quiet ((go_at_call 33; exact Calls.quiet_of_same (HI.out _)))
        obtain ⟨v, w', hap, g1, h1⟩ := HOne.out nq
        rw [show (wr.drewN nq).heap.size = wr.heap.size by simp] at hap
        have HE := hidd (And.intro g1 h1)
        clear g1 h1
        go_wp2_with (at_builtin; refine wpList_append_eq rfl rfl rfl rfl hap ?_)
        go_ret
        exact ⟨_, rfl, (HGr.out.drewN _).trans HE.out.1, by rw [HXe2.out]; exact HE.out.2⟩
    · have d1 : decide ((e : Int) < (S.size : Int)) = false := decide_eq_false (by omega)
      have d2 : decide (e < S.size) = false := decide_eq_false hlt
      have hlen := HTw.out e hae heL HJ.out (fun h => absurd h hlt)
      have HXe : Hid (X = none) := by
        rw [Hid, ← HXd.out, hlen, show a + (e - a) = e by omega]
        rw [if_neg hlt]
      have HOne := hidd (fun n => one_int (wr.drewN n) (e : Int) e rfl)
      clear hlen
      have HXe2 := HXe
      go_wp2_with fail
      go_quiet (fail)
      go_wp2_with fail
      go_ret
      exact ⟨_, rfl, HGr.out.drewN _, by rw [HXe2.out]; rfl⟩
end
end Go.Proofs.YtcmdhgamlhnioaaDoor
/-! The document's Ends, at every kind. Printed. -/
namespace Go.Proofs.YtcmdhgamlhnioaaDoor
open Go.RowKit
set_option linter.unusedVariables false
section
variable {w : World} {lb : Nat} {S : ByteArray}
set_option maxRecDepth 100000 in
set_option maxHeartbeats 2000000 in
theorem Ends_rem (p : Pat) (kv : Value) (a : Nat) (hk : p.kind = 12) (hS : w.cell? ⟨lb, 1, none⟩ = some (.string S)) (hL : S.size ≤ 65536) (ha : a ≤ S.size) :
    Calls Tryd.prog 39 #[.pointer (some ⟨lb, 0, none⟩), .agg (p.cells kv), .int .i64 a] w fun r w' => ∃ v, r = .returned v ∧ Grew w w' ∧ EndsAt w' v (some S.size) := by
  have HG : Hid (Grew w (w.alloc (.cells (p.cells kv) 25))) := (Grew.refl w).alloc _
  have HQ : Hid ((w.alloc (.cells (p.cells kv) 25)).heap[w.heap.size]? = some (.cells (p.cells kv) 25 (0, 0))) := heap_alloc_new w _
  unfold Pat.cells at HG HQ ⊢
  rw [hk] at HG HQ ⊢
  go_enter Tryd.func39, Tryd.ntmps39
  go_upto_region 1 with fail
  generalize w.alloc (.cells #[.int .i64 12, .string p.text, .int .i64 p.n, .string p.name, kv] 25) = W at HG HQ ⊢
  have q0 : W.cell? ⟨w.heap.size, 0, none⟩ = some (.int .i64 12) := cell_of_heap HQ.out rfl
  have q1 : W.cell? ⟨w.heap.size, 1, none⟩ = some (.string p.text) := cell_of_heap HQ.out rfl
  have q2 : W.cell? ⟨w.heap.size, 2, none⟩ = some (.int .i64 p.n) := cell_of_heap HQ.out rfl
  have c1 := HG.out.keeps hS
  generalize w.heap.size = b at q0 q1 q2 HQ ⊢
  have HX : Hid ((some S.size) = some (S.size)) := rfl
  obtain ⟨v, w', hap, g1, h1⟩ := one_int W (S.size : Int) (S.size) (by omega)
  have HE := hidd (And.intro g1 h1)
  clear g1 h1
  go_wp2_with (at_builtin; refine wpList_append_eq rfl rfl rfl rfl hap ?_)
  go_ret
  exact ⟨_, rfl, HG.out.trans HE.out.1, by first | exact HE.out.2 | (rw [HX.out]; exact HE.out.2)⟩

theorem Ends_any (p : Pat) (kv : Value) (a : Nat) (hk : p.kind ∈ [1, 2, 3, 4, 5, 6, 8, 9, 10, 11, 12]) (hpt : p.text.size ≤ maxLen) (hn : p.kind ∈ [2, 8, 9, 10, 11] → 0 ≤ p.n ∧ p.n ≤ 65536) (hS : w.cell? ⟨lb, 1, none⟩ = some (.string S)) (hL : S.size ≤ 65536) (ha : a ≤ S.size) :
    Calls Tryd.prog 39 #[.pointer (some ⟨lb, 0, none⟩), .agg (p.cells kv), .int .i64 a] w fun r w' => ∃ v, r = .returned v ∧ Grew w w' ∧ EndsAt w' v (endAt S.data.toList p a) := by
  have hlen : S.data.toList.length = S.size := rfl
  have hnum : ∀ k : Int, p.kind = k → k ∈ [2, 8, 9, 10, 11] → p.n = (p.num : Int) ∧ p.num ≤ 65536 := fun k hk h => by
    have := hn (by rw [hk]; exact h)
    unfold Pat.num
    omega
  simp only [List.mem_cons, List.not_mem_nil, or_false] at hk
  rcases hk with hk | hk | hk | hk | hk | hk | hk | hk | hk | hk | hk
  · have hE : endAt S.data.toList p a = (if p.bytes.isPrefixOf (S.data.toList.drop a) then some (a + p.bytes.length) else none) := by
      unfold endAt
      rw [if_pos hk]
      all_goals rfl
    rw [hE]
    exact Ends_1 p kv a hk hpt hS hL ha
  · have hE : endAt S.data.toList p a = (if a + p.num ≤ S.size then some (a + p.num) else none) := by
      unfold endAt
      rw [if_neg (by rw [hk]; decide), if_pos hk]
      all_goals rfl
    rw [hE]
    exact Ends_2 p kv a p.num hk (hnum _ hk (by decide)).1 hS hL ha (hnum _ hk (by decide)).2
  · have hE : endAt S.data.toList p a = (if h : a < S.size then (if p.text.data.toList.contains (S[a]'h) = true then some (a + 1) else none) else none) := by
      unfold endAt
      rw [if_neg (by rw [hk]; decide), if_neg (by rw [hk]; decide), if_pos hk]
      by_cases h : a < S.size
      · rw [dif_pos h, List.getElem?_eq_getElem (show a < S.data.toList.length from h)]
        show (if p.text.data.toList.contains (S[a]'h) = true then _ else _) = _
        cases p.text.data.toList.contains (S[a]'h) <;> rfl
      · rw [dif_neg h, List.getElem?_eq_none (show S.data.toList.length ≤ a by omega)]
    rw [hE]
    exact Ends_3 p kv a hk hpt hS hL ha
  · have hE : endAt S.data.toList p a = (if h : a < S.size then (if p.text.data.toList.contains (S[a]'h) = false then some (a + 1) else none) else none) := by
      unfold endAt
      rw [if_neg (by rw [hk]; decide), if_neg (by rw [hk]; decide), if_neg (by rw [hk]; decide), if_pos hk]
      by_cases h : a < S.size
      · rw [dif_pos h, List.getElem?_eq_getElem (show a < S.data.toList.length from h)]
        show (if p.text.data.toList.contains (S[a]'h) = true then _ else _) = _
        cases p.text.data.toList.contains (S[a]'h) <;> rfl
      · rw [dif_neg h, List.getElem?_eq_none (show S.data.toList.length ≤ a by omega)]
    rw [hE]
    exact Ends_4 p kv a hk hpt hS hL ha
  · have hE : endAt S.data.toList p a = (if 0 < ((S.data.toList.drop a).takeWhile p.bytes.contains).length then some (a + ((S.data.toList.drop a).takeWhile p.bytes.contains).length) else none) := by
      unfold endAt
      rw [if_neg (by rw [hk]; decide), if_neg (by rw [hk]; decide), if_neg (by rw [hk]; decide), if_neg (by rw [hk]; decide), if_pos hk]
      all_goals rfl
    rw [hE]
    exact Ends_5 p kv a hk hpt hS hL ha
  · have hE : endAt S.data.toList p a = (if a + ((S.data.toList.drop a).takeWhile (fun c => !p.bytes.contains c)).length < S.size then some (a + ((S.data.toList.drop a).takeWhile (fun c => !p.bytes.contains c)).length) else none) := by
      unfold endAt
      rw [if_neg (by rw [hk]; decide), if_neg (by rw [hk]; decide), if_neg (by rw [hk]; decide), if_neg (by rw [hk]; decide), if_neg (by rw [hk]; decide), if_pos hk]
      all_goals rfl
    rw [hE]
    exact Ends_6 p kv a hk hpt hS hL ha
  · have hE : endAt S.data.toList p a = (if a ≤ p.num ∧ p.num ≤ S.size then some p.num else none) := by
      unfold endAt
      rw [if_neg (by rw [hk]; decide), if_neg (by rw [hk]; decide), if_neg (by rw [hk]; decide), if_neg (by rw [hk]; decide), if_neg (by rw [hk]; decide), if_neg (by rw [hk]; decide), if_pos hk]
      all_goals rfl
    rw [hE]
    exact Ends_8 p kv a p.num hk (hnum _ hk (by decide)).1 hS hL ha (hnum _ hk (by decide)).2
  · have hE : endAt S.data.toList p a = (if a + p.num ≤ S.size then some (S.size - p.num) else none) := by
      unfold endAt
      rw [if_neg (by rw [hk]; decide), if_neg (by rw [hk]; decide), if_neg (by rw [hk]; decide), if_neg (by rw [hk]; decide), if_neg (by rw [hk]; decide), if_neg (by rw [hk]; decide), if_neg (by rw [hk]; decide), if_pos hk]
      all_goals rfl
    rw [hE]
    exact Ends_9 p kv a p.num hk (hnum _ hk (by decide)).1 hS hL ha (hnum _ hk (by decide)).2
  · have hE : endAt S.data.toList p a = (if a = p.num then some a else none) := by
      unfold endAt
      rw [if_neg (by rw [hk]; decide), if_neg (by rw [hk]; decide), if_neg (by rw [hk]; decide), if_neg (by rw [hk]; decide), if_neg (by rw [hk]; decide), if_neg (by rw [hk]; decide), if_neg (by rw [hk]; decide), if_neg (by rw [hk]; decide), if_pos hk]
      all_goals rfl
    rw [hE]
    exact Ends_10 p kv a p.num hk (hnum _ hk (by decide)).1 hS hL ha (hnum _ hk (by decide)).2
  · have hE : endAt S.data.toList p a = (if a + p.num = S.size then some a else none) := by
      unfold endAt
      rw [if_neg (by rw [hk]; decide), if_neg (by rw [hk]; decide), if_neg (by rw [hk]; decide), if_neg (by rw [hk]; decide), if_neg (by rw [hk]; decide), if_neg (by rw [hk]; decide), if_neg (by rw [hk]; decide), if_neg (by rw [hk]; decide), if_neg (by rw [hk]; decide), if_pos hk]
      all_goals rfl
    rw [hE]
    exact Ends_11 p kv a p.num hk (hnum _ hk (by decide)).1 hS hL ha (hnum _ hk (by decide)).2
  · have hE : endAt S.data.toList p a = (some S.size) := by
      unfold endAt
      rw [if_neg (by rw [hk]; decide), if_neg (by rw [hk]; decide), if_neg (by rw [hk]; decide), if_neg (by rw [hk]; decide), if_neg (by rw [hk]; decide), if_neg (by rw [hk]; decide), if_neg (by rw [hk]; decide), if_neg (by rw [hk]; decide), if_neg (by rw [hk]; decide), if_neg (by rw [hk]; decide), if_pos hk]
      all_goals rfl
    rw [hE]
    exact Ends_rem p kv a hk hS hL ha
end
end Go.Proofs.YtcmdhgamlhnioaaDoor
/-! The document's Try: the kinds with at most one end. Printed. -/
namespace Go.Proofs.YtcmdhgamlhnioaaDoor
open Go.RowKit
set_option linter.unusedVariables false
section
variable {γ : Type} {E : Env} {O : OutP γ} {w : World} {M : Nat → Prop} {s : LS γ}
set_option maxRecDepth 100000 in
set_option maxHeartbeats 4000000 in
theorem Try_leaf (hO : OutOk E O) (p : Pat) (kv : Value) (a : Nat) (gv : Value) (gl : List Gift) (d : Nat) (g : FuncId) (lb : Array Value) (K : Cont γ) (hst : St E O w M s) (hk : p.kind ∈ [1, 2, 3, 4, 5, 6, 8, 9, 10, 11, 12]) (hpt : p.text.size ≤ maxLen) (hnb : p.kind ∈ [2, 8, 9, 10, 11] → 0 ≤ p.n ∧ p.n ≤ 65536) (ht : s.ticks < E.fuel) (hf : E.fuel ≤ 100000) (hL : E.S.size ≤ 65536)
    (hg : GV w M gv gl) (ha : a ≤ E.S.size) (hw : s.ways ≤ E.V) (hd : gl.length + d ≤ s.ticks) (hsd : s.said.length ≤ 300000 * (s.ticks + s.ways)) (hK : ThenOk E O M w (s.ticks + 1) d a g lb K) :
    Calls Tryd.prog 18 #[.pointer (some ⟨E.lb, 0, none⟩), .agg (p.cells kv), .int .i64 a, gv, .func (.func g) #[] lb] w fun r w' => r = .returned (.int .i64 ((runK E.fuel (wayL gl (endAt E.S.data.toList p a).toList) K { s with ticks := s.ticks + 1 }).1 : Nat)) ∧ ∃ M', Turn M M' w w' ∧ St E O w' M' (runK E.fuel (wayL gl (endAt E.S.data.toList p a).toList) K { s with ticks := s.ticks + 1 }).2 := by
  have eg := hK.enters
  obtain ⟨gp, gc, rfl, _⟩ := hg.1.len
  obtain ⟨kr, hkr⟩ : ∃ kr, runK E.fuel (wayL gl (endAt E.S.data.toList p a).toList) K { s with ticks := s.ticks + 1 } = kr := ⟨_, rfl⟩
  rw [hkr]
  have hup : Up E.S.size a (endAt E.S.data.toList p a).toList := by
    cases h : endAt E.S.data.toList p a with
    | none => exact Or.inl rfl
    | some e => exact Or.inr ⟨e, [], rfl, (endAt_le ha h).1, (endAt_le ha h).2, by simp⟩
  have HEn := hidd (fun W1 (h1 : W1.cell? ⟨E.lb, 1, none⟩ = some (.string E.S)) => Ends_any (w := W1) p kv a hk hpt hnb h1 hL ha)
  obtain ⟨X, hX⟩ : ∃ X, endAt E.S.data.toList p a = X := ⟨_, rfl⟩
  rw [hX] at hup hkr HEn
  have HL0 : Hid (∀ W1 b, Turn M M w W1 → St E O W1 M { s with ticks := s.ticks + 1 } → Boxed E.lb M W1 b p kv a (.func (.func g) #[] lb) → Lf E O M w (s.ticks + 1) d a (.slice gp gl.length gc) gl g lb K b p kv kr W1 X.toList) := fun W1 b t1 h1 hB => ⟨M, _, t1, h1, hB, hkr, Nat.le_refl _, ht, hw, Or.inl ⟨hup, by simp only []; omega⟩⟩
  have HCall : Hid (∀ (wr : World) (b e : Nat) (rest : List Nat), Lf E O M w (s.ticks + 1) d a (.slice gp gl.length gc) gl g lb K b p kv kr wr (e :: rest) → Calls Tryd.prog g (#[.int .i64 e, .slice gp gl.length gc] ++ lb) wr fun r w' => ∃ k : Nat, r = .returned (.int .i64 k) ∧ ((k = 0 ∧ Lf E O M w (s.ticks + 1) d a (.slice gp gl.length gc) gl g lb K b p kv kr w' rest) ∨ (k ≠ 0 ∧ kr.1 = k ∧ ∃ M', Turn M M' w w' ∧ St E O w' M' kr.2))) := fun wr b e rest h => h.call hf hK hg (by omega)
  have HA := hidd ha
  have nk : ∀ k : Int, k ∉ [1, 2, 3, 4, 5, 6, 8, 9, 10, 11, 12] → (p.kind == k) = false := fun k h => by
    rw [beq_eq_false_iff_ne]; intro e; exact h (e ▸ hk)
  have k7 := nk 7 (by decide)
  have k13 := nk 13 (by decide)
  have k14 := nk 14 (by decide)
  have k15 := nk 15 (by decide)
  have k16 := nk 16 (by decide)
  have k17 := nk 17 (by decide)
  have k18 := nk 18 (by decide)
  have k19 := nk 19 (by decide)
  have k20 := nk 20 (by decide)
  have k21 := nk 21 (by decide)
  have k22 := nk 22 (by decide)
  have k23 := nk 23 (by decide)
  have k24 := nk 24 (by decide)
  unfold Pat.cells at HEn
  clear hkr hK hg hd hsd hw ha hX hup nk hk hnb hpt
  obtain ⟨sv, ov, h⟩ := hst
  have HBx := hidd (boxed (E := E) h.lt p (kv) a (.func (.func g) #[] lb))
  have HGr : Hid (Grew w ((((w.alloc (.cells #[.pointer (some ⟨E.lb, 0, none⟩)] 51)).alloc (.cells (p.cells (kv)) 25)).alloc (.cells #[.int .i64 a] 3)).alloc (.cells #[.func (.func g) #[] lb] 81))) := ((((Grew.refl w).alloc _).alloc _).alloc _).alloc _
  have H := hidd h
  have hb : decide ((E.fuel : Int) ≤ (s.ticks : Int)) = false := decide_eq_false (by omega)
  have hb2 : decide (E.fuel ≤ s.ticks) = false := decide_eq_false (by omega)
  clear h
  unfold Pat.cells at HBx HGr ⊢
  go_enter Tryd.func18, Tryd.ntmps18
  go_wp2_with fail
  generalize ((((w.alloc (.cells #[.pointer (some ⟨E.lb, 0, none⟩)] 51)).alloc (.cells #[.int .i64 p.kind, .string p.text, .int .i64 p.n, .string p.name, kv] 25)).alloc (.cells #[.int .i64 a] 3)).alloc (.cells #[.func (.func g) #[] lb] 81)) = W at HBx HGr ⊢
  have HW := hidd (H.out.grown hO HGr.out)
  have c5 := HBx.out.c5
  have c3 : W.cell? ⟨E.lb, 3, none⟩ = some (.int .i64 s.ticks) := HW.out.cell rfl
  have c2 : W.cell? ⟨E.lb, 2, none⟩ = some (.int .i64 E.fuel) := HW.out.cell rfl
  have f3 := HW.out.free 3
  obtain ⟨b, hbb⟩ : ∃ b, w.heap.size = b := ⟨_, rfl⟩
  rw [hbb] at HBx c5 ⊢
  go_quiet (fail)
  have HT1 := tick_st hO HW.out nq
  go_upto_region 5 with fail
  clear c5 c3 c2 f3 hb hb2
  generalize ((W.drewN nq).setCell ⟨E.lb, 3, none⟩ (.int .i64 ((s.ticks : Int) + 1))) = W1 at HT1 ⊢
  have HS1 := hidd HT1.1
  have HTu := hidd ((Turn.of_grew (M := M) HGr.out).trans HT1.2)
  have HB1 := hidd (HBx.out.kept HT1.2)
  clear HT1 HBx HW HGr
  have c5 := HB1.out.c5
  obtain ⟨q0, q1, q2, q3, q4⟩ := HB1.out.fields
  have c7 := HB1.out.c7
  have c9 := HB1.out.c9
  have c1 : W1.cell? ⟨E.lb, 1, none⟩ = some (.string E.S) := HS1.out.cell rfl
  have HLf := hidd (HL0.out W1 b HTu.out ⟨_, _, HS1.out⟩ HB1.out)
  clear HL0
  have HCd := hidd (HEn.out W1 c1)
  clear HEn
  go_wp2_with fail
  refine HCd.out.mono ?_; rintro r W2 ⟨ve, rfl, g2, he2⟩
  have HL2 := hidd (HLf.out.grown hO g2)
  clear g2 HLf HCd
  rcases X with _ | e
  · have he3 : ve = .slice none 0 0 := he2
    clear he2
    subst he3
    clear c5 c7 c9 c1 q0 q1 q2 q3 q4
    obtain ⟨c5, q1, c7, c9, c1⟩ := HL2.out.boxes
    go_wp2_with fail
    go_loopw [25, 26, 265] (fun u25 u26 u265 wr => u265 = .int .i64 0 ∧ wr = W2) (fun _ _ _ _ => 0)
    case atStart => exact ⟨rfl, rfl⟩
    case round =>
      obtain ⟨rfl, rfl⟩ := hrel
      have HX := hidd HL2.out.done
      go_wp2_with fail
      go_ret
      exact ⟨by rw [HX.out.1]; rfl, HX.out.2⟩
  · obtain ⟨eg2, ec, rfl, he3⟩ := he2
    have HCl := hidd (HCall.out W2 b e [] HL2.out)
    clear c5 c7 c9 c1 q0 q1 q2 q3 q4
    obtain ⟨c5, q1, c7, c9, c1⟩ := HL2.out.boxes
    go_wp2_with fail
    go_loopw [25, 26, 265] (fun u25 u26 u265 wr => (u265 = .int .i64 0 ∧ wr = W2) ∨ (u265 = .int .i64 1 ∧ Hid (Lf E O M w (s.ticks + 1) d a (.slice gp gl.length gc) gl g lb K b p kv kr wr []))) (fun _ _ u265 _ => 1 - (intOf u265).toNat)
    case atStart => exact Or.inl ⟨rfl, rfl⟩
    case round =>
      rcases hrel with ⟨rfl, rfl⟩ | ⟨rfl, HR⟩
      · go_wp2_with fail
        refine HCl.out.mono ?_; rintro r W3 ⟨k, rfl, ⟨rfl, hl⟩ | ⟨hk0, hke, hx⟩⟩
        · have HL3 := hidd hl
          clear hl
          go_wp2_with fail
          go_roundw
          case rel => exact Or.inr ⟨by go_num, HL3.out⟩
          case measure => simp [intOf]
        · have e0 : ((k : Int) == 0) = false := by rw [beq_eq_false_iff_ne]; omega
          have HX := hidd (And.intro hke hx)
          clear hke hx hk0
          go_wp2_with fail
          go_ret
          exact ⟨by rw [HX.out.1]; rfl, HX.out.2⟩
      · have HX := hidd HR.out.done
        go_wp2_with fail
        go_ret
        exact ⟨by rw [HX.out.1]; rfl, HX.out.2⟩
end
end Go.Proofs.YtcmdhgamlhnioaaDoor
