/- The document's Same: a pattern is the same as itself. -/
import Derived.Test.YtmcfoefhenmjeaaDoorTnMerge
import Derived.Test.YtmcfoefhenmjeaaDoorTnTwo
import Derived.StillTailTactics
namespace Go.Proofs.YtmcfoefhenmjeaaDoor
open Go.RowKit
set_option linter.unusedVariables false
set_option maxRecDepth 100000 in
set_option maxHeartbeats 4000000 in
theorem same_fuel : ∀ (f : Nat) (p : Pat) (kv kv' : Value) (w : World), nodesP p ≤ f → PatV w kv p → PatV w kv' p → Calls Tryd.prog 12 #[.agg (p.cells kv), .agg (p.cells kv')] w fun e w' => e = .returned (.bool true) ∧ Grew w w'
  | 0, p, kv, kv', w, hf, _, _ => by have := nodesP_pos p; omega
  | f + 1, .mk k t n m l, kv, kv', w, hf, hp, hq => by
    have IH : Hid (∀ i, i < l.length → ∀ kv kv' w1, PatV w1 kv (l.getD i Pat.zero) → PatV w1 kv' (l.getD i Pat.zero) → Calls Tryd.prog 12 #[.agg ((l.getD i Pat.zero).cells kv), .agg ((l.getD i Pat.zero).cells kv')] w1 fun e w' => e = .returned (.bool true) ∧ Grew w1 w') := fun i hi kv kv' w1 h1 h2 => same_fuel f _ kv kv' w1 (by
      have : l.getD i Pat.zero ∈ l := by rw [List.getD_eq_getElem?_getD, List.getElem?_eq_getElem hi]; exact List.getElem_mem hi
      have := nodesL_mem this
      rw [nodesP] at hf; omega) h1 h2
    have HA := hidd hp.pq.list
    have HB := hidd hq.pq.list
    have HA : Hid (ListIn w (fun b => b < w.heap.size) kv l) := HA
    have HB : Hid (ListIn w (fun b => b < w.heap.size) kv' l) := HB
    obtain ⟨pa, ca, rfl, hml⟩ := HA.out.len
    obtain ⟨pb, cb, rfl, _⟩ := HB.out.len
    unfold maxLen at hml
    clear hp hq hf
    show Calls Tryd.prog 12 #[.agg #[.int .i64 k, .string t, .int .i64 n, .string m, .slice pa l.length ca], .agg #[.int .i64 k, .string t, .int .i64 n, .string m, .slice pb l.length cb]] w _
    go_enter Tryd.func12, Tryd.ntmps12
    go_wp2_with fail
    obtain ⟨wY, hwY⟩ : ∃ wY, (w.alloc (.cells #[.int .i64 k, .string t, .int .i64 n, .string m, .slice pa l.length ca] 24)).alloc (.cells #[.int .i64 k, .string t, .int .i64 n, .string m, .slice pb l.length cb] 24) = wY := ⟨_, rfl⟩
    have HX : Hid (wY.heap[w.heap.size]? = some (.cells #[.int .i64 k, .string t, .int .i64 n, .string m, .slice pa l.length ca] 24 (0, 0)) ∧ wY.heap[w.heap.size + 1]? = some (.cells #[.int .i64 k, .string t, .int .i64 n, .string m, .slice pb l.length cb] 24 (0, 0)) ∧ Grew w wY) := by
      rw [← hwY]
      exact ⟨heap_more (heap_alloc_new w _), heap_second w _ _, ((Grew.refl w).alloc _).alloc _⟩
    rw [hwY]
    clear hwY
    go_loopw [5, 44] (fun _ u wr => ∃ i : Nat, i ≤ l.length ∧ u = .int .i64 i ∧ Hid (Grew wY wr)) (fun _ u _ => l.length - (intOf u).toNat)
    case atStart => exact ⟨0, by omega, rfl, Grew.refl _⟩
    case round =>
      obtain ⟨i, hi, rfl, HG⟩ := hrel
      by_cases hlt : i < l.length
      · have G := HX.out.2.2.trans HG.out
        obtain ⟨ba, oa, ka, rfl, hna, hqa⟩ := (HA.out.kept G).at hlt
        obtain ⟨bb, ob, kb, rfl, hnb, hqb⟩ := (HB.out.kept G).at hlt
        have HC : Hid (∀ w1, Grew wr w1 → Calls Tryd.prog 12 #[.agg ((l.getD i Pat.zero).cells ka), .agg ((l.getD i Pat.zero).cells kb)] w1 fun e w' => e = .returned (.bool true) ∧ Grew w1 w') := fun w1 g => IH.out i hlt ka kb w1 (hqa.patV.kept g) (hqb.patV.kept g)
        obtain ⟨r, hr⟩ : ∃ r, l.getD i Pat.zero = r := ⟨_, rfl⟩
        rw [hr] at hna hnb HC
        rw [cells_eq, cells_eq] at HC
        obtain ⟨a0, a1, a2, a3, a4, _, _, _, _⟩ := hna
        obtain ⟨b0, b1, b2, b3, b4, _, _, _, _⟩ := hnb
        obtain ⟨⟨_, _, _, _, x4⟩, _⟩ := five_cells (heap_kept HG.out HX.out.1)
        obtain ⟨⟨_, _, _, _, y4⟩, _⟩ := five_cells (heap_kept HG.out HX.out.2.1)
        clear hr hqa hqb G
        go_wp2_with fail
        go_still_tail 10, (by kernel_rfl)
        change wpList _ _ _ _ _ wr.drew
        have HG2 := hidd (Grew.drew HG.out)
        have HC2 := hidd (HC.out wr.drew ((Grew.refl wr).drew))
        generalize wr.drew = w2 at HG2 HC2 ⊢
        go_wp2_with fail
        refine HC2.out.mono ?_; rintro e w3 ⟨rfl, g3⟩
        have HG3 := hidd (HG2.out.trans g3)
        clear g3
        go_wp2_with fail
        go_roundw
        case rel => exact ⟨i + 1, by omega, by go_num, HG3⟩
        case measure => simp [intOf]; omega
      · go_wp2_with fail
        go_ret
        exact ⟨rfl, HX.out.2.2.trans HG.out⟩
theorem Same_eq {p : Pat} {kv kv' : Value} {w : World} (h : PatV w kv p) (h' : PatV w kv' p) : Calls Tryd.prog 12 #[.agg (p.cells kv), .agg (p.cells kv')] w fun e w' => e = .returned (.bool true) ∧ Grew w w' := same_fuel _ p kv kv' w (Nat.le_refl _) h h'
end Go.Proofs.YtmcfoefhenmjeaaDoor
