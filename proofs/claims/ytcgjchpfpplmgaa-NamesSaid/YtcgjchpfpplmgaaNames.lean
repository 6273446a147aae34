/- The closed sentence: each constant has its value. -/
import Derived.Test.YtcgjchpfpplmgaaBase
namespace Go.Proofs.Ytcgjchpfpplmgaa
open Go.RowKit
set_option linter.unusedVariables false

def errL : List Int := [0, 1, 2, 3, 4, 5, 6, 7, 8, 9, 10, 11]
def namL : List Int := [1, 2, 3, 4, 5, 6, 7, 8, 9, 10, 11, 12, 13, 14, 15, 16, 17, 18, 19, 20, 21, 22, 23, 24, 4096, 200, 16, 64, 100000, 4096, 12, 8192, 1, 2, 3, 4, 5, 1, 2, 3, 4, 5, 6, 7, 8, 9, 10, 11, 12, 13, 1, 2, 3, 4, 5, 6, 7, 2000, 1000, 400, 8, 1, 2, 3, 100000, 1048576, 100, 1000, 1, 2, 3, 4, 5, 6, 7, 8, 9, 10, 11, 12, 13, 14, 15, 16, 17, 18, 19, 20, 21, 22, 64, 16, 20, 10000, 65536, 64, 10000]
theorem row_cell (w : World) (l : List Int) (t : TypeId) (j : Nat) (hj : j < l.length) :
    (w.alloc (.cells (l.map (fun z => Value.int .i64 z)).toArray t)).cell? ⟨w.heap.size, j, none⟩ = some (.int .i64 (l.getD j 0)) := by
  rw [World.cell?_alloc_mark]
  simp [List.getD_eq_getElem?_getD, List.getElem?_eq_getElem hj]

theorem wp_value {P : Program} {o : Oper} {a : Act} {w w' : World} {next : Act → World → Prop} {Q : Exit → Act → World → Prop} {v : Value}
    (h : (execOp a.eval o).run P w = .ok (.value v) w') (k : next (a.put o.dst v) w') : Oper.wp P o a w next Q := by
  unfold Oper.wp; rw [h]; exact k
def namArr : Array Value := (namL.map (fun z => Value.int .i64 z)).toArray

set_option maxRecDepth 100000 in
set_option maxHeartbeats 2000000 in
theorem Names_walk (w : World) : Calls Try.prog 3 #[] w fun e w' => e = .returned (.bool true) ∧ Grew w w' := by
  go_enter Try.func3, Try.ntmps3
  go_wp2_with fail
  go_loopw [2, 3, 10] (fun _ _ u wr => ∃ k : Nat, k ≤ 12 ∧ u = .int .i64 k ∧ Hid (∀ j, j < 12 → wr.cell? ⟨w.heap.size, j, none⟩ = some (.int .i64 j)) ∧ Hid (Grew w wr)) (fun _ _ u _ => 12 - (intOf u).toNat)
  case atStart =>
    refine ⟨0, by omega, rfl, fun j hj => ?_, (Grew.refl _).alloc _⟩
    refine (row_cell w errL _ j hj).trans ?_
    rw [show errL.getD j 0 = (j : Int) from (by decide : ∀ j, j < 12 → errL.getD j 0 = (j : Int)) j hj]
  case round =>
    obtain ⟨k, hk, rfl, HC, HG⟩ := hrel
    by_cases hlt : k < 12
    · have hc := HC.out k hlt
      go_wp2_with fail
      go_roundw
      case rel => exact ⟨k + 1, by omega, by go_num, HC, HG⟩
      case measure => simp [intOf]; omega
    · obtain rfl : k = 12 := by omega
      go_wp2_with fail
      refine wp_value (v := .slice (some ⟨wr.heap.size, 0, none⟩) 97 97) (w' := wr.alloc (.cells namArr 3)) (by kernel_rfl) ?_
      go_wp2_with fail
      refine wp_value (v := .slice (some ⟨(wr.alloc (.cells namArr 3)).heap.size, 0, none⟩) 97 97) (w' := (wr.alloc (.cells namArr 3)).alloc (.cells namArr 3)) (by kernel_rfl) ?_
      have P1 : Hid (∀ j, j < 97 → ((wr.alloc (.cells namArr 3)).alloc (.cells namArr 3)).cell? ⟨wr.heap.size, j, none⟩ = some (.int .i64 (namL.getD j 0))) := fun j hj => by
        have := ((Grew.refl (wr.alloc (.cells namArr 3))).alloc (.cells namArr 3)).keeps (row_cell wr namL 3 j (by rw [show namL.length = 97 from rfl]; exact hj))
        exact this
      have P2 : Hid (∀ j, j < 97 → ((wr.alloc (.cells namArr 3)).alloc (.cells namArr 3)).cell? ⟨wr.heap.size + 1, j, none⟩ = some (.int .i64 (namL.getD j 0))) := fun j hj => by
        have h := row_cell (wr.alloc (.cells namArr 3)) namL 3 j (by rw [show namL.length = 97 from rfl]; exact hj)
        rw [World.size_alloc] at h
        exact h
      have P3 : Hid (Grew w ((wr.alloc (.cells namArr 3)).alloc (.cells namArr 3))) := (HG.out.alloc _).alloc _
      go_wp2_with fail
      go_loopw [6, 23] (fun _ u wq => ∃ k : Nat, k ≤ 97 ∧ u = .int .i64 k ∧ Hid (∀ j, j < 97 → wq.cell? ⟨wr.heap.size, j, none⟩ = some (.int .i64 (namL.getD j 0))) ∧ Hid (∀ j, j < 97 → wq.cell? ⟨wr.heap.size + 1, j, none⟩ = some (.int .i64 (namL.getD j 0))) ∧ Hid (Grew w wq)) (fun _ u _ => 97 - (intOf u).toNat)
      case atStart => exact ⟨0, by omega, rfl, P1, P2, P3⟩
      case round =>
        obtain ⟨k, hk, rfl, H1, H2, HG2⟩ := hrel
        clear P1 P2 P3
        by_cases hlt : k < 97
        · have c1 := H1.out k hlt
          have c2 := H2.out k hlt
          obtain ⟨x, hx⟩ : ∃ x, namL.getD k 0 = x := ⟨_, rfl⟩
          rw [hx] at c1 c2
          clear hx
          go_wp2_with fail
          go_quiet (fail)
          go_wp2_with fail
          go_roundw
          case rel => exact ⟨k + 1, by omega, by go_num, H1, H2, HG2.out.drewN _⟩
          case measure => simp [intOf]; omega
        · obtain rfl : k = 97 := by omega
          go_wp2_with fail
          go_ret
          exact ⟨rfl, HG2.out⟩
end Go.Proofs.Ytcgjchpfpplmgaa
