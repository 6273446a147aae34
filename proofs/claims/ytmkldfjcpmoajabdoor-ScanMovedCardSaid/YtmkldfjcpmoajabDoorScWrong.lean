/- pats.Wrong: at every pattern. -/
import Derived.Test.YtmkldfjcpmoajabDoorScWrongW
namespace Go.Proofs.YtmkldfjcpmoajabDoor
open Go.RowKit
set_option linter.unusedVariables false

theorem err_start (w1 : World) (t : TypeId) : ErrEnd w1 w1.heap.size t 0 (w1.alloc (.cells #[.int .i64 0] t)) :=
  ⟨heap_alloc_new _ _, (Grew.refl _).alloc _⟩

set_option maxRecDepth 100000 in
theorem Wrong_any (kv : Value) (p : Pat) (w : World) (hp : PatV w kv p) :
    Calls Tryd.prog 25 #[.agg (p.cells kv)] w fun e w' => e = .returned (.int .i64 (patErr p)) ∧ Grew w w' := by
  have HB := hidd (hp.box 28)
  have HZ : Hid (∀ w1, Grew w w1 → _) := fun w1 h => Size_any kv p w1 (hp.kept h)
  obtain ⟨r, N, D, hr⟩ : ∃ r N D, sizeW p 1 0 0 = (r, N, D) := ⟨_, _, _, rfl⟩
  rw [hr] at HZ
  unfold Pat.cells at HZ HB ⊢
  cases r with
  | true =>
    have HE : Hid (patErr p = errW p) := by rw [Hid, patErr, hr]; rfl
    clear hr hp
    go_enter Tryd.func25, Tryd.ntmps25
    go_wp2_with fail
    refine (HZ.out _ ((Grew.refl w).alloc _)).mono ?_; rintro e w2 ⟨rfl, G2⟩
    have HB2 := hidd (HB.out.kept G2)
    have HW := fun d => walk_wrong w2 w2.heap.size 50 (Nat.le_refl _) HB2.out d 0 _ (err_start w2 50)
    have HW2 := hidd HW
    have G3 := hidd (((Grew.refl w).alloc _).trans G2)
    clear HW G2
    go_wp2_with fail
    refine (HW2.out _).mono ?_; rintro e w3 ⟨rfl, hE⟩
    have c1 := cell_of_one hE.c
    have G4 := hidd (G3.out.trans hE.grew)
    clear hE
    go_wp2_with fail
    go_ret
    rw [HE.out]
    exact ⟨rfl, G4.out⟩
  | false =>
    have HE : Hid (patErr p = 4) := by rw [Hid, patErr, hr]; rfl
    clear hr hp
    go_enter Tryd.func25, Tryd.ntmps25
    go_wp2_with fail
    refine (HZ.out _ ((Grew.refl w).alloc _)).mono ?_; rintro e w2 ⟨rfl, G2⟩
    have G3 := hidd (((Grew.refl w).alloc _).trans G2)
    clear G2
    go_wp2_with fail
    go_ret
    rw [HE.out]
    exact ⟨rfl, G3.out⟩
end Go.Proofs.YtmkldfjcpmoajabDoor
