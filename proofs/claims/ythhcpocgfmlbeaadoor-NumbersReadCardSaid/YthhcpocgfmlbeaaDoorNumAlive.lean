/- numbers.Print, and the closed fact that every law asks first. -/
import Derived.Test.YthhcpocgfmlbeaaDoorNum
namespace Go.Proofs.YthhcpocgfmlbeaaDoor
open Go.RowKit
set_option linter.unusedVariables false

def TabD (w : World) : Prop := Lib.TabIs Tryd.prog w "internal/strconv.uint64pow10" .u64 Lib.pow10Tab

theorem Grew.grow {a w : World} (os : Array Obj) (h : Grew a w) : Grew a (Go.Sort.grow w os) :=
  ⟨h.os, h.tape, h.output, by have := h.lt; simp only [Go.Sort.grow, Array.size_append]; omega, fun k hk => by
    have := h.lt
    rw [← h.block k hk, Go.Sort.grow]
    exact Array.getElem?_append_left (by omega)⟩

theorem FormatInt10 (n : Int) (hn : In64 n) (w : World) (ht : TabD w) :
    Calls Tryd.prog 33 #[.int .i64 n, .int .i64 10] w fun e w' => e = .returned (.string ⟨(Lib.itoa n).toArray⟩) ∧ Grew w w' := by
  go_enter Tryd.func33, Tryd.ntmps33
  go_wp2_with fail
  refine (Tryd.internal_strconv_FormatInt_10 n hn.1 hn.2 w ht).mono ?_; rintro e w1 ⟨rfl, k, os, rfl⟩
  go_wp2_with fail
  go_ret
  exact ⟨rfl, ((Grew.refl _).drewN k).grow os⟩

theorem Print_any (n : Int) (hn : In64 n) (w : World) (ht : TabD w) :
    Calls Tryd.prog 22 #[.int .i64 n] w fun e w' => e = .returned (.string ⟨(Lib.itoa n).toArray⟩) ∧ Grew w w' := by
  go_enter Tryd.func22, Tryd.ntmps22
  go_wp2_with fail
  refine (FormatInt10 n hn w ht).mono ?_; rintro e w1 ⟨rfl, G1⟩
  go_wp2_with fail
  go_ret
  exact ⟨rfl, G1⟩

/-- The table lies where it lay. -/
theorem tab_grew {w w' : World} {n : String} {k : IntKind} {zs : List Int} (h : Lib.TabIs Tryd.prog w n k zs) (g : Grew w w') : Lib.TabIs Tryd.prog w' n k zs := by
  unfold Lib.TabIs World.var? at *
  cases hg : Tryd.prog.globalNamed n with
  | none => rw [hg] at h; simp at h
  | some i =>
    rw [hg] at h
    simp only [Option.bind_some] at h ⊢
    have hi : i < w.heap.size := by
      cases hh : w.heap[i]? with
      | none => rw [hh] at h; simp at h
      | some o => exact (Array.getElem?_eq_some_iff.1 hh).1
    rw [g.block i hi]; exact h
theorem TabD.grew {w w' : World} (h : TabD w) (g : Grew w w') : TabD w' := tab_grew h g

theorem alive_true (w : World) (ht : TabD w) :
    Calls Tryd.prog 9 #[] w fun e w' => e = .returned (.bool true) ∧ Grew w w' := by
  go_enter Tryd.func9, Tryd.ntmps9
  go_wp2_with fail
  refine (Add_any 2 3 w (by decide) (by decide)).mono ?_; rintro e w1 ⟨rfl, G1⟩
  rw [show numR (2 + 3) = .returned (.tuple #[.int .i64 5, .int .i64 0]) from rfl]
  go_wp2_with fail
  refine (Print_any (-7) (by decide) w1 (ht.grew G1)).mono ?_; rintro e w2 ⟨rfl, G2⟩
  rw [show (⟨(Lib.itoa (-7)).toArray⟩ : ByteArray) = ⟨#[45, 55]⟩ from by rw [show Lib.itoa (-7) = [45, 55] from by decide +kernel]]
  go_wp2_with fail
  go_ret
  exact ⟨rfl, G1.trans G2⟩
end Go.Proofs.YthhcpocgfmlbeaaDoor
