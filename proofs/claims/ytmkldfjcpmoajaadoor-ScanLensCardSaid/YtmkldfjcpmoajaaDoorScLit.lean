/- Texts as patterns: the laws' lit. -/
import Derived.Test.YtmkldfjcpmoajaaDoorScShape
namespace Go.Proofs.YtmkldfjcpmoajaaDoor
open Go.RowKit
set_option linter.unusedVariables false
set_option maxRecDepth 100000 in
theorem lit_any (t : ByteArray) (w : World) (h : t.size ≤ maxLen) :
    Calls Tryd.prog 28 #[.string t] w fun e w' => e = .returned (.agg ((someP 1 0 t).cells (.slice none 0 0))) ∧ Grew w w' ∧ PatV w' (.slice none 0 0) (someP 1 0 t) := by
  have H := hidd h
  clear h
  go_enter Tryd.func28, Tryd.ntmps28
  go_wp2_with fail
  refine bodyPost_ret (results_pat (rb := w.heap.size) (cs := #[.int .i64 1, .string t, .int .i64 0, .string ByteArray.empty, .slice none 0 0]) rfl rfl (heap_alloc_new w _) rfl) rfl ⟨rfl, (Grew.refl w).alloc _, kids_none _, ?_, ?_, ?_, ?_⟩
  · exact ⟨by show (-9223372036854775808 : Int) ≤ 1; omega, by show (1 : Int) ≤ 9223372036854775807; omega⟩
  · exact ⟨by show (-9223372036854775808 : Int) ≤ 0; omega, by show (0 : Int) ≤ 9223372036854775807; omega⟩
  · exact H.out
  · exact Nat.zero_le _
section
variable {ops : Array Oper} {Q : Exit → Act → World → Prop} {shs : List Sh} {a0 : Act} {w0 : World} {A : Array Edge}
variable {i : Nat} {d : Option Tmp} {op : Op} {ty : TypeId} {pos : String} {G : Option (Nat × Bool)}
theorem go_lit : isGo Tryd.prog 28 = true := by kernel_rfl
theorem st_lit {x : Operand} {t : ByteArray} {ats : Array TypeId} (ht : t.size ≤ maxLen) (hg : guardOk ops shs A G = true) (hx : opSh ops shs A a0 x = .val (.string t)) (hs : shs.getD i .any = .pat (someP 1 0 t)) :
    StepOk Tryd.prog ops Q (shF shs) a0 w0 i ⟨d, .call { callee := .value (.func 28), args := #[x], argTypes := ats }, ty, pos, A, G⟩ :=
  st_call go_lit hg fun a w E => by
    have h := E.op x
    rw [hx] at h
    have h : a.eval x = .string t := h
    simp only [List.map_toArray, List.map_cons, List.map_nil]
    rw [h]
    exact (lit_any t w ht).mono fun e w' ⟨he, hg, hp⟩ => ⟨_, he, hg, by unfold shF; rw [hs]; exact ⟨_, rfl, hp⟩⟩
end
end Go.Proofs.YtmkldfjcpmoajaaDoor
