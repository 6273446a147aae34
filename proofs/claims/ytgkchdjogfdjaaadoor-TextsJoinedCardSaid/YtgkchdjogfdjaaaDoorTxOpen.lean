/- A list of texts among the arguments: what its slice says, how long each text may be. -/
import Derived.Test.YtgkchdjogfdjaaaDoorTxStrs
import Derived.SizedLaws
import Derived.OpenShut
import Derived.Carry
namespace Go.Proofs.YtgkchdjogfdjaaaDoor
open Go.RowKit
set_option linter.unusedVariables false
theorem weights_strs {H : Type} (P : Program) (e : TypeId) : ∀ (l : List ByteArray) (s : ByteArray), s ∈ l → s.size ∈ DataW.weightsAll P e (Go.ChangeShapes.strs (H := H) l)
  | [], s, h => by simp at h
  | x :: l, s, h => by
    have e1 : Go.ChangeShapes.strs (H := H) (x :: l) = .lit (.string x.data.toList) :: Go.ChangeShapes.strs l := rfl
    rw [e1, DataW.weightsAll]
    rcases List.mem_cons.1 h with rfl | h
    · exact List.mem_append_left _ (by rw [DataW.weights, size_data]; exact List.mem_singleton.2 rfl)
    · exact List.mem_append_right _ (weights_strs P e l s h)
theorem open_strs {H : Type} {enc : TypeId × Value → H} {w : World} {spare : Nat → Bool} {held : Bool} {base' : Nat} {r : Reach} {v : Value} {d : DataW H} {ps : List MemPlace} (hval : Value.okWide Tryd.prog w r base' 22 v)
    (h : DataW.Trod enc Tryd.prog w 0 spare held 22 v d ps) : ∃ l, StrsArg w v l ∧ ∀ {ts : List TypeId} {ds : List (DataW H)}, (DataW.weightsEach Tryd.prog ts ds).all (· ≤ reachBytes) = true → ∀ {j : Nat}, ts[j]? = some 22 → ds[j]? = some d → ∀ s ∈ l, s.size ≤ 140737488355328 := by
  obtain ⟨a, n, c, rfl⟩ := Go.WideShapes.okWide_slice Tryd.underlying22 hval
  obtain ⟨l, h1, h2, h3⟩ := strsArg_of (by kernel_rfl) h
  refine ⟨l, h1, ?_⟩
  intro ts ds hall j ht hd s hs
  rcases h3 with ⟨_, rfl⟩ | ⟨ss, rfl⟩
  · simp at hs
  · have := List.all_eq_true.1 hall _ (DataW.weights_mem_each ht hd s.size (by
      rw [DataW.weights, Tryd.underlying22]
      exact List.mem_cons_of_mem _ (List.mem_append_left _ (weights_strs _ _ l s hs))))
    exact Nat.le_trans (show s.size ≤ reachBytes by simpa using this) (by decide)
theorem laidOut : laidOutB Tryd.prog = true := by kernel_rfl
end Go.Proofs.YtgkchdjogfdjaaaDoor
