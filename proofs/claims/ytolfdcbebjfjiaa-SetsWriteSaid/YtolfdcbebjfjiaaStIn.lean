/- A set that came in. -/
import Derived.Test.YtolfdcbebjfjiaaStEq
import Derived.ProofKit
import Derived.OpenShut
import Derived.WideShapes
import Derived.Deep.DeepHandedRow
namespace Go.Proofs.Ytolfdcbebjfjiaa
open Go.RowKit Go.ChangeShapes
set_option linter.unusedVariables false
theorem cells_set : Try.prog.cellsOf 24 = 4 := by kernel_rfl
theorem cells_u64 : Try.prog.cellsOf 22 = 1 := by kernel_rfl
theorem list_four {α : Type} : ∀ {l : List α}, l.length = 4 → ∃ a b c d, l = [a, b, c, d]
  | [a, b, c, d], _ => ⟨a, b, c, d, rfl⟩
section
variable {H : Type} {enc : TypeId × Value → H} {w : World} {base : Nat} {sp : Nat → Bool} {hd : Bool}
theorem u64_of {n : Int} (h : (Lit.int .u64 n).wf = true) : ∃ a : Nat, n = a ∧ a < 18446744073709551616 := by
  have := bd_u64 h
  exact ⟨n.toNat, by omega, by omega⟩
theorem set_of_read {fuel : Nat} {cs : List Value} {x : DataW H × List MemPlace} (h : DataW.trod enc Try.prog w base sp hd fuel 24 cs = some x) : ∃ f : Nat → Bool, cs = [.int .u64 (word f 0 64 : Nat), .int .u64 (word f 64 64 : Nat), .int .u64 (word f 128 64 : Nat), .int .u64 (word f 192 64 : Nat)] := by
  cases fuel with
  | zero => simp [DataW.trod] at h
  | succ m =>
    rw [DataW.trod_step] at h
    unfold DataW.trodStep at h
    simp only [Try.underlying24] at h
    split at h
    · next hl =>
      simp only [Option.map_eq_some_iff] at h
      obtain ⟨ys, hy, _⟩ := h
      rw [cells_set] at hl
      obtain ⟨c0, c1, c2, c3, rfl⟩ := list_four hl
      rw [show List.range 4 = [0, 1, 2, 3] from rfl, cells_u64] at hy
      simp only [List.mapM_cons, List.mapM_nil, bind, Option.bind_eq_some_iff, pure, Option.some.injEq] at hy
      obtain ⟨y0, h0, z0, ⟨y1, h1, z1, ⟨y2, h2, z2, ⟨y3, h3, z3, _, _⟩, _⟩, _⟩, _⟩ := hy
      obtain ⟨n0, e0, _, k0⟩ := DataW.trod_int Try.underlying22 h0
      obtain ⟨n1, e1, _, k1⟩ := DataW.trod_int Try.underlying22 h1
      obtain ⟨n2, e2, _, k2⟩ := DataW.trod_int Try.underlying22 h2
      obtain ⟨n3, e3, _, k3⟩ := DataW.trod_int Try.underlying22 h3
      obtain ⟨a0, rfl, l0⟩ := u64_of k0
      obtain ⟨a1, rfl, l1⟩ := u64_of k1
      obtain ⟨a2, rfl, l2⟩ := u64_of k2
      obtain ⟨a3, rfl, l3⟩ := u64_of k3
      simp at e0 e1 e2 e3
      subst e0 e1 e2 e3
      obtain ⟨f, f0, f1, f2, f3⟩ := set_of a0 a1 a2 a3 l0 l1 l2 l3
      exact ⟨f, by rw [← f0, ← f1, ← f2, ← f3]⟩
    · cases h
set_option maxRecDepth 100000 in
theorem open_set {base' : Nat} {r : Reach} {v : Value} {d : DataW H} {ps : List MemPlace} (hval : Value.okWide Try.prog w r base' 24 v) (h : DataW.Trod enc Try.prog w base sp hd 24 v d ps) : ∃ f : Nat → Bool, v = setV f := by
  simp only [Value.okWide, Try.underlying24] at hval
  obtain ⟨cs, rfl, _⟩ := hval
  obtain ⟨fuel, h⟩ := h
  obtain ⟨f, e⟩ := set_of_read h
  refine ⟨f, ?_⟩
  have : cs = #[.int .u64 (word f 0 64 : Nat), .int .u64 (word f 64 64 : Nat), .int .u64 (word f 128 64 : Nat), .int .u64 (word f 192 64 : Nat)] := by
    apply Array.toList_inj.1
    simpa [Value.cells] using e
  rw [this]; rfl
end
theorem laidOut : laidOutB Try.prog = true := by kernel_rfl
end Go.Proofs.Ytolfdcbebjfjiaa
