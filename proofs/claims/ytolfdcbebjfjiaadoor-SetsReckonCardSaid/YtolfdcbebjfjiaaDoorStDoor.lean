/- A set that came in; what the rows' lists give, and a world for the witness. -/
import Derived.Test.YtolfdcbebjfjiaaDoorStEq
import Derived.Test.YtolfdcbebjfjiaaDoorCards
import Derived.Test.YtolfdcbebjfjiaaDoorTie
import Derived.LaidSub
import Derived.Lib.LaidTab
import Derived.ProofKit
import Derived.OpenShut
import Derived.WideShapes
import Derived.Deep.DeepHandedRow
namespace Go.Proofs.YtolfdcbebjfjiaaDoor
open Go.RowKit Go.ChangeShapes
set_option linter.unusedVariables false
theorem cells_set : Tryd.prog.cellsOf 24 = 4 := by kernel_rfl
theorem cells_u64 : Tryd.prog.cellsOf 22 = 1 := by kernel_rfl
theorem list_four {α : Type} : ∀ {l : List α}, l.length = 4 → ∃ a b c d, l = [a, b, c, d]
  | [a, b, c, d], _ => ⟨a, b, c, d, rfl⟩
section
variable {H : Type} {enc : TypeId × Value → H} {w : World} {base : Nat} {sp : Nat → Bool} {hd : Bool}
theorem u64_of {n : Int} (h : (Lit.int .u64 n).wf = true) : ∃ a : Nat, n = a ∧ a < 18446744073709551616 := by
  have := bd_u64 h
  exact ⟨n.toNat, by omega, by omega⟩
theorem set_of_read {fuel : Nat} {cs : List Value} {x : DataW H × List MemPlace} (h : DataW.trod enc Tryd.prog w base sp hd fuel 24 cs = some x) : ∃ f : Nat → Bool, cs = [.int .u64 (word f 0 64 : Nat), .int .u64 (word f 64 64 : Nat), .int .u64 (word f 128 64 : Nat), .int .u64 (word f 192 64 : Nat)] := by
  cases fuel with
  | zero => simp [DataW.trod] at h
  | succ m =>
    rw [DataW.trod_step] at h
    unfold DataW.trodStep at h
    simp only [Tryd.underlying24] at h
    split at h
    · next hl =>
      simp only [Option.map_eq_some_iff] at h
      obtain ⟨ys, hy, _⟩ := h
      rw [cells_set] at hl
      obtain ⟨c0, c1, c2, c3, rfl⟩ := list_four hl
      rw [show List.range 4 = [0, 1, 2, 3] from rfl, cells_u64] at hy
      simp only [List.mapM_cons, List.mapM_nil, bind, Option.bind_eq_some_iff, pure, Option.some.injEq] at hy
      obtain ⟨y0, h0, z0, ⟨y1, h1, z1, ⟨y2, h2, z2, ⟨y3, h3, z3, _, _⟩, _⟩, _⟩, _⟩ := hy
      obtain ⟨n0, e0, _, k0⟩ := DataW.trod_int Tryd.underlying22 h0
      obtain ⟨n1, e1, _, k1⟩ := DataW.trod_int Tryd.underlying22 h1
      obtain ⟨n2, e2, _, k2⟩ := DataW.trod_int Tryd.underlying22 h2
      obtain ⟨n3, e3, _, k3⟩ := DataW.trod_int Tryd.underlying22 h3
      obtain ⟨a0, rfl, l0⟩ := u64_of k0
      obtain ⟨a1, rfl, l1⟩ := u64_of k1
      obtain ⟨a2, rfl, l2⟩ := u64_of k2
      obtain ⟨a3, rfl, l3⟩ := u64_of k3
      simp at e0 e1 e2 e3
      subst e0 e1 e2 e3
      obtain ⟨f, f0, f1, f2, f3⟩ := set_of a0 a1 a2 a3 l0 l1 l2 l3
      exact ⟨f, by rw [← f0, ← f1, ← f2, ← f3]⟩
    · cases h
set_option maxRecDepth 100000 in
theorem open_set {base' : Nat} {r : Reach} {v : Value} {d : DataW H} {ps : List MemPlace} (hval : Value.okWide Tryd.prog w r base' 24 v) (h : DataW.Trod enc Tryd.prog w base sp hd 24 v d ps) : ∃ f : Nat → Bool, v = setV f := by
  simp only [Value.okWide, Tryd.underlying24] at hval
  obtain ⟨cs, rfl, _⟩ := hval
  obtain ⟨fuel, h⟩ := h
  obtain ⟨f, e⟩ := set_of_read h
  refine ⟨f, ?_⟩
  have : cs = #[.int .u64 (word f 0 64 : Nat), .int .u64 (word f 64 64 : Nat), .int .u64 (word f 128 64 : Nat), .int .u64 (word f 192 64 : Nat)] := by
    apply Array.toList_inj.1
    simpa [Value.cells] using e
  rw [this]; rfl
end
theorem laidOut : laidOutB Tryd.prog = true := by kernel_rfl
theorem gTab : Tryd.prog.globalNamed "math/bits.deBruijn64tab" = some 0 := by kernel_rfl
def cellsD : DataW Unit → Array Value
  | .agg l => (l.map fun | .lit (.int k n) => Value.int k n | _ => Value.bool false).toArray
  | _ => #[]
def layCells (d : DataW Unit) : Obj → Obj
  | .cells _ t frozen => .cells (cellsD d) t frozen
  | o => o
noncomputable def laidW (os : Os) : World :=
  { World.holding Tryd.prog os ⟨#[], #[], []⟩ with heap := (World.holding Tryd.prog os ⟨#[], #[], []⟩).heap.modify 0 (layCells Rows.laid_math_bits_deBruijn64tab) }
theorem gTabT : (Tryd.prog.globals[0]?).map (·.type) = some 55 := by kernel_rfl
theorem cellsTab : Tryd.prog.cellsOf 55 = 64 := by kernel_rfl
theorem cellsU8 : Tryd.prog.cellsOf 5 = 1 := by kernel_rfl
theorem tab_of {W : World} (h : laidMetH Tryd.prog Rows.setsAlgebraRow.laid W) : TabZ W := by
  have h2 := laidMetH.filter (fun x => x.1 == "math/bits.deBruijn64tab") h
  have h3 : laidMet Tryd.prog [("math/bits.deBruijn64tab", Lib.tabData .u8 (Lib.deBruijn64tab.map Int.ofNat))] W := h2
  have h4 := Lib.tabIs_of_head (rest := []) gTab gTabT Tryd.underlying55 Tryd.underlying5 cellsU8 cellsTab h3
  intro j hj
  have h5 := h4.cell gTab j (by simpa [Lib.deBruijn64tab] using hj)
  rw [h5]
  have hj2 : j < Lib.deBruijn64tab.length := hj
  simp [List.getD_eq_getElem?_getD, List.getElem?_eq_getElem hj2]
end Go.Proofs.YtolfdcbebjfjiaaDoor
