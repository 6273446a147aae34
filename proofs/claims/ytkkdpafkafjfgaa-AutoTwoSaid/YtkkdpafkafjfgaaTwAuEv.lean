/- Rows of numbers as keys of maps. -/
import Derived.Test.YtkkdpafkafjfgaaTwAuEx
import Derived.DeepKeys5
namespace Go.Proofs.Ytkkdpafkafjfgaa
open Go.RowKit RR
set_option linter.unusedVariables false
set_option maxRecDepth 100000
theorem mapM_some {α β : Type} {f : α → Option β} {g : α → β} : ∀ {l : List α}, (∀ x ∈ l, f x = some (g x)) → l.mapM f = some (l.map g)
  | [], _ => rfl
  | x :: l, h => by
    rw [List.mapM_cons, h x (by simp), mapM_some fun y hy => h y (by simp [hy])]; rfl
theorem keyOf_row {P : Program} {k e : TypeId} {n : Nat} (hu : P.underlying k = some (.array n e)) (he : P.underlying e = some (.int .i64)) (hkt : P.keyType k = true) (hce : P.cellsOf e = 1) (hck : P.cellsOf k = n) (hp : ∃ m, P.types.size = m + 1) (f : Nat → Int) (hf : ∀ i, i < n → (Lit.int .i64 (f i)).wf = true) :
    ∃ y, keyOf P k (.agg ((List.range n).map fun i => Value.int .i64 (f i)).toArray) = some y := by
  obtain ⟨m, hm⟩ := hp
  have hsz : ((List.range n).map fun i => Value.int .i64 (f i)).length = n := by simp
  unfold keyOf
  rw [hu]
  dsimp only
  have h1 : (P.keyType k && (Value.agg ((List.range n).map fun i => Value.int .i64 (f i)).toArray).formed P k) = true := by
    rw [hkt]; unfold Value.formed; rw [hu]; simp [hck]
  rw [if_pos h1]
  have h2 : P.keyLits (P.types.size + 1) k (Value.agg ((List.range n).map fun i => Value.int .i64 (f i)).toArray).cells.toList = some (((List.range n).map fun i => [Lit.int .i64 (f i)]).flatten) := by
    show P.keyLits (P.types.size + 1) k ((List.range n).map fun i => Value.int .i64 (f i)) = _
    unfold Program.keyLits
    rw [hu]
    dsimp only
    rw [if_pos (by rw [hsz, hck])]
    rw [mapM_some (g := fun i => [Lit.int .i64 (f i)]) fun i hi => ?_]
    · rfl
    · have hi := List.mem_range.1 hi
      rw [hce, Nat.mul_one]
      have e1 : (List.drop i ((List.range n).map fun i => Value.int .i64 (f i))).take 1 = [Value.int .i64 (f i)] := by
        rw [List.drop_eq_getElem_cons (by rw [hsz]; exact hi), List.take_succ_cons, List.take_zero]
        simp
      rw [e1, hm]
      unfold Program.keyLits
      rw [he]
      dsimp only
      rw [if_pos ⟨rfl, hf i hi⟩]
  rw [h2]
  exact ⟨_, rfl⟩
theorem types_pos : ∃ m, Try.prog.types.size = m + 1 := ⟨Try.prog.types.size - 1, by have : 0 < Try.prog.types.size := of_decide_eq_true (by kernel_rfl); omega⟩
def twoV (x : Nat × Nat) : Value := .agg #[.int .i64 (x.1 : Nat), .int .i64 (x.2 : Nat)]
theorem key_two {a b : Nat} (ha : a ≤ 9223372036854775807) (hb : b ≤ 9223372036854775807) : ∃ y, keyOf Try.prog 75 (.agg #[.int .i64 (a : Nat), .int .i64 (b : Nat)]) = some y := by
  have := keyOf_row (P := Try.prog) (k := 75) (e := 3) (n := 2) Try.underlying75 Try.underlying3 (by kernel_rfl) (by kernel_rfl) (by kernel_rfl) types_pos (fun i => if i = 0 then (a : Int) else (b : Int)) (fun i _ => by split; exact wf_i64 ha; exact wf_i64 hb)
  exact this
def enc2 : Enc Try.prog 75 (Nat × Nat) where
  enc := twoV
  D x := x.1 ≤ 9223372036854775807 ∧ x.2 ≤ 9223372036854775807
  key x h := key_two h.1 h.2
  inj x y _ _ h := by
    obtain ⟨a, b⟩ := x
    obtain ⟨c, d⟩ := y
    unfold twoV at h
    simp only [Value.agg.injEq, Array.mk.injEq, List.cons.injEq, Value.int.injEq, true_and, and_true] at h
    rw [Int.ofNat_inj.1 h.1, Int.ofNat_inj.1 h.2]
theorem key2 : Maps.Keyed Try.prog 75 := Maps.Keyed.of_law (deep_law_laid laidOutA (m := 3) (by decide) (of_decide_eq_true (by kernel_rfl)) (by kernel_rfl) (by kernel_rfl))
theorem info_twox : ∃ i0, Try.prog.info? 75 = some i0 ∧ i0.zero = some (.agg #[.int .i64 0, .int .i64 0]) ∧ i0.size = 2 ∧ i0.bytes = 16 := info_parts (show (Try.prog.info? 75).map (fun i => (i.zero, i.size, i.bytes)) = some (some (.agg #[.int .i64 0, .int .i64 0]), 2, 16) by kernel_rfl)
end Go.Proofs.Ytkkdpafkafjfgaa
