/- Reading in any base: plain. -/
import Derived.Test.YthhcpocgfmlbeaaDoorFmP
import Derived.Lib.IndexLaws
import Derived.Lib.Strings
namespace Go.Proofs.YthhcpocgfmlbeaaDoor
open Go.RowKit
set_option linter.unusedVariables false
set_option maxRecDepth 100000 in
theorem index_dig0 : ∀ b : Fin 37, ∀ c : Fin 256, Lib.indexByte (digsT.data.toList.take b.val) (UInt8.ofNat c.val) = if digV (UInt8.ofNat c.val) < b.val then (digV (UInt8.ofNat c.val) : Int) else -1 := by decide +kernel
theorem index_dig {b : Nat} (hb : b ≤ 36) (c : UInt8) : Lib.indexByte (digsT.data.toList.take b) c = if digV c < b then (digV c : Int) else -1 := by
  have := index_dig0 ⟨b, by omega⟩ ⟨c.toNat, c.toNat_lt⟩
  simpa using this
/-- How far the reading has come. -/
def UnSt (b : Nat) (d : List UInt8) (i n : Nat) (much : Bool) : Prop := ∃ V, numV? b (d.take i) = some V ∧ n < 18446744073709551616 ∧ ((much = false ∧ n = V) ∨ (much = true ∧ 18446744073709551616 ≤ V))
theorem UnSt.start (b : Nat) (d : List UInt8) : UnSt b d 0 0 false := ⟨0, by simp [numV?], by omega, Or.inl ⟨rfl, rfl⟩⟩
theorem numV?_none (b : Nat) (l : List UInt8) : l.foldl (fun o c => o.bind fun n => if digV c < b then some (n * b + digV c) else none) none = none := by
  induction l with
  | nil => rfl
  | cons c l ih => simpa using ih
theorem numV?_bad {b i : Nat} {d : List UInt8} (hi : i < d.length) (h : ¬ digV d[i] < b) : numV? b d = none := by
  have h1 : d = d.take i ++ (d[i] :: d.drop (i + 1)) := by rw [← List.drop_eq_getElem_cons hi, List.take_append_drop]
  rw [h1]
  unfold numV?
  rw [List.foldl_append, List.foldl_cons]
  have : ((List.foldl (fun o c => o.bind fun n => if digV c < b then some (n * b + digV c) else none) (some 0) (d.take i)).bind fun n => if digV d[i] < b then some (n * b + digV d[i]) else none) = none := by
    cases List.foldl (fun o c => o.bind fun n => if digV c < b then some (n * b + digV c) else none) (some 0) (d.take i) with
    | none => rfl
    | some n => simp [h]
  rw [this]
  exact numV?_none b _
theorem UnSt.step {b : Nat} {d : List UInt8} {i n : Nat} {much : Bool} (h : UnSt b d i n much) (hi : i < d.length) (hb : 1 ≤ b) (hk : digV d[i] < b) :
    UnSt b d (i + 1) ((n * b % 18446744073709551616 + digV d[i]) % 18446744073709551616) (much || (decide (0 < n * b / 18446744073709551616) || decide (0 < (n * b % 18446744073709551616 + digV d[i]) / 18446744073709551616))) := by
  obtain ⟨V, h1, h2, h3⟩ := h
  refine ⟨V * b + digV d[i], ?_, Nat.mod_lt _ (by decide), ?_⟩
  · rw [List.take_succ_eq_append_getElem hi, numV?_snoc, h1, Option.bind_some, if_pos hk]
  · rcases h3 with ⟨rfl, rfl⟩ | ⟨rfl, h4⟩
    · obtain ⟨P, hP⟩ : ∃ P, n * b = P := ⟨_, rfl⟩
      rw [hP]
      by_cases hh : P + digV d[i] < 18446744073709551616
      · refine Or.inl ⟨?_, by omega⟩
        rw [decide_eq_false (by omega), decide_eq_false (by omega)]; rfl
      · refine Or.inr ⟨?_, by omega⟩
        by_cases hp : 0 < P / 18446744073709551616
        · rw [decide_eq_true hp]; rfl
        · rw [decide_eq_true (show 0 < (P % 18446744073709551616 + digV d[i]) / 18446744073709551616 by omega)]; simp
    · refine Or.inr ⟨rfl, ?_⟩
      have := Nat.mul_le_mul_left V hb
      omega
/-- What Unbase says of a text in a base that there is. -/
def unbR (b : Nat) (l : List UInt8) : Ending :=
  match numV? b (Lib.trimPrefix l [45]) with
  | none => .returned (.tuple #[.int .i64 0, .int .i64 2])
  | some v => if Lib.trimPrefix l [45] = [] then .returned (.tuple #[.int .i64 0, .int .i64 2]) else numR (sgn v (Lib.hasPrefix l [45]))
theorem unbR_empty {b : Nat} {l : List UInt8} (h : Lib.trimPrefix l [45] = []) : unbR b l = .returned (.tuple #[.int .i64 0, .int .i64 2]) := by
  unfold unbR
  cases numV? b (Lib.trimPrefix l [45]) with
  | none => rfl
  | some v => simp [h]
theorem unbR_bad {b : Nat} {l : List UInt8} (h : numV? b (Lib.trimPrefix l [45]) = none) : unbR b l = .returned (.tuple #[.int .i64 0, .int .i64 2]) := by
  unfold unbR; rw [h]
theorem unbR_val {b v : Nat} {l : List UInt8} (h0 : Lib.trimPrefix l [45] ≠ []) (h : numV? b (Lib.trimPrefix l [45]) = some v) : unbR b l = numR (sgn v (Lib.hasPrefix l [45])) := by
  unfold unbR; rw [h]; simp [h0]
end Go.Proofs.YthhcpocgfmlbeaaDoor
