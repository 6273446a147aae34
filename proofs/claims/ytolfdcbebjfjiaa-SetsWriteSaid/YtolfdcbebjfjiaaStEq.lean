/- Sets held against each other; sets.Read at every text; what the laws ask first. Conditions: the library's table of de Bruijn. -/
import Derived.Test.YtolfdcbebjfjiaaStReadN
import Derived.Test.YtolfdcbebjfjiaaStReadE
import Derived.Test.YtolfdcbebjfjiaaStPrint
import Derived.Laws.StructEq
namespace Go.Proofs.Ytolfdcbebjfjiaa
open Go.RowKit
set_option linter.unusedVariables false
theorem set_guard : Try.prog.eqGuardType Try.prog.depth 24 = false := by kernel_rfl
theorem eq_set (a b c d : Int) (w : World) : (Op.equalIn 10000 24 (.agg #[.int .u64 a, .int .u64 b, .int .u64 c, .int .u64 d]) (.agg #[.int .u64 a, .int .u64 b, .int .u64 c, .int .u64 d])).run Try.prog w = .ok true w := by
  have hi := info_u64
  cases hq : Try.prog.info? 22 with
  | none => rw [hq] at hi; cases hi
  | some i =>
    have hs : i.size = 1 := by simpa [hq] using hi
    have hagg : (isAgg 22).run Try.prog w = .ok false w := by
      unfold isAgg
      rw [Sem.run_bind, run_underlying Try.underlying22 w]; rfl
    rw [show (10000 : Nat) = 9999 + 1 from rfl, Op.equalIn]
    have he : ∀ x : Int, (Op.equalIn 9999 22 (.int .u64 x) (.int .u64 x)).run Try.prog w = .ok true w := fun x => by
      rw [show (9999 : Nat) = 9998 + 1 from rfl, run_equalIn_int w 9998 _ _ _ _ _ Try.underlying22]; simp
    simp [Sem.run_bind, run_underlying Try.underlying24, sizeOf, typeInfo, hq, hs, part]
    rw [show List.range' 0 4 = [0, 1, 2, 3] from rfl]
    simp [Sem.run_bind, hagg, he]
theorem eq_setV (f : Nat → Bool) (w : World) : (Op.equalIn 10000 24 (.agg #[.int .u64 (word f 0 64 : Nat), .int .u64 (word f 64 64 : Nat), .int .u64 (word f 128 64 : Nat), .int .u64 (word f 192 64 : Nat)]) (.agg #[.int .u64 (word f 0 64 : Nat), .int .u64 (word f 64 64 : Nat), .int .u64 (word f 128 64 : Nat), .int .u64 (word f 192 64 : Nat)])).run Try.prog w = .ok true w := eq_set _ _ _ _ w
theorem Read_any (t : ByteArray) (w : World) (ht : t.size ≤ maxLen) : Calls Try.prog 6 #[.string t] w fun v w' => v = .returned (.tuple #[setV (readR t).2.2, faultV (readR t).1 (readR t).2.1]) ∧ Grew w w' := by
  by_cases h : 65536 < t.size
  · refine (Read_much t w ht h).mono fun v w' ⟨h1, h2⟩ => ⟨?_, h2⟩
    rw [h1]
    unfold readR
    rw [if_pos h, setV_empty]
  · by_cases h0 : t.size = 0
    · exact Read_empty t w (by omega) h0
    · by_cases h9 : byteAt t 0 = 94
      · exact Read_not t w (by omega) (by omega) h9
      · exact Read_plain t w (by omega) (by omega) h9
def abcT : ByteArray := ⟨#[97, 45, 99]⟩
theorem abc_read : (readR abcT).1 = 0 ∧ (readR abcT).2.1 = 0 ∧ bl (readR abcT).2.2 0 256 = [97, 98, 99] := by decide +kernel
/-- A set in memory. -/
def SetAt (w : World) (b : Nat) (f : Nat → Bool) : Prop := ArrAt w b 0 4 (fun j => .int .u64 (word f (64 * j) 64))
theorem SetAt.four {w : World} {b : Nat} {f : Nat → Bool} (h : SetAt w b f) : w.cell? ⟨b, 0, none⟩ = some (.int .u64 (word f 0 64 : Nat)) ∧ w.cell? ⟨b, 1, none⟩ = some (.int .u64 (word f 64 64 : Nat)) ∧ w.cell? ⟨b, 2, none⟩ = some (.int .u64 (word f 128 64 : Nat)) ∧ w.cell? ⟨b, 3, none⟩ = some (.int .u64 (word f 192 64 : Nat)) :=
  ⟨ArrAt.at0 h 0 (by omega), ArrAt.at0 h 1 (by omega), ArrAt.at0 h 2 (by omega), ArrAt.at0 h 3 (by omega)⟩
theorem SetAt.free {w : World} {b : Nat} {f : Nat → Bool} (h : SetAt w b f) : w.frozen? ⟨b, 0, none⟩ = false ∧ w.frozen? ⟨b, 1, none⟩ = false ∧ w.frozen? ⟨b, 2, none⟩ = false ∧ w.frozen? ⟨b, 3, none⟩ = false :=
  ⟨ArrAt.free0 h 0 (by omega), ArrAt.free0 h 1 (by omega), ArrAt.free0 h 2 (by omega), ArrAt.free0 h 3 (by omega)⟩
theorem SetAt.kept {w w' : World} {b : Nat} {f : Nat → Bool} (h : SetAt w b f) (g : Grew w w') : SetAt w' b f := ArrAt.kept h g
theorem SetAt.new (w : World) (f : Nat → Bool) : SetAt (w.alloc (.cells #[.int .u64 (word f 0 64 : Nat), .int .u64 (word f 64 64 : Nat), .int .u64 (word f 128 64 : Nat), .int .u64 (word f 192 64 : Nat)] 24)) w.heap.size f := words_at w fun j => word f (64 * j) 64
end Go.Proofs.Ytolfdcbebjfjiaa
