/- Sets held against each other; sets.Read at every text; what the laws ask first. Conditions: the library's table of de Bruijn. -/
import Derived.Test.YtolfdcbebjfjiaaDoorStReadN
import Derived.Test.YtolfdcbebjfjiaaDoorStReadE
import Derived.Test.YtolfdcbebjfjiaaDoorStPrint
import Derived.Laws.StructEq
namespace Go.Proofs.YtolfdcbebjfjiaaDoor
open Go.RowKit
set_option linter.unusedVariables false
theorem set_guard : Tryd.prog.eqGuardType Tryd.prog.depth 24 = false := by kernel_rfl
theorem eq_set (a b c d : Int) (w : World) : (Op.equalIn 10000 24 (.agg #[.int .u64 a, .int .u64 b, .int .u64 c, .int .u64 d]) (.agg #[.int .u64 a, .int .u64 b, .int .u64 c, .int .u64 d])).run Tryd.prog w = .ok true w := by
  have hi := info_u64
  cases hq : Tryd.prog.info? 22 with
  | none => rw [hq] at hi; cases hi
  | some i =>
    have hs : i.size = 1 := by simpa [hq] using hi
    have hagg : (isAgg 22).run Tryd.prog w = .ok false w := by
      unfold isAgg
      rw [Sem.run_bind, run_underlying Tryd.underlying22 w]; rfl
    rw [show (10000 : Nat) = 9999 + 1 from rfl, Op.equalIn]
    have he : ∀ x : Int, (Op.equalIn 9999 22 (.int .u64 x) (.int .u64 x)).run Tryd.prog w = .ok true w := fun x => by
      rw [show (9999 : Nat) = 9998 + 1 from rfl, run_equalIn_int w 9998 _ _ _ _ _ Tryd.underlying22]; simp
    simp [Sem.run_bind, run_underlying Tryd.underlying24, sizeOf, typeInfo, hq, hs, part]
    rw [show List.range' 0 4 = [0, 1, 2, 3] from rfl]
    simp [Sem.run_bind, hagg, he]
theorem eq_setV (f : Nat → Bool) (w : World) : (Op.equalIn 10000 24 (.agg #[.int .u64 (word f 0 64 : Nat), .int .u64 (word f 64 64 : Nat), .int .u64 (word f 128 64 : Nat), .int .u64 (word f 192 64 : Nat)]) (.agg #[.int .u64 (word f 0 64 : Nat), .int .u64 (word f 64 64 : Nat), .int .u64 (word f 128 64 : Nat), .int .u64 (word f 192 64 : Nat)])).run Tryd.prog w = .ok true w := eq_set _ _ _ _ w
theorem Read_any (t : ByteArray) (w : World) (ht : t.size ≤ maxLen) : Calls Tryd.prog 24 #[.string t] w fun v w' => v = .returned (.tuple #[setV (readR t).2.2, faultV (readR t).1 (readR t).2.1]) ∧ Grew w w' := by
  by_cases h : 65536 < t.size
  · refine (Read_much t w ht h).mono fun v w' ⟨h1, h2⟩ => ⟨?_, h2⟩
    rw [h1]
    unfold readR
    rw [if_pos h, setV_empty]
  · by_cases h0 : t.size = 0
    · exact Read_empty t w (by omega) h0
    · by_cases h9 : byteAt t 0 = 94
      · exact Read_not t w (by omega) (by omega) h9
      · exact Read_plain t w (by omega) (by omega) h9
def abcT : ByteArray := ⟨#[97, 45, 99]⟩
theorem abc_read : (readR abcT).1 = 0 ∧ (readR abcT).2.1 = 0 ∧ bl (readR abcT).2.2 0 256 = [97, 98, 99] := by decide +kernel
/-- A set in memory. -/
def SetAt (w : World) (b : Nat) (f : Nat → Bool) : Prop := ArrAt w b 0 4 (fun j => .int .u64 (word f (64 * j) 64))
theorem SetAt.four {w : World} {b : Nat} {f : Nat → Bool} (h : SetAt w b f) : w.cell? ⟨b, 0, none⟩ = some (.int .u64 (word f 0 64 : Nat)) ∧ w.cell? ⟨b, 1, none⟩ = some (.int .u64 (word f 64 64 : Nat)) ∧ w.cell? ⟨b, 2, none⟩ = some (.int .u64 (word f 128 64 : Nat)) ∧ w.cell? ⟨b, 3, none⟩ = some (.int .u64 (word f 192 64 : Nat)) :=
  ⟨ArrAt.at0 h 0 (by omega), ArrAt.at0 h 1 (by omega), ArrAt.at0 h 2 (by omega), ArrAt.at0 h 3 (by omega)⟩
theorem SetAt.free {w : World} {b : Nat} {f : Nat → Bool} (h : SetAt w b f) : w.frozen? ⟨b, 0, none⟩ = false ∧ w.frozen? ⟨b, 1, none⟩ = false ∧ w.frozen? ⟨b, 2, none⟩ = false ∧ w.frozen? ⟨b, 3, none⟩ = false :=
  ⟨ArrAt.free0 h 0 (by omega), ArrAt.free0 h 1 (by omega), ArrAt.free0 h 2 (by omega), ArrAt.free0 h 3 (by omega)⟩
theorem SetAt.kept {w w' : World} {b : Nat} {f : Nat → Bool} (h : SetAt w b f) (g : Grew w w') : SetAt w' b f := ArrAt.kept h g
theorem SetAt.new (w : World) (f : Nat → Bool) : SetAt (w.alloc (.cells #[.int .u64 (word f 0 64 : Nat), .int .u64 (word f 64 64 : Nat), .int .u64 (word f 128 64 : Nat), .int .u64 (word f 192 64 : Nat)] 24)) w.heap.size f := words_at w fun j => word f (64 * j) 64
set_option maxHeartbeats 1000000 in
theorem alive_any (w : World) (hT : TabZ w) : Calls Tryd.prog 22 #[] w fun e w' => e = .returned (.bool true) ∧ Grew w w' := by
  obtain ⟨a1, a2, a3⟩ := abc_read
  have HRd := fun w0 : World => hidd (Read_any abcT w0 (by decide))
  rw [a1, a2] at HRd
  generalize (readR abcT).2.2 = f at a3 HRd
  have HTx := fun (w0 : World) (h : TabZ w0) => hidd (Text_any f w0 h)
  have HSz := fun w0 : World => hidd (Size_any f w0)
  rw [a3] at HTx HSz
  rw [show bytesL [97, 98, 99] = [97, 98, 99] from by decide] at HTx
  have HT := hidd hT
  clear a1 a2 a3 hT
  unfold abcT at HRd
  unfold setV at HRd HTx HSz
  unfold faultV at HRd
  go_enter Tryd.func22, Tryd.ntmps22
  go_wp2_with fail
  refine (HRd _).out.mono ?_; rintro e w1 ⟨rfl, G1⟩
  have S1 := hidd (SetAt.new w1 f)
  have G1 := hidd G1
  go_wp2_with fail
  refine (HTx _ (HT.out.kept ((G1.out.alloc _).alloc _))).out.mono ?_; rintro e w2 ⟨rfl, G2⟩
  obtain ⟨c0, c1, c2, c3⟩ := (((S1.out.kept ((Grew.refl _).alloc _))).kept G2).four
  have G2 := hidd (((G1.out.alloc _).alloc _).trans G2)
  go_wp2_with fail
  refine (HSz _).out.mono ?_; rintro e w3 ⟨rfl, G3⟩
  have G3 := hidd (G2.out.trans G3)
  clear c0 c1 c2 c3
  go_wp2_with fail
  go_ret
  exact ⟨rfl, G3.out⟩
end Go.Proofs.YtolfdcbebjfjiaaDoor
