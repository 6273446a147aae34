/- SetsAlgebra: the walk. Conditions: the library's table of de Bruijn. -/
import Derived.Test.YtolfdcbebjfjiaaDoorStShape
namespace Go.Proofs.YtolfdcbebjfjiaaDoor
open Go.RowKit
set_option linter.unusedVariables false
def sz (f : Nat → Bool) : Nat := (bl f 0 256).length
theorem sz_le (f : Nat → Bool) : sz f ≤ 256 := bl_length f 256 0
theorem bl_both (f g : Nat → Bool) : ∀ n k, (bl f k n).length + (bl g k n).length = (bl (fun i => f i || g i) k n).length + (bl (fun i => f i && g i) k n).length
  | 0, k => rfl
  | n + 1, k => by
    have := bl_both f g n (k + 1)
    simp only [bl]
    rcases Bool.eq_false_or_eq_true (f k) with h1 | h1 <;> rcases Bool.eq_false_or_eq_true (g k) with h2 | h2 <;> simp [h1, h2] <;> omega
theorem bl_not (f : Nat → Bool) : ∀ n k, (bl (fun i => !f i) k n).length + (bl f k n).length = n
  | 0, k => rfl
  | n + 1, k => by
    have := bl_not f n (k + 1)
    simp only [bl]
    rcases Bool.eq_false_or_eq_true (f k) with h1 | h1 <;> simp [h1] <;> omega
theorem num_add {u v : Nat} (hu : u ≤ 256) (hv : v ≤ 256) {x y : Operand} (a : Act) (w : World) : (do eqGuard .add 3 x y (.int .i64 (u : Nat)) (.int .i64 (v : Nat)); binOp .add 3 (.int .i64 (u : Nat)) (.int .i64 (v : Nat)) : Sem Value).run Tryd.prog w = .ok (.int .i64 ((u + v : Nat) : Int)) w := by
  have h : IntKind.i64.wrap ((u : Int) + (v : Int)) = ((u + v : Nat) : Int) := by rw [IntKind.wrap_i64]; omega
  simp [eqGuard, binOp, Op.intArith, h]
theorem num_sub {v : Nat} (hv : v ≤ 256) {x y : Operand} (a : Act) (w : World) : (do eqGuard .sub 3 x y (.int .i64 256) (.int .i64 (v : Nat)); binOp .sub 3 (.int .i64 256) (.int .i64 (v : Nat)) : Sem Value).run Tryd.prog w = .ok (.int .i64 ((256 - v : Nat) : Int)) w := by
  have h : IntKind.i64.wrap ((256 : Int) - (v : Int)) = ((256 - v : Nat) : Int) := by rw [IntKind.wrap_i64]; omega
  simp [eqGuard, binOp, Op.intArith, h]
theorem num_eql {u v : Nat} (h : u = v) {x y : Operand} (a : Act) (w : World) : (do eqGuard .eql 3 x y (.int .i64 (u : Nat)) (.int .i64 (v : Nat)); binOp .eql 3 (.int .i64 (u : Nat)) (.int .i64 (v : Nat)) : Sem Value).run Tryd.prog w = .ok (.bool true) w := by
  subst h
  simp [eqGuard, binOp, Op.intCmp]
set_option maxRecDepth 100000 in
set_option maxHeartbeats 4000000 in
theorem SetsAlgebra_walk (fa fb fc : Nat → Bool) (w : World) (hT : TabZ w) : Calls Tryd.prog 4 #[setV fa, setV fb, setV fc] w fun e w' => e = .returned (.bool true) ∧ Grew w w' := by
  have HT := hidd hT
  have HB : Hid (SetAt (((w.alloc (.cells #[.int .u64 (word fa 0 64 : Nat), .int .u64 (word fa 64 64 : Nat), .int .u64 (word fa 128 64 : Nat), .int .u64 (word fa 192 64 : Nat)] 24)).alloc (.cells #[.int .u64 (word fb 0 64 : Nat), .int .u64 (word fb 64 64 : Nat), .int .u64 (word fb 128 64 : Nat), .int .u64 (word fb 192 64 : Nat)] 24)).alloc (.cells #[.int .u64 (word fc 0 64 : Nat), .int .u64 (word fc 64 64 : Nat), .int .u64 (word fc 128 64 : Nat), .int .u64 (word fc 192 64 : Nat)] 24)) w.heap.size fa ∧
    SetAt (((w.alloc (.cells #[.int .u64 (word fa 0 64 : Nat), .int .u64 (word fa 64 64 : Nat), .int .u64 (word fa 128 64 : Nat), .int .u64 (word fa 192 64 : Nat)] 24)).alloc (.cells #[.int .u64 (word fb 0 64 : Nat), .int .u64 (word fb 64 64 : Nat), .int .u64 (word fb 128 64 : Nat), .int .u64 (word fb 192 64 : Nat)] 24)).alloc (.cells #[.int .u64 (word fc 0 64 : Nat), .int .u64 (word fc 64 64 : Nat), .int .u64 (word fc 128 64 : Nat), .int .u64 (word fc 192 64 : Nat)] 24)) (w.heap.size + 1) fb ∧
    SetAt (((w.alloc (.cells #[.int .u64 (word fa 0 64 : Nat), .int .u64 (word fa 64 64 : Nat), .int .u64 (word fa 128 64 : Nat), .int .u64 (word fa 192 64 : Nat)] 24)).alloc (.cells #[.int .u64 (word fb 0 64 : Nat), .int .u64 (word fb 64 64 : Nat), .int .u64 (word fb 128 64 : Nat), .int .u64 (word fb 192 64 : Nat)] 24)).alloc (.cells #[.int .u64 (word fc 0 64 : Nat), .int .u64 (word fc 64 64 : Nat), .int .u64 (word fc 128 64 : Nat), .int .u64 (word fc 192 64 : Nat)] 24)) (w.heap.size + 1 + 1) fc ∧
    Grew w (((w.alloc (.cells #[.int .u64 (word fa 0 64 : Nat), .int .u64 (word fa 64 64 : Nat), .int .u64 (word fa 128 64 : Nat), .int .u64 (word fa 192 64 : Nat)] 24)).alloc (.cells #[.int .u64 (word fb 0 64 : Nat), .int .u64 (word fb 64 64 : Nat), .int .u64 (word fb 128 64 : Nat), .int .u64 (word fb 192 64 : Nat)] 24)).alloc (.cells #[.int .u64 (word fc 0 64 : Nat), .int .u64 (word fc 64 64 : Nat), .int .u64 (word fc 128 64 : Nat), .int .u64 (word fc 192 64 : Nat)] 24))) := by
    refine ⟨((SetAt.new w fa).kept ((Grew.refl _).alloc _)).kept ((Grew.refl _).alloc _), ?_, ?_, (((Grew.refl w).alloc _).alloc _).alloc _⟩
    · have := SetAt.new (w.alloc (.cells #[.int .u64 (word fa 0 64 : Nat), .int .u64 (word fa 64 64 : Nat), .int .u64 (word fa 128 64 : Nat), .int .u64 (word fa 192 64 : Nat)] 24)) fb
      rw [World.size_alloc] at this
      exact this.kept ((Grew.refl _).alloc _)
    · have := SetAt.new ((w.alloc (.cells #[.int .u64 (word fa 0 64 : Nat), .int .u64 (word fa 64 64 : Nat), .int .u64 (word fa 128 64 : Nat), .int .u64 (word fa 192 64 : Nat)] 24)).alloc (.cells #[.int .u64 (word fb 0 64 : Nat), .int .u64 (word fb 64 64 : Nat), .int .u64 (word fb 128 64 : Nat), .int .u64 (word fb 192 64 : Nat)] 24)) fc
      rw [World.size_alloc, World.size_alloc] at this
      exact this
  have HN := hidd (And.intro (bl_both fa fb 256 0) (bl_not fa 256 0))
  clear hT
  unfold setV
  go_enter Tryd.func4, Tryd.ntmps4
  go_wp2_with fail
  refine (alive_any _ (HT.out.kept HB.out.2.2.2)).mono ?_; rintro e w1 ⟨rfl, G1⟩
  have B1 := hidd (And.intro (HB.out.1.kept G1) (And.intro (HB.out.2.1.kept G1) (HB.out.2.2.1.kept G1)))
  have W1 := hidd (HB.out.2.2.2.trans G1)
  clear HB G1
  go_wp2_with fail
  refine region_frame [9, 10, 11, 12, 13, 14, 15, 16, 17, 18, 19, 20, 21, 22, 23, 24, 25] ([.val (setV fun i => fa i), .val (setV fun i => fb i), .val (setV fun i => (fa i || fb i)), .val (setV fun i => (!(fa i || fb i))), .val (setV fun i => fa i), .val (setV fun i => (!fa i)), .val (setV fun i => fb i), .val (setV fun i => (!fb i)), .val (setV fun i => ((!fa i) && (!fb i))), .val (.bool false), .val (.bool false), .val (setV fun i => fa i), .val (setV fun i => (!fa i)), .val (setV fun i => (!(!fa i))), .val (setV fun i => fa i), .val (.bool false), .val (.bool false)]) (by kernel_rfl) (by kernel_rfl)
    ⟨st_load (g := fun i => fa i) B1.out.1 (by kernel_rfl) rfl rfl, st_load (g := fun i => fb i) B1.out.2.1 (by kernel_rfl) rfl rfl, st_call2 go_union (fun w1 g => Union_any _ _ w1) (by kernel_rfl) rfl rfl rfl, st_call1 go_not (fun w1 g => Not_any _ w1) (by kernel_rfl) rfl rfl, st_load (g := fun i => fa i) B1.out.1 (by kernel_rfl) rfl rfl, st_call1 go_not (fun w1 g => Not_any _ w1) (by kernel_rfl) rfl rfl, st_load (g := fun i => fb i) B1.out.2.1 (by kernel_rfl) rfl rfl, st_call1 go_not (fun w1 g => Not_any _ w1) (by kernel_rfl) rfl rfl, st_call2 go_meet (fun w1 g => Meet_any _ _ w1) (by kernel_rfl) rfl rfl rfl, st_neq (f := fun i => (!(fa i || fb i))) (g := fun i => ((!fa i) && (!fb i))) (setV_congr fun i hi => by cases fa i <;> cases fb i <;> cases fc i <;> rfl) (by kernel_rfl) rfl rfl rfl, st_move (by kernel_rfl) rfl, st_load (g := fun i => fa i) B1.out.1 (by kernel_rfl) rfl rfl, st_call1 go_not (fun w1 g => Not_any _ w1) (by kernel_rfl) rfl rfl, st_call1 go_not (fun w1 g => Not_any _ w1) (by kernel_rfl) rfl rfl, st_load (g := fun i => fa i) B1.out.1 (by kernel_rfl) rfl rfl, st_neq (f := fun i => (!(!fa i))) (g := fun i => fa i) (setV_congr fun i hi => by cases fa i <;> cases fb i <;> cases fc i <;> rfl) (by kernel_rfl) rfl rfl rfl, st_pickF (by kernel_rfl) rfl rfl, trivial⟩ ?_
  intro xs w2 g2 ht
  have el : xs 25 = .bool false := ht 16 _ 25 rfl rfl
  have B2 := hidd (And.intro (B1.out.1.kept g2) (And.intro (B1.out.2.1.kept g2) (B1.out.2.2.kept g2)))
  have W2 := hidd (W1.out.trans g2)
  clear ht g2 B1 W1
  simp only [List.foldl_cons, List.foldl_nil, List.setIfInBounds_toArray, List.set_cons_succ, List.set_cons_zero, el]
  clear el
  go_wp2_with fail
  refine region_frame [26, 27, 28, 29, 30, 31, 32, 33, 34, 35, 36, 37, 38, 39, 40, 41, 42, 43, 44, 45, 46, 47, 48, 49, 50, 51, 52, 53] ([.val (setV fun i => fa i), .val (setV fun i => fb i), .val (setV fun i => fc i), .val (setV fun i => (fb i || fc i)), .val (setV fun i => (fa i && (fb i || fc i))), .val (setV fun i => fa i), .val (setV fun i => fb i), .val (setV fun i => (fa i && fb i)), .val (setV fun i => fa i), .val (setV fun i => fc i), .val (setV fun i => (fa i && fc i)), .val (setV fun i => ((fa i && fb i) || (fa i && fc i))), .val (.bool false), .val (.bool false), .val (setV fun i => fa i), .val (setV fun i => fb i), .val (setV fun i => fc i), .val (setV fun i => (fb i && fc i)), .val (setV fun i => (fa i || (fb i && fc i))), .val (setV fun i => fa i), .val (setV fun i => fb i), .val (setV fun i => (fa i || fb i)), .val (setV fun i => fa i), .val (setV fun i => fc i), .val (setV fun i => (fa i || fc i)), .val (setV fun i => ((fa i || fb i) && (fa i || fc i))), .val (.bool false), .val (.bool false)]) (by kernel_rfl) (by kernel_rfl)
    ⟨st_load (g := fun i => fa i) B2.out.1 (by kernel_rfl) rfl rfl, st_load (g := fun i => fb i) B2.out.2.1 (by kernel_rfl) rfl rfl, st_load (g := fun i => fc i) B2.out.2.2 (by kernel_rfl) rfl rfl, st_call2 go_union (fun w1 g => Union_any _ _ w1) (by kernel_rfl) rfl rfl rfl, st_call2 go_meet (fun w1 g => Meet_any _ _ w1) (by kernel_rfl) rfl rfl rfl, st_load (g := fun i => fa i) B2.out.1 (by kernel_rfl) rfl rfl, st_load (g := fun i => fb i) B2.out.2.1 (by kernel_rfl) rfl rfl, st_call2 go_meet (fun w1 g => Meet_any _ _ w1) (by kernel_rfl) rfl rfl rfl, st_load (g := fun i => fa i) B2.out.1 (by kernel_rfl) rfl rfl, st_load (g := fun i => fc i) B2.out.2.2 (by kernel_rfl) rfl rfl, st_call2 go_meet (fun w1 g => Meet_any _ _ w1) (by kernel_rfl) rfl rfl rfl, st_call2 go_union (fun w1 g => Union_any _ _ w1) (by kernel_rfl) rfl rfl rfl, st_neq (f := fun i => (fa i && (fb i || fc i))) (g := fun i => ((fa i && fb i) || (fa i && fc i))) (setV_congr fun i hi => by cases fa i <;> cases fb i <;> cases fc i <;> rfl) (by kernel_rfl) rfl rfl rfl, st_move (by kernel_rfl) rfl, st_load (g := fun i => fa i) B2.out.1 (by kernel_rfl) rfl rfl, st_load (g := fun i => fb i) B2.out.2.1 (by kernel_rfl) rfl rfl, st_load (g := fun i => fc i) B2.out.2.2 (by kernel_rfl) rfl rfl, st_call2 go_meet (fun w1 g => Meet_any _ _ w1) (by kernel_rfl) rfl rfl rfl, st_call2 go_union (fun w1 g => Union_any _ _ w1) (by kernel_rfl) rfl rfl rfl, st_load (g := fun i => fa i) B2.out.1 (by kernel_rfl) rfl rfl, st_load (g := fun i => fb i) B2.out.2.1 (by kernel_rfl) rfl rfl, st_call2 go_union (fun w1 g => Union_any _ _ w1) (by kernel_rfl) rfl rfl rfl, st_load (g := fun i => fa i) B2.out.1 (by kernel_rfl) rfl rfl, st_load (g := fun i => fc i) B2.out.2.2 (by kernel_rfl) rfl rfl, st_call2 go_union (fun w1 g => Union_any _ _ w1) (by kernel_rfl) rfl rfl rfl, st_call2 go_meet (fun w1 g => Meet_any _ _ w1) (by kernel_rfl) rfl rfl rfl, st_neq (f := fun i => (fa i || (fb i && fc i))) (g := fun i => ((fa i || fb i) && (fa i || fc i))) (setV_congr fun i hi => by cases fa i <;> cases fb i <;> cases fc i <;> rfl) (by kernel_rfl) rfl rfl rfl, st_pickF (by kernel_rfl) rfl rfl, trivial⟩ ?_
  intro xs w3 g3 ht
  have el : xs 53 = .bool false := ht 27 _ 53 rfl rfl
  have B3 := hidd (And.intro (B2.out.1.kept g3) (And.intro (B2.out.2.1.kept g3) (B2.out.2.2.kept g3)))
  have W3 := hidd (W2.out.trans g3)
  clear ht g3 B2 W2
  simp only [List.foldl_cons, List.foldl_nil, List.setIfInBounds_toArray, List.set_cons_succ, List.set_cons_zero, el]
  clear el
  go_wp2_with fail
  refine region_frame [54, 55, 56, 57, 58, 59, 60, 61, 62, 63, 64, 65, 66, 67, 68, 69, 70, 71, 72] ([.val (setV fun i => fa i), .val (setV fun i => fb i), .val (setV fun i => (fa i && !fb i)), .val (setV fun i => fa i), .val (setV fun i => fb i), .val (setV fun i => (fa i && fb i)), .val (setV fun i => ((fa i && !fb i) || (fa i && fb i))), .val (setV fun i => fa i), .val (.bool false), .val (.bool false), .val (setV fun i => fa i), .val (setV fun i => fb i), .val (setV fun i => (fa i && !fb i)), .val (setV fun i => fa i), .val (setV fun i => fb i), .val (setV fun i => (!fb i)), .val (setV fun i => (fa i && (!fb i))), .val (.bool false), .val (.bool false)]) (by kernel_rfl) (by kernel_rfl)
    ⟨st_load (g := fun i => fa i) B3.out.1 (by kernel_rfl) rfl rfl, st_load (g := fun i => fb i) B3.out.2.1 (by kernel_rfl) rfl rfl, st_call2 go_less (fun w1 g => Less_any _ _ w1) (by kernel_rfl) rfl rfl rfl, st_load (g := fun i => fa i) B3.out.1 (by kernel_rfl) rfl rfl, st_load (g := fun i => fb i) B3.out.2.1 (by kernel_rfl) rfl rfl, st_call2 go_meet (fun w1 g => Meet_any _ _ w1) (by kernel_rfl) rfl rfl rfl, st_call2 go_union (fun w1 g => Union_any _ _ w1) (by kernel_rfl) rfl rfl rfl, st_load (g := fun i => fa i) B3.out.1 (by kernel_rfl) rfl rfl, st_neq (f := fun i => ((fa i && !fb i) || (fa i && fb i))) (g := fun i => fa i) (setV_congr fun i hi => by cases fa i <;> cases fb i <;> cases fc i <;> rfl) (by kernel_rfl) rfl rfl rfl, st_move (by kernel_rfl) rfl, st_load (g := fun i => fa i) B3.out.1 (by kernel_rfl) rfl rfl, st_load (g := fun i => fb i) B3.out.2.1 (by kernel_rfl) rfl rfl, st_call2 go_less (fun w1 g => Less_any _ _ w1) (by kernel_rfl) rfl rfl rfl, st_load (g := fun i => fa i) B3.out.1 (by kernel_rfl) rfl rfl, st_load (g := fun i => fb i) B3.out.2.1 (by kernel_rfl) rfl rfl, st_call1 go_not (fun w1 g => Not_any _ w1) (by kernel_rfl) rfl rfl, st_call2 go_meet (fun w1 g => Meet_any _ _ w1) (by kernel_rfl) rfl rfl rfl, st_neq (f := fun i => (fa i && !fb i)) (g := fun i => (fa i && (!fb i))) (setV_congr fun i hi => by cases fa i <;> cases fb i <;> cases fc i <;> rfl) (by kernel_rfl) rfl rfl rfl, st_pickF (by kernel_rfl) rfl rfl, trivial⟩ ?_
  intro xs w4 g4 ht
  have el : xs 72 = .bool false := ht 18 _ 72 rfl rfl
  have B4 := hidd (And.intro (B3.out.1.kept g4) (And.intro (B3.out.2.1.kept g4) (B3.out.2.2.kept g4)))
  have W4 := hidd (W3.out.trans g4)
  clear ht g4 B3 W3
  simp only [List.foldl_cons, List.foldl_nil, List.setIfInBounds_toArray, List.set_cons_succ, List.set_cons_zero, el]
  clear el
  go_wp2_with fail
  have hn1 : sz (fun i => fa i) + sz (fun i => fb i) = sz (fun i => (fa i || fb i)) + sz (fun i => (fa i && fb i)) := HN.out.1
  have hn2 : sz (fun i => (!fa i)) + sz (fun i => fa i) = 256 := HN.out.2
  have hs1 := sz_le (fun i => fa i)
  have hs2 := sz_le (fun i => fb i)
  have hs3 := sz_le (fun i => (fa i || fb i))
  have hs4 := sz_le (fun i => (fa i && fb i))
  refine region_frame [73, 74, 75, 76, 77, 78, 79, 80, 81, 82, 83, 84, 85, 86, 87, 88, 89, 90, 91, 92, 93, 94, 95, 96, 6] ([.val (setV fun i => fa i), .val (.int .i64 (sz (fun i => fa i) : Nat)), .val (setV fun i => fb i), .val (.int .i64 (sz (fun i => fb i) : Nat)), .val (.int .i64 (sz (fun i => fa i) + sz (fun i => fb i) : Nat)), .val (setV fun i => fa i), .val (setV fun i => fb i), .val (setV fun i => (fa i || fb i)), .val (.int .i64 (sz (fun i => (fa i || fb i)) : Nat)), .val (setV fun i => fa i), .val (setV fun i => fb i), .val (setV fun i => (fa i && fb i)), .val (.int .i64 (sz (fun i => (fa i && fb i)) : Nat)), .val (.int .i64 (sz (fun i => (fa i || fb i)) + sz (fun i => (fa i && fb i)) : Nat)), .val (.bool true), .val (.bool true), .val (setV fun i => fa i), .val (setV fun i => (!fa i)), .val (.int .i64 (sz (fun i => (!fa i)) : Nat)), .val (setV fun i => fa i), .val (.int .i64 (sz (fun i => fa i) : Nat)), .val (.int .i64 (256 - sz (fun i => fa i) : Nat)), .val (.bool true), .val (.bool true), .val (.bool true)]) (by kernel_rfl) (by kernel_rfl)
    ⟨st_load (g := fun i => fa i) B4.out.1 (by kernel_rfl) rfl rfl, st_call1 go_size (fun w1 g => Size_any _ w1) (by kernel_rfl) rfl rfl, st_load (g := fun i => fb i) B4.out.2.1 (by kernel_rfl) rfl rfl, st_call1 go_size (fun w1 g => Size_any _ w1) (by kernel_rfl) rfl rfl, st_num (num_add (by omega) (by omega)) (by kernel_rfl) rfl rfl rfl, st_load (g := fun i => fa i) B4.out.1 (by kernel_rfl) rfl rfl, st_load (g := fun i => fb i) B4.out.2.1 (by kernel_rfl) rfl rfl, st_call2 go_union (fun w1 g => Union_any _ _ w1) (by kernel_rfl) rfl rfl rfl, st_call1 go_size (fun w1 g => Size_any _ w1) (by kernel_rfl) rfl rfl, st_load (g := fun i => fa i) B4.out.1 (by kernel_rfl) rfl rfl, st_load (g := fun i => fb i) B4.out.2.1 (by kernel_rfl) rfl rfl, st_call2 go_meet (fun w1 g => Meet_any _ _ w1) (by kernel_rfl) rfl rfl rfl, st_call1 go_size (fun w1 g => Size_any _ w1) (by kernel_rfl) rfl rfl, st_num (num_add (by omega) (by omega)) (by kernel_rfl) rfl rfl rfl, st_num (num_eql (by omega)) (by kernel_rfl) rfl rfl rfl, st_move (by kernel_rfl) rfl, st_load (g := fun i => fa i) B4.out.1 (by kernel_rfl) rfl rfl, st_call1 go_not (fun w1 g => Not_any _ w1) (by kernel_rfl) rfl rfl, st_call1 go_size (fun w1 g => Size_any _ w1) (by kernel_rfl) rfl rfl, st_load (g := fun i => fa i) B4.out.1 (by kernel_rfl) rfl rfl, st_call1 go_size (fun w1 g => Size_any _ w1) (by kernel_rfl) rfl rfl, st_num (num_sub (by omega)) (by kernel_rfl) rfl rfl rfl, st_num (num_eql (by omega)) (by kernel_rfl) rfl rfl rfl, st_pick (by kernel_rfl) rfl rfl, st_assign (by kernel_rfl) rfl, trivial⟩ ?_
  intro xs w5 g5 ht
  have el : xs 6 = .bool true := ht 24 _ 6 rfl rfl
  have B5 := hidd (And.intro (B4.out.1.kept g5) (And.intro (B4.out.2.1.kept g5) (B4.out.2.2.kept g5)))
  have W5 := hidd (W4.out.trans g5)
  clear ht g5 B4 W4
  simp only [List.foldl_cons, List.foldl_nil, List.setIfInBounds_toArray, List.set_cons_succ, List.set_cons_zero, el]
  clear el
  go_wp2_with fail
  go_ret
  exact ⟨rfl, W5.out⟩
end Go.Proofs.YtolfdcbebjfjiaaDoor

