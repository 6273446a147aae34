/- NumbersReckon: at every two numbers of 64 bits. Printed. -/
import Derived.Test.YthhcpocgfmlbeaaBgL
namespace Go.Proofs.Ythhcpocgfmlbeaa
open Go.RowKit
set_option linter.unusedVariables false
theorem numR_two (s : Int) : ∃ v e : Int, numR s = .returned (.tuple #[.int .i64 v, .int .i64 e]) := ⟨_, _, numR_def s⟩
theorem both_div (a b : Int) (ha : In64 a) (hb : In64 b) : ∃ v e : Int, (∀ w, Calls Try.prog 11 #[.int .i64 a, .int .i64 b] w fun r w' => r = .returned (.tuple #[.int .i64 v, .int .i64 e]) ∧ Grew w w') ∧ (∀ w, Calls Try.prog 12 #[.int .i64 a, .int .i64 b] w fun r w' => r = .returned (.tuple #[.int .i64 v, .int .i64 e]) ∧ Grew w w') := by
  by_cases h0 : b = 0
  · subst h0
    exact ⟨_, _, fun w => Div_zero a w, fun w => RDiv_zero a w⟩
  · obtain ⟨v, e, h⟩ := numR_two (a.tdiv b)
    refine ⟨v, e, ?_⟩
    rw [← h]
    exact ⟨fun w => Div_any a b w ha hb h0, fun w => RDiv_any a b w ha hb h0⟩
theorem both_rem (a b : Int) (ha : In64 a) (hb : In64 b) : ∃ v e : Int, (∀ w, Calls Try.prog 13 #[.int .i64 a, .int .i64 b] w fun r w' => r = .returned (.tuple #[.int .i64 v, .int .i64 e]) ∧ Grew w w') ∧ (∀ w, Calls Try.prog 14 #[.int .i64 a, .int .i64 b] w fun r w' => r = .returned (.tuple #[.int .i64 v, .int .i64 e]) ∧ Grew w w') := by
  by_cases h0 : b = 0
  · subst h0
    exact ⟨_, _, fun w => Rem_zero a w, fun w => RRem_zero a w⟩
  · obtain ⟨v, e, h⟩ := numR_two (a.tmod b)
    refine ⟨v, e, ?_⟩
    rw [← h]
    exact ⟨fun w => Rem_any a b w ha hb h0, fun w => RRem_any a b w ha hb h0⟩
theorem both_add (a b : Int) (ha : In64 a) (hb : In64 b) : ∃ v e : Int, (∀ w, Calls Try.prog 5 #[.int .i64 a, .int .i64 b] w fun r w' => r = .returned (.tuple #[.int .i64 v, .int .i64 e]) ∧ Grew w w') ∧ (∀ w, Calls Try.prog 6 #[.int .i64 a, .int .i64 b] w fun r w' => r = .returned (.tuple #[.int .i64 v, .int .i64 e]) ∧ Grew w w') := by
  obtain ⟨v, e, h⟩ := numR_two (a + b)
  refine ⟨v, e, ?_⟩
  rw [← h]
  exact ⟨fun w => Add_any a b w ha hb, fun w => RAdd_any a b w ha hb⟩
theorem both_sub (a b : Int) (ha : In64 a) (hb : In64 b) : ∃ v e : Int, (∀ w, Calls Try.prog 7 #[.int .i64 a, .int .i64 b] w fun r w' => r = .returned (.tuple #[.int .i64 v, .int .i64 e]) ∧ Grew w w') ∧ (∀ w, Calls Try.prog 8 #[.int .i64 a, .int .i64 b] w fun r w' => r = .returned (.tuple #[.int .i64 v, .int .i64 e]) ∧ Grew w w') := by
  obtain ⟨v, e, h⟩ := numR_two (a - b)
  refine ⟨v, e, ?_⟩
  rw [← h]
  exact ⟨fun w => Sub_any a b w ha hb, fun w => RSub_any a b w ha hb⟩
theorem both_mul (a b : Int) (ha : In64 a) (hb : In64 b) : ∃ v e : Int, (∀ w, Calls Try.prog 9 #[.int .i64 a, .int .i64 b] w fun r w' => r = .returned (.tuple #[.int .i64 v, .int .i64 e]) ∧ Grew w w') ∧ (∀ w, Calls Try.prog 10 #[.int .i64 a, .int .i64 b] w fun r w' => r = .returned (.tuple #[.int .i64 v, .int .i64 e]) ∧ Grew w w') := by
  obtain ⟨v, e, h⟩ := numR_two (a * b)
  refine ⟨v, e, ?_⟩
  rw [← h]
  exact ⟨fun w => Mul_any a b w ha hb, fun w => RMul_any a b w ha hb⟩
set_option maxRecDepth 100000 in
set_option maxHeartbeats 2000000 in
theorem NumbersReckon_walk (a b : Int) (w : World) (ha0 : (Lit.int .i64 a).wf = true) (hb0 : (Lit.int .i64 b).wf = true) :
    Calls Try.prog 3 #[.int .i64 a, .int .i64 b] w fun e w' => e = .returned (.bool true) ∧ Grew w w' := by
  have ha : In64 a := bd_i64 ha0
  have hb : In64 b := bd_i64 hb0
  obtain ⟨vadd, eadd, Padd0, Radd0⟩ := both_add a b ha hb
  have Padd := hidd Padd0; have Radd := hidd Radd0
  clear Padd0 Radd0
  obtain ⟨vsub, esub, Psub0, Rsub0⟩ := both_sub a b ha hb
  have Psub := hidd Psub0; have Rsub := hidd Rsub0
  clear Psub0 Rsub0
  obtain ⟨vmul, emul, Pmul0, Rmul0⟩ := both_mul a b ha hb
  have Pmul := hidd Pmul0; have Rmul := hidd Rmul0
  clear Pmul0 Rmul0
  obtain ⟨vdiv, ediv, Pdiv0, Rdiv0⟩ := both_div a b ha hb
  have Pdiv := hidd Pdiv0; have Rdiv := hidd Rdiv0
  clear Pdiv0 Rdiv0
  obtain ⟨vrem, erem, Prem0, Rrem0⟩ := both_rem a b ha hb
  have Prem := hidd Prem0; have Rrem := hidd Rrem0
  clear Prem0 Rrem0
  clear ha hb ha0 hb0
  go_enter Try.func3, Try.ntmps3
  go_wp2_with fail
  refine (Padd.out w).mono ?_; rintro e w1 ⟨rfl, G1⟩
  have H := hidd G1
  clear G1
  go_wp2_with fail
  refine (Radd.out w1).mono ?_; rintro e w2 ⟨rfl, G2⟩
  replace H := hidd (H.out.trans G2)
  clear G2
  go_wp2_with fail
  refine (Psub.out w2).mono ?_; rintro e w3 ⟨rfl, G3⟩
  replace H := hidd (H.out.trans G3)
  clear G3
  go_wp2_with fail
  refine (Rsub.out w3).mono ?_; rintro e w4 ⟨rfl, G4⟩
  replace H := hidd (H.out.trans G4)
  clear G4
  go_wp2_with fail
  refine (Pmul.out w4).mono ?_; rintro e w5 ⟨rfl, G5⟩
  replace H := hidd (H.out.trans G5)
  clear G5
  go_wp2_with fail
  refine (Rmul.out w5).mono ?_; rintro e w6 ⟨rfl, G6⟩
  replace H := hidd (H.out.trans G6)
  clear G6
  go_wp2_with fail
  refine (Pdiv.out w6).mono ?_; rintro e w7 ⟨rfl, G7⟩
  replace H := hidd (H.out.trans G7)
  clear G7
  go_wp2_with fail
  refine (Rdiv.out w7).mono ?_; rintro e w8 ⟨rfl, G8⟩
  replace H := hidd (H.out.trans G8)
  clear G8
  go_wp2_with fail
  refine (Prem.out w8).mono ?_; rintro e w9 ⟨rfl, G9⟩
  replace H := hidd (H.out.trans G9)
  clear G9
  go_wp2_with fail
  refine (Rrem.out w9).mono ?_; rintro e w10 ⟨rfl, G10⟩
  replace H := hidd (H.out.trans G10)
  clear G10
  go_wp2_with fail
  go_ret
  exact ⟨rfl, H.out⟩
end Go.Proofs.Ythhcpocgfmlbeaa
