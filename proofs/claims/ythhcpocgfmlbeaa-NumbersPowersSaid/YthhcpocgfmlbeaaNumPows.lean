/- NumbersPowers: at every two numbers of 64 bits. Printed. -/
import Derived.Test.YthhcpocgfmlbeaaBgX
import Derived.Test.YthhcpocgfmlbeaaNumGcd
namespace Go.Proofs.Ythhcpocgfmlbeaa
open Go.RowKit
set_option linter.unusedVariables false
theorem numR_two' (s : Int) : ∃ v e : Int, numR s = .returned (.tuple #[.int .i64 v, .int .i64 e]) := ⟨_, _, numR_def s⟩
theorem both_power (a b : Int) (ha : In64 a) (hb : In64 b) : ∃ v e : Int, (∀ w, Calls Try.prog 15 #[.int .i64 a, .int .i64 b] w fun r w' => r = .returned (.tuple #[.int .i64 v, .int .i64 e]) ∧ Grew w w') ∧ (∀ w, Calls Try.prog 16 #[.int .i64 a, .int .i64 b] w fun r w' => r = .returned (.tuple #[.int .i64 v, .int .i64 e]) ∧ Grew w w') := by
  by_cases h0 : b < 0
  · exact ⟨_, _, fun w => Power_neg a b w h0, fun w => RPower_neg a b w h0⟩
  · obtain ⟨n, rfl⟩ : ∃ n : Nat, b = n := ⟨b.toNat, by omega⟩
    obtain ⟨v, e, h⟩ := numR_two' (a ^ n)
    refine ⟨v, e, ?_⟩
    rw [← h]
    have hn : n ≤ 9223372036854775807 := by obtain ⟨_, k⟩ := hb; omega
    exact ⟨fun w => Power_any a n w ha hn, fun w => RPower_any a n w ha hn⟩
theorem both_gcd (a b : Int) (ha : In64 a) (hb : In64 b) : ∃ v e : Int, (∀ w, Calls Try.prog 17 #[.int .i64 a, .int .i64 b] w fun r w' => r = .returned (.tuple #[.int .i64 v, .int .i64 e]) ∧ Grew w w') ∧ (∀ w, Calls Try.prog 18 #[.int .i64 a, .int .i64 b] w fun r w' => r = .returned (.tuple #[.int .i64 v, .int .i64 e]) ∧ Grew w w') := by
  obtain ⟨v, e, h⟩ := numR_two' (Nat.gcd a.natAbs b.natAbs : Nat)
  refine ⟨v, e, ?_⟩
  rw [← h]
  exact ⟨fun w => Gcd_any a b w ha hb, fun w => RGcd_any a b w ha hb⟩
theorem root_one {r : Int} {A R : Nat} (h0 : 0 ≤ r) (h1 : r ≤ 3037000499) (h2 : r * r ≤ A) (h3 : r = 3037000499 ∨ (A : Int) < (r + 1) * (r + 1)) (hA : A ≤ 9223372036854775807) (k1 : R * R ≤ A) (k2 : A < (R + 1) * (R + 1)) : r = R := by
  obtain ⟨q, rfl⟩ : ∃ q : Nat, r = q := ⟨r.toNat, by omega⟩
  have h2' : q * q ≤ A := by exact_mod_cast h2
  have h3' : A < (q + 1) * (q + 1) := by
    rcases h3 with h3 | h3
    · have : q = 3037000499 := by omega
      rw [this]; omega
    · exact_mod_cast h3
  rcases Nat.lt_trichotomy q R with h | h | h
  · have := Nat.mul_le_mul (show q + 1 ≤ R by omega) (show q + 1 ≤ R by omega); omega
  · rw [h]
  · have := Nat.mul_le_mul (show R + 1 ≤ q by omega) (show R + 1 ≤ q by omega); omega
set_option maxRecDepth 100000 in
set_option maxHeartbeats 2000000 in
theorem NumbersPowers_walk (a b : Int) (w : World) (ha0 : (Lit.int .i64 a).wf = true) (hb0 : (Lit.int .i64 b).wf = true) :
    Calls Try.prog 4 #[.int .i64 a, .int .i64 b] w fun e w' => e = .returned (.bool true) ∧ Grew w w' := by
  have ha : In64 a := bd_i64 ha0
  have hb : In64 b := bd_i64 hb0
  obtain ⟨vpower, epower, Ppower0, Rpower0⟩ := both_power a b ha hb
  have Ppower := hidd Ppower0; have Rpower := hidd Rpower0
  clear Ppower0 Rpower0
  obtain ⟨vgcd, egcd, Pgcd0, Rgcd0⟩ := both_gcd a b ha hb
  have Pgcd := hidd Pgcd0; have Rgcd := hidd Rgcd0
  clear Pgcd0 Rgcd0
  have hrt : a < 0 ∨ ∃ A : Nat, a = A ∧ A ≤ 9223372036854775807 := by
    obtain ⟨h1, h2⟩ := ha
    by_cases h : a < 0
    · exact Or.inl h
    · exact Or.inr ⟨a.toNat, by omega, by omega⟩
  clear ha hb ha0 hb0
  rcases hrt with hneg | ⟨A, rfl, hA⟩
  · have HNeg := hidd hneg
    clear hneg
    go_enter Try.func4, Try.ntmps4
    go_wp2_with fail
    refine (Ppower.out w).mono ?_; rintro e w1 ⟨rfl, G1⟩
    have H := hidd G1
    clear G1
    go_wp2_with fail
    refine (Rpower.out w1).mono ?_; rintro e w2 ⟨rfl, G2⟩
    replace H := hidd (H.out.trans G2)
    clear G2
    go_wp2_with fail
    refine (Pgcd.out w2).mono ?_; rintro e w3 ⟨rfl, G3⟩
    replace H := hidd (H.out.trans G3)
    clear G3
    go_wp2_with fail
    refine (Rgcd.out w3).mono ?_; rintro e w4 ⟨rfl, G4⟩
    replace H := hidd (H.out.trans G4)
    clear G4
    go_wp2_with fail
    refine (Root_neg a w4 HNeg.out).mono ?_; rintro e w5 ⟨rfl, G5⟩
    replace H := hidd (H.out.trans G5)
    clear G5
    go_wp2_with fail
    refine (RRoot_neg a w5 HNeg.out).mono ?_; rintro e w6 ⟨rfl, G6⟩
    replace H := hidd (H.out.trans G6)
    clear G6
    go_wp2_with fail
    go_ret
    exact ⟨rfl, H.out⟩
  · have HAb := hidd hA
    clear hA
    go_enter Try.func4, Try.ntmps4
    go_wp2_with fail
    refine (Ppower.out w).mono ?_; rintro e w1 ⟨rfl, G1⟩
    have H := hidd G1
    clear G1
    go_wp2_with fail
    refine (Rpower.out w1).mono ?_; rintro e w2 ⟨rfl, G2⟩
    replace H := hidd (H.out.trans G2)
    clear G2
    go_wp2_with fail
    refine (Pgcd.out w2).mono ?_; rintro e w3 ⟨rfl, G3⟩
    replace H := hidd (H.out.trans G3)
    clear G3
    go_wp2_with fail
    refine (Rgcd.out w3).mono ?_; rintro e w4 ⟨rfl, G4⟩
    replace H := hidd (H.out.trans G4)
    clear G4
    go_wp2_with fail
    refine (Root_any (A : Nat) w4 (Int.natCast_nonneg A) (by have := HAb.out; omega)).mono ?_; rintro e w5 ⟨r, rfl, r0, r1, r2, r3, G5⟩
    replace H := hidd (H.out.trans G5)
    clear G5
    have HR : Hid (∀ R : Nat, R * R ≤ A → A < (R + 1) * (R + 1) → numR (R : Nat) = .returned (.tuple #[.int .i64 r, .int .i64 0])) := fun R k1 k2 => by
      have e := root_one r0 r1 r2 r3 HAb.out k1 k2
      rw [← e, pnumR_in (by unfold In64; omega)]
    clear r0 r1 r2 r3
    go_wp2_with fail
    refine (RRoot_any A w5 HAb.out).mono ?_; rintro e w6 ⟨G6, R, he, k1, k2⟩
    rw [HR.out R k1 k2] at he
    subst he
    clear k1 k2
    replace H := hidd (H.out.trans G6)
    clear G6
    go_wp2_with fail
    go_ret
    exact ⟨rfl, H.out⟩
end Go.Proofs.Ythhcpocgfmlbeaa
