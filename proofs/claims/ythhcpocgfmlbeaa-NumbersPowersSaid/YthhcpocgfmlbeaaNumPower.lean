/- numbers.Power: at every number and exponent. -/
import Derived.Test.YthhcpocgfmlbeaaNumPowL
namespace Go.Proofs.Ythhcpocgfmlbeaa
open Go.RowKit
set_option linter.unusedVariables false

theorem Power_neg (a n : Int) (w : World) (hn : n < 0) :
    Calls Try.prog 15 #[.int .i64 a, .int .i64 n] w fun e w' => e = .returned (.tuple #[.int .i64 0, .int .i64 6]) ∧ Grew w w' := by
  go_enter Try.func15, Try.ntmps15
  go_wp2_with fail
  go_ret2
  exact ⟨rfl, Grew.refl _⟩
theorem pnumR_in {x : Int} (h : In64 x) : numR x = .returned (.tuple #[.int .i64 x, .int .i64 0]) := by rw [numR, numV_in h, numE_in h]
theorem pnumR_out {x : Int} (h : ¬ In64 x) : numR x = .returned (.tuple #[.int .i64 0, .int .i64 3]) := by rw [numR, numV_out h, numE_out h]

set_option maxHeartbeats 1000000 in
theorem Power_any (a : Int) (n : Nat) (w : World) (ha : In64 a) (hn : n ≤ 9223372036854775807) :
    Calls Try.prog 15 #[.int .i64 a, .int .i64 n] w fun e w' => e = numR (a ^ n) ∧ Grew w w' := by
  have HA := hidd ha
  clear ha
  obtain ⟨P, hP⟩ : ∃ P, a ^ n = P := ⟨_, rfl⟩
  rw [hP]
  have HP := hidd hP
  clear hP
  go_enter Try.func15, Try.ntmps15
  go_wp2_with fail
  go_loopw [0, 1, 6, 7] (fun u0 u1 u6 u7 wr => ∃ (A o : Int) (k : Nat), u0 = .int .i64 A ∧ u1 = .int .i64 k ∧ u6 = .int .i64 o ∧ k ≤ 9223372036854775807 ∧ Hid (In64 A) ∧ Hid (In64 o) ∧ Hid (o * A ^ k = P) ∧ Hid (o = 0 → A = 0) ∧ Hid (Grew w wr)) (fun _ u1 _ _ _ => (intOf u1).toNat)
  case atStart => exact ⟨a, 1, n, rfl, rfl, rfl, hn, HA, (by unfold Hid; decide), (by rw [Hid, Int.one_mul]; exact HP.out), fun h => by omega, Grew.refl _⟩
  case round =>
    obtain ⟨A, o, k, rfl, rfl, rfl, hk, HA', HO, HE, HZ, HG⟩ := hrel
    obtain ⟨q, hq⟩ : ∃ q, k = 2 * q ∨ k = 2 * q + 1 := ⟨k / 2, by omega⟩
    have h2 : (k : Int) / 2 = (q : Int) := by omega
    have hqb : q ≤ 4611686018427387904 := by omega
    have hqk : Hid (q ≤ k) := by unfold Hid; omega
    by_cases hp : k % 2 = 1
    · have h1 : (k : Int) % 2 = 1 := by omega
      have HK : Hid (k = 2 * q + 1) := by unfold Hid; omega
      have HEq : Hid (o * A * (A * A) ^ q = P) := by
        have := HE.out
        rw [HK.out, Nat.add_comm, pow_add', pow_two_mul, ← Int.mul_assoc, Int.pow_succ, Int.pow_zero, Int.one_mul] at this
        exact this
      have HZ' : Hid (o * A = 0 → A = 0) := fun h => by
        rcases Int.mul_eq_zero.1 h with h | h
        · exact HZ.out h
        · exact h
      have HOUT : Hid (¬ In64 (o * A) → ¬ In64 P) := fun h => by
        have := odd_out o A q h
        rw [← HK.out, HE.out] at this; exact this
      obtain ⟨x, hx⟩ : ∃ x, o * A = x := ⟨_, rfl⟩
      rw [hx] at HEq HZ' HOUT
      have HX := hidd hx
      clear hx hq hp
      have E : Hid (In64 x) ∨ Hid (¬ In64 x) := by unfold Hid; exact Decidable.em _
      rcases E with E | E
      · rcases Nat.eq_zero_or_pos q with rfl | hq0
        · have HR : Hid (x = P) := by have := HEq.out; rw [Int.pow_zero, Int.mul_one] at this; exact this
          clear hqb
          go_wp2_with fail
          refine (Mul_any o A wr HO.out HA'.out).mono ?_; rintro e w1 ⟨rfl, G1⟩
          rw [HX.out, pnumR_in E.out]
          go_wp2_with fail
          go_ret2
          exact ⟨by rw [← HR.out, pnumR_in E.out]; rfl, HG.out.trans G1⟩
        · have hq1 : ((q : Int) == 0) = false := by simp; omega
          have S : Hid (In64 (A * A)) ∨ Hid (¬ In64 (A * A)) := by unfold Hid; exact Decidable.em _
          rcases S with S | S
          · go_wp2_with fail
            refine (Mul_any o A wr HO.out HA'.out).mono ?_; rintro e w1 ⟨rfl, G1⟩
            rw [HX.out, pnumR_in E.out]
            go_wp2_with fail
            refine (Mul_any A A w1 HA'.out HA'.out).mono ?_; rintro e w2 ⟨rfl, G2⟩
            rw [pnumR_in S.out]
            go_wp2_with fail
            go_roundw
            case rel => exact ⟨A * A, x, q, rfl, rfl, rfl, by omega, S, E, HEq, fun h => by rw [HZ'.out h]; rfl, (HG.out.trans G1).trans G2⟩
            case measure => simp [intOf]; have := HK.out; omega
          · have HN : Hid (¬ In64 P) := by have := sq_out x A q hq0 S.out HZ'.out; rw [HEq.out] at this; exact this
            go_wp2_with fail
            refine (Mul_any o A wr HO.out HA'.out).mono ?_; rintro e w1 ⟨rfl, G1⟩
            rw [HX.out, pnumR_in E.out]
            go_wp2_with fail
            refine (Mul_any A A w1 HA'.out HA'.out).mono ?_; rintro e w2 ⟨rfl, G2⟩
            rw [pnumR_out S.out]
            go_wp2_with fail
            go_ret2
            exact ⟨by rw [pnumR_out HN.out]; rfl, (HG.out.trans G1).trans G2⟩
      · have HN : Hid (¬ In64 P) := HOUT.out E.out
        go_wp2_with fail
        refine (Mul_any o A wr HO.out HA'.out).mono ?_; rintro e w1 ⟨rfl, G1⟩
        rw [HX.out, pnumR_out E.out]
        go_wp2_with fail
        go_ret2
        exact ⟨by rw [pnumR_out HN.out]; rfl, HG.out.trans G1⟩
    · have h1 : (k : Int) % 2 = 0 := by omega
      have HK : Hid (k = 2 * q) := by unfold Hid; omega
      have HEq : Hid (o * (A * A) ^ q = P) := by
        have := HE.out
        rw [HK.out, pow_two_mul] at this
        exact this
      clear hq hp
      rcases Nat.eq_zero_or_pos q with rfl | hq0
      · have HR : Hid (o = P) := by have := HEq.out; rw [Int.pow_zero, Int.mul_one] at this; exact this
        clear hqb
        go_wp2_with fail
        go_ret2
        exact ⟨by rw [← HR.out, pnumR_in HO.out]; rfl, HG.out⟩
      · have hq1 : ((q : Int) == 0) = false := by simp; omega
        have S : Hid (In64 (A * A)) ∨ Hid (¬ In64 (A * A)) := by unfold Hid; exact Decidable.em _
        rcases S with S | S
        · go_wp2_with fail
          refine (Mul_any A A wr HA'.out HA'.out).mono ?_; rintro e w2 ⟨rfl, G2⟩
          rw [pnumR_in S.out]
          go_wp2_with fail
          go_roundw
          case rel => exact ⟨A * A, o, q, rfl, rfl, rfl, by omega, S, HO, HEq, fun h => by rw [HZ.out h]; rfl, HG.out.trans G2⟩
          case measure => simp [intOf]; have := HK.out; omega
        · have HN : Hid (¬ In64 P) := by have := sq_out o A q hq0 S.out HZ.out; rw [HEq.out] at this; exact this
          go_wp2_with fail
          refine (Mul_any A A wr HA'.out HA'.out).mono ?_; rintro e w2 ⟨rfl, G2⟩
          rw [pnumR_out S.out]
          go_wp2_with fail
          go_ret2
          exact ⟨by rw [pnumR_out HN.out]; rfl, HG.out.trans G2⟩
end Go.Proofs.Ythhcpocgfmlbeaa
