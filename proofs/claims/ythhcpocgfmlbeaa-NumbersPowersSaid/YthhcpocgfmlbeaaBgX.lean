/- The document's Power. -/
import Derived.Test.YthhcpocgfmlbeaaBgW
import Derived.Test.YthhcpocgfmlbeaaBgS
import Derived.Test.YthhcpocgfmlbeaaNumPower
namespace Go.Proofs.Ythhcpocgfmlbeaa
open Go.RowKit
set_option linter.unusedVariables false
theorem pow_fits {a : Int} (ha : In64 a) {k : Nat} (hk : k ≤ 70) : nw (a ^ k).natAbs ≤ 1099511627776 := by
  obtain ⟨h0, h1⟩ := ha
  refine nw_small (n := 140) ?_ (by omega)
  rw [Int.natAbs_pow]
  have h2 : a.natAbs ≤ B32 ^ 2 := by rw [show B32 ^ 2 = 18446744073709551616 by decide]; omega
  have h3 := Nat.pow_le_pow_left h2 k
  have h5 : a.natAbs < B32 ^ 2 := by rw [show B32 ^ 2 = 18446744073709551616 by decide]; omega
  rcases Nat.eq_zero_or_pos k with rfl | hk0
  · rw [Nat.pow_zero]; exact Nat.one_lt_pow (by decide) (by decide)
  · have h4 : a.natAbs ^ k < (B32 ^ 2) ^ k := Nat.pow_lt_pow_left h5 (by omega)
    rw [← Nat.pow_mul] at h4
    exact Nat.lt_of_lt_of_le h4 (Nat.pow_le_pow_right (by decide) (by omega))
theorem pow_out {a : Int} (h2 : 2 ≤ a.natAbs) {n : Nat} (hn : 70 ≤ n) : ¬ In64 (a ^ n) := by
  have h3 : 2 ^ 70 ≤ (a ^ n).natAbs := by
    rw [Int.natAbs_pow]
    exact Nat.le_trans (Nat.pow_le_pow_right (by decide) hn) (Nat.pow_le_pow_left h2 n)
  rw [show (2 : Nat) ^ 70 = 1180591620717411303424 by decide] at h3
  unfold In64
  omega
theorem pow_neg_one (n : Nat) : (-1 : Int) ^ n = 1 - 2 * ((n % 2 : Nat) : Int) := by
  obtain ⟨q, hq⟩ : ∃ q, n = 2 * q ∨ n = 2 * q + 1 := ⟨n / 2, by omega⟩
  have h1 : ∀ q : Nat, (-1 : Int) ^ (2 * q) = 1 := fun q => by rw [Int.pow_mul]; exact Int.one_pow
  rcases hq with rfl | rfl
  · rw [h1, show 2 * q % 2 = 0 by omega]; rfl
  · rw [Int.pow_succ, h1, show (2 * q + 1) % 2 = 1 by omega]; rfl
set_option maxRecDepth 100000 in
theorem RPower_neg (a n : Int) (w : World) (hn : n < 0) :
    Calls Try.prog 16 #[.int .i64 a, .int .i64 n] w fun e w' => e = .returned (.tuple #[.int .i64 0, .int .i64 6]) ∧ Grew w w' := by
  have e0 : decide (n < 0) = true := decide_eq_true hn
  go_enter Try.func16, Try.ntmps16
  go_wp2_with fail
  go_ret2
  exact ⟨rfl, Grew.refl _⟩
set_option maxRecDepth 100000 in
set_option maxHeartbeats 2000000 in
theorem RPower_any (a : Int) (n : Nat) (w : World) (ha : In64 a) (hn : n ≤ 9223372036854775807) :
    Calls Try.prog 16 #[.int .i64 a, .int .i64 (n : Nat)] w fun e w' => e = numR (a ^ n) ∧ Grew w w' := by
  have e0 : decide ((n : Int) < 0) = false := decide_eq_false (by omega)
  by_cases h0 : n = 0
  · subst h0
    go_enter Try.func16, Try.ntmps16
    go_wp2_with fail
    go_ret2
    exact ⟨by rw [Int.pow_zero, pnumR_in (by unfold In64; omega)]; rfl, Grew.refl _⟩
  · have e1 : ((n : Int) == 0) = false := by rw [beq_eq_false_iff_ne]; omega
    by_cases a1 : a = 1
    · subst a1
      go_enter Try.func16, Try.ntmps16
      go_wp2_with fail
      go_ret2
      exact ⟨by rw [Int.one_pow, pnumR_in (by unfold In64; omega)]; rfl, Grew.refl _⟩
    · have e2 : (a == 1) = false := by rw [beq_eq_false_iff_ne]; exact a1
      by_cases a0 : a = 0
      · subst a0
        have HN := hidd h0
        clear h0 ha a1
        go_enter Try.func16, Try.ntmps16
        go_wp2_with fail
        go_ret2
        exact ⟨by rw [Int.zero_pow HN.out, pnumR_in (by unfold In64; omega)]; rfl, Grew.refl _⟩
      · have e3 : (a == 0) = false := by rw [beq_eq_false_iff_ne]; exact a0
        by_cases am : a = -1
        · subst am
          have hb : -1 ≤ 1 - 2 * ((n % 2 : Nat) : Int) ∧ 1 - 2 * ((n % 2 : Nat) : Int) ≤ 1 := by omega
          have HN := hidd (pnumR_in (x := 1 - 2 * ((n % 2 : Nat) : Int)) (by unfold In64; omega))
          have HP := hidd (pow_neg_one n)
          obtain ⟨r, hr⟩ : ∃ r, n % 2 = r := ⟨_, rfl⟩
          rw [hr] at HN HP hb
          have f1 : (n : Int) % 2 = (r : Int) := by omega
          have f2 : Int.tmod (n : Int) 2 = (r : Int) := by rw [Int.tmod_eq_emod_of_nonneg (by omega)]; omega
          have f3 : IntKind.i64.wrap (2 * (r : Int)) = 2 * (r : Int) := by rw [IntKind.wrap_i64]; omega
          have f4 : IntKind.i64.wrap (1 - 2 * (r : Int)) = 1 - 2 * (r : Int) := by rw [IntKind.wrap_i64]; omega
          clear h0 ha a1 a0 hr hb
          go_enter Try.func16, Try.ntmps16
          go_wp2_with fail
          go_ret2
          exact ⟨by rw [HP.out, HN.out]; rfl, Grew.refl _⟩
        · have e4 : (a == -1) = false := by rw [beq_eq_false_iff_ne]; exact am
          have h2 : 2 ≤ a.natAbs := by omega
          have HB := hidd (fun w1 => Big_any a ha w1)
          have HO := hidd (fun w1 => Big_any 1 (by unfold In64; omega) w1)
          have HA := hidd ha
          have HK := hidd h2
          clear ha h2 a1 a0 am
          go_enter Try.func16, Try.ntmps16
          go_wp2_with fail
          refine (HO.out _).mono ?_; rintro e w1 ⟨rfl, g1, i1⟩
          have H1 := hidd (And.intro g1 i1)
          clear g1 i1
          go_wp2_with fail
          go_loopw [7] (fun u7 wr => ∃ k : Nat, k ≤ n ∧ k ≤ 70 ∧ u7 = .int .i64 k ∧ Hid (IntAt wr w.heap.size (a ^ k)) ∧ Hid (Grew w wr)) (fun u7 _ => 70 - (intOf u7).toNat)
          case atStart => exact ⟨0, Nat.zero_le _, by omega, rfl, (by rw [Hid, Int.pow_zero]; exact H1.out.2), H1.out.1⟩
          case round =>
            obtain ⟨k, hk, hk2, rfl, HI, HG⟩ := hrel
            by_cases hs : k < n ∧ k < 70
            · have c1 : decide ((k : Int) < (n : Int)) = true := decide_eq_true (by omega)
              have c2 : decide (k < n) = true := decide_eq_true hs.1
              have c3 : decide ((k : Int) < 70) = true := decide_eq_true (by omega)
              have c4 : decide (k < 70) = true := decide_eq_true hs.2
              have hs1 := hs.1
              have hs2 := hs.2
              clear hs
              go_wp2_with fail
              refine (HB.out _).mono ?_; rintro e w2 ⟨rfl, g2, i2⟩
              have HM : Hid (Calls Try.prog 28 #[.pointer (some ⟨w.heap.size, 0, none⟩), .pointer (some ⟨w.heap.size, 0, none⟩), .pointer (some ⟨wr.heap.size, 0, none⟩)] w2 fun e w' => e = .returned (.pointer (some ⟨w.heap.size, 0, none⟩)) ∧ Grew w w' ∧ IntAt w' w.heap.size (a ^ (k + 1))) := by
                have h := Mul_self (HI.out.kept g2) i2 (pow_fits HA.out hk2) (nw_64 HA.out)
                rw [← Int.pow_succ] at h
                exact h.mono fun e w' ⟨he, b3, i3⟩ => ⟨he, b3.grew (HG.out.trans g2) (Nat.le_refl _), i3⟩
              clear g2 i2
              go_wp2_with fail
              refine HM.out.mono ?_; rintro e w3 ⟨rfl, g3, i3⟩
              have H3 := hidd (And.intro g3 i3)
              clear g3 i3
              go_wp2_with fail
              go_roundw
              case rel => exact ⟨k + 1, by omega, by omega, by go_num, H3.out.2, H3.out.1⟩
              case measure => simp [intOf]; omega
            · have HR : Hid (numR (a ^ k) = numR (a ^ n)) := by
                by_cases e : k = n
                · rw [e]; rfl
                · have e70 : k = 70 := by omega
                  rw [Hid, pnumR_out (pow_out HK.out (by omega)), pnumR_out (pow_out HK.out (by omega))]
              have HD := hidd (numR_def (a ^ n))
              have HW : Hid (Calls Try.prog 21 #[.pointer (some ⟨w.heap.size, 0, none⟩)] wr fun e w' => e = numR (a ^ n) ∧ w' = wr) := by
                rw [Hid, ← HR.out]; exact Within_any HI.out (pow_fits HA.out hk2)
              by_cases hkn : k < n
              · have c1 : decide ((k : Int) < (n : Int)) = true := decide_eq_true (by omega)
                have c2 : decide (k < n) = true := decide_eq_true hkn
                have c3 : decide ((k : Int) < 70) = false := decide_eq_false (by omega)
                have c4 : decide (k < 70) = false := decide_eq_false (by omega)
                clear hs hkn
                go_wp2_with fail
                refine HW.out.mono ?_; rintro e w4 ⟨he, rfl⟩
                rw [HD.out] at he
                subst he
                go_wp2_with fail
                go_ret2
                exact ⟨HD.out.symm, HG.out⟩
              · have c1 : decide ((k : Int) < (n : Int)) = false := decide_eq_false (by omega)
                have c2 : decide (k < n) = false := decide_eq_false hkn
                clear hs hkn
                go_wp2_with fail
                refine HW.out.mono ?_; rintro e w4 ⟨he, rfl⟩
                rw [HD.out] at he
                subst he
                go_wp2_with fail
                go_ret2
                exact ⟨HD.out.symm, HG.out⟩
end Go.Proofs.Ythhcpocgfmlbeaa
