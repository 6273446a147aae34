/- scanfailbig: Uint64, Int64, TrailingZeroBits, IsInt64, SetInt64, NewInt; the document's Big and Within. -/
import Derived.Test.YthhcpocgfmlbeaaDoorBgE
namespace Go.Proofs.YthhcpocgfmlbeaaDoor
open Go.RowKit
set_option linter.unusedVariables false
set_option maxRecDepth 100000 in
set_option maxHeartbeats 1000000 in
theorem Uint64_any {w : World} {b : Nat} {z : Int} (h : IntAt w b z) (hz : z.natAbs < 18446744073709551616) :
    Calls Tryd.prog 60 #[.pointer (some ⟨b, 0, none⟩)] w fun e w' => e = .returned (.int .u64 (z.natAbs : Nat)) ∧ w' = w := by
  obtain ⟨p, c, hh, hw⟩ := h
  obtain ⟨⟨k0, k1⟩, kf⟩ := two_cells hh
  clear k0 kf hh
  obtain ⟨A, hA⟩ : ∃ A, z.natAbs = A := ⟨_, rfl⟩
  rw [hA] at hw k1 hz ⊢
  have h2 : nw A ≤ 2 := nw_le (two_words.2 hz)
  have h0 := hw.fits
  by_cases n0 : nw A = 0
  · have e0 : A = 0 := by rw [n0] at h0; simpa using h0
    rw [n0] at k1
    subst e0
    clear hw h2 n0 h0 hz hA
    go_enter Tryd.func60, Tryd.ntmps60
    go_wp2_with fail
    go_ret
    exact ⟨rfl, rfl⟩
  · obtain ⟨b', o, rfl, hc⟩ := hw.words (by omega)
    have c0 : w.cell? ⟨b', o, none⟩ = some (.int .u32 (dg A 0 : Nat)) := hc 0 (by omega)
    obtain ⟨_, _, he, hcp, _⟩ := hw.form
    cases he
    by_cases n1 : nw A = 1
    · have e0 : dg A 0 = A := by rw [n1] at h0; rw [(dg_two A).1, Nat.mod_eq_of_lt (by simpa using h0)]
      rw [e0] at c0
      rw [n1] at hcp k1
      clear hw hc h2 n0 h0 n1 e0 hA
      go_enter Tryd.func60, Tryd.ntmps60
      go_wp2_with fail
      go_ret
      exact ⟨rfl, rfl⟩
    · have c1 := hc 1 (by omega)
      rw [show nw A = 2 by omega] at hcp k1
      have e0 := plain_two hz
      have l0 := dg_lt A 0
      have l1 := dg_lt A 1
      have HB : Hid (bits .or .u64 (dg A 0 : Nat) ((dg A 1 : Nat) * 4294967296) = (A : Int)) := by
        have := bits_or_u64_nat (dg A 0) (dg A 1 * 4294967296) (by omega) (by omega)
        rw [e0] at this
        unfold Hid; rw [← this]; simp
      have hb := HB.out
      have hw64 : IntKind.u64.wrap ((dg A 1 : Nat) * 4294967296 : Int) = (dg A 1 : Nat) * 4294967296 := by unfold IntKind.wrap; simp [IntKind.signed, IntKind.bits]; omega
      clear hw hc h2 n0 h0 n1 e0 hA
      go_enter Tryd.func60, Tryd.ntmps60
      go_wp2_with fail
      go_ret
      exact ⟨by rw [← HB.out]; rfl, rfl⟩
set_option maxRecDepth 100000 in
set_option maxHeartbeats 1000000 in
theorem Int64_any {w : World} {b : Nat} {z : Int} (h : IntAt w b z) (hz : In64 z) :
    Calls Tryd.prog 38 #[.pointer (some ⟨b, 0, none⟩)] w fun e w' => e = .returned (.int .i64 z) ∧ w' = w := by
  obtain ⟨z0, z1⟩ := hz
  have HU := hidd (Uint64_any h (by omega))
  obtain ⟨p, c, hh, hw⟩ := h
  obtain ⟨⟨k0, k1⟩, kf⟩ := two_cells hh
  obtain ⟨A, hA⟩ : ∃ A, z.natAbs = A := ⟨_, rfl⟩
  rw [hA] at HU
  clear k1 kf hh hw
  by_cases hn : z < 0
  · have hzA : z = -(A : Int) := by omega
    subst hzA
    rw [decide_eq_true hn] at k0
    by_cases hb : A = 9223372036854775808
    · subst hb
      have F1 : Hid (wrap64 (-wrap64 (9223372036854775808 : Int)) = -((9223372036854775808 : Nat) : Int)) := by unfold Hid wrap64; omega
      clear hA hn z0 z1
      go_enter Tryd.func38, Tryd.ntmps38
      go_wp2_with fail
      refine HU.out.mono ?_; rintro e w1 ⟨rfl, rfl⟩
      go_wp2_with fail
      go_ret
      exact ⟨congrArg (fun v => Ending.returned (.int .i64 v)) F1.out, rfl⟩
    · have f1 : wrap64 (A : Int) = (A : Int) := by unfold wrap64; omega
      have f2 : wrap64 (-(A : Int)) = -(A : Int) := by unfold wrap64; omega
      have hb2 : A < 9223372036854775808 := by omega
      clear hA hn hb
      go_enter Tryd.func38, Tryd.ntmps38
      go_wp2_with fail
      refine HU.out.mono ?_; rintro e w1 ⟨rfl, rfl⟩
      go_wp2_with fail
      go_ret
      exact ⟨rfl, rfl⟩
  · have hzA : z = (A : Int) := by omega
    subst hzA
    rw [decide_eq_false hn] at k0
    have f1 : wrap64 (A : Int) = (A : Int) := by unfold wrap64; omega
    clear hA hn
    go_enter Tryd.func38, Tryd.ntmps38
    go_wp2_with fail
    refine HU.out.mono ?_; rintro e w1 ⟨rfl, rfl⟩
    go_wp2_with fail
    go_ret
    exact ⟨rfl, rfl⟩
set_option maxRecDepth 100000 in
set_option maxHeartbeats 1000000 in
theorem Zeros_any {w : World} {b : Nat} {z : Int} (h : IntAt w b z) (h1 : 9223372036854775808 ≤ z.natAbs) (h2 : z.natAbs < 18446744073709551616) :
    Calls Tryd.prog 76 #[.pointer (some ⟨b, 0, none⟩)] w fun e w' => ∃ k : Nat, e = .returned (.int .u64 k) ∧ k ≤ 63 ∧ (k = 63 ↔ z.natAbs = 9223372036854775808) ∧ w' = w := by
  obtain ⟨p, c, hh, hw⟩ := h
  obtain ⟨⟨k0, k1⟩, kf⟩ := two_cells hh
  clear k0 kf hh
  obtain ⟨A, hA⟩ : ∃ A, z.natAbs = A := ⟨_, rfl⟩
  rw [hA] at hw k1 h1 h2 ⊢
  have hn : nw A = 2 := by
    have a1 := nw_le (two_words.2 h2)
    have a2 := nw_ge (n := 1) (A := A) (by rw [Nat.pow_one]; show 4294967296 ≤ A; omega)
    omega
  have HB : Hid (∀ i : Nat, i ≤ 63 → Calls Tryd.prog 100 #[.slice p 2 c, .int .i64 i] w fun e w' => e = .returned (.int .u64 (A / 2 ^ i % 2 : Nat)) ∧ w' = w) := fun i hi => by
    have := bit_any (i := i) hw (by omega) (by omega)
    rw [hn] at this
    exact this
  rw [hn] at k1
  have HT : Hid (A / 2 ^ 63 % 2 = 1) := by unfold Hid; rw [show (2 : Nat) ^ 63 = 9223372036854775808 by decide]; omega
  have HE : Hid (∀ k, k ≤ 63 → (∀ j, j < k → A / 2 ^ j % 2 = 0) → A / 2 ^ k % 2 = 1 → (k = 63 ↔ A = 9223372036854775808)) := by
    intro k hk hj hb
    constructor
    · rintro rfl
      have : A % 2 ^ 63 = 0 := by
        refine Nat.eq_of_testBit_eq fun i => ?_
        rw [Nat.zero_testBit, Nat.testBit_mod_two_pow]
        by_cases hi : i < 63
        · rw [Nat.testBit_eq_decide_div_mod_eq, hj i hi]; simp
        · simp [hi]
      rw [show (2 : Nat) ^ 63 = 9223372036854775808 by decide] at this
      omega
    · intro e
      rcases Nat.lt_or_ge k 63 with hl | hl
      · exfalso
        rw [e, show (9223372036854775808 : Nat) = 2 ^ 63 by decide, Nat.pow_div (by omega) (by decide)] at hb
        obtain ⟨m, hm⟩ : ∃ m, 63 - k = m + 1 := ⟨63 - k - 1, by omega⟩
        rw [hm, Nat.pow_succ] at hb
        omega
      · omega
  clear hw hn h1 h2 hA
  go_enter Tryd.func76, Tryd.ntmps76
  go_wp2_with fail
  go_loopw [3] (fun u wr => ∃ k : Nat, k ≤ 63 ∧ u = .int .u64 k ∧ Hid (∀ j, j < k → A / 2 ^ j % 2 = 0) ∧ wr = w) (fun u _ => 63 - (intOf u).toNat)
  case atStart => exact ⟨0, by omega, rfl, fun j hj => by omega, rfl⟩
  case round =>
    obtain ⟨k, hk, rfl, HJ, rfl⟩ := hrel
    have f1 : IntKind.i64.wrap (k : Int) = (k : Int) := by rw [IntKind.wrap_i64]; omega
    have f2 : wrap64 (k : Int) = (k : Int) := by unfold wrap64; omega
    have hB := HB.out k hk
    rcases Nat.mod_two_eq_zero_or_one (A / 2 ^ k) with hb | hb
    · have hk2 : k < 63 := by
        rcases Nat.lt_or_ge k 63 with hl | hl
        · exact hl
        · have : k = 63 := by omega
          rw [this, HT.out] at hb; omega
      have HN : Hid (∀ j, j < k + 1 → A / 2 ^ j % 2 = 0) := fun j hj => by
        by_cases e : j = k
        · rw [e]; exact hb
        · exact HJ.out j (by omega)
      have f3 : IntKind.u64.wrap ((k : Int) + 1) = (k : Int) + 1 := by rw [IntKind.wrap_u64]; omega
      rw [hb] at hB
      have HBB := hidd hB
      clear hB hb
      go_wp2_with fail
      refine HBB.out.mono ?_; rintro e w1 ⟨rfl, rfl⟩
      go_wp2_with fail
      go_roundw
      case rel => exact ⟨k + 1, by omega, by go_num, HN, trivial⟩
      case measure => simp [intOf]; omega
    · have HF := hidd (HE.out k hk HJ.out hb)
      rw [hb] at hB
      have HBB := hidd hB
      clear hB hb
      go_wp2_with fail
      refine HBB.out.mono ?_; rintro e w1 ⟨rfl, rfl⟩
      go_wp2_with fail
      go_ret
      exact ⟨k, rfl, hk, HF.out, rfl⟩
set_option maxRecDepth 100000 in
set_option maxHeartbeats 1000000 in
theorem IsInt64_any {w : World} {b : Nat} {z : Int} (h : IntAt w b z) (hn : nw z.natAbs ≤ 1099511627776) :
    Calls Tryd.prog 56 #[.pointer (some ⟨b, 0, none⟩)] w fun e w' => e = .returned (.bool (decide (In64 z))) ∧ w' = w := by
  have h0 := h
  obtain ⟨p, c, hh, hw⟩ := h
  obtain ⟨⟨k0, k1⟩, kf⟩ := two_cells hh
  have HL := hidd (length_any hw hn)
  have l1 := blW_lt z.natAbs
  have l2 := fun n => blW_le (A := z.natAbs) (n := n)
  have p63 : (2 : Nat) ^ 63 = 9223372036854775808 := by decide
  have p64 : (2 : Nat) ^ 64 = 18446744073709551616 := by decide
  obtain ⟨m, hm⟩ : ∃ m, nw z.natAbs = m := ⟨_, rfl⟩
  rw [hm] at HL k1
  have hbl : blW z.natAbs < 9223372036854775807 := by
    have : blW z.natAbs ≤ nw z.natAbs * 32 := by
      refine blW_le ?_
      rw [← b32_two]; exact nw_lt _
    omega
  obtain ⟨L, hL⟩ : ∃ L, blW z.natAbs = L := ⟨_, rfl⟩
  rw [hL] at HL l1 hbl
  by_cases c1 : L < 64
  · have hI : In64 z := by
      have : z.natAbs < 2 ^ 63 := Nat.lt_of_lt_of_le l1 (Nat.pow_le_pow_right (by decide) (by omega))
      unfold In64; omega
    have e1 : decide ((L : Int) < 64) = true := decide_eq_true (by omega)
    have HI : Hid (decide (In64 z) = true) := decide_eq_true hI
    clear h0 hh hw hn l1 l2 c1 hI hm hL
    go_enter Tryd.func56, Tryd.ntmps56
    go_wp2_with fail
    refine HL.out.mono ?_; rintro e w1 ⟨rfl, rfl⟩
    go_wp2_with fail
    go_ret
    exact ⟨by rw [HI.out]; rfl, rfl⟩
  · have hge : 9223372036854775808 ≤ z.natAbs := by
      rcases Nat.lt_or_ge z.natAbs (2 ^ 63) with hl | hl
      · have := l2 63 hl; omega
      · omega
    have e1 : decide ((L : Int) < 64) = false := decide_eq_false (by omega)
    by_cases c2 : L = 64
    · have hlt : z.natAbs < 18446744073709551616 := by rw [c2, p64] at l1; exact l1
      have e2 : ((L : Int) == 64) = true := by rw [c2]; rfl
      by_cases c3 : z < 0
      · rw [decide_eq_true c3] at k0
        have HZ := hidd (Zeros_any h0 hge hlt)
        have HI : Hid (decide (In64 z) = decide (z.natAbs = 9223372036854775808)) := by
          unfold Hid
          rw [decide_eq_decide]; unfold In64; omega
        clear h0 hh hw hn l1 l2 c1 hm hL hge c2 c3
        go_enter Tryd.func56, Tryd.ntmps56
        go_wp2_with fail
        refine HL.out.mono ?_; rintro e w1 ⟨rfl, rfl⟩
        go_wp2_with fail
        refine HZ.out.mono ?_; rintro e w1 ⟨k, rfl, hk, hk2, rfl⟩
        have HK := hidd hk2
        clear hk2
        go_wp2_with fail
        go_ret
        refine ⟨?_, rfl⟩
        rw [HI.out, decide_eq_decide.2 HK.out.symm]
        exact congrArg (fun v => Ending.returned (.bool v)) (by show ((k : Int) == 63) = decide (k = 63); rw [Bool.eq_iff_iff, beq_iff_eq, decide_eq_true_iff]; omega)
      · rw [decide_eq_false c3] at k0
        have HI : Hid (decide (In64 z) = false) := decide_eq_false (by unfold In64; omega)
        clear h0 hh hw hn l1 l2 c1 hm hL hge c2 c3
        go_enter Tryd.func56, Tryd.ntmps56
        go_wp2_with fail
        refine HL.out.mono ?_; rintro e w1 ⟨rfl, rfl⟩
        go_wp2_with fail
        go_ret
        exact ⟨by rw [HI.out]; rfl, rfl⟩
    · have e2 : ((L : Int) == 64) = false := by rw [beq_eq_false_iff_ne]; omega
      have hge2 : 18446744073709551616 ≤ z.natAbs := by
        rcases Nat.lt_or_ge z.natAbs (2 ^ 64) with hl | hl
        · have := l2 64 hl; omega
        · omega
      have HI : Hid (decide (In64 z) = false) := decide_eq_false (by unfold In64; omega)
      clear h0 hh hw hn l1 l2 c1 hm hL hge c2 hge2
      go_enter Tryd.func56, Tryd.ntmps56
      go_wp2_with fail
      refine HL.out.mono ?_; rintro e w1 ⟨rfl, rfl⟩
      go_wp2_with fail
      go_ret
      exact ⟨by rw [HI.out]; rfl, rfl⟩
set_option maxRecDepth 100000 in
set_option maxHeartbeats 1000000 in
theorem Within_any {w : World} {b : Nat} {z : Int} (h : IntAt w b z) (hn : nw z.natAbs ≤ 1099511627776) :
    Calls Tryd.prog 32 #[.pointer (some ⟨b, 0, none⟩)] w fun e w' => e = numR z ∧ w' = w := by
  have HI := hidd (IsInt64_any h hn)
  by_cases hz : In64 z
  · have HJ := hidd (Int64_any h hz)
    rw [decide_eq_true hz] at HI
    have HR : Hid (numR z = .returned (.tuple #[.int .i64 z, .int .i64 0])) := by rw [Hid, numR, numV_in hz, numE_in hz]
    rw [HR.out]
    clear h hn hz
    go_enter Tryd.func32, Tryd.ntmps32
    go_wp2_with fail
    refine HI.out.mono ?_; rintro e w1 ⟨rfl, rfl⟩
    go_wp2_with fail
    refine HJ.out.mono ?_; rintro e w1 ⟨rfl, rfl⟩
    go_wp2_with fail
    go_ret2
    exact ⟨rfl, rfl⟩
  · rw [decide_eq_false hz] at HI
    have HR : Hid (numR z = .returned (.tuple #[.int .i64 0, .int .i64 3])) := by rw [Hid, numR, numV_out hz, numE_out hz]
    rw [HR.out]
    clear h hn hz
    go_enter Tryd.func32, Tryd.ntmps32
    go_wp2_with fail
    refine HI.out.mono ?_; rintro e w1 ⟨rfl, rfl⟩
    go_wp2_with fail
    go_ret2
    exact ⟨rfl, rfl⟩
end Go.Proofs.YthhcpocgfmlbeaaDoor
