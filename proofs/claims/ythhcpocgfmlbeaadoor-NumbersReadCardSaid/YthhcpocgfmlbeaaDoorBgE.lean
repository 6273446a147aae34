/- scanfailbig: length, bit, Uint64, Int64, IsInt64. -/
import Derived.Test.YthhcpocgfmlbeaaDoorBgD
import Derived.Test.YthhcpocgfmlbeaaDoorNum
namespace Go.Proofs.YthhcpocgfmlbeaaDoor
open Go.RowKit
set_option linter.unusedVariables false
set_option maxRecDepth 100000 in
set_option maxHeartbeats 1000000 in
theorem length_any {w : World} {p : Option Addr} {A c : Nat} (h : WordsAt w (.slice p (nw A) c) A (nw A)) (hn : nw A ≤ 1099511627776) :
    Calls Tryd.prog 75 #[.slice p (nw A) c] w fun e w' => e = .returned (.int .i64 (blW A : Nat)) ∧ w' = w := by
  obtain ⟨_, _, he, hac, hac2⟩ := h.form
  cases he
  by_cases h0 : A = 0
  · have HB : Hid (blW A = 0) := if_pos h0
    have hz : nw A = 0 := by rw [h0, nw_zero]
    rw [hz]
    clear h hn hac
    go_enter Tryd.func75, Tryd.ntmps75
    go_wp2_with fail
    go_ret
    exact ⟨by rw [HB.out]; rfl, rfl⟩
  · obtain ⟨n, hn1⟩ : ∃ n, nw A = n + 1 := ⟨nw (A / B32), nw_pos h0⟩
    obtain ⟨b, o, rfl, hc⟩ := h.words (by omega)
    have ct := hc n (by omega)
    have HB : Hid (blW A = n * 32 + blen (dg A n)) := by unfold Hid blW; rw [if_neg h0, hn1]; rfl
    have lt := dg_lt A n
    rw [hn1] at hac hn ⊢
    obtain ⟨t0, ht0⟩ : ∃ t, dg A n = t := ⟨_, rfl⟩
    rw [ht0] at ct HB lt
    clear h hc h0 hn1 ht0
    have hb0 : blen t0 ≤ 32 := blen_le (by omega)
    go_enter Tryd.func75, Tryd.ntmps75
    go_wp2_with fail
    go_loopw [3, 4] (fun u3 u4 wr => ∃ k t : Nat, u3 = .int .i64 k ∧ u4 = .int .u32 t ∧ t < 4294967296 ∧ k ≤ 32 ∧ Hid (k + blen t = blen t0) ∧ wr = w) (fun _ u4 _ => (intOf u4).toNat)
    case atStart => exact ⟨0, t0, rfl, rfl, lt, by omega, by unfold Hid; omega, rfl⟩
    case round =>
      obtain ⟨k, t, rfl, rfl, ht, hk, HK, rfl⟩ := hrel
      by_cases htz : t = 0
      · have hkk : k = blen t0 := by have := HK.out; rw [htz, blen_zero] at this; omega
        have e1 : ((t : Int) == 0) = true := by rw [htz]; rfl
        have f1 : IntKind.i64.wrap ((n : Int) * 32) = (n : Int) * 32 := by rw [IntKind.wrap_i64]; omega
        have f2 : IntKind.i64.wrap ((n : Int) * 32 + (k : Int)) = (n : Int) * 32 + (k : Int) := by rw [IntKind.wrap_i64]; omega
        clear htz HK
        go_wp2_with fail
        go_ret
        exact ⟨by rw [HB.out, ← hkk]; push_cast; rfl, rfl⟩
      · have e1 : ((t : Int) == 0) = false := by rw [beq_eq_false_iff_ne]; omega
        have HN : Hid (k + 1 + blen (t / 2) = blen t0) := by have := HK.out; rw [blen_pos htz] at this; unfold Hid; omega
        have hk2 : k + 1 ≤ 32 := by have := HN.out; omega
        obtain ⟨t2, ht2⟩ : ∃ t2, t / 2 = t2 := ⟨_, rfl⟩
        have f3 : (t : Int) / 2 = (t2 : Int) := by omega
        have hlt2 : t2 < t := by omega
        rw [ht2] at HN
        clear HK ht2
        go_wp2_with fail
        go_roundw
        case rel => exact ⟨k + 1, t2, by go_num, by go_num, by omega, hk2, HN, trivial⟩
        case measure => simp [intOf]; omega
theorem bit_word {A q r : Nat} (hr : r < 32) : dg A q / 2 ^ r % 2 = A / 2 ^ (q * 32 + r) % 2 := by
  have h1 : (dg A q).testBit r = A.testBit (q * 32 + r) := by
    unfold dg
    rw [b32_two, show B32 = 2 ^ 32 by decide, Nat.testBit_mod_two_pow, decide_eq_true hr, Bool.true_and, Nat.testBit_div_two_pow, Nat.add_comm]
  rw [Nat.testBit_eq_decide_div_mod_eq, Nat.testBit_eq_decide_div_mod_eq] at h1
  have h2 := Nat.mod_two_eq_zero_or_one (dg A q / 2 ^ r)
  have h3 := Nat.mod_two_eq_zero_or_one (A / 2 ^ (q * 32 + r))
  rcases h2 with h2 | h2 <;> rcases h3 with h3 | h3 <;> rw [h2, h3] at h1 ⊢ <;> simp at h1
theorem and_one64 (x : Nat) (hx : x < 18446744073709551616) : bits .and .u64 (x : Int) 1 = ((x % 2 : Nat) : Int) := by
  have a1 := bits_and_u64_nat x 1 hx (by omega)
  erw [a1]
  have h := Nat.and_two_pow_sub_one_eq_mod x 1
  simp only [Nat.pow_one, Nat.add_one_sub_one] at h
  rw [h]
set_option maxRecDepth 100000 in
set_option maxHeartbeats 1000000 in
theorem bit_any {w : World} {p : Option Addr} {A c i : Nat} (h : WordsAt w (.slice p (nw A) c) A (nw A)) (hi : i / 32 < nw A) (hi2 : i < 4611686018427387904) :
    Calls Tryd.prog 100 #[.slice p (nw A) c, .int .i64 i] w fun e w' => e = .returned (.int .u64 (A / 2 ^ i % 2 : Nat)) ∧ w' = w := by
  obtain ⟨_, _, he, hac, hac2⟩ := h.form
  cases he
  obtain ⟨b, o, rfl, hc⟩ := h.words (by omega)
  obtain ⟨q, hq⟩ : ∃ q, i / 32 = q := ⟨_, rfl⟩
  obtain ⟨r, hr⟩ : ∃ r, i % 32 = r := ⟨_, rfl⟩
  rw [hq] at hi
  have ct := hc q hi
  have hB : dg A q / 2 ^ r % 2 = A / 2 ^ i % 2 := by rw [bit_word (by omega)]; congr 3; omega
  have ld := dg_lt A q
  obtain ⟨d0, hd0⟩ : ∃ d0, dg A q = d0 := ⟨_, rfl⟩
  rw [hd0] at ct hB ld
  obtain ⟨v, hv⟩ : ∃ v, d0 / 2 ^ r = v := ⟨_, rfl⟩
  have lv : v ≤ d0 := by rw [← hv]; exact Nat.div_le_self _ _
  have HF : Hid (bits .and .u64 (v : Int) 1 = ((A / 2 ^ i % 2 : Nat) : Int)) := by rw [Hid, and_one64 v (by omega), ← hB, ← hv]
  obtain ⟨n, hn⟩ : ∃ n, nw A = n := ⟨_, rfl⟩
  rw [hn] at hi hac ⊢
  have e0 : decide ((i : Int) < 0) = false := decide_eq_false (by omega)
  have f1 : Int.tdiv (i : Int) 32 = (q : Int) := by rw [Int.tdiv_eq_ediv_of_nonneg (by omega)]; omega
  have f2 : (i : Int) / 32 = (q : Int) := by omega
  have f3 : IntKind.i64.wrap (q : Int) = (q : Int) := by rw [IntKind.wrap_i64]; omega
  have f4 : IntKind.u64.wrap (i : Int) = (i : Int) := wrap_u64 (by omega)
  have f5 : (i : Int) % 32 = (r : Int) := by omega
  have f6 : Int.tmod (i : Int) 32 = (r : Int) := by rw [Int.tmod_eq_emod_of_nonneg (by omega)]; omega
  have f7 : IntKind.u64.wrap (r : Int) = (r : Int) := wrap_u64 (by omega)
  have hr32 : r < 32 := by omega
  have f8 : (d0 : Int) / ((2 ^ r : Nat) : Int) = (v : Int) := by rw [← hv]; simp
  have f9 : (d0 : Int) / 2 ^ r = (v : Int) := by rw [← hv]; simp
  have f10 : IntKind.u64.wrap (v : Int) = (v : Int) := wrap_u64 (by omega)
  clear h hc hn hq hr hd0 hv hB
  go_enter Tryd.func100, Tryd.ntmps100
  go_wp2_with fail
  go_ret
  exact ⟨congrArg (fun v => Ending.returned (.int .u64 v)) HF.out, rfl⟩
end Go.Proofs.YthhcpocgfmlbeaaDoor
