/- scanfailbig: Sqrt. -/
import Derived.Test.YthhcpocgfmlbeaaBgT
import Derived.Test.YthhcpocgfmlbeaaBgF
namespace Go.Proofs.Ythhcpocgfmlbeaa
open Go.RowKit
set_option linter.unusedVariables false
theorem int_new (w : World) : IntAt (w.alloc (.cells #[.bool false, .slice none 0 0] 31)) w.heap.size 0 := by
  have e : nw (0 : Int).natAbs = 0 := nw_zero
  refine ⟨none, 0, ?_, ?_⟩
  · rw [e]; exact heap_alloc_new w _
  · rw [e]; exact wordsAt_nil _ (by omega)
theorem root_small {R X : Nat} (h : R * R ≤ X) (hX : X < 18446744073709551616) : R < 4294967296 := by
  rcases Nat.lt_or_ge R 4294967296 with h1 | h1
  · exact h1
  · have := Nat.mul_le_mul h1 h1; omega
theorem cmp_le (A C : Nat) : decide (cmpI A C ≤ 0) = decide (A ≤ C) := by
  unfold cmpI
  by_cases h : A < C
  · rw [if_pos h, decide_eq_true (show A ≤ C by omega)]; rfl
  · rw [if_neg h]
    by_cases h2 : A = C
    · rw [if_pos h2, decide_eq_true (show A ≤ C by omega)]; rfl
    · rw [if_neg h2, decide_eq_false (show ¬ A ≤ C by omega)]; rfl
/-- How far the root has come: its bits from place k up. -/
structure RootSt (X k R : Nat) : Prop where
  div : 2 ^ k ∣ R
  low : R * R ≤ X
  high : X < (R + 2 ^ k) * (R + 2 ^ k)
theorem RootSt.start {X L : Nat} (h : X < 2 ^ L) : RootSt X ((L + 1) / 2 + 1) 0 := by
  refine ⟨Nat.dvd_zero _, by omega, ?_⟩
  rw [Nat.zero_add, ← Nat.pow_add]
  exact Nat.lt_of_lt_of_le h (Nat.pow_le_pow_right (by decide) (by omega))
theorem RootSt.keep {X k R : Nat} (h : RootSt X (k + 1) R) (hn : ¬ (R + 2 ^ k) * (R + 2 ^ k) ≤ X) : RootSt X k R :=
  ⟨Nat.dvd_trans (Nat.pow_dvd_pow 2 (by omega)) h.div, h.low, by omega⟩
theorem RootSt.take {X k R : Nat} (h : RootSt X (k + 1) R) (hn : (R + 2 ^ k) * (R + 2 ^ k) ≤ X) : RootSt X k (R + 2 ^ k) :=
  ⟨Nat.dvd_add (Nat.dvd_trans (Nat.pow_dvd_pow 2 (by omega)) h.div) (Nat.dvd_refl _), hn, by
    have := h.high
    rw [show 2 ^ (k + 1) = 2 ^ k + 2 ^ k by rw [Nat.pow_succ]; omega] at this
    rw [Nat.add_assoc]; exact this⟩
section
variable {w : World} {z x y : Nat} {X Y : Int}
set_option maxRecDepth 100000 in
set_option maxHeartbeats 4000000 in
theorem Sqrt_own {X : Nat} (hz : ObjAt w z) (hx : IntAt w x (X : Nat)) (hzx : z ≠ x) (hX : X < 18446744073709551616) :
    Calls Try.prog 33 #[.pointer (some ⟨z, 0, none⟩), .pointer (some ⟨x, 0, none⟩)] w fun e w' => e = .returned (.pointer (some ⟨z, 0, none⟩)) ∧ But z w w' ∧ ∃ R : Nat, IntAt w' z (R : Nat) ∧ R * R ≤ X ∧ X < (R + 1) * (R + 1) := by
  have HO := hidd hz
  have HX := hidd hx
  have hzl : z < w.heap.size := by obtain ⟨_, _, _, _, h1⟩ := hz; exact (Array.getElem?_eq_some_iff.1 h1).1
  have hxl : x < w.heap.size := by obtain ⟨_, _, h1, _⟩ := hx; exact (Array.getElem?_eq_some_iff.1 h1).1
  obtain ⟨p, c, hh, hp⟩ := hx
  rw [show (X : Int).natAbs = X from rfl] at hh hp
  have g0 := (Grew.refl w).alloc (.cells #[.bool false, .slice none 0 0] 31)
  obtain ⟨⟨k0, k1⟩, _⟩ := two_cells hh
  obtain ⟨⟨j0, j1⟩, _⟩ := two_cells (heap_keep g0 hh)
  rw [decide_eq_false (show ¬ (X : Int) < 0 by omega)] at k0 j0
  have n2 : nw X ≤ 2 := nw_le (two_words.2 hX)
  have HL := hidd (length_any (hp.kept g0) (by omega))
  have HG0 := hidd g0
  have HR0 := hidd (int_new w)
  have hL : blW X ≤ 64 := blW_le (by omega)
  have HS := hidd (RootSt.start (blW_lt X))
  obtain ⟨n, hn0⟩ : ∃ n, nw X = n := ⟨_, rfl⟩
  rw [hn0] at HL k1 j1 n2
  obtain ⟨L, hL0⟩ : ∃ L, blW X = L := ⟨_, rfl⟩
  rw [hL0] at HL hL HS
  obtain ⟨I, hI⟩ : ∃ I, (L + 1) / 2 = I := ⟨_, rfl⟩
  rw [hI] at HS
  have f1 : IntKind.i64.wrap ((L : Int) + 1) = (L : Int) + 1 := by rw [IntKind.wrap_i64]; omega
  have f2 : Int.tdiv ((L : Int) + 1) 2 = (I : Int) := by rw [Int.tdiv_eq_ediv_of_nonneg (by omega)]; omega
  have f3 : ((L : Int) + 1) / 2 = (I : Int) := by omega
  have hI2 : I ≤ 32 := by omega
  clear hz hh hp g0 hn0 hL0 hI
  go_enter Try.func33, Try.ntmps33
  go_wp2_with fail
  refine HL.out.mono ?_; rintro e w1 ⟨rfl, rfl⟩
  go_wp2_with fail
  go_loopw [5, 6] (fun u5 u6 wr => ∃ (k R rb : Nat) (i : Int), k ≤ 33 ∧ i = (k : Int) - 1 ∧ u5 = .pointer (some ⟨rb, 0, none⟩) ∧ u6 = .int .i64 i ∧ w.heap.size ≤ rb ∧ Hid (IntAt wr rb (R : Nat)) ∧ Hid (RootSt X k R) ∧ Hid (Grew w wr)) (fun _ u6 _ => (intOf u6 + 1).toNat)
  case atStart => exact ⟨I + 1, 0, w.heap.size, _, by omega, by omega, rfl, rfl, Nat.le_refl _, HR0, HS, HG0⟩
  case round =>
    obtain ⟨k, R, rb, i, hk, hi, rfl, rfl, hrb, HR, HT, HG⟩ := hrel
    cases k with
    | zero =>
      have e0 : decide ((0 : Int) ≤ i) = false := decide_eq_false (by omega)
      have HZ : Hid (Calls Try.prog 44 #[.pointer (some ⟨z, 0, none⟩), .pointer (some ⟨rb, 0, none⟩)] wr fun e w' => e = .returned (.pointer (some ⟨z, 0, none⟩)) ∧ But z wr w' ∧ IntAt w' z (R : Nat)) := Set_own (HO.out.kept HG.out) HR.out (by omega) (by
        have h1 := root_small HT.out.low hX
        have : nw (R : Int).natAbs ≤ 2 := nw_le (two_words.2 (by omega))
        omega)
      clear hi
      go_wp2_with fail
      refine HZ.out.mono ?_; rintro e w3 ⟨rfl, b3, i3⟩
      have H3 := hidd (And.intro b3 i3)
      clear b3 i3
      go_wp2_with fail
      go_ret
      have hhi := HT.out.high
      rw [Nat.pow_zero] at hhi
      exact ⟨rfl, But.grewL HG.out H3.out.1, R, H3.out.2, HT.out.low, hhi⟩
    | succ k =>
      obtain rfl : i = (k : Int) := by omega
      clear hi
      have hR1 := root_small HT.out.low hX
      have hk32 : k ≤ 32 := by omega
      have hp32 : 2 ^ k ≤ 4294967296 := by
        have := Nat.pow_le_pow_right (show 2 > 0 by decide) hk32
        simpa using this
      have HNT : Hid (nw (R : Nat) ≤ 2 ∧ nw (R + 2 ^ k) ≤ 2) := ⟨nw_le (two_words.2 (by omega)), nw_le (two_words.2 (by omega))⟩
      have HA := hidd (HG.out.alloc (.cells #[.bool false, .slice none 0 0] 31))
      have HB : Hid (Calls Try.prog 46 #[.pointer (some ⟨wr.heap.size, 0, none⟩), .pointer (some ⟨rb, 0, none⟩), .int .i64 (k : Nat), .int .u64 1] (wr.alloc (.cells #[.bool false, .slice none 0 0] 31)) fun e w' => e = .returned (.pointer (some ⟨wr.heap.size, 0, none⟩)) ∧ But wr.heap.size (wr.alloc (.cells #[.bool false, .slice none 0 0] 31)) w' ∧ IntAt w' wr.heap.size (R + 2 ^ k : Nat)) :=
        SetBit_own (obj_new wr) (HR.out.kept ((Grew.refl wr).alloc _)) HT.out.div (by omega) (by have := HNT.out.1; omega)
      obtain ⟨T, hT⟩ : ∃ T, R + 2 ^ k = T := ⟨_, rfl⟩
      rw [hT] at HB HNT
      have HTE := hidd hT
      clear hT hp32 hR1
      go_wp2_with fail
      refine HB.out.mono ?_; rintro e w3 ⟨rfl, b3, i3⟩
      have H3 := hidd (And.intro (b3.grew ((Grew.refl wr).alloc _) (Nat.le_refl _)) i3)
      clear b3 i3
      have HM : Hid (Calls Try.prog 28 #[.pointer (some ⟨w3.heap.size, 0, none⟩), .pointer (some ⟨wr.heap.size, 0, none⟩), .pointer (some ⟨wr.heap.size, 0, none⟩)] (w3.alloc (.cells #[.bool false, .slice none 0 0] 31)) fun e w' => e = .returned (.pointer (some ⟨w3.heap.size, 0, none⟩)) ∧ But w3.heap.size (w3.alloc (.cells #[.bool false, .slice none 0 0] 31)) w' ∧ IntAt w' w3.heap.size ((T : Nat) * (T : Nat) : Int)) := by
        have hl : wr.heap.size ≠ w3.heap.size := by
          obtain ⟨_, _, h1, _⟩ := H3.out.2
          have := (Array.getElem?_eq_some_iff.1 h1).1
          omega
        have hi := H3.out.2.kept ((Grew.refl w3).alloc (.cells #[.bool false, .slice none 0 0] 31))
        have hn : nw ((T : Nat) : Int).natAbs ≤ 1099511627776 := by have : nw ((T : Nat) : Int).natAbs ≤ 2 := HNT.out.2; omega
        exact Mul_own (obj_new w3) hi hi (Ne.symm hl) (Ne.symm hl) hn hn
      go_wp2_with fail
      refine HM.out.mono ?_; rintro e w4 ⟨rfl, b4, i4⟩
      have H4 := hidd (And.intro (H3.out.1.trans (b4.grew ((Grew.refl w3).alloc _) (Nat.le_refl _))) (And.intro i4 (H3.out.2.kept (b4.grew ((Grew.refl w3).alloc _) (Nat.le_refl _)))))
      clear b4 i4
      have HC : Hid (Calls Try.prog 47 #[.pointer (some ⟨w3.heap.size, 0, none⟩), .pointer (some ⟨x, 0, none⟩)] w4 fun e w' => e = .returned (.int .i64 (cmpI (T * T) X)) ∧ Grew w4 w') := by
        have h := Cmp_own H4.out.2.1 (HX.out.kept (HG.out.trans H4.out.1)) (Int.mul_nonneg (Int.natCast_nonneg _) (Int.natCast_nonneg _)) (Int.natCast_nonneg _)
        rw [show ((T : Nat) * (T : Nat) : Int).natAbs = T * T by rw [Int.natAbs_mul]; rfl] at h
        exact h
      go_wp2_with fail
      refine HC.out.mono ?_; rintro e w5 ⟨rfl, g5⟩
      have H5 := hidd (And.intro (HG.out.trans (H4.out.1.trans g5)) (And.intro (HR.out.kept (H4.out.1.trans g5)) (H4.out.2.2.kept g5)))
      clear g5
      have hrw : w.heap.size ≤ wr.heap.size := HG.out.size
      by_cases hc : T * T ≤ X
      · have e1 : decide (cmpI (T * T) X ≤ 0) = true := by rw [cmp_le]; exact decide_eq_true hc
        have HN : Hid (RootSt X k T) := by have := HTE.out; subst this; exact HT.out.take hc
        clear hc
        go_wp2_with fail
        go_roundw
        case rel => exact ⟨k, T, wr.heap.size, _, by omega, rfl, rfl, by go_num, hrw, H5.out.2.2, HN, H5.out.1⟩
        case measure => simp [intOf]
      · have e1 : decide (cmpI (T * T) X ≤ 0) = false := by rw [cmp_le]; exact decide_eq_false hc
        have HN : Hid (RootSt X k R) := by have := HTE.out; subst this; exact HT.out.keep hc
        clear hc
        go_wp2_with fail
        go_roundw
        case rel => exact ⟨k, R, rb, _, by omega, rfl, rfl, by go_num, hrb, H5.out.2.1, HN, H5.out.1⟩
        case measure => simp [intOf]
end
end Go.Proofs.Ythhcpocgfmlbeaa
