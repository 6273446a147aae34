/- scanfailbig: sub. -/
import Derived.Test.YthhcpocgfmlbeaaDoorBgB
namespace Go.Proofs.YthhcpocgfmlbeaaDoor
open Go.RowKit
set_option linter.unusedVariables false
theorem wrap_u64_sub {a b : Nat} (ha : a < 18446744073709551616) (hb : b ≤ 18446744073709551616) : IntKind.u64.wrap ((a : Int) - (b : Int)) = ((a + 18446744073709551616 - b) % 18446744073709551616 : Nat) := by
  unfold IntKind.wrap; simp [IntKind.signed, IntKind.bits]; omega
set_option maxRecDepth 100000 in
set_option maxHeartbeats 4000000 in
theorem sub_any {w : World} {p q : Option Addr} {A C n m c d : Nat} (hA : WordsAt w (.slice p n c) A n) (hC : WordsAt w (.slice q m d) C m) (hn : n ≤ 1099511627776) (hm : m ≤ n) (hle : C ≤ A) :
    Calls Tryd.prog 99 #[.slice p n c, .slice q m d] w fun e w' => Grew w w' ∧ ∃ p' c', e = .returned (.slice p' (nw (A - C)) c') ∧ WordsAt w' (.slice p' (nw (A - C)) c') (A - C) (nw (A - C)) := by
  have HA := hidd hA
  have HC := hidd hC
  obtain ⟨_, _, he, hac, hac2⟩ := hA.form
  cases he
  obtain ⟨_, _, he, hcc, hcc2⟩ := hC.form
  cases he
  have HS := hidd (less_dg hA.fits hle)
  have HF := hidd (Nat.lt_of_le_of_lt (Nat.sub_le A C) hA.fits)
  have HBL := hidd (fun i => bS_le (dg A) (dg C) i)
  clear hA hC
  obtain ⟨wm, hmk, AM, gm⟩ := make_words n (by omega) w
  have HAM := hidd (arr_zero AM (fun j => if j < 0 then rS (dg A) (dg C) j else 0) (fun j hj => if_neg (by omega)))
  have HGM := hidd gm
  clear AM gm
  go_enter Tryd.func99, Tryd.ntmps99
  go_wp2_with fail
  go_loopw [6, 7, 8] (fun u6 u7 _ wr => ∃ i : Nat, i ≤ n ∧ u7 = .int .i64 i ∧ u6 = .int .u64 (bS (dg A) (dg C) i : Nat) ∧ Hid (ArrAt wr w.heap.size 0 n (fun j => .int .u32 ((if j < i then rS (dg A) (dg C) j else 0 : Nat) : Int))) ∧ Hid (Grew w wr)) (fun _ u7 _ _ => n - (intOf u7).toNat)
  case atStart => exact ⟨0, Nat.zero_le _, rfl, rfl, HAM, HGM⟩
  case round =>
    obtain ⟨i, hi, rfl, rfl, HR, HG⟩ := hrel
    by_cases hlt : i < n
    · obtain ⟨b, o, rfl, hcA⟩ := HA.out.words (by omega)
      have ca := HG.out.keeps (hcA i hlt)
      have cs := HR.out.at0 i hlt
      have cf := HR.out.free0 i hlt
      have hcl := HBL.out i
      have la := dg_lt A i
      have lc := dg_lt C i
      have HN := hidd (arr_next HR.out hlt)
      have HG' : Hid (∀ v, Grew w (wr.setCell ⟨w.heap.size, i, none⟩ v)) := hidd fun v => HG.out.setCell (Nat.le_refl _) v
      have HC1 : Hid (bS (dg A) (dg C) (i + 1) = if dg A i < dg C i + bS (dg A) (dg C) i then 1 else 0) := rfl
      have HR1 : Hid (rS (dg A) (dg C) i = (dg A i + 4294967296 - dg C i - bS (dg A) (dg C) i) % 4294967296) := rfl
      obtain ⟨c1, hc1⟩ : ∃ x, bS (dg A) (dg C) (i + 1) = x := ⟨_, rfl⟩
      obtain ⟨r0, hr0⟩ : ∃ x, rS (dg A) (dg C) i = x := ⟨_, rfl⟩
      rw [hc1] at HC1
      rw [hr0] at HR1 HN
      have HQ := hidd hc1
      obtain ⟨c0, hc0⟩ : ∃ x, bS (dg A) (dg C) i = x := ⟨_, rfl⟩
      rw [hc0] at HC1 HR1 hcl
      by_cases hm2 : i < m
      · obtain ⟨b', o', rfl, hcC⟩ := HC.out.words (by omega)
        have cc := HG.out.keeps (hcC i hm2)
        obtain ⟨x, hx⟩ : ∃ x, dg A i = x := ⟨_, rfl⟩
        obtain ⟨y, hy⟩ : ∃ x, dg C i = x := ⟨_, rfl⟩
        rw [hx] at ca la HC1 HR1
        rw [hy] at cc lc HC1 HR1
        have f0 := hc0
        obtain ⟨d1, hd1⟩ : ∃ z, z = (x + 18446744073709551616 - c0) % 18446744073709551616 := ⟨_, rfl⟩
        obtain ⟨d2, hd2⟩ : ∃ z, z = (d1 + 18446744073709551616 - y) % 18446744073709551616 := ⟨_, rfl⟩
        have f1 : IntKind.u64.wrap ((x : Int) - (c0 : Int)) = (d1 : Int) := by rw [wrap_u64_sub (by omega) (by omega), hd1]
        have f2 : IntKind.u64.wrap ((d1 : Int) - (y : Int)) = (d2 : Int) := by rw [wrap_u64_sub (by omega) (by omega), hd2]
        have f3 : IntKind.u32.wrap (d2 : Int) = (r0 : Int) := by rw [wrap_u32, HR1.out]; omega
        have f4 : (d2 : Int) / 9223372036854775808 = (c1 : Int) := by rw [HC1.out]; split <;> omega
        clear hcA hcC hc1 hr0 hx hy HC1 HR1 hc0 hd1 hd2
        go_wp2_with fail
        go_roundw
        case rel => exact ⟨i + 1, by omega, by go_num, by rw [HQ.out], HN, HG'.out _⟩
        case measure => simp [intOf]; omega
      · have hy : dg C i = 0 := dg_high HC.out.fits (by omega)
        have e2 : decide (i < m) = false := decide_eq_false hm2
        obtain ⟨x, hx⟩ : ∃ x, dg A i = x := ⟨_, rfl⟩
        rw [hx] at ca la HC1 HR1
        rw [hy] at HC1 HR1
        have f0 := hc0
        obtain ⟨d1, hd1⟩ : ∃ z, z = (x + 18446744073709551616 - c0) % 18446744073709551616 := ⟨_, rfl⟩
        have f1 : IntKind.u64.wrap ((x : Int) - (c0 : Int)) = (d1 : Int) := by rw [wrap_u64_sub (by omega) (by omega), hd1]
        have f3 : IntKind.u32.wrap (d1 : Int) = (r0 : Int) := by rw [wrap_u32, HR1.out]; omega
        have f4 : (d1 : Int) / 9223372036854775808 = (c1 : Int) := by rw [HC1.out]; split <;> omega
        clear hcA hc1 hr0 hx hy HC1 HR1 hm2 hc0 hd1
        go_wp2_with fail
        go_roundw
        case rel => exact ⟨i + 1, by omega, by go_num, by rw [HQ.out], HN, HG'.out _⟩
        case measure => simp [intOf]; omega
    · obtain rfl : i = n := by omega
      have HW : Hid (WordsAt wr (.slice (some ⟨w.heap.size, 0, none⟩) i i) (A - C) i) :=
        wordsAt_arr (f := fun j => rS (dg A) (dg C) j) HF.out (fun j hj => (HS.out j hj).symm) (HR.out.congr fun j hj => by rw [if_pos hj]) (Nat.le_refl _) (by omega)
      go_wp2_with fail
      refine (trim_any HW.out).mono ?_; rintro e w3 ⟨rfl, rfl⟩
      go_wp2_with fail
      go_ret
      exact ⟨HG.out, _, _, rfl, trim_words HW.out⟩
end Go.Proofs.YthhcpocgfmlbeaaDoor
