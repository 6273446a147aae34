/- numbers.Unbase: at every text and base. -/
import Derived.Test.YthhcpocgfmlbeaaDoorFmU
import Derived.Test.YthhcpocgfmlbeaaDoorNumAlive
import Derived.Test.YthhcpocgfmlbeaaDoorShelfB
import Derived.Test.YthhcpocgfmlbeaaDoorTxEmpty
import Derived.Test.YthhcpocgfmlbeaaDoorFmA
import Derived.Deep.RegionHeld3
namespace Go.Proofs.YthhcpocgfmlbeaaDoor
open Go.RowKit
set_option linter.unusedVariables false
theorem digs_cut (b : Nat) : (digsT.extract 0 b).data.toList = digsT.data.toList.take b := by
  rw [ByteArray.data_extract, Array.toList_extract]; simp [List.extract]
theorem toByte (n : Nat) (h : n < 256) : ((n : Nat) : Int).toNat.toUInt8 = UInt8.ofNat n := by simp
set_option maxRecDepth 100000 in
set_option maxHeartbeats 4000000 in
theorem Unbase_any (t : ByteArray) (b : Nat) (hb : 2 ≤ b) (h36 : b ≤ 36) (ht : t.size ≤ 65536) (w : World) :
    Calls Tryd.prog 23 #[.string t, .int .i64 (b : Nat)] w fun e w' => e = unbR b t.data.toList ∧ Grew w w' := by
  have HP := hidd (fun w => Tryd.strings_HasPrefix t ⟨#[45]⟩ w)
  have HT := hidd (fun w => Tryd.strings_TrimPrefix t ⟨#[45]⟩ w)
  rw [show (⟨#[45]⟩ : ByteArray).data.toList = [45] from rfl] at HP HT
  obtain ⟨D, hD⟩ : ∃ D : ByteArray, (⟨(Lib.trimPrefix t.data.toList [45]).toArray⟩ : ByteArray) = D := ⟨_, rfl⟩
  obtain ⟨g, hg⟩ : ∃ g, Lib.hasPrefix t.data.toList [45] = g := ⟨_, rfl⟩
  have hDl : D.data.toList = Lib.trimPrefix t.data.toList [45] := by rw [← hD]
  have hDs : D.size ≤ t.size := by
    have h1 : D.size = D.data.toList.length := size_data D
    have h2 : t.size = t.data.toList.length := size_data t
    rw [h1, h2, hDl]; unfold Lib.trimPrefix; split
    · rw [List.length_drop]; omega
    · exact Nat.le_refl _
  rw [hD] at HT
  rw [hg] at HP
  obtain ⟨R, hR⟩ : ∃ R, unbR b t.data.toList = R := ⟨_, rfl⟩
  rw [hR]
  have e2 : decide ((b : Int) < 2) = false := decide_eq_false (by omega)
  have e3 : decide ((36 : Int) < (b : Int)) = false := decide_eq_false (by omega)
  have e4 : decide ((65536 : Int) < (t.size : Int)) = false := decide_eq_false (by omega)
  by_cases h0 : D.size = 0
  · have HR : Hid (R = .returned (.tuple #[.int .i64 0, .int .i64 2])) := by
      rw [Hid, ← hR]; exact unbR_empty (by rw [← hDl]; exact List.eq_nil_of_length_eq_zero (by rw [← size_data]; exact h0))
    have hne : D.toList.isEmpty = true := by rw [nil_of_size h0]; rfl
    clear hD hDl hDs hR hg
    go_enter Tryd.func23, Tryd.ntmps23
    go_wp2_with fail
    refine (HP.out _).mono ?_; rintro e w1 ⟨rfl, rfl⟩
    go_wp2_with fail
    refine (HT.out _).mono ?_; rintro e w1 ⟨rfl, rfl⟩
    go_wp2_with fail
    go_ret2
    exact ⟨HR.out.symm, Grew.refl _⟩
  · have hne := isEmpty_of_size (Nat.pos_of_ne_zero h0)
    have HDL := hidd hDl
    have HG' := hidd hg
    have HRR := hidd hR
    clear hD hDl hR hg
    go_enter Tryd.func23, Tryd.ntmps23
    go_wp2_with fail
    refine (HP.out _).mono ?_; rintro e w1 ⟨rfl, rfl⟩
    go_wp2_with fail
    refine (HT.out _).mono ?_; rintro e w1 ⟨rfl, rfl⟩
    go_wp2_with fail
    go_loopw [33, 8, 9] (fun u33 u8 u9 wr => ∃ (i n : Nat) (much : Bool), u33 = .int .i64 i ∧ u8 = .int .u64 n ∧ u9 = .bool much ∧ i ≤ D.size ∧ Hid (UnSt b D.data.toList i n much) ∧ Hid (Grew w1 wr)) (fun u33 _ _ _ => D.size - (intOf u33).toNat)
    case atStart => exact ⟨0, 0, false, rfl, rfl, rfl, Nat.zero_le _, UnSt.start _ _, Grew.refl _⟩
    case round =>
      obtain ⟨i, n, much, rfl, rfl, rfl, hi, HS, HG⟩ := hrel
      by_cases hlt : i < D.size
      · have c1 : decide ((i : Int) < (D.size : Int)) = true := decide_eq_true (by omega)
        have c2 : decide (i < D.size) = true := decide_eq_true hlt
        have hl : i < D.data.toList.length := by rw [← size_data]; exact hlt
        have hn64 : n < 18446744073709551616 := by obtain ⟨V, _, h2, _⟩ := HS.out; exact h2
        have HI := hidd (fun w => Tryd.strings_IndexByte (digsT.extract 0 b) ((D[i]'hlt).toNat : Nat) w)
        rw [digs_cut b] at HI
        rw [show (((D[i]'hlt).toNat : Nat) : Int).toNat.toUInt8 = D[i]'hlt by simp, index_dig h36] at HI
        have hb0 : (0 : Int) ≤ (b : Int) := by omega
        have hb36 : (b : Int) ≤ 36 := by omega
        by_cases hk : digV (D[i]'hlt) < b
        · have HN : Hid (UnSt b D.data.toList (i + 1) ((n * b % 18446744073709551616 + digV (D[i]'hlt)) % 18446744073709551616) (much || (decide (0 < n * b / 18446744073709551616) || decide (0 < (n * b % 18446744073709551616 + digV (D[i]'hlt)) / 18446744073709551616)))) := HS.out.step hl (by omega) hk
          rw [if_pos hk] at HI
          obtain ⟨k, hk0⟩ : ∃ k, digV (D[i]'hlt) = k := ⟨_, rfl⟩
          rw [hk0] at HI HN
          have hk36 : k < 36 := by omega
          have HM := hidd (fun w => Tryd.bits_Mul64 n b hn64 (by omega) w)
          have hlo := Nat.mod_lt (n * b) (show 0 < 18446744073709551616 by decide)
          have hHi : n * b / 18446744073709551616 ≤ n * b := Nat.div_le_self _ _
          obtain ⟨lo, hlo0⟩ : ∃ x, n * b % 18446744073709551616 = x := ⟨_, rfl⟩
          obtain ⟨H, hH0⟩ : ∃ x, n * b / 18446744073709551616 = x := ⟨_, rfl⟩
          rw [hlo0] at HM HN hlo
          rw [hH0] at HM HN
          have hadd := fun W => add_run lo k W
          obtain ⟨S, hS0⟩ : ∃ x, (lo + k) % 18446744073709551616 = x := ⟨_, rfl⟩
          obtain ⟨C, hC0⟩ : ∃ x, (lo + k) / 18446744073709551616 = x := ⟨_, rfl⟩
          rw [hS0, hC0] at hadd HN
          have hkw : IntKind.u64.wrap (k : Int) = (k : Int) := by rw [IntKind.wrap_u64]; omega
          have hkn : decide ((k : Int) < 0) = false := decide_eq_false (by omega)
          have HGD := hidd HG.out.drew
          clear hk hk0 hlo0 hH0 hS0 hC0 hHi hlo
          rcases Nat.eq_zero_or_pos H with rfl | hH
          rotate_left
          obtain ⟨H, rfl⟩ : ∃ x, H = x + 1 := ⟨H - 1, by omega⟩
          clear hH
          all_goals
            rcases Nat.eq_zero_or_pos C with rfl | hC
            rotate_left
            obtain ⟨C, rfl⟩ : ∃ x, C = x + 1 := ⟨C - 1, by omega⟩
            clear hC
          all_goals cases much
          all_goals
            first
            | have HN2 : Hid (UnSt b D.data.toList (i + 1) S true) := HN
            | have HN2 : Hid (UnSt b D.data.toList (i + 1) S false) := HN
            clear HN
            go_wp2_with fail
            go_region_held3 (fun _ => True) (exact trivial)
              (first
               | (go_at_call 41; refine (HI.out _).mono ?_; rintro e w2 ⟨rfl, rfl⟩))
            all_goals
              go_wp2_with fail
              refine (HM.out _).mono ?_; rintro e w2 ⟨rfl, rfl⟩
              go_wp2_with fail
              go_roundw
              case rel => exact ⟨i + 1, S, _, by go_num, rfl, rfl, by omega, HN2.out, HGD.out⟩
              case measure => simp [intOf]; omega
        · have HBad := hidd (unbR_bad (b := b) (l := t.data.toList) (by rw [← HDL.out]; exact numV?_bad hl hk))
          rw [if_neg hk] at HI
          clear hk
          go_wp2_with fail
          go_region_held3 (fun _ => True) (exact trivial)
            (first
             | (go_at_call 41; refine (HI.out _).mono ?_; rintro e w2 ⟨rfl, rfl⟩))
          all_goals
            go_wp2_with fail
            go_ret2
            exact ⟨by rw [← HRR.out, HBad.out]; rfl, HG.out.drew⟩
      · obtain rfl : i = D.size := by omega
        obtain ⟨V, hV1, hV2, hV3⟩ := HS.out
        have hVV : numV? b D.data.toList = some V := by
          rw [← hV1, List.take_of_length_le (by rw [← size_data]; exact Nat.le_refl _)]
        have hnil : Lib.trimPrefix t.data.toList [45] ≠ [] := by
          rw [← HDL.out]; intro e
          exact h0 (by rw [size_data, e]; rfl)
        have HV := hidd (unbR_val (l := t.data.toList) hnil (by rw [← HDL.out]; exact hVV))
        rw [HG'.out, HRR.out] at HV
        rcases hV3 with ⟨rfl, rfl⟩ | ⟨rfl, hbig⟩
        · have HF : Hid (∀ w, Calls Tryd.prog 26 #[.int .u64 (n : Nat), .bool g] w fun e w' => e = R ∧ w' = w) := fun w => by rw [HV.out]; exact signed_any n g w hV2
          obtain ⟨rv, re, hRt⟩ : ∃ rv re : Int, R = .returned (.tuple #[.int .i64 rv, .int .i64 re]) := ⟨_, _, by rw [HV.out]; exact numR_def _⟩
          rw [hRt] at HF
          have HRt := hidd hRt
          clear hVV hV1 hnil hRt HS
          go_wp2_with fail
          refine (HF.out _).mono ?_; rintro e w2 ⟨rfl, rfl⟩
          go_wp2_with fail
          go_ret2
          exact ⟨HRt.out.symm, HG.out⟩
        · have HF : Hid (R = .returned (.tuple #[.int .i64 0, .int .i64 3])) := by
            rw [Hid, HV.out, numR, numV_out, numE_out]
            all_goals (cases g <;> simp only [sgn, In64] <;> simp <;> omega)
          clear hVV hV1 hnil HS hbig
          go_wp2_with fail
          go_ret2
          exact ⟨HF.out.symm, HG.out⟩
end Go.Proofs.YthhcpocgfmlbeaaDoor
