/- TextsDoubled: for every text and two numbers the law returns true and writes nothing that was there. No condition. -/
import Derived.Test.YtgkchdjogfdjaaaTxReverse
import Derived.Test.YtgkchdjogfdjaaaTxDupl
namespace Go.Proofs.Ytgkchdjogfdjaaa
open Go.RowKit
set_option linter.unusedVariables false

theorem Dupl_bad (s : ByteArray) (n : Int) (w : World) (hs : s.size ≤ maxLen) (h : ¬ (s.size ≤ 65536 ∧ 0 ≤ n ∧ n * s.size ≤ 65536)) :
    Calls Try.prog 18 #[.string s, .int .i64 n] w fun e w' => ∃ k : Int, e = .returned (.tuple #[.string ⟨#[]⟩, .int .i64 k]) ∧ (k != 0) = true ∧ Grew w w' := by
  by_cases h1 : 65536 < s.size
  · exact (Dupl_much s n w hs h1).mono fun e w' ⟨a, b⟩ => ⟨_, a, by decide, b⟩
  · by_cases h2 : n < 0
    · exact (Dupl_range s n w (by omega) h2).mono fun e w' ⟨a, b⟩ => ⟨_, a, by decide, b⟩
    · exact (Dupl_over s n w (by omega) (by omega) (by omega)).mono fun e w' ⟨a, b⟩ => ⟨_, a, by decide, b⟩
theorem Dupl_any (s : ByteArray) (n : Int) (w : World) (hs : s.size ≤ maxLen) (hn : n ≤ 9223372036854775807) :
    Calls Try.prog 18 #[.string s, .int .i64 n] w fun e w' => ∃ (r : ByteArray) (k : Int), e = .returned (.tuple #[.string r, .int .i64 k]) ∧ Grew w w' := by
  by_cases h : s.size ≤ 65536 ∧ 0 ≤ n ∧ n * s.size ≤ 65536
  · exact (Dupl_ok s n w h.1 h.2.1 hn h.2.2).mono fun e w' ⟨r, a, _, b⟩ => ⟨_, _, a, b⟩
  · exact (Dupl_bad s n w hs h).mono fun e w' ⟨k, a, _, b⟩ => ⟨_, _, a, b⟩

theorem repeat_piece (l : List UInt8) : ∀ (n j : Nat), j < n → ((Lib.repeatL l n).drop (j * l.length)).take l.length = l
  | 0, j, h => by omega
  | n + 1, 0, h => by simp [Lib.repeatL]
  | n + 1, j + 1, h => by
    have := repeat_piece l n j (by omega)
    rw [Lib.repeatL, Nat.succ_mul, Nat.add_comm, ← List.drop_drop, List.drop_left]
    exact this

theorem TextsDoubled_walk (s : ByteArray) (n m : Int) (w : World) (hs : s.size ≤ maxLen) (hn : (Lit.int .i64 n).wf = true) (hm : (Lit.int .i64 m).wf = true) :
    Calls Try.prog 8 #[.string s, .int .i64 n, .int .i64 m] w fun e w' => e = .returned (.bool true) ∧ Grew w w' := by
  have bn := bd_i64 hn
  have bm := bd_i64 hm
  clear hn hm
  by_cases h1 : s.size ≤ 65536 ∧ 0 ≤ n ∧ n * s.size ≤ 65536
  · by_cases h2 : s.size ≤ 65536 ∧ 0 ≤ m ∧ m * s.size ≤ 65536
    · obtain ⟨k1, k2, k3⟩ := h1
      obtain ⟨_, k4, k5⟩ := h2
      have K3 := hidd k3
      have K5 := hidd k5
      by_cases h3 : 65536 < n ∨ 65536 < m ∨ 65536 < (n + m) * s.size
      · rw [Int.add_mul] at h3
        clear k3 k5
        go_enter Try.func8, Try.ntmps8
        go_wp2_with fail
        refine (alive_true _).mono ?_
        rintro e w1 ⟨rfl, g1⟩
        go_wp2_with fail
        refine (Dupl_ok s n _ k1 k2 bn.2 K3.out).mono ?_
        rintro e w2 ⟨a, rfl, ha, g2⟩
        have sa : (a.size : Int) = n * s.size := by
          rw [size_data a, ha, Lib.repeatL_length, ← size_data]
          rw [Int.natCast_mul, Int.toNat_of_nonneg k2]
        have SA := hidd sa
        have ba : a.size ≤ 65536 := by have := K3.out; omega
        clear sa ha
        go_wp2_with fail
        refine (Dupl_ok s m _ k1 k4 bm.2 K5.out).mono ?_
        rintro e w3 ⟨b, rfl, hb, g3⟩
        have sb : (b.size : Int) = m * s.size := by
          rw [size_data b, hb, Lib.repeatL_length, ← size_data]
          rw [Int.natCast_mul, Int.toNat_of_nonneg k4]
        have h4 : 65536 < n ∨ 65536 < m ∨ 65536 < (a.size : Int) + b.size := by rw [SA.out, sb]; exact h3
        have bb : b.size ≤ 65536 := by have := K5.out; omega
        clear sb hb h3
        by_cases c1 : 65536 < n
        · go_wp2_with fail
          go_ret
          exact ⟨rfl, g1.trans (g2.trans g3)⟩
        · by_cases c2 : 65536 < m
          · go_wp2_with fail
            go_ret
            exact ⟨rfl, g1.trans (g2.trans g3)⟩
          · have c3 : 65536 < (a.size : Int) + b.size := by omega
            clear h4
            go_wp2_with fail
            go_ret
            exact ⟨rfl, g1.trans (g2.trans g3)⟩
      · have c1 : ¬ 65536 < n := by omega
        have c2 : ¬ 65536 < m := by omega
        have c3 : (n + m) * s.size ≤ 65536 := by omega
        have C3 := hidd c3
        rw [Int.add_mul] at c3
        have D3 := hidd c3
        clear k3 k5 h3 c3
        obtain ⟨i, rfl⟩ := Int.eq_ofNat_of_zero_le k2
        obtain ⟨j, rfl⟩ := Int.eq_ofNat_of_zero_le k4
        go_enter Try.func8, Try.ntmps8
        go_wp2_with fail
        refine (alive_true _).mono ?_
        rintro e w1 ⟨rfl, g1⟩
        go_wp2_with fail
        refine (Dupl_ok s i _ k1 k2 bn.2 K3.out).mono ?_
        rintro e w2 ⟨a, rfl, ha, g2⟩
        rw [Int.toNat_natCast] at ha
        have sa : a.size = i * s.size := by rw [size_data a, ha, Lib.repeatL_length, ← size_data]
        have SA := hidd sa
        have HA := hidd ha
        have sai : (a.size : Int) = (i : Int) * (s.size : Int) := by rw [sa, Int.natCast_mul]
        have SAI := hidd sai
        have ba : a.size ≤ 65536 := by have := K3.out; omega
        clear sa sai ha
        go_wp2_with fail
        refine (Dupl_ok s j _ k1 k4 bm.2 K5.out).mono ?_
        rintro e w3 ⟨b, rfl, hb, g3⟩
        rw [Int.toNat_natCast] at hb
        have sb : b.size = j * s.size := by rw [size_data b, hb, Lib.repeatL_length, ← size_data]
        have SB := hidd sb
        have HB := hidd hb
        have sbi : (b.size : Int) = (j : Int) * (s.size : Int) := by rw [sb, Int.natCast_mul]
        have bab : ¬ 65536 < (a.size : Int) + b.size := by rw [SAI.out, sbi]; have := D3.out; omega
        have bb : b.size ≤ 65536 := by omega
        clear sb hb sbi
        go_wp2_with fail
        refine (Dupl_ok s (i + j) _ k1 (by omega) (by omega) C3.out).mono ?_
        rintro e w4 ⟨c, rfl, hc, g4⟩
        have hcab : c.toList = (a ++ b).toList := by
          rw [Lib.toList_data, Lib.toList_data, hc, data_append, HA.out, HB.out, show ((i : Int) + j).toNat = i + j by omega, Lib.repeatL_add]
        clear hc
        go_wp2_with fail
        go_loop [12] (fun u => ∃ q p : Nat, q ≤ i ∧ Hid (p = q * s.size) ∧ u = .int .i64 p) (fun u => a.size - (intOf u).toNat)
        case atStart => exact ⟨0, 0, Nat.zero_le _, by simp [Hid], rfl⟩
        case round =>
          obtain ⟨q, p, hq, HP, rfl⟩ := hrel
          by_cases hlt : p < a.size
          · have hqi : q < i := by
              have h1 := SA.out
              have h2 := HP.out
              rw [h1, h2] at hlt
              exact Nat.lt_of_mul_lt_mul_right hlt
            have hsp : 0 < s.size := by
              rcases Nat.eq_zero_or_pos s.size with h0 | h0
              · have h1 := SA.out
                rw [h0] at h1; omega
              · exact h0
            have hpa : p + s.size ≤ a.size := by
              have h1 := SA.out
              have h2 := HP.out
              have h3 := Nat.mul_le_mul_right s.size (show q + 1 ≤ i by omega)
              rw [Nat.succ_mul] at h3; omega
            have hpc : (a.extract p (p + s.size)).toList = s.toList := by
              rw [Lib.extract_toList, Lib.toList_data, HA.out, HP.out, Nat.add_sub_cancel_left]
              have := repeat_piece s.data.toList i q hqi
              rw [← size_data] at this; exact this
            have hge : ¬ (a.size : Int) - p < s.size := by omega
            go_wp2_with fail
            go_round
            case rel => exact ⟨q + 1, p + s.size, by omega, by unfold Hid; rw [HP.out, Nat.succ_mul], by go_num⟩
            case measure => simp [intOf]; omega
          · have hfin : ((a.size : Int) == (i : Int) * (s.size : Int)) = true := by rw [beq_iff_eq]; exact SAI.out
            have hb1 : (0 : Int) ≤ (i : Int) * (s.size : Int) ∧ (i : Int) * (s.size : Int) ≤ 65536 := by have := SAI.out; omega
            go_wp2_with fail
            go_ret
            exact ⟨rfl, g1.trans (g2.trans (g3.trans g4))⟩
    · obtain ⟨k1, k2, k3⟩ := h1
      have K3 := hidd k3
      clear k3
      go_enter Try.func8, Try.ntmps8
      go_wp2_with fail
      refine (alive_true _).mono ?_
      rintro e w1 ⟨rfl, g1⟩
      go_wp2_with fail
      refine (Dupl_ok s n _ k1 k2 bn.2 K3.out).mono ?_
      rintro e w2 ⟨a, rfl, ha, g2⟩
      clear ha
      go_wp2_with fail
      refine (Dupl_bad s m _ hs h2).mono ?_
      rintro e w3 ⟨k, rfl, hk, g3⟩
      go_wp2_with fail
      go_ret
      exact ⟨rfl, g1.trans (g2.trans g3)⟩
  · go_enter Try.func8, Try.ntmps8
    go_wp2_with fail
    refine (alive_true _).mono ?_
    rintro e w1 ⟨rfl, g1⟩
    go_wp2_with fail
    refine (Dupl_bad s n _ hs h1).mono ?_
    rintro e w2 ⟨k, rfl, hk, g2⟩
    go_wp2_with fail
    refine (Dupl_any s m _ hs bm.2).mono ?_
    rintro e w3 ⟨r, k', rfl, g3⟩
    go_wp2_with fail
    go_ret
    exact ⟨rfl, g1.trans (g2.trans g3)⟩
end Go.Proofs.Ytgkchdjogfdjaaa
