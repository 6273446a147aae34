/- TextsRound: for every text and two numbers the law returns true and writes nothing that was there. No condition. -/
import Derived.Test.YtgkchdjogfdjaaaTxReverse
import Derived.Test.YtgkchdjogfdjaaaTxRotate
namespace Go.Proofs.Ytgkchdjogfdjaaa
open Go.RowKit
set_option linter.unusedVariables false

theorem TextsRound_walk (s : ByteArray) (n m : Int) (w : World) (hs : s.size ≤ maxLen) (hn : (Lit.int .i64 n).wf = true) (hm : (Lit.int .i64 m).wf = true) :
    Calls Try.prog 5 #[.string s, .int .i64 n, .int .i64 m] w fun e w' => e = .returned (.bool true) ∧ Grew w w' := by
  have bn := bd_i64 hn
  have bm := bd_i64 hm
  clear hn hm
  by_cases h : 65536 < s.size
  · go_enter Try.func5, Try.ntmps5
    go_wp2_with fail
    refine (alive_true _).mono ?_
    rintro e w1 ⟨rfl, g1⟩
    go_wp2_with fail
    refine (Rotate_much s n _ hs h).mono ?_
    rintro e w2 ⟨rfl, g2⟩
    go_wp2_with fail
    go_ret
    exact ⟨rfl, g1.trans g2⟩
  · by_cases hb : 1099511627776 < n ∨ n < -1099511627776 ∨ 1099511627776 < m ∨ m < -1099511627776
    · go_enter Try.func5, Try.ntmps5
      go_wp2_with fail
      refine (alive_true _).mono ?_
      rintro e w1 ⟨rfl, g1⟩
      go_wp2_with fail
      refine (Rotate_ok s n _ (by omega) bn).mono ?_
      rintro e w2 ⟨a, rfl, ha, g2⟩
      have sa : a.size = s.size := by rw [size_data, size_data, ha, rotL_length]
      clear ha
      go_wp2_with fail
      all_goals (go_ret; exact ⟨rfl, g1.trans g2⟩)
    · have h1 : ¬ 1099511627776 < n := by omega
      have h2 : ¬ n < -1099511627776 := by omega
      have h3 : ¬ 1099511627776 < m := by omega
      have h4 : ¬ m < -1099511627776 := by omega
      clear hb
      go_enter Try.func5, Try.ntmps5
      go_wp2_with fail
      refine (alive_true _).mono ?_
      rintro e w1 ⟨rfl, g1⟩
      go_wp2_with fail
      refine (Rotate_ok s n _ (by omega) bn).mono ?_
      rintro e w2 ⟨a, rfl, ha, g2⟩
      have sa : a.size = s.size := by rw [size_data, size_data, ha, rotL_length]
      have HA := hidd ha
      have SA := hidd sa
      have ba : a.size ≤ 65536 := by omega
      clear ha sa
      go_wp2_with fail
      refine (Rotate_ok a m _ ba bm).mono ?_
      rintro e w3 ⟨b, rfl, hb, g3⟩
      have HB := hidd hb
      clear hb
      go_wp2_with fail
      refine (Rotate_ok s (n + m) _ (by omega) (by omega)).mono ?_
      rintro e w4 ⟨c, rfl, hc, g4⟩
      have hbc : b.toList = c.toList := by rw [Lib.toList_data, Lib.toList_data, HB.out, hc, HA.out, rotL_rotL]
      clear hc
      go_wp2_with fail
      refine (Rotate_ok a (-n) _ ba (by omega)).mono ?_
      rintro e w5 ⟨d, rfl, hd, g5⟩
      have hds : d.toList = s.toList := by rw [Lib.toList_data, Lib.toList_data, hd, HA.out, rotL_rotL, Int.add_right_neg, rotL_zero]
      clear hd
      go_wp2_with fail
      refine (Rotate_ok s s.size _ (by omega) (by omega)).mono ?_
      rintro e w6 ⟨u, rfl, hu, g6⟩
      have hus : u.toList = s.toList := by rw [Lib.toList_data, Lib.toList_data, hu, size_data, rotL_length_self]
      clear hu
      go_wp2_with fail
      go_ret
      exact ⟨rfl, g1.trans (g2.trans (g3.trans (g4.trans (g5.trans g6))))⟩
end Go.Proofs.Ytgkchdjogfdjaaa
