/- TextsTurned: for every two texts the law returns true and writes nothing that was there. No condition. -/
import Derived.Test.YtgkchdjogfdjaaaTxReverse
namespace Go.Proofs.Ytgkchdjogfdjaaa
open Go.RowKit
set_option linter.unusedVariables false

theorem TextsTurned_walk (s t : ByteArray) (w : World) (hs : s.size ≤ maxLen) (ht : t.size ≤ maxLen) :
    Calls Try.prog 3 #[.string s, .string t] w fun e w' => e = .returned (.bool true) ∧ Grew w w' := by
  by_cases h1 : 65536 < s.size
  · have hsz : Hid (t.size ≤ maxLen) := ht
    by_cases h2 : 65536 < t.size
    · go_enter Try.func3, Try.ntmps3
      go_wp2_with fail
      refine (alive_true w).mono ?_
      rintro e w1 ⟨rfl, g1⟩
      go_wp2_with fail
      refine (Reverse_much s _ hs h1).mono ?_
      rintro e w2 ⟨rfl, g2⟩
      go_wp2_with fail
      refine (Reverse_much t _ ht h2).mono ?_
      rintro e w3 ⟨rfl, g3⟩
      go_wp2_with fail
      go_ret
      exact ⟨rfl, g1.trans (g2.trans g3)⟩
    · go_enter Try.func3, Try.ntmps3
      go_wp2_with fail
      refine (alive_true w).mono ?_
      rintro e w1 ⟨rfl, g1⟩
      go_wp2_with fail
      refine (Reverse_much s _ hs h1).mono ?_
      rintro e w2 ⟨rfl, g2⟩
      go_wp2_with fail
      refine (Reverse_ok t _ (by omega)).mono ?_
      rintro e w3 ⟨r, rfl, hr, g3⟩
      clear hr
      go_wp2_with fail
      go_ret
      exact ⟨rfl, g1.trans (g2.trans g3)⟩
  · by_cases h2 : 65536 < t.size
    · go_enter Try.func3, Try.ntmps3
      go_wp2_with fail
      refine (alive_true w).mono ?_
      rintro e w1 ⟨rfl, g1⟩
      go_wp2_with fail
      refine (Reverse_ok s _ (by omega)).mono ?_
      rintro e w2 ⟨r, rfl, hr, g2⟩
      clear hr
      go_wp2_with fail
      refine (Reverse_much t _ ht h2).mono ?_
      rintro e w3 ⟨rfl, g3⟩
      go_wp2_with fail
      go_ret
      exact ⟨rfl, g1.trans (g2.trans g3)⟩
    · go_enter Try.func3, Try.ntmps3
      go_wp2_with fail
      refine (alive_true w).mono ?_
      rintro e w1 ⟨rfl, g1⟩
      go_wp2_with fail
      refine (Reverse_ok s _ (by omega)).mono ?_
      rintro e w2 ⟨a, rfl, ha, g2⟩
      have HA := hidd ha
      clear ha
      go_wp2_with fail
      refine (Reverse_ok t _ (by omega)).mono ?_
      rintro e w3 ⟨b, rfl, hb, g3⟩
      have HB := hidd hb
      clear hb
      have sa : a.size = s.size := by rw [size_data, size_data, HA.out]; simp
      have sb : b.size = t.size := by rw [size_data, size_data, HB.out]; simp
      go_wp2_with fail
      refine (Reverse_ok a _ (by omega)).mono ?_
      rintro e w4 ⟨c, rfl, hc, g4⟩
      have hcs : c.toList = s.toList := by rw [Lib.toList_data, Lib.toList_data, hc, HA.out, List.reverse_reverse]
      have HCS : Hid (c.data.toList = a.data.toList.reverse) := hc
      clear hc
      go_wp2_with fail
      have hst : (s ++ t).size = s.size + t.size := by simp
      by_cases h3 : 65536 < s.size + t.size
      · refine (Reverse_much (s ++ t) _ (by unfold maxLen; omega) (by omega)).mono ?_
        rintro e w5 ⟨rfl, g5⟩
        go_wp2_with fail
        go_ret
        exact ⟨rfl, g1.trans (g2.trans (g3.trans (g4.trans g5)))⟩
      · refine (Reverse_ok (s ++ t) _ (by omega)).mono ?_
        rintro e w5 ⟨d, rfl, hd, g5⟩
        have hdd : d.toList = (b ++ a).toList := by rw [Lib.toList_data, Lib.toList_data, hd, data_append, data_append, List.reverse_append, HA.out, HB.out]
        clear hd
        go_wp2_with fail
        go_ret
        exact ⟨rfl, g1.trans (g2.trans (g3.trans (g4.trans g5)))⟩
end Go.Proofs.Ytgkchdjogfdjaaa
