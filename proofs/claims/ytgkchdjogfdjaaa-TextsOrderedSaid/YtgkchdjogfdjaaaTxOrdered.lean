/- TextsOrdered: for every three texts the law returns true and writes nothing that was there. No condition. -/
import Derived.Test.YtgkchdjogfdjaaaTxReverse
import Derived.Test.YtgkchdjogfdjaaaTxCompare
namespace Go.Proofs.Ytgkchdjogfdjaaa
open Go.RowKit
set_option linter.unusedVariables false

theorem TextsOrdered_walk (a b c : ByteArray) (w : World) (ha : a.size ≤ maxLen) (hb : b.size ≤ maxLen) (hc : c.size ≤ maxLen) :
    Calls Try.prog 6 #[.string a, .string b, .string c] w fun e w' => e = .returned (.bool true) ∧ Grew w w' := by
  by_cases h1 : 65536 < a.size ∨ 65536 < b.size
  · go_enter Try.func6, Try.ntmps6
    go_wp2_with fail
    refine (alive_true _).mono ?_
    rintro e w1 ⟨rfl, g1⟩
    go_wp2_with fail
    refine (Compare_much a b _ ha hb h1).mono ?_
    rintro e w2 ⟨rfl, g2⟩
    go_wp2_with fail
    refine (Compare_any b a _ hb ha).mono ?_
    rintro e w3 ⟨x3, k3, rfl, g3⟩
    go_wp2_with fail
    refine (Compare_any b c _ hb hc).mono ?_
    rintro e w4 ⟨x4, k4, rfl, g4⟩
    go_wp2_with fail
    refine (Compare_any a c _ ha hc).mono ?_
    rintro e w5 ⟨x5, k5, rfl, g5⟩
    go_wp2_with fail
    go_ret
    exact ⟨rfl, g1.trans (g2.trans (g3.trans (g4.trans g5)))⟩
  · by_cases h2 : 65536 < c.size
    · go_enter Try.func6, Try.ntmps6
      go_wp2_with fail
      refine (alive_true _).mono ?_
      rintro e w1 ⟨rfl, g1⟩
      go_wp2_with fail
      refine (Compare_ok a b _ _ (by omega) (by omega) rfl).mono ?_
      rintro e w2 ⟨rfl, g2⟩
      go_wp2_with fail
      refine (Compare_ok b a _ _ (by omega) (by omega) rfl).mono ?_
      rintro e w3 ⟨rfl, g3⟩
      go_wp2_with fail
      refine (Compare_much b c _ hb hc (.inr h2)).mono ?_
      rintro e w4 ⟨rfl, g4⟩
      go_wp2_with fail
      refine (Compare_any a c _ ha hc).mono ?_
      rintro e w5 ⟨x5, k5, rfl, g5⟩
      go_wp2_with fail
      go_ret
      exact ⟨rfl, g1.trans (g2.trans (g3.trans (g4.trans g5)))⟩
    · have s1 : a.size ≤ 65536 := by omega
      have s2 : b.size ≤ 65536 := by omega
      have s3 : c.size ≤ 65536 := by omega
      obtain ⟨x, hx⟩ : ∃ x, Lib.compareBytes a.data.toList b.data.toList = x := ⟨_, rfl⟩
      obtain ⟨z, hz⟩ : ∃ x, Lib.compareBytes b.data.toList c.data.toList = x := ⟨_, rfl⟩
      obtain ⟨v, hv⟩ : ∃ x, Lib.compareBytes a.data.toList c.data.toList = x := ⟨_, rfl⟩
      have hy := cmp_neg a.data.toList b.data.toList
      have rx := cmp_range a.data.toList b.data.toList
      have ex := cmp_zero a.data.toList b.data.toList
      have tr := cmp_trans a.data.toList b.data.toList c.data.toList
      rw [hx] at hy rx ex tr
      rw [hz, hv] at tr
      have TR := hidd tr
      have HX := hidd hx
      have HY := hidd hy
      have HZ := hidd hz
      have HV := hidd hv
      obtain ⟨rx1, rx2⟩ := rx
      rw [← Lib.toList_data, ← Lib.toList_data] at ex
      clear hx hy hz hv tr h1 h2 ha hb hc
      have hxy : (x == - -x) = true := by simp
      by_cases h0 : x = 0
      · have he : a.toList = b.toList := ex.1 h0
        clear ex
        subst h0
        go_enter Try.func6, Try.ntmps6
        go_wp2_with fail
        refine (alive_true _).mono ?_
        rintro e w1 ⟨rfl, g1⟩
        go_wp2_with fail
        refine (Compare_ok a b 0 _ s1 s2 HX.out).mono ?_
        rintro e w2 ⟨rfl, g2⟩
        go_wp2_with fail
        refine (Compare_ok b a 0 _ s2 s1 (by rw [HY.out]; rfl)).mono ?_
        rintro e w3 ⟨rfl, g3⟩
        go_wp2_with fail
        refine (Compare_ok b c z _ s2 s3 HZ.out).mono ?_
        rintro e w4 ⟨rfl, g4⟩
        go_wp2_with fail
        refine (Compare_ok a c v _ s1 s3 HV.out).mono ?_
        rintro e w5 ⟨rfl, g5⟩
        go_wp2_with fail
        all_goals (go_ret; refine ⟨?_, g1.trans (g2.trans (g3.trans (g4.trans g5)))⟩; have := TR.out; first | rfl | (refine ret_bool ?_; simp; omega))
      · have he : (a.toList == b.toList) = false := by rw [beq_eq_false_iff_ne]; exact fun h => h0 (ex.2 h)
        clear ex
        have h0' : (x == 0) = false := by simpa using h0
        go_enter Try.func6, Try.ntmps6
        go_wp2_with fail
        refine (alive_true _).mono ?_
        rintro e w1 ⟨rfl, g1⟩
        go_wp2_with fail
        refine (Compare_ok a b x _ s1 s2 HX.out).mono ?_
        rintro e w2 ⟨rfl, g2⟩
        go_wp2_with fail
        refine (Compare_ok b a (-x) _ s2 s1 HY.out).mono ?_
        rintro e w3 ⟨rfl, g3⟩
        go_wp2_with fail
        refine (Compare_ok b c z _ s2 s3 HZ.out).mono ?_
        rintro e w4 ⟨rfl, g4⟩
        go_wp2_with fail
        refine (Compare_ok a c v _ s1 s3 HV.out).mono ?_
        rintro e w5 ⟨rfl, g5⟩
        go_wp2_with fail
        all_goals (go_ret; refine ⟨?_, g1.trans (g2.trans (g3.trans (g4.trans g5)))⟩; have := TR.out; first | rfl | (refine ret_bool ?_; simp; omega))
end Go.Proofs.Ytgkchdjogfdjaaa
