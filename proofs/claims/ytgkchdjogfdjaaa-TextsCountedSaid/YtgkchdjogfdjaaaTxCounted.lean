/- TextsCounted: for every two texts and place the law returns true and writes nothing that was there, where the library's one variable on the way holds some number. -/
import Derived.Test.YtgkchdjogfdjaaaTxReverse
import Derived.Test.YtgkchdjogfdjaaaTxCount
namespace Go.Proofs.Ytgkchdjogfdjaaa
open Go.RowKit
set_option linter.unusedVariables false

theorem TextsCounted_walk (s p : ByteArray) (cut : Int) (m : Int) (w : World) (hs : s.size ≤ maxLen) (hp : p.size ≤ maxLen) (hc : (Lit.int .i64 cut).wf = true) (hm : w.cell? ⟨0, 0, none⟩ = some (.int .i64 m)) :
    Calls Try.prog 10 #[.string s, .string p, .int .i64 cut] w fun e w' => e = .returned (.bool true) ∧ Grew w w' := by
  have bc := bd_i64 hc
  have HM := hidd hm
  clear hc hm
  by_cases h1 : 65536 < s.size ∨ 65536 < p.size
  · go_enter Try.func10, Try.ntmps10
    go_wp2_with fail
    refine (alive_true _).mono ?_
    rintro e w1 ⟨rfl, g1⟩
    go_wp2_with fail
    refine (Count_much s p _ hs hp h1).mono ?_
    rintro e w2 ⟨rfl, g2⟩
    go_wp2_with fail
    go_ret
    exact ⟨rfl, g1.trans g2⟩
  · by_cases h2 : p.size = 0
    · go_enter Try.func10, Try.ntmps10
      go_wp2_with fail
      refine (alive_true _).mono ?_
      rintro e w1 ⟨rfl, g1⟩
      go_wp2_with fail
      refine (Count_fit s p _ (by omega) h2).mono ?_
      rintro e w2 ⟨rfl, g2⟩
      go_wp2_with fail
      go_ret
      exact ⟨rfl, g1.trans g2⟩
    · have s1 : s.size ≤ 65536 := by omega
      have s2 : p.size ≤ 65536 := by omega
      have s3 : 0 < p.size := by omega
      have hpn : p.data.toList ≠ [] := fun h => by have := size_data p; rw [h, List.length_nil] at this; omega
      obtain ⟨n, hn⟩ : ∃ n, n = Lib.count s.data.toList p.data.toList := ⟨_, rfl⟩
      have hle : n * p.size ≤ s.size := by rw [hn]; exact Lib.countB_mul_le p s3 s.size s (Nat.le_refl _)
      have hnb : n ≤ 65536 := by
        have := Nat.le_mul_of_pos_right n s3
        omega
      have hq : ¬ (s.size : Int) / (p.size : Int) < n := by
        rw [Int.ediv_lt_iff_lt_mul (by omega)]
        have : ((n * p.size : Nat) : Int) = (n : Int) * p.size := by rw [Int.natCast_mul]
        omega
      have hq1 : 0 ≤ (s.size : Int) / (p.size : Int) := Int.ediv_nonneg (by omega) (by omega)
      have hq2 : (s.size : Int) / (p.size : Int) ≤ 65536 := by have := Int.ediv_le_self (p.size : Int) (show 0 ≤ (s.size : Int) by omega); omega
      have HN := hidd hn
      have hpi : ((p.size : Int) == 0) = false := beq_eq_false_iff_ne.2 (by omega)
      have hpj : ¬ p.size = 0 := by omega
      have hpk : ¬ p = ByteArray.empty := fun h => by rw [h] at s3; simp at s3
      clear h1 h2 hn hs hp hle
      by_cases hcut : 0 ≤ cut ∧ cut ≤ s.size
      · obtain ⟨c1, c2⟩ := hcut
        obtain ⟨c, rfl⟩ := Int.eq_ofNat_of_zero_le c1
        have hcs : c ≤ s.size := by omega
        have H0 := count_cut p.data.toList hpn s.size s.data.toList c (by rw [← size_data]; omega) (by rw [← size_data]; exact hcs)
        obtain ⟨a, ha⟩ : ∃ a, a = Lib.count (s.extract 0 c).data.toList p.data.toList := ⟨_, rfl⟩
        obtain ⟨b, hb⟩ : ∃ b, b = Lib.count (s.extract c s.size).data.toList p.data.toList := ⟨_, rfl⟩
        have hab : a + b ≤ n ∧ n ≤ a + b + 1 := by
          rw [Lib.extract_data, List.drop_zero, Nat.sub_zero] at ha
          rw [Lib.extract_data, List.take_of_length_le (l := List.drop c s.data.toList) (by rw [List.length_drop, ← size_data]; omega)] at hb
          rw [ha, hb, HN.out]; exact H0
        have z1 : (s.extract 0 c).size ≤ 65536 := by simp; omega
        have z2 : (s.extract c s.size).size ≤ 65536 := by simp; omega
        have HA := hidd ha
        have HB := hidd hb
        have Z1 := hidd z1
        have Z2 := hidd z2
        obtain ⟨hab1, hab2⟩ := hab
        have t1 : (a : Int) + b ≤ n := by omega
        have t2 : (n : Int) ≤ a + b + 1 := by omega
        clear H0 ha hb z1 z2
        go_enter Try.func10, Try.ntmps10
        go_wp2_with fail
        refine (alive_true _).mono ?_
        rintro e w1 ⟨rfl, g1⟩
        go_wp2_with fail
        refine (Count_ok s p m _ s1 s2 s3 (g1.keeps HM.out)).mono ?_
        rintro e w2 ⟨rfl, g2⟩
        rw [← HN.out]
        go_wp2_with fail
        refine (Count_ok (s.extract 0 c) p m _ Z1.out s2 s3 ((g1.trans g2).keeps HM.out)).mono ?_
        rintro e w3 ⟨rfl, g3⟩
        rw [← HA.out]
        go_wp2_with fail
        refine (Count_ok (s.extract c s.size) p m _ Z2.out s2 s3 ((g1.trans (g2.trans g3)).keeps HM.out)).mono ?_
        rintro e w4 ⟨rfl, g4⟩
        rw [← HB.out]
        go_wp2_with fail
        go_ret
        exact ⟨rfl, g1.trans (g2.trans (g3.trans g4))⟩
      · go_enter Try.func10, Try.ntmps10
        go_wp2_with fail
        refine (alive_true _).mono ?_
        rintro e w1 ⟨rfl, g1⟩
        go_wp2_with fail
        refine (Count_ok s p m _ s1 s2 s3 (g1.keeps HM.out)).mono ?_
        rintro e w2 ⟨rfl, g2⟩
        rw [← HN.out]
        by_cases c0 : cut < 0
        · go_wp2_with fail
          go_ret
          exact ⟨rfl, g1.trans g2⟩
        · have c2 : (s.size : Int) < cut := by omega
          clear hcut
          go_wp2_with fail
          go_ret
          exact ⟨rfl, g1.trans g2⟩
end Go.Proofs.Ytgkchdjogfdjaaa
