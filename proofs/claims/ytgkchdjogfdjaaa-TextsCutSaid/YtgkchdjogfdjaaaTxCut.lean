/- TextsCut: for every text, place and length the law returns true and writes nothing that was there. No condition. -/
import Derived.Test.YtgkchdjogfdjaaaTxReverse
import Derived.Test.YtgkchdjogfdjaaaTxSubstr
namespace Go.Proofs.Ytgkchdjogfdjaaa
open Go.RowKit
set_option linter.unusedVariables false

theorem cut_list (l : List UInt8) (i n : Nat) (h : i + n ≤ l.length) : (l.drop 0).take i ++ (l.drop i).take n ++ (l.drop (i + n)).take (l.length - (i + n)) = l := by
  rw [List.drop_zero, List.take_of_length_le (l := List.drop (i + n) l) (by simp), List.append_assoc]
  conv => rhs; rw [← List.take_append_drop i l]
  congr 1
  conv => rhs; rw [← List.take_append_drop n (l.drop i)]
  rw [List.drop_drop]

theorem TextsCut_walk (s : ByteArray) (a n : Int) (w : World) (hs : s.size ≤ maxLen) (ha : (Lit.int .i64 a).wf = true) (hn : (Lit.int .i64 n).wf = true) :
    Calls Try.prog 4 #[.string s, .int .i64 a, .int .i64 n] w fun e w' => e = .returned (.bool true) ∧ Grew w w' := by
  have ba := bd_i64 ha
  have bn := bd_i64 hn
  clear ha hn
  by_cases h : 65536 < s.size
  · have hs' := hs
    unfold maxLen at hs'
    go_enter Try.func4, Try.ntmps4
    go_wp2_with fail
    refine (alive_true _).mono ?_
    rintro e w1 ⟨rfl, hb1⟩
    go_wp2_with fail
    refine (Substr_much s a n _ hs h).mono ?_
    rintro e w2 ⟨rfl, hb2⟩
    go_wp2_with fail
    all_goals (go_ret; exact ⟨rfl, hb1.trans hb2⟩)
  · by_cases h2 : 1 ≤ a ∧ 0 ≤ n ∧ a - 1 + n ≤ s.size
    · obtain ⟨h2, h3, h4⟩ := h2
      go_enter Try.func4, Try.ntmps4
      go_wp2_with fail
      refine (alive_true _).mono ?_
      rintro e w1 ⟨rfl, hb1⟩
      go_wp2_with fail
      refine (Substr_ok s a n _ (by omega) h2 h3 h4).mono ?_
      rintro e w2 ⟨r, rfl, hr, hb2⟩
      have HR := hidd hr
      clear hr
      go_wp2_with fail
      refine (Substr_ok s 1 (a - 1) _ (by omega) (by omega) (by omega) (by omega)).mono ?_
      rintro e w3 ⟨x, rfl, hx, hb3⟩
      have HX := hidd hx
      clear hx
      go_wp2_with fail
      refine (Substr_ok s (a + n) (s.size - a - n + 1) _ (by omega) (by omega) (by omega) (by omega)).mono ?_
      rintro e w4 ⟨y, rfl, hy, hb4⟩
      have h0 := size_data s
      have hsz : (r.size : Int) = n := by
        rw [size_data r, HR.out]; simp; omega
      have hxz : (x.size : Int) = a - 1 := by
        rw [size_data x, HX.out]; simp; omega
      have hyz : (y.size : Int) = s.size - a - n + 1 := by
        rw [size_data y, hy]; simp; omega
      have heq : (x ++ r ++ y).toList = s.toList := by
        rw [Lib.toList_data, Lib.toList_data, data_append, data_append, HR.out, HX.out, hy]
        have := cut_list s.data.toList (a - 1).toNat n.toNat (by omega)
        rw [show (a + n - 1).toNat = (a - 1).toNat + n.toNat by omega, show ((s.size : Int) - a - n + 1).toNat = s.data.toList.length - ((a - 1).toNat + n.toNat) by omega]
        exact this
      clear hy h0
      have H0 : Hid ((x.size : Int) = a - 1) := hxz
      have bx : x.size ≤ 65536 := by omega
      have br : r.size ≤ 65536 := by omega
      have by' : y.size ≤ 65536 := by omega
      clear hxz hyz
      go_wp2_with fail
      go_ret
      exact ⟨rfl, hb1.trans (hb2.trans (hb3.trans hb4))⟩
    · have h5 : a < 1 ∨ s.size + 1 < a ∨ n < 0 ∨ s.size + 1 - a < n := by omega
      clear h2
      go_enter Try.func4, Try.ntmps4
      go_wp2_with fail
      refine (alive_true _).mono ?_
      rintro e w1 ⟨rfl, hb1⟩
      go_wp2_with fail
      refine (Substr_none s a n _ (by omega) h5).mono ?_
      rintro e w2 ⟨rfl, hb2⟩
      go_wp2_with fail
      all_goals (go_ret; refine ⟨?_, hb1.trans hb2⟩; first | rfl | (refine ret_bool ?_; simp; omega))
end Go.Proofs.Ytgkchdjogfdjaaa
