/- texts.Substr: at every text, place and length. -/
import Derived.Test.YtgkchdjogfdjaaaTxLong
namespace Go.Proofs.Ytgkchdjogfdjaaa
open Go.RowKit
set_option linter.unusedVariables false

theorem Substr_much (s : ByteArray) (a n : Int) (w : World) (hs : s.size ≤ maxLen) (h : 65536 < s.size) :
    Calls Try.prog 14 #[.string s, .int .i64 a, .int .i64 n] w fun e w' => e = .returned (.tuple #[.string ⟨#[]⟩, .int .i64 4]) ∧ Grew w w' := by
  have hd : decide (65536 < s.size) = true := by simpa using h
  go_enter Try.func14, Try.ntmps14
  go_wp2_with fail
  refine (long_1 s w 9 hs).mono ?_; rintro e w1 ⟨rfl, rfl⟩
  rw [hd]
  go_wp2_with fail
  go_ret2
  exact ⟨rfl, (Grew.refl _).alloc _⟩

theorem Substr_none (s : ByteArray) (a n : Int) (w : World) (h : s.size ≤ 65536) (ha : a < 1 ∨ s.size + 1 < a ∨ n < 0 ∨ s.size + 1 - a < n) :
    Calls Try.prog 14 #[.string s, .int .i64 a, .int .i64 n] w fun e w' => e = .returned (.tuple #[.string ⟨#[]⟩, .int .i64 6]) ∧ Grew w w' := by
  have hd : decide (65536 < s.size) = false := by simpa using h
  go_enter Try.func14, Try.ntmps14
  go_wp2_with fail
  refine (long_1 s w 9 (by unfold maxLen; omega)).mono ?_; rintro e w1 ⟨rfl, rfl⟩
  rw [hd]
  go_wp2_with fail
  all_goals (go_ret2; exact ⟨rfl, (Grew.refl _).alloc _⟩)

theorem Substr_ok (s : ByteArray) (a n : Int) (w : World) (h : s.size ≤ 65536) (ha : 1 ≤ a) (hn0 : 0 ≤ n) (hn : a - 1 + n ≤ s.size) :
    Calls Try.prog 14 #[.string s, .int .i64 a, .int .i64 n] w fun e w' => ∃ r : ByteArray, e = .returned (.tuple #[.string r, .int .i64 0]) ∧ r.data.toList = (s.data.toList.drop (a - 1).toNat).take n.toNat ∧ Grew w w' := by
  have hd : decide (65536 < s.size) = false := by simpa using h
  obtain ⟨a, rfl⟩ := Int.eq_ofNat_of_zero_le (show 0 ≤ a by omega)
  obtain ⟨n, rfl⟩ := Int.eq_ofNat_of_zero_le hn0
  have h1 : ¬ (a : Int) < 1 := by omega
  have h2 : ¬ (s.size : Int) + 1 < a := by omega
  have h3 : ¬ (n : Int) < 0 := by omega
  have h4 : ¬ (s.size : Int) + 1 - a < n := by omega
  have HF : Hid ((s.extract (a - 1) (a - 1 + n)).data.toList = (s.data.toList.drop ((a : Int) - 1).toNat).take (n : Int).toNat) := by
    rw [Hid, Lib.extract_data, show ((a : Int) - 1).toNat = a - 1 by omega, show (n : Int).toNat = n by omega, show a - 1 + n - (a - 1) = n by omega]
  go_enter Try.func14, Try.ntmps14
  go_wp2_with fail
  refine (long_1 s w 9 (by unfold maxLen; omega)).mono ?_; rintro e w1 ⟨rfl, rfl⟩
  rw [hd]
  go_wp2_with fail
  go_ret2
  exact ⟨_, rfl, HF.out, (Grew.refl _).alloc _⟩
end Go.Proofs.Ytgkchdjogfdjaaa
