/- texts.Rotate: at every text and number. -/
import Derived.Test.YtgkchdjogfdjaaaDoorTxLong
import Derived.Test.YtgkchdjogfdjaaaDoorTxRotL
namespace Go.Proofs.YtgkchdjogfdjaaaDoor
open Go.RowKit
set_option linter.unusedVariables false

theorem Rotate_much (s : ByteArray) (n : Int) (w : World) (hs : s.size ≤ maxLen) (h : 65536 < s.size) :
    Calls Tryd.prog 15 #[.string s, .int .i64 n] w fun e w' => e = .returned (.tuple #[.string ⟨#[]⟩, .int .i64 4]) ∧ Grew w w' := by
  have hd : decide (65536 < s.size) = true := by simpa using h
  go_enter Tryd.func15, Tryd.ntmps15
  go_wp2_with fail
  refine (long_1 s w 9 hs).mono ?_; rintro e w1 ⟨rfl, rfl⟩
  rw [hd]
  go_wp2_with fail
  go_ret2
  exact ⟨rfl, (Grew.refl _).alloc _⟩

theorem Rotate_ok (s : ByteArray) (n : Int) (w : World) (h : s.size ≤ 65536) (hn : -9223372036854775808 ≤ n ∧ n ≤ 9223372036854775807) :
    Calls Tryd.prog 15 #[.string s, .int .i64 n] w fun e w' => ∃ r : ByteArray, e = .returned (.tuple #[.string r, .int .i64 0]) ∧ r.data.toList = rotL s.data.toList n ∧ Grew w w' := by
  have hd : decide (65536 < s.size) = false := by simpa using h
  by_cases h0 : s.size = 0
  · have hl : s.toList = [] := by
      rw [Lib.toList_data]; exact List.eq_nil_of_length_eq_zero (by rw [← size_data]; exact h0)
    have hf : (⟨#[]⟩ : ByteArray).data.toList = rotL s.data.toList n := by rw [← Lib.toList_data s, hl]; rfl
    have HF := hidd hf
    have H0 := hidd h0
    clear hf h0
    go_enter Tryd.func15, Tryd.ntmps15
    go_wp2_with fail
    refine (long_1 s w 9 (by unfold maxLen; omega)).mono ?_; rintro e w1 ⟨rfl, rfl⟩
    rw [hd]
    go_wp2_with fail
    go_ret2
    exact ⟨_, rfl, HF.out, (Grew.refl _).alloc _⟩
  · have hp : 0 < s.size := by omega
    have hl : s.toList.isEmpty = false := by
      rw [Lib.toList_data, ← Bool.not_eq_true, List.isEmpty_iff]
      intro e; have := size_data s; rw [e, List.length_nil] at this; omega
    have e1 := tmod_twice n s.size hp
    have b1 := Int.emod_nonneg n (b := (s.size : Int)) (by omega)
    have b2 := Int.emod_lt_of_pos n (b := (s.size : Int)) (by omega)
    have b3 := Int.lt_tmod_of_pos n (b := (s.size : Int)) (by omega)
    have b4 := Int.tmod_lt_of_pos n (b := (s.size : Int)) (by omega)
    obtain ⟨k, hk⟩ : ∃ k : Nat, (k : Int) = n % (s.size : Int) := ⟨_, Int.toNat_of_nonneg b1⟩
    rw [← hk] at e1 b1 b2
    have hc := rotL_cut s.data.toList n k (by rw [hk, size_data]) (by rw [← size_data]; omega)
    have HK := hidd hk
    have HC := hidd hc
    clear hk hc h0
    have HX : Hid ((s.extract k s.size ++ s.extract 0 k).data.toList = rotL s.data.toList n) := by
      rw [Hid, data_append, Lib.extract_data, Lib.extract_data, ← HC.out, List.take_of_length_le (by rw [size_data]; simp)]; simp
    clear HC
    go_enter Tryd.func15, Tryd.ntmps15
    go_wp2_with fail
    refine (long_1 s w 9 (by unfold maxLen; omega)).mono ?_; rintro e w1 ⟨rfl, rfl⟩
    rw [hd]
    go_wp2_with fail
    go_quiet (fail)
    go_wp2_with fail
    go_ret2
    exact ⟨_, rfl, HX.out, ((Grew.refl _).alloc _).drewN _⟩
end Go.Proofs.YtgkchdjogfdjaaaDoor
