/- texts.Dupl: at every text and number. -/
import Derived.Test.YtgkchdjogfdjaaaTxLong
import Derived.Test.YtgkchdjogfdjaaaShelfB
namespace Go.Proofs.Ytgkchdjogfdjaaa
open Go.RowKit
set_option linter.unusedVariables false

theorem isEmpty_of_size {s : ByteArray} (h : 0 < s.size) : s.toList.isEmpty = false := by
  rw [Lib.toList_data, ← Bool.not_eq_true, List.isEmpty_iff]
  intro e; have := size_data s; rw [e, List.length_nil] at this; omega
theorem nil_of_size {s : ByteArray} (h : s.size = 0) : s.toList = [] := by
  rw [Lib.toList_data]; exact List.eq_nil_of_length_eq_zero (by rw [← size_data]; exact h)

theorem Dupl_much (s : ByteArray) (n : Int) (w : World) (hs : s.size ≤ maxLen) (h : 65536 < s.size) :
    Calls Try.prog 18 #[.string s, .int .i64 n] w fun e w' => e = .returned (.tuple #[.string ⟨#[]⟩, .int .i64 4]) ∧ Grew w w' := by
  have hd : decide (65536 < s.size) = true := by simpa using h
  go_enter Try.func18, Try.ntmps18
  go_wp2_with fail
  refine (long_1 s w 9 hs).mono ?_; rintro e w1 ⟨rfl, rfl⟩
  rw [hd]
  go_wp2_with fail
  go_ret2
  exact ⟨rfl, (Grew.refl _).alloc _⟩

theorem Dupl_range (s : ByteArray) (n : Int) (w : World) (h : s.size ≤ 65536) (hn : n < 0) :
    Calls Try.prog 18 #[.string s, .int .i64 n] w fun e w' => e = .returned (.tuple #[.string ⟨#[]⟩, .int .i64 3]) ∧ Grew w w' := by
  have hd : decide (65536 < s.size) = false := by simpa using h
  go_enter Try.func18, Try.ntmps18
  go_wp2_with fail
  refine (long_1 s w 9 (by unfold maxLen; omega)).mono ?_; rintro e w1 ⟨rfl, rfl⟩
  rw [hd]
  go_wp2_with fail
  go_ret2
  exact ⟨rfl, (Grew.refl _).alloc _⟩

theorem quo_lt (n : Int) (k : Nat) (hk : 0 < k) : (65536 : Int) / (k : Int) < n ↔ 65536 < n * (k : Int) := by
  rw [Int.ediv_lt_iff_lt_mul (by omega)]

theorem Dupl_over (s : ByteArray) (n : Int) (w : World) (h : s.size ≤ 65536) (hn : 0 ≤ n) (hm : 65536 < n * s.size) :
    Calls Try.prog 18 #[.string s, .int .i64 n] w fun e w' => e = .returned (.tuple #[.string ⟨#[]⟩, .int .i64 4]) ∧ Grew w w' := by
  have hd : decide (65536 < s.size) = false := by simpa using h
  have h0 : 0 < s.size := by
    rcases Nat.eq_zero_or_pos s.size with h0 | h0
    · rw [h0] at hm; simp at hm
    · exact h0
  have hq : (65536 : Int) / (s.size : Int) < n := (quo_lt n s.size h0).2 hm
  have hp : (0 : Int) < (s.size : Int) := by omega
  clear hm
  go_enter Try.func18, Try.ntmps18
  go_wp2_with fail
  refine (long_1 s w 9 (by unfold maxLen; omega)).mono ?_; rintro e w1 ⟨rfl, rfl⟩
  rw [hd]
  go_wp2_with fail
  go_ret2
  exact ⟨rfl, (Grew.refl _).alloc _⟩

theorem Dupl_ok (s : ByteArray) (n : Int) (w : World) (h : s.size ≤ 65536) (hn : 0 ≤ n) (hn2 : n ≤ 9223372036854775807) (hm : n * s.size ≤ 65536) :
    Calls Try.prog 18 #[.string s, .int .i64 n] w fun e w' => ∃ r : ByteArray, e = .returned (.tuple #[.string r, .int .i64 0]) ∧ r.data.toList = Lib.repeatL s.data.toList n.toNat ∧ Grew w w' := by
  have hd : decide (65536 < s.size) = false := by simpa using h
  by_cases h0 : s.size = 0
  · have hl := nil_of_size h0
    have HF : Hid ((⟨#[]⟩ : ByteArray).data.toList = Lib.repeatL s.data.toList n.toNat) := by
      rw [← Lib.toList_data s, hl, Lib.repeatL_nil]; rfl
    have hz : ¬ (0 : Int) < (s.size : Int) := by omega
    have H0 := hidd h0
    clear h0 hm
    go_enter Try.func18, Try.ntmps18
    go_wp2_with fail
    refine (long_1 s w 9 (by unfold maxLen; omega)).mono ?_; rintro e w1 ⟨rfl, rfl⟩
    rw [hd]
    go_wp2_with fail
    go_ret2
    exact ⟨_, rfl, HF.out, (Grew.refl _).alloc _⟩
  · have hp : (0 : Int) < (s.size : Int) := by omega
    have hq : ¬ (65536 : Int) / (s.size : Int) < n := fun hh => by have := (quo_lt n s.size (by omega)).1 hh; omega
    have hl := isEmpty_of_size (s := s) (by omega)
    obtain ⟨k, rfl⟩ := Int.eq_ofNat_of_zero_le hn
    have HB : Hid (s.size * k ≤ 140737488355328) := by
      have h1 : ((s.size * k : Nat) : Int) = (k : Int) * s.size := by rw [Int.natCast_mul, Int.mul_comm]
      unfold Hid; omega
    clear hm h0
    go_enter Try.func18, Try.ntmps18
    go_wp2_with fail
    refine (long_1 s w 9 (by unfold maxLen; omega)).mono ?_; rintro e w1 ⟨rfl, rfl⟩
    rw [hd]
    go_wp2_with fail
    refine (Try.strings_Repeat s k _ (by omega) HB.out).mono ?_; rintro e w1 ⟨rfl, hb⟩
    go_wp2_with fail
    go_ret2
    exact ⟨_, rfl, str_mk _, ((Grew.refl w).alloc _).trans hb⟩
end Go.Proofs.Ytgkchdjogfdjaaa
