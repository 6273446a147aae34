/- texts.pad, Lpad, Rpad: at every text, length and sign. -/
import Derived.Test.YtgkchdjogfdjaaaTxDupl
namespace Go.Proofs.Ytgkchdjogfdjaaa
open Go.RowKit
set_option linter.unusedVariables false

/-- What is wrong: 4, 8, 4; else 0. -/
def padE (s : ByteArray) (n : Int) (f : ByteArray) : Int := if 65536 < s.size then 4 else if f.size ≠ 1 then 8 else if 65536 < n then 4 else 0

theorem pad_err (s : ByteArray) (n : Int) (f : ByteArray) (w : World) (hs : s.size ≤ maxLen) (hf : f.size ≤ maxLen) (h : padE s n f ≠ 0) :
    Calls Try.prog 30 #[.string s, .int .i64 n, .string f] w fun e w' => e = .returned (.tuple #[.string ⟨#[]⟩, .int .i64 (padE s n f)]) ∧ Grew w w' := by
  have hf' := hf
  unfold maxLen at hf'
  by_cases h1 : 65536 < s.size
  · have hd : decide (65536 < s.size) = true := by simpa using h1
    have HE : Hid (padE s n f = 4) := if_pos h1
    rw [HE.out]
    clear h
    go_enter Try.func30, Try.ntmps30
    go_wp2_with fail
    refine (long_1 s w 9 hs).mono ?_; rintro e w1 ⟨rfl, rfl⟩
    rw [hd]
    go_wp2_with fail
    go_ret2
    exact ⟨rfl, (Grew.refl _).alloc _⟩
  · have hd : decide (65536 < s.size) = false := by simpa using h1
    by_cases h2 : f.size ≠ 1
    · have HE : Hid (padE s n f = 8) := by rw [Hid, padE, if_neg h1, if_pos h2]
      rw [HE.out]
      have h2' : ((f.size : Int) != 1) = true := by simp; omega
      clear h h2
      go_enter Try.func30, Try.ntmps30
      go_wp2_with fail
      refine (long_1 s w 9 hs).mono ?_; rintro e w1 ⟨rfl, rfl⟩
      rw [hd]
      go_wp2_with fail
      go_ret2
      exact ⟨rfl, (Grew.refl _).alloc _⟩
    · by_cases h3 : 65536 < n
      · have HE : Hid (padE s n f = 4) := by rw [Hid, padE, if_neg h1, if_neg h2, if_pos h3]
        rw [HE.out]
        have h2' : ((f.size : Int) != 1) = false := by simp; omega
        clear h h2
        go_enter Try.func30, Try.ntmps30
        go_wp2_with fail
        refine (long_1 s w 9 hs).mono ?_; rintro e w1 ⟨rfl, rfl⟩
        rw [hd]
        go_wp2_with fail
        go_ret2
        exact ⟨rfl, (Grew.refl _).alloc _⟩
      · exact absurd (by rw [padE, if_neg h1, if_neg h2, if_neg h3]) h

theorem pad_ok (s : ByteArray) (n : Int) (f : ByteArray) (w : World) (h : padE s n f = 0) (hn : -9223372036854775808 ≤ n) :
    Calls Try.prog 30 #[.string s, .int .i64 n, .string f] w fun e w' => ∃ r : ByteArray, e = .returned (.tuple #[.string r, .int .i64 0]) ∧ r.data.toList = Lib.repeatL f.data.toList (n - s.size).toNat ∧ Grew w w' := by
  have h1 : s.size ≤ 65536 ∧ f.size = 1 ∧ n ≤ 65536 := by
    unfold padE at h
    by_cases a : 65536 < s.size
    · rw [if_pos a] at h; omega
    · rw [if_neg a] at h
      by_cases b : f.size ≠ 1
      · rw [if_pos b] at h; omega
      · rw [if_neg b] at h
        by_cases c : 65536 < n
        · rw [if_pos c] at h; omega
        · omega
  obtain ⟨h1, h2, h3⟩ := h1
  have hd : decide (65536 < s.size) = false := by simpa using h1
  have h2' : ((f.size : Int) != 1) = false := by simp; omega
  have H2 := hidd h2
  have hf : f.size ≤ 65536 := by omega
  clear h h2
  by_cases h4 : n ≤ s.size
  · have HF : Hid ((⟨#[]⟩ : ByteArray).data.toList = Lib.repeatL f.data.toList (n - s.size).toNat) := by
      rw [Hid, show (n - s.size).toNat = 0 by omega]; rfl
    go_enter Try.func30, Try.ntmps30
    go_wp2_with fail
    refine (long_1 s w 9 (by unfold maxLen; omega)).mono ?_; rintro e w1 ⟨rfl, rfl⟩
    rw [hd]
    go_wp2_with fail
    go_ret2
    exact ⟨_, rfl, HF.out, (Grew.refl _).alloc _⟩
  · obtain ⟨k, hk⟩ : ∃ k : Nat, n = s.size + k := ⟨(n - s.size).toNat, by omega⟩
    subst hk
    have HB : Hid (f.size * k ≤ 140737488355328) := by rw [Hid, H2.out]; omega
    have HK : Hid (((s.size : Int) + k - s.size).toNat = k) := by unfold Hid; omega
    rw [HK.out]
    have hkk : (s.size : Int) + k - s.size = k := by omega
    go_enter Try.func30, Try.ntmps30
    go_wp2_with fail
    refine (long_1 s w 9 (by unfold maxLen; omega)).mono ?_; rintro e w1 ⟨rfl, rfl⟩
    rw [hd]
    go_wp2_with fail
    refine (Try.strings_Repeat f k _ (by omega) HB.out).mono ?_; rintro e w1 ⟨rfl, hb⟩
    go_wp2_with fail
    go_ret2
    exact ⟨_, rfl, str_mk _, ((Grew.refl w).alloc _).trans hb⟩

theorem pad_size {s f r : ByteArray} {n : Int} (h : padE s n f = 0) (hr : r.data.toList = Lib.repeatL f.data.toList (n - s.size).toNat) : r.size ≤ 65536 ∧ s.size ≤ 65536 := by
  unfold padE at h
  by_cases a : 65536 < s.size
  · rw [if_pos a] at h; omega
  · rw [if_neg a] at h
    by_cases b : f.size ≠ 1
    · rw [if_pos b] at h; omega
    · rw [if_neg b] at h
      by_cases c : 65536 < n
      · rw [if_pos c] at h; omega
      · have b' : f.size = 1 := by omega
        refine ⟨?_, by omega⟩
        rw [size_data r, hr, Lib.repeatL_length, ← size_data, b']; omega

theorem Lpad_err (s : ByteArray) (n : Int) (f : ByteArray) (w : World) (hs : s.size ≤ maxLen) (hf : f.size ≤ maxLen) (h : padE s n f ≠ 0) :
    Calls Try.prog 19 #[.string s, .int .i64 n, .string f] w fun e w' => e = .returned (.tuple #[.string ⟨#[]⟩, .int .i64 (padE s n f)]) ∧ Grew w w' := by
  have h' : (padE s n f != 0) = true := by simpa using h
  have HH := hidd h
  clear h
  go_enter Try.func19, Try.ntmps19
  go_wp2_with fail
  refine (pad_err s n f w hs hf HH.out).mono ?_; rintro e w1 ⟨rfl, g⟩
  go_wp2_with fail
  go_ret2
  exact ⟨rfl, g⟩
theorem Rpad_err (s : ByteArray) (n : Int) (f : ByteArray) (w : World) (hs : s.size ≤ maxLen) (hf : f.size ≤ maxLen) (h : padE s n f ≠ 0) :
    Calls Try.prog 20 #[.string s, .int .i64 n, .string f] w fun e w' => e = .returned (.tuple #[.string ⟨#[]⟩, .int .i64 (padE s n f)]) ∧ Grew w w' := by
  have h' : (padE s n f != 0) = true := by simpa using h
  have HH := hidd h
  clear h
  go_enter Try.func20, Try.ntmps20
  go_wp2_with fail
  refine (pad_err s n f w hs hf HH.out).mono ?_; rintro e w1 ⟨rfl, g⟩
  go_wp2_with fail
  go_ret2
  exact ⟨rfl, g⟩
theorem Lpad_ok (s : ByteArray) (n : Int) (f : ByteArray) (w : World) (h : padE s n f = 0) (hn : -9223372036854775808 ≤ n) :
    Calls Try.prog 19 #[.string s, .int .i64 n, .string f] w fun e w' => ∃ r : ByteArray, e = .returned (.tuple #[.string r, .int .i64 0]) ∧ r.data.toList = Lib.repeatL f.data.toList (n - s.size).toNat ++ s.data.toList ∧ Grew w w' := by
  have HH := hidd h
  clear h
  go_enter Try.func19, Try.ntmps19
  go_wp2_with fail
  refine (pad_ok s n f w HH.out hn).mono ?_; rintro e w1 ⟨r, rfl, hr, g⟩
  obtain ⟨b1, b2⟩ := pad_size HH.out hr
  have HR := hidd hr
  clear hr
  go_wp2_with fail
  go_ret2
  exact ⟨_, rfl, by rw [data_append, HR.out], g⟩
theorem Rpad_ok (s : ByteArray) (n : Int) (f : ByteArray) (w : World) (h : padE s n f = 0) (hn : -9223372036854775808 ≤ n) :
    Calls Try.prog 20 #[.string s, .int .i64 n, .string f] w fun e w' => ∃ r : ByteArray, e = .returned (.tuple #[.string r, .int .i64 0]) ∧ r.data.toList = s.data.toList ++ Lib.repeatL f.data.toList (n - s.size).toNat ∧ Grew w w' := by
  have HH := hidd h
  clear h
  go_enter Try.func20, Try.ntmps20
  go_wp2_with fail
  refine (pad_ok s n f w HH.out hn).mono ?_; rintro e w1 ⟨r, rfl, hr, g⟩
  obtain ⟨b1, b2⟩ := pad_size HH.out hr
  have HR := hidd hr
  clear hr
  go_wp2_with fail
  go_ret2
  exact ⟨_, rfl, by rw [data_append, HR.out], g⟩
end Go.Proofs.Ytgkchdjogfdjaaa
