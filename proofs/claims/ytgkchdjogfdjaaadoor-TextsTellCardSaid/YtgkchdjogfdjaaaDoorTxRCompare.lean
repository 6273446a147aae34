/- The reference's Compare and Count: at every two texts. -/
import Derived.Test.YtgkchdjogfdjaaaDoorTxMuch
import Derived.Test.YtgkchdjogfdjaaaDoorTxCmpL
import Derived.Test.YtgkchdjogfdjaaaDoorTxCountL
import Derived.Lib.Bytealg
import Derived.Lib.ItoaWalk
namespace Go.Proofs.YtgkchdjogfdjaaaDoor
open Go.RowKit
set_option linter.unusedVariables false

theorem RCompare_much (s t : ByteArray) (w : World) (hs : s.size ≤ maxLen) (ht : t.size ≤ maxLen) (h : 65536 < s.size ∨ 65536 < t.size) :
    Calls Tryd.prog 18 #[.string s, .string t] w fun e w' => e = .returned (.tuple #[.int .i64 0, .int .i64 4]) ∧ Grew w w' := by
  have hd : (decide (65536 < s.size) || decide (65536 < t.size)) = true := by simpa using h
  go_enter Tryd.func18, Tryd.ntmps18
  go_wp2_with fail
  refine (much_2 s t w 9 hs ht).mono ?_; rintro e w1 ⟨rfl, rfl⟩
  rw [hd]
  go_wp2_with fail
  go_ret2
  exact ⟨rfl, (Grew.refl _).alloc _⟩

theorem drop_at (s : ByteArray) (k : Nat) (h : k < s.size) : s.data.toList.drop k = s[k] :: s.data.toList.drop (k + 1) := by
  have e1 : s.data.toList.getD k 0 = s[k] := (Lib.getD_at s k h).symm
  rw [← e1, List.drop_eq_getElem_cons (by rw [← size_data]; exact h)]
  simp [List.getD_eq_getElem?_getD, List.getElem?_eq_getElem (show k < s.data.toList.length by rw [← size_data]; exact h)]
theorem drop_end (s : ByteArray) (k : Nat) (h : s.size ≤ k) : s.data.toList.drop k = [] := List.drop_eq_nil_of_le (by rw [← size_data]; exact h)

set_option maxHeartbeats 1000000 in
theorem RCompare_ok (s t : ByteArray) (w : World) (hs : s.size ≤ 65536) (ht : t.size ≤ 65536) :
    Calls Tryd.prog 18 #[.string s, .string t] w fun e w' => e = .returned (.tuple #[.int .i64 (Lib.compareBytes s.data.toList t.data.toList), .int .i64 0]) ∧ Grew w w' := by
  have hd : (decide (65536 < s.size) || decide (65536 < t.size)) = false := by simp; omega
  obtain ⟨C, hC⟩ : ∃ C, Lib.compareBytes s.data.toList t.data.toList = C := ⟨_, rfl⟩
  rw [hC]
  have HC := hidd hC
  clear hC
  go_enter Tryd.func18, Tryd.ntmps18
  go_wp2_with fail
  refine (much_2 s t w 9 (by unfold maxLen; omega) (by unfold maxLen; omega)).mono ?_; rintro e w1 ⟨rfl, rfl⟩
  rw [hd]
  go_wp2_with fail
  go_loopw [6] (fun u wr => ∃ k : Nat, u = .int .i64 k ∧ k ≤ s.size ∧ k ≤ t.size ∧ Hid (Lib.compareBytes (s.data.toList.drop k) (t.data.toList.drop k) = C) ∧ Hid (Grew w wr)) (fun u _ => s.size - (intOf u).toNat)
  case atStart => exact ⟨0, rfl, by omega, by omega, HC, (Grew.refl _).alloc _⟩
  case round =>
    obtain ⟨k, rfl, h1, h2, HE, HG⟩ := hrel
    by_cases hk : k < s.size ∧ k < t.size
    · obtain ⟨hks, hkt⟩ := hk
      have b1 := (s[k]).toNat_lt
      have b2 := (t[k]).toNat_lt
      have HE2 : Hid (Lib.compareBytes (s[k] :: s.data.toList.drop (k + 1)) (t[k] :: t.data.toList.drop (k + 1)) = C) := by
        rw [Hid, ← drop_at s k hks, ← drop_at t k hkt]; exact HE.out
      rcases Nat.lt_trichotomy (s[k]).toNat (t[k]).toNat with h3 | h3 | h3
      · have HV : Hid (-1 = C) := by
          rw [Hid, ← HE2.out]; unfold Lib.compareBytes; rw [if_pos (UInt8.lt_iff_toNat_lt.2 h3)]
        go_wp2_with fail
        go_quiet (fail)
        go_wp2_with fail
        go_ret2
        exact ⟨by rw [← HV.out]; rfl, by first | exact HG.out.drewN _ | exact (HG.out.drewN _).drewN _⟩
      · have HE3 : Hid (Lib.compareBytes (s.data.toList.drop (k + 1)) (t.data.toList.drop (k + 1)) = C) := by
          rw [Hid, ← HE2.out]
          conv => rhs; unfold Lib.compareBytes
          rw [if_neg (by rw [UInt8.lt_iff_toNat_lt]; omega), if_neg (by rw [UInt8.lt_iff_toNat_lt]; omega)]
        go_wp2_with fail
        go_quiet (fail)
        go_wp2_with fail
        go_quiet (fail)
        go_wp2_with fail
        go_roundw
        case rel => exact ⟨k + 1, by go_num, by omega, by omega, HE3, HG.out.drewN _⟩
        case measure => simp [intOf]; omega
      · have HV : Hid (1 = C) := by
          rw [Hid, ← HE2.out]; unfold Lib.compareBytes; rw [if_neg (by rw [UInt8.lt_iff_toNat_lt]; omega), if_pos (UInt8.lt_iff_toNat_lt.2 h3)]
        go_wp2_with fail
        go_quiet (fail)
        go_wp2_with fail
        go_quiet (fail)
        go_wp2_with fail
        go_ret2
        exact ⟨by rw [← HV.out]; rfl, by first | exact HG.out.drewN _ | exact (HG.out.drewN _).drewN _⟩
    · by_cases hks : k < s.size
      · have hkt : k = t.size := by omega
        have HV : Hid (1 = C) := by
          rw [Hid, ← HE.out, drop_at s k hks, drop_end t k (by omega)]; rfl
        have h5 : t.size < s.size := by omega
        go_wp2_with fail
        go_ret2
        exact ⟨by rw [← HV.out]; rfl, HG.out⟩
      · have hks' : k = s.size := by omega
        by_cases hkt : k < t.size
        · have HV : Hid (-1 = C) := by
            rw [Hid, ← HE.out, drop_at t k hkt, drop_end s k (by omega)]; rfl
          have h5 : s.size < t.size := by omega
          go_wp2_with fail
          go_ret2
          exact ⟨by rw [← HV.out]; rfl, HG.out⟩
        · have HV : Hid (0 = C) := by
            rw [Hid, ← HE.out, drop_end t k (by omega), drop_end s k (by omega)]; rfl
          have h5 : s.size = t.size := by omega
          go_wp2_with fail
          go_ret2
          exact ⟨by rw [← HV.out]; rfl, HG.out⟩
end Go.Proofs.YtgkchdjogfdjaaaDoor
