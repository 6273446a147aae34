/- The reference's Count: at every two texts. -/
import Derived.Test.YtgkchdjogfdjaaaDoorTxMuch
import Derived.Test.YtgkchdjogfdjaaaDoorTxCountL
import Derived.Lib.ItoaWalk
namespace Go.Proofs.YtgkchdjogfdjaaaDoor
open Go.RowKit
set_option linter.unusedVariables false

theorem RCount_much (s t : ByteArray) (w : World) (hs : s.size ≤ maxLen) (ht : t.size ≤ maxLen) (h : 65536 < s.size ∨ 65536 < t.size) :
    Calls Tryd.prog 20 #[.string s, .string t] w fun e w' => e = .returned (.tuple #[.int .i64 0, .int .i64 4]) ∧ Grew w w' := by
  have hd : (decide (65536 < s.size) || decide (65536 < t.size)) = true := by simpa using h
  go_enter Tryd.func20, Tryd.ntmps20
  go_wp2_with fail
  refine (much_2 s t w 9 hs ht).mono ?_; rintro e w1 ⟨rfl, rfl⟩
  rw [hd]
  go_wp2_with fail
  go_ret2
  exact ⟨rfl, (Grew.refl _).alloc _⟩
theorem RCount_fit (s t : ByteArray) (w : World) (hs : s.size ≤ 65536) (ht : t.size = 0) :
    Calls Tryd.prog 20 #[.string s, .string t] w fun e w' => e = .returned (.tuple #[.int .i64 0, .int .i64 8]) ∧ Grew w w' := by
  have hd : (decide (65536 < s.size) || decide (65536 < t.size)) = false := by simp; omega
  have hz : ((t.size : Int) == 0) = true := by rw [ht]; rfl
  go_enter Tryd.func20, Tryd.ntmps20
  go_wp2_with fail
  refine (much_2 s t w 9 (by unfold maxLen; omega) (by unfold maxLen; omega)).mono ?_; rintro e w1 ⟨rfl, rfl⟩
  rw [hd]
  go_wp2_with fail
  go_ret2
  exact ⟨rfl, (Grew.refl _).alloc _⟩

theorem pre_iff (l p : List UInt8) (k : Nat) : p.isPrefixOf (l.drop k) = true ↔ (l.drop k).take p.length = p := by
  rw [List.isPrefixOf_iff_prefix, List.prefix_iff_eq_take]
  exact eq_comm

set_option maxHeartbeats 1000000 in
theorem RCount_ok (s p : ByteArray) (w : World) (hs : s.size ≤ 65536) (ht : p.size ≤ 65536) (hp : 0 < p.size) :
    Calls Tryd.prog 20 #[.string s, .string p] w fun e w' => e = .returned (.tuple #[.int .i64 (Lib.count s.data.toList p.data.toList : Nat), .int .i64 0]) ∧ Grew w w' := by
  have hd : (decide (65536 < s.size) || decide (65536 < p.size)) = false := by simp; omega
  have hz : ((p.size : Int) == 0) = false := beq_eq_false_iff_ne.2 (by omega)
  have hpn : Hid (p.data.toList ≠ []) := fun e => by rw [size_data, e] at hp; simp at hp
  obtain ⟨C, hC⟩ : ∃ C, Lib.count s.data.toList p.data.toList = C := ⟨_, rfl⟩
  rw [hC]
  have HC := hidd hC
  clear hC
  go_enter Tryd.func20, Tryd.ntmps20
  go_wp2_with fail
  refine (much_2 s p w 9 (by unfold maxLen; omega) (by unfold maxLen; omega)).mono ?_; rintro e w1 ⟨rfl, rfl⟩
  rw [hd]
  go_wp2_with fail
  go_loopw [6, 7] (fun u6 u7 wr => ∃ n k : Nat, u6 = .int .i64 n ∧ u7 = .int .i64 k ∧ k ≤ s.size ∧ n ≤ k ∧ Hid (n + Lib.count (s.data.toList.drop k) p.data.toList = C) ∧ Hid (Grew w wr)) (fun _ u _ => s.size - (intOf u).toNat)
  case atStart => exact ⟨0, 0, rfl, rfl, by omega, by omega, by rw [Hid, Nat.zero_add]; exact HC.out, (Grew.refl _).alloc _⟩
  case round =>
    obtain ⟨n, k, rfl, rfl, h1, h2, HE, HG⟩ := hrel
    by_cases hk : k + p.size ≤ s.size
    · have hcons : Hid (∃ b l, s.data.toList.drop k = b :: l) := by
        rw [Hid]
        cases hdr : s.data.toList.drop k with
        | nil => exfalso; have := congrArg List.length hdr; rw [List.length_drop, ← size_data] at this; simp at this; omega
        | cons b l => exact ⟨b, l, rfl⟩
      have HX : Hid ((s.extract k (k + p.size)).data.toList = (s.data.toList.drop k).take p.data.toList.length) := by
        rw [Hid, Lib.extract_data, ← size_data p]; congr 1; omega
      by_cases hm : (s.data.toList.drop k).take p.data.toList.length = p.data.toList
      · have HN : Hid (n + 1 + Lib.count (s.data.toList.drop (k + p.size)) p.data.toList = C) := by
          obtain ⟨b, l, hbl⟩ := hcons.out
          have := HE.out
          rw [hbl, count_pre b l _ hpn.out (by rw [← hbl]; exact (pre_iff _ _ k).2 hm), ← hbl, List.drop_drop, ← size_data] at this
          rw [Hid]; omega
        have hq : ((s.extract k (k + p.size)).toList == p.toList) = true := by
          rw [Lib.toList_data, Lib.toList_data, HX.out, hm]; simp
        clear hm
        go_wp2_with fail
        go_roundw
        case rel => exact ⟨n + 1, k + p.size, by go_num, by go_num, hk, by omega, HN, HG⟩
        case measure => simp [intOf]; omega
      · have HN : Hid (n + Lib.count (s.data.toList.drop (k + 1)) p.data.toList = C) := by
          obtain ⟨b, l, hbl⟩ := hcons.out
          have := HE.out
          have hd1 : s.data.toList.drop (k + 1) = l := by rw [← List.drop_drop, hbl]; rfl
          rw [hbl, count_tail b l _ hpn.out (by rw [← hbl]; exact fun e => hm ((pre_iff _ _ k).1 e))] at this
          rw [Hid, hd1]; exact this
        have hq : ((s.extract k (k + p.size)).toList == p.toList) = false := by
          rw [Lib.toList_data, Lib.toList_data, HX.out]; exact beq_eq_false_iff_ne.2 hm
        clear hm
        go_wp2_with fail
        go_roundw
        case rel => exact ⟨n, k + 1, by go_num, by go_num, by omega, by omega, HN, HG⟩
        case measure => simp [intOf]; omega
    · have HN : Hid (n = C) := by
        have := HE.out
        rw [count_short _ _ hpn.out (by rw [List.length_drop, ← size_data, ← size_data]; omega)] at this
        exact this
      go_wp2_with fail
      go_ret2
      exact ⟨by rw [← HN.out]; rfl, HG.out⟩
end Go.Proofs.YtgkchdjogfdjaaaDoor
