/- The reference's Reverse and Rotate: at every text. -/
import Derived.Test.YtgkchdjogfdjaaaDoorTxMuch
import Derived.Test.YtgkchdjogfdjaaaDoorOwn
import Derived.Test.YtgkchdjogfdjaaaDoorTxRotL
import Derived.Test.YtgkchdjogfdjaaaDoorBytes
import Derived.Lib.ItoaWalk
namespace Go.Proofs.YtgkchdjogfdjaaaDoor
open Go.RowKit
set_option linter.unusedVariables false

theorem RReverse_much (s : ByteArray) (w : World) (hs : s.size ≤ maxLen) (h : 65536 < s.size) :
    Calls Tryd.prog 14 #[.string s] w fun e w' => e = .returned (.tuple #[.string ⟨#[]⟩, .int .i64 4]) ∧ Grew w w' := by
  have hd : decide (65536 < s.size) = true := by simpa using h
  go_enter Tryd.func14, Tryd.ntmps14
  go_wp2_with fail
  refine (much_1 s w 9 hs).mono ?_; rintro e w1 ⟨rfl, rfl⟩
  rw [hd]
  go_wp2_with fail
  go_ret2
  exact ⟨rfl, (Grew.refl _).alloc _⟩

theorem rev_take (l : List UInt8) (k : Nat) (h : k < l.length) : l.reverse.take k ++ [l.getD (l.length - 1 - k) 0] = l.reverse.take (k + 1) := by
  rw [List.take_add_one, List.getElem?_reverse h, List.getElem?_eq_getElem (show l.length - 1 - k < l.length by omega)]
  simp [List.getD_eq_getElem?_getD, List.getElem?_eq_getElem (show l.length - 1 - k < l.length by omega)]

theorem RReverse_ok (s : ByteArray) (w : World) (h : s.size ≤ 65536) :
    Calls Tryd.prog 14 #[.string s] w fun e w' => ∃ r : ByteArray, e = .returned (.tuple #[.string r, .int .i64 0]) ∧ r.data.toList = s.data.toList.reverse ∧ Grew w w' := by
  have hd : decide (65536 < s.size) = false := by simpa using h
  go_enter Tryd.func14, Tryd.ntmps14
  go_wp2_with fail
  refine (much_1 s w 9 (by unfold maxLen; omega)).mono ?_; rintro e w1 ⟨rfl, rfl⟩
  rw [hd]
  go_wp2_with fail
  go_loopw [4, 5] (fun v u wr => ∃ k : Nat, k ≤ s.size ∧ u = .int .i64 ((s.size : Int) - 1 - k) ∧ Hid (Own 5 wr (w.heap.size + 1) v ((s.data.toList.reverse.take k).map (fun b => .int .u8 (b.toNat : Int)))) ∧ Hid (Below w.heap.size w wr) ∧ w.heap.size + 1 ≤ wr.heap.size) (fun _ u _ => (intOf u + 1).toNat)
  case atStart => exact ⟨0, by omega, by simp, Own.nil _ _ _, (Grew.refl w).alloc _, by simp⟩
  case round =>
    obtain ⟨k, hk, rfl, HO, HB, hsz⟩ := hrel
    by_cases hlt : k < s.size
    · obtain ⟨q, hq⟩ : ∃ q : Nat, (s.size : Int) - 1 - k = q := ⟨s.size - 1 - k, by omega⟩
      have hqs : q < s.size := by omega
      rw [hq]
      obtain ⟨v', w', hap, HO', HB'⟩ := own_byte HO.out (B := w.heap.size + 1) hsz ((s[q]).toNat : Int) (by simp; omega) 36 5
      have HO2 := hidd HO'
      have HB2 := hidd HB'
      clear HO' HB'
      have HQ : Hid (q = s.data.toList.length - 1 - k) := by rw [Hid, ← size_data]; omega
      go_wp2_with (at_builtin; refine wpList_append_eq rfl rfl rfl rfl hap ?_)
      have e1 : s.data.toList.getD q 0 = s[q] := (Lib.getD_at s q hqs).symm
      go_roundw
      case rel => exact ⟨k + 1, by omega, by congr 1 <;> omega, by
        have := HO2.out
        rw [← List.map_singleton (f := fun b : UInt8 => Value.int .u8 (b.toNat : Int)), ← List.map_append, ← e1, HQ.out, rev_take _ _ (by rw [← size_data]; exact hlt)] at this
        exact this, HB.out.trans (HB2.out.mono (by omega)), by have := HB2.out.size; omega⟩
      case measure => simp [intOf] <;> omega
    · have hkn : k = s.size := by omega
      have hf := own_string _ HO.out
      have HK : Hid (s.data.toList.reverse.take k = s.data.toList.reverse) := by rw [Hid, hkn, size_data, ← List.length_reverse, List.take_length]
      obtain ⟨l, hl⟩ : ∃ l, l = s.data.toList.reverse.take k := ⟨_, rfl⟩
      rw [← hl] at hf HK
      have hz : (s.size : Int) - 1 - k = -1 := by omega
      rw [hz]
      clear hl hkn
      go_wp2_with fail
      go_ret2
      exact ⟨_, rfl, (str_mk _).trans HK.out, HB.out⟩

theorem RRotate_much (s : ByteArray) (n : Int) (w : World) (hs : s.size ≤ maxLen) (h : 65536 < s.size) :
    Calls Tryd.prog 16 #[.string s, .int .i64 n] w fun e w' => e = .returned (.tuple #[.string ⟨#[]⟩, .int .i64 4]) ∧ Grew w w' := by
  have hd : decide (65536 < s.size) = true := by simpa using h
  go_enter Tryd.func16, Tryd.ntmps16
  go_wp2_with fail
  refine (much_1 s w 9 hs).mono ?_; rintro e w1 ⟨rfl, rfl⟩
  rw [hd]
  go_wp2_with fail
  go_ret2
  exact ⟨rfl, (Grew.refl _).alloc _⟩

theorem take_snoc (l : List UInt8) (k : Nat) (h : k < l.length) : l.take k ++ [l.getD k 0] = l.take (k + 1) := by
  rw [List.take_add_one, List.getElem?_eq_getElem h]
  simp [List.getD_eq_getElem?_getD, List.getElem?_eq_getElem h]

set_option maxHeartbeats 1000000 in
theorem RRotate_ok (s : ByteArray) (n : Int) (w : World) (h : s.size ≤ 65536) (hn : -9223372036854775808 ≤ n ∧ n ≤ 9223372036854775807) :
    Calls Tryd.prog 16 #[.string s, .int .i64 n] w fun e w' => ∃ r : ByteArray, e = .returned (.tuple #[.string r, .int .i64 0]) ∧ r.data.toList = rotL s.data.toList n ∧ Grew w w' := by
  have hd : decide (65536 < s.size) = false := by simpa using h
  by_cases h0 : s.size = 0
  · have hl : s.toList = [] := by
      rw [Lib.toList_data]; exact List.eq_nil_of_length_eq_zero (by rw [← size_data]; exact h0)
    have hf : (⟨#[]⟩ : ByteArray).data.toList = rotL s.data.toList n := by rw [← Lib.toList_data s, hl]; rfl
    have HF := hidd hf
    clear hf
    go_enter Tryd.func16, Tryd.ntmps16
    go_wp2_with fail
    refine (much_1 s w 9 (by unfold maxLen; omega)).mono ?_; rintro e w1 ⟨rfl, rfl⟩
    rw [hd]
    go_wp2_with fail
    go_ret2
    exact ⟨_, rfl, HF.out, (Grew.refl _).alloc _⟩
  · have hp : 0 < s.size := by omega
    have hz : ((s.size : Int) == 0) = false := beq_eq_false_iff_ne.2 (by omega)
    obtain ⟨r, hr⟩ : ∃ r : Nat, n % (s.size : Int) = r := ⟨(n % (s.size : Int)).toNat, by have := Int.emod_nonneg n (show (s.size : Int) ≠ 0 by omega); omega⟩
    have hrl : r < s.size := by have := Int.emod_lt_of_pos n (show (0 : Int) < s.size by omega); omega
    obtain ⟨m, hm⟩ : ∃ m, n.tmod (s.size : Int) = m := ⟨_, rfl⟩
    have hmr : (0 ≤ m ∧ m = r) ∨ (m < 0 ∧ m + s.size = r) := by
      have h1 := tmod_twice n s.size hp
      rw [hm, hr] at h1
      have h2 : m.natAbs < s.size := by
        rw [← hm, Int.natAbs_tmod]; exact Nat.mod_lt _ (by simpa using hp)
      have h4 : 0 ≤ m + (s.size : Int) := by omega
      rw [Int.tmod_eq_emod_of_nonneg h4] at h1
      rcases Int.lt_or_le m 0 with h3 | h3
      · right
        rw [Int.emod_eq_of_lt h4 (by omega)] at h1
        exact ⟨h3, h1⟩
      · left
        rw [Int.add_emod_right, Int.emod_eq_of_lt h3 (by omega)] at h1
        exact ⟨h3, h1⟩
    have HR := hidd hr
    clear hr h0
    have hb := fun w : World => bytesOf w s
    rcases hmr with ⟨h1, h2⟩ | ⟨h1, h2⟩
    all_goals
      go_enter Tryd.func16, Tryd.ntmps16
      go_wp2_with fail
      refine (much_1 s w 9 (by unfold maxLen; omega)).mono ?_; rintro e w1 ⟨rfl, rfl⟩
      rw [hd]
      go_wp2_with fail
      clear hb
      go_loopw [6, 7, 27] (fun v _ u wr => ∃ k : Nat, k ≤ s.size ∧ u = .int .i64 k ∧ Hid (Own 5 wr (w.heap.size + 2) v (((rotL s.data.toList n).take k).map (fun b => .int .u8 (b.toNat : Int)))) ∧ Hid (Below w.heap.size w wr) ∧ w.heap.size + 2 ≤ wr.heap.size) (fun _ _ u _ => s.size - (intOf u).toNat)
      case atStart => exact ⟨0, by omega, rfl, Own.nil _ _ _, (((Grew.refl w).alloc _).alloc _).drew, by simp⟩
      case round =>
        obtain ⟨k, hk, rfl, HO, HB, hsz⟩ := hrel
        by_cases hlt : k < s.size
        · obtain ⟨q, hq⟩ : ∃ q : Nat, ((k : Int) + (r : Int)) % (s.size : Int) = q := ⟨(((k : Int) + r) % (s.size : Int)).toNat, by have := Int.emod_nonneg ((k : Int) + r) (show (s.size : Int) ≠ 0 by omega); omega⟩
          have hqs : q < s.size := by have := Int.emod_lt_of_pos ((k : Int) + r) (show (0 : Int) < s.size by omega); omega
          obtain ⟨v', w', hap, HO', HB'⟩ := own_byte HO.out (B := w.heap.size + 2) hsz ((s[q]).toNat : Int) (by simp; omega) 36 5
          have HO2 := hidd HO'
          have HB2 := hidd HB'
          clear HO' HB'
          have HQ : Hid ((rotL s.data.toList n).getD k 0 = s[q]) := by
            rw [Hid, rotL_getD _ _ _ (by rw [← size_data]; exact hlt), ← size_data, Int.add_emod, HR.out]
            have e1 : s.data.toList.getD q 0 = s[q] := (Lib.getD_at s q hqs).symm
            rw [← e1, ← Int.natCast_emod, show ((k % s.size : Nat) : Int) = (k : Int) % s.size from Int.natCast_emod _ _]
            congr 1
            rw [Int.emod_add_emod, hq]; rfl
          clear h1 h2 hm hz hn
          go_wp2_with (at_builtin; refine wpList_append_eq rfl rfl rfl rfl hap ?_)
          go_roundw
          case rel => exact ⟨k + 1, by omega, by go_num, by
            have := HO2.out
            rw [← List.map_singleton (f := fun b : UInt8 => Value.int .u8 (b.toNat : Int)), ← List.map_append, ← HQ.out, take_snoc _ _ (by rw [rotL_length, ← size_data]; exact hlt)] at this
            exact this, HB.out.trans (HB2.out.mono (by omega)), by have := HB2.out.size; omega⟩
          case measure => simp [intOf] <;> omega
        · have hkn : k = s.size := by omega
          have hf := own_string _ HO.out
          have HK : Hid ((rotL s.data.toList n).take k = rotL s.data.toList n) := by rw [Hid, hkn, size_data, ← rotL_length _ n, List.take_length]
          obtain ⟨l, hl⟩ : ∃ l, l = (rotL s.data.toList n).take k := ⟨_, rfl⟩
          rw [← hl] at hf HK
          clear hl
          go_wp2_with fail
          go_ret2
          exact ⟨_, rfl, (str_mk _).trans HK.out, HB.out⟩
end Go.Proofs.YtgkchdjogfdjaaaDoor
