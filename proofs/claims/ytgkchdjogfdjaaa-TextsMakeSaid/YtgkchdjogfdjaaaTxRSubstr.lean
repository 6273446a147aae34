/- The reference's Substr: at every text, place and length. -/
import Derived.Test.YtgkchdjogfdjaaaTxMuch
import Derived.Test.YtgkchdjogfdjaaaOwn
import Derived.Lib.ItoaWalk
namespace Go.Proofs.Ytgkchdjogfdjaaa
open Go.RowKit
set_option linter.unusedVariables false

theorem RSubstr_much (s : ByteArray) (a n : Int) (w : World) (hs : s.size ≤ maxLen) (h : 65536 < s.size) :
    Calls Try.prog 24 #[.string s, .int .i64 a, .int .i64 n] w fun e w' => e = .returned (.tuple #[.string ⟨#[]⟩, .int .i64 4]) ∧ Grew w w' := by
  have hd : decide (65536 < s.size) = true := by simpa using h
  go_enter Try.func24, Try.ntmps24
  go_wp2_with fail
  refine (much_1 s w 9 hs).mono ?_; rintro e w1 ⟨rfl, rfl⟩
  rw [hd]
  go_wp2_with fail
  go_ret2
  exact ⟨rfl, (Grew.refl _).alloc _⟩

theorem RSubstr_none (s : ByteArray) (a n : Int) (w : World) (h : s.size ≤ 65536) (ha : a < 1 ∨ s.size + 1 < a ∨ n < 0 ∨ s.size + 1 - a < n) (ba : -9223372036854775808 ≤ a ∧ a ≤ 9223372036854775807) :
    Calls Try.prog 24 #[.string s, .int .i64 a, .int .i64 n] w fun e w' => e = .returned (.tuple #[.string ⟨#[]⟩, .int .i64 6]) ∧ Grew w w' := by
  have hd : decide (65536 < s.size) = false := by simpa using h
  go_enter Try.func24, Try.ntmps24
  go_wp2_with fail
  refine (much_1 s w 9 (by unfold maxLen; omega)).mono ?_; rintro e w1 ⟨rfl, rfl⟩
  rw [hd]
  go_wp2_with fail
  all_goals (go_ret2; exact ⟨rfl, (Grew.refl _).alloc _⟩)

theorem RSubstr_ok (s : ByteArray) (a n : Int) (w : World) (h : s.size ≤ 65536) (ha : 1 ≤ a) (hn0 : 0 ≤ n) (hn : a - 1 + n ≤ s.size) :
    Calls Try.prog 24 #[.string s, .int .i64 a, .int .i64 n] w fun e w' => ∃ r : ByteArray, e = .returned (.tuple #[.string r, .int .i64 0]) ∧ r.data.toList = (s.data.toList.drop (a - 1).toNat).take n.toNat ∧ Grew w w' := by
  have hd : decide (65536 < s.size) = false := by simpa using h
  have h1 : ¬ (a : Int) < 1 := by omega
  have h2 : ¬ (s.size : Int) < a - 1 := by omega
  have h3 : ¬ (n : Int) < 0 := by omega
  have h4 : ¬ (s.size : Int) - (a - 1) < n := by omega
  go_enter Try.func24, Try.ntmps24
  go_wp2_with fail
  refine (much_1 s w 9 (by unfold maxLen; omega)).mono ?_; rintro e w1 ⟨rfl, rfl⟩
  rw [hd]
  go_wp2_with fail
  go_loopw [8, 9] (fun v u wr => ∃ k : Nat, k ≤ n ∧ u = .int .i64 (a - 1 + k) ∧ Hid (Own 5 wr (w.heap.size + 1) v (((s.data.toList.drop (a - 1).toNat).take k).map (fun b => .int .u8 (b.toNat : Int)))) ∧ Hid (Below w.heap.size w wr) ∧ w.heap.size + 1 ≤ wr.heap.size) (fun _ u _ => (a - 1 + n - intOf u).toNat)
  case atStart => exact ⟨0, by omega, by simp, Own.nil _ _ _, (Grew.refl w).alloc _, by simp⟩
  case round =>
    obtain ⟨k, hk, rfl, HO, HB, hsz⟩ := hrel
    by_cases hlt : (k : Int) < n
    · have hks : (a - 1 + k).toNat < s.size := by omega
      obtain ⟨q, hq⟩ : ∃ q : Nat, a - 1 + k = q := ⟨(a - 1 + k).toNat, by omega⟩
      have hqs : q < s.size := by omega
      have hqn : (q : Int) < a - 1 + n := by omega
      rw [hq]
      obtain ⟨v', w', hap, HO', HB'⟩ := own_byte HO.out (B := w.heap.size + 1) hsz ((s[q]).toNat : Int) (by simp; omega) 35 5
      have HO2 := hidd HO'
      have HB2 := hidd HB'
      clear HO' HB'
      go_wp2_with (at_builtin; refine wpList_append_eq rfl rfl rfl rfl hap ?_)
      have e1 : s.data.toList.getD q 0 = s[q] := (Lib.getD_at s q hqs).symm
      go_roundw
      case rel => exact ⟨k + 1, by omega, by rw [Int.natCast_succ]; congr 1; omega, by
        have := HO2.out
        rw [← List.map_singleton (f := fun b : UInt8 => Value.int .u8 (b.toNat : Int)), ← List.map_append] at this
        have e2 : (s.data.toList.drop (a - 1).toNat).take k ++ [s[q]] = (s.data.toList.drop (a - 1).toNat).take (k + 1) := by
          rw [List.take_add_one, List.getElem?_drop, show (a - 1).toNat + k = q by omega, List.getElem?_eq_getElem (by rw [← size_data]; exact hqs)]
          simp [← e1, List.getD_eq_getElem?_getD, List.getElem?_eq_getElem (show q < s.data.toList.length by rw [← size_data]; exact hqs)]
        rw [e2] at this; exact this, HB.out.trans (HB2.out.mono (by omega)), by have := HB2.out.size; omega⟩
      case measure => simp [intOf]; omega
    · have hkn : (k : Int) = n := by omega
      have hq : a - 1 + k = a - 1 + n := by omega
      have hf := own_string _ HO.out
      obtain ⟨l, hl⟩ : ∃ l, l = (s.data.toList.drop (a - 1).toNat).take k := ⟨_, rfl⟩
      rw [← hl] at hf
      have HK : Hid (l = (s.data.toList.drop (a - 1).toNat).take n.toNat) := by rw [hl, ← hkn]; rfl
      clear hkn hl
      go_wp2_with fail
      go_ret2
      exact ⟨_, rfl, (str_mk _).trans (HK.out.trans (by rw [show (a - 1).toNat = a.toNat - 1 by omega])), HB.out⟩
end Go.Proofs.Ytgkchdjogfdjaaa
