/- The reference's Trim: at every text. -/
import Derived.Test.YtgkchdjogfdjaaaDoorTxMuch
import Derived.Lib.SlTrimSet
import Derived.Lib.ItoaWalk
namespace Go.Proofs.YtgkchdjogfdjaaaDoor
open Go.RowKit
set_option linter.unusedVariables false

theorem RTrim_much (s : ByteArray) (w : World) (hs : s.size ≤ maxLen) (h : 65536 < s.size) :
    Calls Tryd.prog 12 #[.string s] w fun e w' => e = .returned (.tuple #[.string ⟨#[]⟩, .int .i64 4]) ∧ Grew w w' := by
  have hd : decide (65536 < s.size) = true := by simpa using h
  go_enter Tryd.func12, Tryd.ntmps12
  go_wp2_with fail
  refine (much_1 s w 9 hs).mono ?_; rintro e w1 ⟨rfl, rfl⟩
  rw [hd]
  go_wp2_with fail
  go_ret2
  exact ⟨rfl, (Grew.refl _).alloc _⟩

theorem RTrim_ok (s : ByteArray) (w : World) (h : s.size ≤ 65536) :
    Calls Tryd.prog 12 #[.string s] w fun e w' => ∃ r : ByteArray, e = .returned (.tuple #[.string r, .int .i64 0]) ∧ r.data.toList = Lib.trimRightS s.data.toList [32, 9] ∧ Grew w w' := by
  have hd : decide (65536 < s.size) = false := by simpa using h
  go_enter Tryd.func12, Tryd.ntmps12
  go_wp2_with fail
  refine (much_1 s w 9 (by unfold maxLen; omega)).mono ?_; rintro e w1 ⟨rfl, rfl⟩
  rw [hd]
  go_wp2_with fail
  go_loopw [0] (fun u wr => ∃ t : ByteArray, u = .string t ∧ t.size ≤ 65536 ∧ Hid (t.size ≤ s.size) ∧ Hid (t.data.toList = s.data.toList.take t.size) ∧ Hid (∀ (j : Nat) b, t.size ≤ j → s.data.toList[j]? = some b → [(32 : UInt8), 9].contains b = true) ∧ Hid (Grew w wr)) (fun u _ => match u with | .string t => t.size | _ => 0)
  case atStart => exact ⟨s, rfl, h, Nat.le_refl _, (by rw [Hid, size_data, List.take_length]), (fun j b hj hb => by rw [size_data] at hj; rw [List.getElem?_eq_none hj] at hb; cases hb), (Grew.refl _).alloc _⟩
  case round =>
    obtain ⟨t, rfl, ht, HL, HT, HC, HG⟩ := hrel
    have HK : Hid (s.size = s.data.toList.length) := size_data s
    clear h hd
    rcases Nat.eq_zero_or_pos t.size with h0 | h0
    · have HR : Hid (t.data.toList = Lib.trimRightS s.data.toList [32, 9]) := by
        rw [Hid, Lib.trimRightS_take _ _ t.size (by rw [← HK.out]; exact HL.out) HC.out (fun b hb => by omega)]; exact HT.out
      go_wp2_with fail
      go_ret2
      exact ⟨_, rfl, HR.out, HG.out⟩
    · obtain ⟨q, hq⟩ : ∃ q, t.size = q + 1 := ⟨t.size - 1, by omega⟩
      have hqt : q < t.size := by omega
      have e0 : s.data.toList[q]? = some t[q] := by
        have h1 : t.data.toList[q]? = some t[q] := by
          have := (Lib.getD_at t q hqt).symm
          rw [← this, List.getD_eq_getElem?_getD, List.getElem?_eq_getElem (by rw [← size_data]; exact hqt)]; rfl
        rw [HT.out, List.getElem?_take] at h1
        rw [if_pos (by omega)] at h1
        exact h1
      have E0 := hidd e0
      clear e0
      have hbt := (t[q]).toNat_lt
      by_cases hx : (t[q]).toNat = 32 ∨ (t[q]).toNat = 9
      · have HC' : Hid (∀ (j : Nat) b, q ≤ j → s.data.toList[j]? = some b → [(32 : UInt8), 9].contains b = true) := fun j b hj hb => by
          by_cases e : j = q
          · subst e
            rw [E0.out] at hb
            cases hb
            rcases hx with hx | hx
            · rw [show t[j] = 32 from UInt8.toNat_inj.1 hx]; rfl
            · rw [show t[j] = 9 from UInt8.toNat_inj.1 hx]; rfl
          · exact HC.out j b (by omega) hb
        have hsz : (t.extract 0 q).size = q := by
          rw [size_data, Lib.extract_data]; simp; omega
        have HD : Hid ((t.extract 0 q).data.toList = s.data.toList.take q) := by
          rw [Hid, Lib.extract_data, HT.out, List.drop_zero, Nat.sub_zero, List.take_take, Nat.min_eq_left (by omega)]
        have HSZ := hidd hsz
        clear hsz
        rcases hx with hx | hx
        all_goals
          go_wp2_with fail
          go_roundw
          case rel => exact ⟨t.extract 0 q, rfl, by rw [HSZ.out]; omega, by rw [Hid, HSZ.out]; have := HL.out; omega, by rw [Hid, HSZ.out]; exact HD.out, by rw [Hid, HSZ.out]; exact HC'.out, HG⟩
          case measure => show (t.extract 0 q).size < t.size; rw [HSZ.out]; omega
      · have h32 : ¬ (t[q]).toNat = 32 := fun e => hx (Or.inl e)
        have h9 : ¬ (t[q]).toNat = 9 := fun e => hx (Or.inr e)
        have HR : Hid (t.data.toList = Lib.trimRightS s.data.toList [32, 9]) := by
          rw [Hid, Lib.trimRightS_take _ _ t.size (by rw [← HK.out]; exact HL.out) HC.out (fun b _ hb => by
            rw [hq, Nat.add_sub_cancel, E0.out] at hb
            cases hb
            simp only [List.contains_cons, List.contains_nil, Bool.or_false, Bool.or_eq_false_iff, beq_eq_false_iff_ne]
            exact ⟨fun e => h32 (by rw [e]; rfl), fun e => h9 (by rw [e]; rfl)⟩)]
          exact HT.out
        have h32' : (((t[q]).toNat : Int) == 32) = false := beq_eq_false_iff_ne.2 (by omega)
        have h9' : (((t[q]).toNat : Int) == 9) = false := beq_eq_false_iff_ne.2 (by omega)
        clear hx h32 h9
        go_wp2_with fail
        go_ret2
        exact ⟨_, rfl, HR.out, HG.out⟩
end Go.Proofs.YtgkchdjogfdjaaaDoor
