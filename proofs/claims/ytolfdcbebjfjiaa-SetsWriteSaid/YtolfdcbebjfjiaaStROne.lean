/- The document's Plain, Spelt and One. Conditions: bytes; texts of at most 65536. -/
import Derived.Test.YtolfdcbebjfjiaaStTurnP
namespace Go.Proofs.Ytolfdcbebjfjiaa
open Go.RowKit
set_option linter.unusedVariables false
theorem rplain_any (b : Nat) (w : World) (hb : b < 256) : Calls Try.prog 19 #[.int .u8 b] w fun e w' => e = .returned (.bool (plainB b)) ∧ w' = w := by
  by_cases h1 : 32 < b
  · have k1 : decide ((33 : Int) ≤ (b : Int)) = true := decide_eq_true (by omega)
    by_cases h2 : b < 127
    · have k2 : decide ((b : Int) ≤ 126) = true := decide_eq_true (by omega)
      by_cases h3 : b = 45
      · subst h3
        go_enter Try.func19, Try.ntmps19
        go_wp2_with fail
        go_ret
        exact ⟨rfl, rfl⟩
      · by_cases h4 : b = 92
        · subst h4
          go_enter Try.func19, Try.ntmps19
          go_wp2_with fail
          go_ret
          exact ⟨rfl, rfl⟩
        · by_cases h5 : b = 94
          · subst h5
            go_enter Try.func19, Try.ntmps19
            go_wp2_with fail
            go_ret
            exact ⟨rfl, rfl⟩
          · have HP : Hid (plainB b = true) := by simp [Hid, plainB, h1, h2, h3, h4, h5]
            have k3 : ((b : Int) != 45) = true := by simp; omega
            have k4 : ((b : Int) != 92) = true := by simp; omega
            have k5 : ((b : Int) != 94) = true := by simp; omega
            go_enter Try.func19, Try.ntmps19
            go_wp2_with fail
            go_ret
            exact ⟨by rw [HP.out]; rfl, rfl⟩
    · have HP : Hid (plainB b = false) := by simp [Hid, plainB, h2]
      have k2 : decide ((b : Int) ≤ 126) = false := decide_eq_false (by omega)
      go_enter Try.func19, Try.ntmps19
      go_wp2_with fail
      go_ret
      exact ⟨by rw [HP.out]; rfl, rfl⟩
  · have HP : Hid (plainB b = false) := by simp [Hid, plainB, h1]
    have k1 : decide ((33 : Int) ≤ (b : Int)) = false := decide_eq_false (by omega)
    go_enter Try.func19, Try.ntmps19
    go_wp2_with fail
    go_ret
    exact ⟨by rw [HP.out]; rfl, rfl⟩
theorem byte_cell (b : Nat) (hb : b < 256) : ((UInt8.ofNat b).toNat : Int) = b := by
  simp only [UInt8.toNat_ofNat']; rw [Nat.mod_eq_of_lt (by omega)]
theorem string_one (w : World) (b : Nat) (hb : b < 256) : (convert 32 9 (.slice (some ⟨w.heap.size, 0, none⟩) 1 1)).run Try.prog (w.alloc (.cells #[.int .u8 b] 5)) = .ok (.string (txt [b])) (w.alloc (.cells #[.int .u8 b] 5)) := by
  refine string_arr (bytesL [b]) rfl (fun _ => .int .u8 b) (ArrAt.new w _ _ 1 _ fun j hj => ?_) (fun j hj => ?_) 1
  · obtain rfl : j = 0 := by omega
    rfl
  · obtain rfl : j = 0 := by simp [bytesL] at hj; omega
    show Value.int .u8 (b : Int) = .int .u8 ((UInt8.ofNat b).toNat : Int)
    rw [byte_cell b hb]
theorem string_three (w : World) (a b c : Nat) (ha : a < 256) (hb : b < 256) (hc : c < 256) : (convert 32 9 (.slice (some ⟨w.heap.size, 0, none⟩) 3 3)).run Try.prog (w.alloc (.cells #[.int .u8 a, .int .u8 b, .int .u8 c] 5)).drew = .ok (.string (txt [a, b, c])) (w.alloc (.cells #[.int .u8 a, .int .u8 b, .int .u8 c] 5)).drew := by
  refine string_arr (bytesL [a, b, c]) rfl (fun j => if j = 0 then .int .u8 a else if j = 1 then .int .u8 b else .int .u8 c) (ArrAt.drew (ArrAt.new w _ _ 3 _ fun j hj => ?_)) (fun j hj => ?_) 3
  · match j, hj with
    | 0, _ => rfl
    | 1, _ => rfl
    | 2, _ => rfl
  · match j, hj with
    | 0, _ => show Value.int .u8 (a : Int) = .int .u8 ((UInt8.ofNat a).toNat : Int); rw [byte_cell a ha]
    | 1, _ => show Value.int .u8 (b : Int) = .int .u8 ((UInt8.ofNat b).toNat : Int); rw [byte_cell b hb]
    | 2, _ => show Value.int .u8 (c : Int) = .int .u8 ((UInt8.ofNat c).toNat : Int); rw [byte_cell c hc]
theorem spelt_any (b : Nat) (w : World) (hb : b < 256) : Calls Try.prog 11 #[.int .i64 b] w fun e w' => e = .returned (.string (txt (spellL b))) ∧ Grew w w' := by
  have hwb : IntKind.u8.wrap (b : Int) = (b : Int) := by simp [IntKind.wrap, IntKind.signed, IntKind.bits]; omega
  by_cases hp : plainB b = true
  · have HL : Hid (spellL b = [b]) := by unfold spellL; rw [Hid, if_pos hp]
    have hs := fun w0 => string_one w0 b hb
    go_enter Try.func11, Try.ntmps11
    go_wp2_with fail
    refine (rplain_any b w hb).mono ?_; rintro e wp ⟨rfl, rfl⟩
    rw [hp]
    go_wp2_with fail
    go_ret
    exact ⟨by rw [HL.out]; rfl, (Grew.refl _).alloc _⟩
  · have hp : plainB b = false := by simpa using hp
    obtain ⟨q, hq0⟩ : ∃ q, q = b / 16 := ⟨_, rfl⟩
    obtain ⟨r, hr0⟩ : ∃ r, r = b % 16 := ⟨_, rfl⟩
    have HL : Hid (spellL b = [92, hexd q, hexd r]) := by unfold spellL; rw [Hid, if_neg (by simp [hp]), hq0, hr0]
    have hq : ((b : Int) / 16) = (q : Int) := by omega
    have hr : ((b : Int) % 16) = (r : Int) := by omega
    have hrt : (b : Int).tmod 16 = (r : Int) := by rw [Int.tmod_eq_emod_of_nonneg (by omega)]; omega
    have hqt : (b : Int).tdiv 16 = (q : Int) := by rw [Int.tdiv_eq_ediv_of_nonneg (by omega)]; omega
    have hq2 := hex_run .i64 q (by omega)
    have hr2 := hex_run .i64 r (by omega)
    have hs : ∀ w0 : World, (convert 32 9 (.slice (some ⟨w0.heap.size, 0, none⟩) 3 3)).run Try.prog (w0.alloc (.cells #[.int .u8 92, .int .u8 (hexd q : Nat), .int .u8 (hexd r : Nat)] 5)).drew = .ok (.string (txt [92, hexd q, hexd r])) (w0.alloc (.cells #[.int .u8 92, .int .u8 (hexd q : Nat), .int .u8 (hexd r : Nat)] 5)).drew := fun w0 => string_three w0 92 (hexd q) (hexd r) (by omega) (by have := hexd_lt q (by omega); omega) (by have := hexd_lt r (by omega); omega)
    clear hq0 hr0
    go_enter Try.func11, Try.ntmps11
    go_wp2_with fail
    refine (rplain_any b w hb).mono ?_; rintro e wp ⟨rfl, rfl⟩
    rw [hp]
    go_wp2_with fail
    go_region
    all_goals (
      go_wp2_with fail
      go_ret
      exact ⟨by rw [HL.out]; rfl, by first | exact ((Grew.refl _).drew).alloc _ | exact ((Grew.refl _).alloc _).drew⟩)
def oneI : Option Nat → Int
  | some c => c
  | none => -1
set_option maxHeartbeats 4000000 in
theorem rone_any (i : Nat) (t : ByteArray) (w : World) (ht : t.size ≤ 65536) (hi : i ≤ 65600) (o : Option Nat) (p : Nat) (ho : oneR (byteAt t) t.size i = (o, p)) :
    Calls Try.prog 17 #[.string t, .int .i64 i] w fun e w' => e = .returned (.tuple #[.int .i64 (oneI o), .int .i64 p]) ∧ w' = w := by
  unfold oneR at ho
  have hbl := byteAt_lt t
  by_cases h1 : t.size ≤ i
  · rw [if_pos h1] at ho
    obtain ⟨rfl, rfl⟩ := Prod.mk.inj ho
    clear ho
    go_enter Try.func17, Try.ntmps17
    go_wp2_with fail
    go_ret2
    exact ⟨rfl, rfl⟩
  rw [if_neg h1] at ho
  have hlt0 : i < t.size := by omega
  obtain ⟨b, hb0⟩ : ∃ b, (t[i]'hlt0).toNat = b := ⟨_, rfl⟩
  have HB0 : Hid (byteAt t i = b) := (byteAt_eq hlt0).symm.trans hb0
  have hbl0 : b < 256 := by rw [← HB0.out]; exact hbl i
  rw [HB0.out] at ho
  by_cases h2 : plainB b = true
  · rw [if_pos h2] at ho
    obtain ⟨rfl, rfl⟩ := Prod.mk.inj ho
    clear ho
    go_enter Try.func17, Try.ntmps17
    go_wp2_with fail
    refine (rplain_any _ w hbl0).mono ?_; rintro e wp ⟨rfl, rfl⟩
    rw [h2]
    go_wp2_with fail
    go_ret2
    exact ⟨rfl, rfl⟩
  rw [if_neg h2] at ho
  have h2f : plainB b = false := by simpa using h2
  by_cases h3 : b ≠ 92
  · rw [if_pos h3] at ho
    obtain ⟨rfl, rfl⟩ := Prod.mk.inj ho
    have hn : ((b : Int) != 92) = true := by simp; omega
    clear ho
    go_enter Try.func17, Try.ntmps17
    go_wp2_with fail
    refine (rplain_any _ w hbl0).mono ?_; rintro e wp ⟨rfl, rfl⟩
    rw [h2f]
    go_wp2_with fail
    go_ret2
    exact ⟨rfl, rfl⟩
  rw [if_neg h3] at ho
  have hn : ((b : Int) != 92) = false := by simp; omega
  have HOO := hidd ho
  clear ho
  go_enter Try.func17, Try.ntmps17
  go_wp2_with fail
  refine (rplain_any _ w hbl0).mono ?_; rintro e wp ⟨rfl, rfl⟩
  rw [h2f]
  go_wp2_with fail
  go_loopw [6, 7, 8] (fun u6 u7 u8 wr => ∃ (k : Nat) (N : Int), u7 = .int .i64 k ∧ u6 = .int .i64 N ∧ wr = wp ∧
    ((k = 1 ∧ N = 0) ∨ (k = 2 ∧ N = digV (byteAt t (i + 1)) ∧ i + 1 < t.size ∧ 0 ≤ N ∧ N < 16) ∨ (k = 3 ∧ N = 16 * digV (byteAt t (i + 1)) + digV (byteAt t (i + 2)) ∧ i + 2 < t.size ∧ 0 ≤ digV (byteAt t (i + 1)) ∧ 0 ≤ digV (byteAt t (i + 2))))) (fun _ u7 _ _ => 3 - (intOf u7).toNat)
  case atStart => exact ⟨1, 0, rfl, rfl, rfl, Or.inl ⟨rfl, rfl⟩⟩
  case round =>
    obtain ⟨k, N, rfl, rfl, rfl, hj⟩ := hrel
    rcases hj with ⟨rfl, rfl⟩ | ⟨rfl, hN, hi1, hd0, hd16⟩ | ⟨rfl, hN, hi2, hd1, hd2⟩
    · by_cases hs : t.size ≤ i + 1
      · have HR : Hid (o = none ∧ p = t.size) := by
          have := HOO.out
          rw [if_pos (by omega)] at this
          obtain ⟨h1, h2⟩ := Prod.mk.inj this
          exact ⟨h1.symm, h2.symm⟩
        have hge : decide ((t.size : Int) ≤ (i : Int) + 1) = true := decide_eq_true (by omega)
        go_wp2_with fail
        go_ret2
        exact ⟨by rw [HR.out.1, HR.out.2]; rfl, rfl⟩
      · have hge : decide ((t.size : Int) ≤ (i : Int) + 1) = false := decide_eq_false (by omega)
        have hltt : i + 1 < t.size := by omega
        obtain ⟨c, hc⟩ : ∃ c, (t[i + 1]'hltt).toNat = c := ⟨_, rfl⟩
        have HB : Hid (byteAt t (i + 1) = c) := (byteAt_eq hltt).symm.trans hc
        have hcl : c < 256 := by rw [← HB.out]; exact byteAt_lt t _
        by_cases h48 : 48 ≤ c
        · have k1 : decide ((48 : Int) ≤ (c : Int)) = true := decide_eq_true (by omega)
          by_cases h57 : c ≤ 57
          · have k2 : decide ((c : Int) ≤ 57) = true := decide_eq_true (by omega)
            have hw : IntKind.u8.wrap ((c : Int) - 48) = (c : Int) - 48 := by simp [IntKind.wrap, IntKind.signed, IntKind.bits]; omega
            have HD : Hid (digV c = (c : Int) - 48) := by unfold digV; rw [Hid, if_pos (by omega)]
            go_wp2_with fail
            exact ⟨⟨2, _, (by simp), rfl, trivial, Or.inr (Or.inl ⟨rfl, (by rw [HB.out, HD.out] <;> omega), (by omega), (by omega), (by omega)⟩)⟩, (by simp [intOf])⟩
          · have k2 : decide ((c : Int) ≤ 57) = false := decide_eq_false (by omega)
            by_cases h97 : 97 ≤ c
            · have k3 : decide ((97 : Int) ≤ (c : Int)) = true := decide_eq_true (by omega)
              by_cases h102 : c ≤ 102
              · have k4 : decide ((c : Int) ≤ 102) = true := decide_eq_true (by omega)
                have hw : IntKind.u8.wrap ((c : Int) - 97) = (c : Int) - 97 := by simp [IntKind.wrap, IntKind.signed, IntKind.bits]; omega
                have HD : Hid (digV c = (c : Int) - 87) := by unfold digV; rw [Hid, if_neg (by omega), if_pos (by omega)]
                go_wp2_with fail
                exact ⟨⟨2, _, (by simp), rfl, trivial, Or.inr (Or.inl ⟨rfl, (by rw [HB.out, HD.out] <;> omega), (by omega), (by omega), (by omega)⟩)⟩, (by simp [intOf])⟩
              · have k4 : decide ((c : Int) ≤ 102) = false := decide_eq_false (by omega)
                have HR : Hid (o = none ∧ p = i + 1) := by
                  have := HOO.out
                  rw [if_neg (by omega), if_pos (by rw [HB.out]; unfold digV; split <;> (try split) <;> omega)] at this
                  obtain ⟨h1, h2⟩ := Prod.mk.inj this
                  exact ⟨h1.symm, h2.symm⟩
                go_wp2_with fail
                go_ret2
                exact ⟨by rw [HR.out.1, HR.out.2]; rfl, rfl⟩
            · have k3 : decide ((97 : Int) ≤ (c : Int)) = false := decide_eq_false (by omega)
              have HR : Hid (o = none ∧ p = i + 1) := by
                have := HOO.out
                rw [if_neg (by omega), if_pos (by rw [HB.out]; unfold digV; split <;> (try split) <;> omega)] at this
                obtain ⟨h1, h2⟩ := Prod.mk.inj this
                exact ⟨h1.symm, h2.symm⟩
              go_wp2_with fail
              go_ret2
              exact ⟨by rw [HR.out.1, HR.out.2]; rfl, rfl⟩
        · have k1 : decide ((48 : Int) ≤ (c : Int)) = false := decide_eq_false (by omega)
          have k3 : decide ((97 : Int) ≤ (c : Int)) = false := decide_eq_false (by omega)
          have HR : Hid (o = none ∧ p = i + 1) := by
            have := HOO.out
            rw [if_neg (by omega), if_pos (by rw [HB.out]; unfold digV; split <;> (try split) <;> omega)] at this
            obtain ⟨h1, h2⟩ := Prod.mk.inj this
            exact ⟨h1.symm, h2.symm⟩
          go_wp2_with fail
          go_ret2
          exact ⟨by rw [HR.out.1, HR.out.2]; rfl, rfl⟩
    · have hd1 : 0 ≤ digV (byteAt t (i + 1)) := by omega
      have HN := hidd hN
      clear hN
      by_cases hs : t.size ≤ i + 2
      · have HR : Hid (o = none ∧ p = t.size) := by
          have := HOO.out
          rw [if_neg (by omega), if_neg (by omega), if_pos (by omega)] at this
          obtain ⟨h1, h2⟩ := Prod.mk.inj this
          exact ⟨h1.symm, h2.symm⟩
        have hge : decide ((t.size : Int) ≤ (i : Int) + 2) = true := decide_eq_true (by omega)
        go_wp2_with fail
        go_ret2
        exact ⟨by rw [HR.out.1, HR.out.2]; rfl, rfl⟩
      · have hge : decide ((t.size : Int) ≤ (i : Int) + 2) = false := decide_eq_false (by omega)
        have hltt : i + 2 < t.size := by omega
        obtain ⟨c, hc⟩ : ∃ c, (t[i + 2]'hltt).toNat = c := ⟨_, rfl⟩
        have HB : Hid (byteAt t (i + 2) = c) := (byteAt_eq hltt).symm.trans hc
        have hcl : c < 256 := by rw [← HB.out]; exact byteAt_lt t _
        by_cases h48 : 48 ≤ c
        · have k1 : decide ((48 : Int) ≤ (c : Int)) = true := decide_eq_true (by omega)
          by_cases h57 : c ≤ 57
          · have k2 : decide ((c : Int) ≤ 57) = true := decide_eq_true (by omega)
            have hw : IntKind.u8.wrap ((c : Int) - 48) = (c : Int) - 48 := by simp [IntKind.wrap, IntKind.signed, IntKind.bits]; omega
            have HD : Hid (digV c = (c : Int) - 48) := by unfold digV; rw [Hid, if_pos (by omega)]
            go_wp2_with fail
            exact ⟨⟨3, _, (by simp), rfl, trivial, Or.inr (Or.inr ⟨rfl, (by have := HN.out; rw [HB.out, HD.out] <;> omega), (by omega), hd1, (by rw [HB.out, HD.out]; omega)⟩)⟩, (by simp [intOf])⟩
          · have k2 : decide ((c : Int) ≤ 57) = false := decide_eq_false (by omega)
            by_cases h97 : 97 ≤ c
            · have k3 : decide ((97 : Int) ≤ (c : Int)) = true := decide_eq_true (by omega)
              by_cases h102 : c ≤ 102
              · have k4 : decide ((c : Int) ≤ 102) = true := decide_eq_true (by omega)
                have hw : IntKind.u8.wrap ((c : Int) - 97) = (c : Int) - 97 := by simp [IntKind.wrap, IntKind.signed, IntKind.bits]; omega
                have HD : Hid (digV c = (c : Int) - 87) := by unfold digV; rw [Hid, if_neg (by omega), if_pos (by omega)]
                go_wp2_with fail
                exact ⟨⟨3, _, (by simp), rfl, trivial, Or.inr (Or.inr ⟨rfl, (by have := HN.out; rw [HB.out, HD.out] <;> omega), (by omega), hd1, (by rw [HB.out, HD.out]; omega)⟩)⟩, (by simp [intOf])⟩
              · have k4 : decide ((c : Int) ≤ 102) = false := decide_eq_false (by omega)
                have HR : Hid (o = none ∧ p = i + 2) := by
                  have := HOO.out
                  rw [if_neg (by omega), if_neg (by omega), if_neg (by omega), if_pos (by rw [HB.out]; unfold digV; split <;> (try split) <;> omega)] at this
                  obtain ⟨h1, h2⟩ := Prod.mk.inj this
                  exact ⟨h1.symm, h2.symm⟩
                go_wp2_with fail
                go_ret2
                exact ⟨by rw [HR.out.1, HR.out.2]; rfl, rfl⟩
            · have k3 : decide ((97 : Int) ≤ (c : Int)) = false := decide_eq_false (by omega)
              have HR : Hid (o = none ∧ p = i + 2) := by
                have := HOO.out
                rw [if_neg (by omega), if_neg (by omega), if_neg (by omega), if_pos (by rw [HB.out]; unfold digV; split <;> (try split) <;> omega)] at this
                obtain ⟨h1, h2⟩ := Prod.mk.inj this
                exact ⟨h1.symm, h2.symm⟩
              go_wp2_with fail
              go_ret2
              exact ⟨by rw [HR.out.1, HR.out.2]; rfl, rfl⟩
        · have k1 : decide ((48 : Int) ≤ (c : Int)) = false := decide_eq_false (by omega)
          have k3 : decide ((97 : Int) ≤ (c : Int)) = false := decide_eq_false (by omega)
          have HR : Hid (o = none ∧ p = i + 2) := by
            have := HOO.out
            rw [if_neg (by omega), if_neg (by omega), if_neg (by omega), if_pos (by rw [HB.out]; unfold digV; split <;> (try split) <;> omega)] at this
            obtain ⟨h1, h2⟩ := Prod.mk.inj this
            exact ⟨h1.symm, h2.symm⟩
          go_wp2_with fail
          go_ret2
          exact ⟨by rw [HR.out.1, HR.out.2]; rfl, rfl⟩
    · have hdl1 := digV_lt (byteAt t (i + 1))
      have hdl2 := digV_lt (byteAt t (i + 2))
      have HR : Hid (o = some (16 * (digV (byteAt t (i + 1))).toNat + (digV (byteAt t (i + 2))).toNat) ∧ p = i + 3) := by
        have := HOO.out
        rw [if_neg (by omega), if_neg (by omega), if_neg (by omega), if_neg (by omega)] at this
        obtain ⟨h1, h2⟩ := Prod.mk.inj this
        exact ⟨h1.symm, h2.symm⟩
      have HV : Hid (((16 * (digV (byteAt t (i + 1))).toNat + (digV (byteAt t (i + 2))).toNat : Nat) : Int) = N) := by rw [Hid]; omega
      clear hN
      go_wp2_with fail
      go_ret2
      exact ⟨by rw [HR.out.1, HR.out.2]; unfold oneI; dsimp only; rw [HV.out]; rfl, rfl⟩
end Go.Proofs.Ytolfdcbebjfjiaa

