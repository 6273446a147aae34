/- The document's answer, chapter 9: word, digit and Text. Conditions: the texts' own bound. -/
import Derived.Test.YtlpjoakdhblbaaaDoorLxBrack
import Derived.Test.YtlpjoakdhblbaaaDoorOwn
namespace Go.Proofs.YtlpjoakdhblbaaaDoor
open Go.RowKit
set_option linter.unusedVariables false
theorem rword_any (c : Nat) (w : World) (hc : c < 256) : Calls Tryd.prog 18 #[.int .u8 c] w fun e w' => e = .returned (.bool (isLetter c)) ∧ w' = w := by
  by_cases h1 : 65 ≤ c
  · have k1 : decide ((65 : Int) ≤ (c : Int)) = true := decide_eq_true (by omega)
    have HP : Hid (isLetter c = decide ((c : Int) ≤ 90)) := by
      have e : decide ((c : Int) ≤ 90) = decide (c ≤ 90) := decide_eq_decide.2 (by omega)
      rw [Hid, e]; simp [isLetter, h1]
    go_enter Tryd.func18, Tryd.ntmps18
    go_wp2_with fail
    go_ret
    exact ⟨by rw [HP.out]; rfl, rfl⟩
  · have k1 : decide ((65 : Int) ≤ (c : Int)) = false := decide_eq_false (by omega)
    have HP : Hid (isLetter c = false) := by simp [Hid, isLetter, h1]
    go_enter Tryd.func18, Tryd.ntmps18
    go_wp2_with fail
    go_ret
    exact ⟨by rw [HP.out]; rfl, rfl⟩
theorem rdigit_any (c : Nat) (w : World) (hc : c < 256) : Calls Tryd.prog 19 #[.int .u8 c] w fun e w' => e = .returned (.bool (isDigit c)) ∧ w' = w := by
  by_cases h1 : 48 ≤ c
  · have k1 : decide ((48 : Int) ≤ (c : Int)) = true := decide_eq_true (by omega)
    have HP : Hid (isDigit c = decide ((c : Int) ≤ 57)) := by
      have e : decide ((c : Int) ≤ 57) = decide (c ≤ 57) := decide_eq_decide.2 (by omega)
      rw [Hid, e]; simp [isDigit, h1]
    go_enter Tryd.func19, Tryd.ntmps19
    go_wp2_with fail
    go_ret
    exact ⟨by rw [HP.out]; rfl, rfl⟩
  · have k1 : decide ((48 : Int) ≤ (c : Int)) = false := decide_eq_false (by omega)
    have HP : Hid (isDigit c = false) := by simp [Hid, isDigit, h1]
    go_enter Tryd.func19, Tryd.ntmps19
    go_wp2_with fail
    go_ret
    exact ⟨by rw [HP.out]; rfl, rfl⟩
theorem qText_skip {l : List UInt8} {i : Nat} (h : i < l.length) (hc : (l[i]).toNat ≠ 39) : qText (l.drop i) = l[i] :: qText (l.drop (i + 1)) := by
  rw [drop_at h, qText_cons, if_pos hc]
theorem qText_pair {l : List UInt8} {i : Nat} (h : i + 1 < l.length) (hc : (l[i]'(by omega)).toNat = 39) (hd : (l[i + 1]).toNat = 39) : qText (l.drop i) = 39 :: qText (l.drop (i + 2)) := by
  have e : l[i + 1] = 39 := UInt8.toNat_inj.1 hd
  rw [drop_at (by omega), qText_cons, if_neg (by simp [hc]), drop_at h]
  dsimp only
  rw [if_pos hd, e]
theorem qText_stop {l : List UInt8} {i : Nat} (h : i < l.length) (hc : (l[i]).toNat = 39) (hd : ∀ h1 : i + 1 < l.length, (l[i + 1]).toNat ≠ 39) : qText (l.drop i) = [] := by
  rw [drop_at h, qText_cons, if_neg (by simp [hc])]
  by_cases h1 : i + 1 < l.length
  · rw [drop_at h1]
    dsimp only
    rw [if_neg (hd h1)]
  · rw [List.drop_eq_nil_of_le (by omega)]
/-- What Text answers. -/
def textV (n i : Nat) (l : List UInt8) : Value := match qLen l with
  | none => .tuple #[.int .i64 (n : Int), .string ⟨#[]⟩, .bool false]
  | some q => .tuple #[.int .i64 ((i + q : Nat) : Int), .string ⟨(qText l).toArray⟩, .bool true]
theorem textV_none {n i : Nat} {l : List UInt8} (h : lenI i (qLen l) = 0) (hi : 0 < i) : textV n i l = .tuple #[.int .i64 (n : Int), .string ⟨#[]⟩, .bool false] := by
  unfold textV
  cases hq : qLen l with
  | none => rfl
  | some q => rw [hq] at h; simp [lenI] at h; omega
theorem textV_some {n i j : Nat} {l t : List UInt8} (h : lenI i (qLen l) = ((j + 1 : Nat) : Int)) (ht : qText l = t) : textV n i l = .tuple #[.int .i64 ((j : Int) + 1), .string ⟨t.toArray⟩, .bool true] := by
  unfold textV
  cases hq : qLen l with
  | none => rw [hq] at h; simp [lenI] at h; omega
  | some q => rw [hq] at h; simp only [lenI] at h; dsimp only; rw [h, ht]; rfl
set_option maxHeartbeats 4000000 in
theorem rtext_any (s : ByteArray) (a : Nat) (w : World) (hs : s.size ≤ 100000) (ha : a < s.size) : Calls Tryd.prog 20 #[.string s, .int .i64 a] w fun e w' => e = .returned (textV s.size (a + 1) (s.data.toList.drop (a + 1))) ∧ Grew w w' := by
  obtain ⟨V, hV⟩ : ∃ V, textV s.size (a + 1) (s.data.toList.drop (a + 1)) = V := ⟨_, rfl⟩
  obtain ⟨R, hR⟩ : ∃ R, lenI (a + 1) (qLen (s.data.toList.drop (a + 1))) = R := ⟨_, rfl⟩
  obtain ⟨T, hT⟩ : ∃ T, qText (s.data.toList.drop (a + 1)) = T := ⟨_, rfl⟩
  have HV : Hid ((R = 0 → V = .tuple #[.int .i64 (s.size : Int), .string ⟨#[]⟩, .bool false]) ∧ ∀ j : Nat, R = ((j + 1 : Nat) : Int) → V = .tuple #[.int .i64 ((j : Int) + 1), .string ⟨T.toArray⟩, .bool true]) :=
    ⟨fun h => by rw [← hV]; exact textV_none (hR.trans h) (by omega), fun j h => by rw [← hV]; exact textV_some (hR.trans h) hT⟩
  have HR := hidd hR
  have HT := hidd hT
  rw [hV]
  clear hR hT hV
  go_enter Tryd.func20, Tryd.ntmps20
  go_wp2_with fail
  go_loopw [7, 8] (fun v u wr => ∃ (i : Nat) (d : List UInt8), u = .int .i64 i ∧ i ≤ s.size ∧ d.length ≤ i ∧ Hid (lenI i (qLen (s.data.toList.drop i)) = R) ∧ Hid (T = d ++ qText (s.data.toList.drop i)) ∧ Hid (Own 5 wr w.heap.size v (d.map (fun b => .int .u8 (b.toNat : Int)))) ∧ Hid (Grew w wr) ∧ w.heap.size ≤ wr.heap.size) (fun _ u _ => s.size - (intOf u).toNat)
  case atStart => exact ⟨a + 1, [], by simp, by omega, by simp, HR, by rw [Hid, List.nil_append]; exact HT.out.symm, Own.nil _ _ _, Grew.refl _, by simp⟩
  case round =>
    obtain ⟨i, d, rfl, hi, hdl, HI, HD, HO, HG, hsz⟩ := hrel
    clear HR HT
    by_cases h : i < s.size
    · have h' : i < s.data.toList.length := h
      obtain ⟨c, hc⟩ : ∃ c, (s[i]'h).toNat = c := ⟨_, rfl⟩
      have HC : Hid ((s.data.toList[i]'h').toNat = c) := hc
      by_cases h39 : c = 39
      · have k39 : ((c : Int) == 39) = true := by simp [h39]
        have hstop (hn : ∀ h1 : i + 1 < s.data.toList.length, (s.data.toList[i + 1]).toNat ≠ 39) : ∃ f : (convert 41 9 u7).run Tryd.prog wr.drew = .ok (.string ⟨d.toArray⟩) wr.drew, V = .tuple #[.int .i64 ((i : Int) + 1), .string ⟨d.toArray⟩, .bool true] := by
          refine ⟨own_string d HO.out.drew, ?_⟩
          have h1 := HD.out
          rw [qText_stop h' (HC.out.trans h39) hn, List.append_nil] at h1
          have h2 := HV.out.2 i (by rw [← HI.out]; exact qLen_stop h' (HC.out.trans h39) hn)
          rw [h2, h1]
        have HStop := hidd hstop
        clear hstop
        by_cases h1 : i + 1 < s.size
        · have h1' : i + 1 < s.data.toList.length := h1
          have hd1 : decide ((i : Int) + 1 < (s.size : Int)) = true := decide_eq_true (by omega)
          obtain ⟨e, he⟩ : ∃ e, (s[i + 1]'h1).toNat = e := ⟨_, rfl⟩
          have HE : Hid ((s.data.toList[i + 1]'h1').toNat = e) := he
          by_cases h40 : e = 39
          · have k40 : ((e : Int) == 39) = true := by simp [h40]
            have HN := hidd (qLen_pair h1' (HC.out.trans h39) (HE.out.trans h40))
            have HM := hidd (qText_pair h1' (HC.out.trans h39) (HE.out.trans h40))
            obtain ⟨v', w', hap, HO', HB'⟩ := own_byte HO.out hsz 39 (by simp; omega) 41 5
            have HO2 := hidd HO'
            have HB2 := hidd HB'
            clear HO' HB'
            go_wp2_with (at_builtin; refine wpList_append_eq rfl rfl rfl rfl hap ?_)
            go_roundw
            case rel => exact ⟨i + 2, d ++ [39], by simp, by omega, by simp; omega, by rw [Hid, ← HN.out]; exact HI.out, by rw [Hid, HD.out, HM.out]; simp, by rw [Hid, List.map_append]; exact HO2.out, HG.out.below HB2.out (Nat.le_refl _), by have := HB2.out.size; omega⟩
            case measure => simp [intOf]; omega
          · have k40 : ((e : Int) == 39) = false := by simp; omega
            obtain ⟨hf, hv⟩ := HStop.out (fun _ => by rw [HE.out]; exact h40)
            have Hv := hidd hv
            clear hv
            go_wp2_with fail
            go_region
            go_wp2_with fail
            go_ret3
            exact ⟨by rw [Hv.out]; rfl, HG.out.drew⟩
        · have hd1 : decide ((i : Int) + 1 < (s.size : Int)) = false := decide_eq_false (by omega)
          obtain ⟨hf, hv⟩ := HStop.out (fun h2 => absurd h2 h1)
          have Hv := hidd hv
          clear hv
          go_wp2_with fail
          go_region
          go_wp2_with fail
          go_ret3
          exact ⟨by rw [Hv.out]; rfl, HG.out.drew⟩
      · have k39 : ((c : Int) == 39) = false := by simp; omega
        have HN := hidd (qLen_skip h' (by rw [HC.out]; exact h39))
        have HM := hidd (qText_skip h' (by rw [HC.out]; exact h39))
        obtain ⟨v', w', hap, HO', HB'⟩ := own_byte HO.out hsz (c : Int) (by simp; omega) 41 5
        have HO2 := hidd HO'
        have HB2 := hidd HB'
        clear HO' HB'
        go_wp2_with (at_builtin; refine wpList_append_eq rfl rfl rfl rfl hap ?_)
        go_roundw
        case rel => exact ⟨i + 1, d ++ [s.data.toList[i]], by simp, by omega, by simp; omega, by rw [Hid, ← HN.out]; exact HI.out, by rw [Hid, HD.out, HM.out]; simp, by rw [Hid, List.map_append, List.map_singleton, HC.out]; exact HO2.out, HG.out.below HB2.out (Nat.le_refl _), by have := HB2.out.size; omega⟩
        case measure => simp [intOf]; omega
    · have Hv := hidd (HV.out.1 (by rw [← HI.out, List.drop_eq_nil_of_le (show s.data.toList.length ≤ i by rw [← size_data]; omega)]; rfl))
      go_wp2_with fail
      go_ret3
      exact ⟨by rw [Hv.out]; rfl, HG.out⟩
end Go.Proofs.YtlpjoakdhblbaaaDoor
