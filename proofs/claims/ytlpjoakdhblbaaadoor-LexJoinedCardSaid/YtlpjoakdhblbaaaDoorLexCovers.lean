/- All of a line but blanks is in some token: the law's walk. -/
import Derived.Test.YtlpjoakdhblbaaaDoorLexLine
namespace Go.Proofs.YtlpjoakdhblbaaaDoor
open Go.RowKit
set_option linter.unusedVariables false
theorem alive_code : codeOf ⟨#[88, 32, 61, 32, 39, 97, 39]⟩ = (0, 0, [(1, [88], 0), (5, [61], 2), (3, [97], 4)]) := by kernel_rfl
set_option maxHeartbeats 2000000 in
theorem alive_any (m : Int) (w : World) (hm : w.cell? ⟨0, 0, none⟩ = some (.int .i64 m)) : Calls Tryd.prog 9 #[] w fun e w' => e = .returned (.bool true) ∧ Grew w w' := by
  have H1 := hidd (Line_all ⟨#[88, 32, 61, 32, 39, 97, 39]⟩ m w (by decide) hm)
  rw [alive_code] at H1
  clear hm
  have f1 : ((txt [97]).toList == [97]) = true := by rw [ByteArray.toList_eq]; rfl
  go_enter Tryd.func9, Tryd.ntmps9
  go_wp2_with (first
    | (go_at_call 6; refine H1.out.mono ?_; rintro e w1 ⟨v1, rfl, hT1, hG1⟩; dsimp only at hT1; obtain ⟨p1, c1, rfl, hc1, hn1⟩ := hT1.len; obtain ⟨b, rfl, a0, a1, a2⟩ := hT1.at (k := 2) (by simp); have d0 := ((Grew.refl w1).alloc (.cells #[.int .i64 0, .int .i64 0] 25)).keeps a0; have d1 := ((Grew.refl w1).alloc (.cells #[.int .i64 0, .int .i64 0] 25)).keeps a1; have HG1 := hidd hG1; clear hT1 hG1 a0 a1 a2))
  go_ret
  exact ⟨rfl, HG1.out.alloc _⟩
theorem codeOf_cases (s : ByteArray) : ((codeOf s).1 ≠ 0 ∧ (codeOf s).1 ≤ 4 ∧ (codeOf s).2.1 ≤ s.size ∧ (codeOf s).2.2 = []) ∨ ((codeOf s).1 = 0 ∧ (codeOf s).2.1 = 0 ∧ s.size ≤ 2000 ∧ Cov s.data.toList 0 (codeOf s).2.2) := by
  unfold codeOf
  by_cases h : s.size ≤ 2000
  · rw [if_pos h]
    cases hO : line 0 s.data.toList with
    | bad a =>
      have := line_bad _ 0 _ a (Nat.le_refl _) hO
      rw [← size_data] at this
      exact Or.inl ⟨by simp, by simp, by dsimp only; omega, rfl⟩
    | fine l =>
      refine Or.inr ⟨rfl, rfl, h, ?_⟩
      refine line_cov s.data.toList s.data.toList.length 0 0 l (by omega) (Nat.le_refl _) (by omega) (fun j _ h2 => by omega) ?_
      rw [List.drop_zero]; exact hO
  · rw [if_neg h]
    exact Or.inl ⟨by simp, by simp, by simp, rfl⟩
theorem txt_size (l : List UInt8) : (txt l).size = l.length := by rw [size_data, txt_data]
/-- How long a text is in quotes. -/
theorem Quote_len (t : List UInt8) (m : Int) (w : World) (ht : t.length ≤ 100000) (hm : w.cell? ⟨0, 0, none⟩ = some (.int .i64 m)) : Calls Tryd.prog 10 #[.string (txt t)] w fun e w' => ∃ q : ByteArray, e = .returned (.string q) ∧ q.size = 2 + t.length + t.count 39 ∧ Grew w w' := by
  have h1 := Lib.countB_le ⟨#[39]⟩ (by decide) (txt t).size (txt t) (Nat.le_refl _)
  have h2 : (⟨#[39, 39]⟩ : ByteArray).size = 2 := rfl
  have h3 := txt_size t
  have HR := hidd (Tryd.strings_ReplaceAll (txt t) ⟨#[39]⟩ ⟨#[39, 39]⟩ m w (by omega) hm (by decide) (by rw [h2]; omega))
  rw [txt_data] at HR
  have hq := quote_len t
  have hcount : t.count 39 ≤ t.length := List.count_le_length
  obtain ⟨r, hr⟩ : ∃ r, (⟨(Lib.replaceAll t [39] [39, 39]).toArray⟩ : ByteArray) = r := ⟨_, rfl⟩
  have hrs : r.size = t.length + t.count 39 := by rw [← hr, ← hq]; exact txt_size _
  rw [show (⟨#[39]⟩ : ByteArray).data.toList = [39] from rfl, show (⟨#[39, 39]⟩ : ByteArray).data.toList = [39, 39] from rfl, hr] at HR
  have hfin : (⟨#[39]⟩ ++ r ++ ⟨#[39]⟩ : ByteArray).size = 2 + t.length + t.count 39 := by
    rw [ByteArray.size_append, ByteArray.size_append, hrs, show (⟨#[39]⟩ : ByteArray).size = 1 from rfl]; omega
  have HF := hidd hfin
  clear hr hq h1 h2 hm hfin
  go_enter Tryd.func10, Tryd.ntmps10
  go_wp2_with (go_at_call 14; refine HR.out.mono ?_; rintro e w1 ⟨rfl, g1⟩)
  go_ret
  exact ⟨_, rfl, HF.out, g1⟩
theorem tok_at (w : World) (k : Int) (q : ByteArray) (a : Int) : ArrAt (w.alloc (.cells #[.int .i64 k, .string q, .int .i64 a] 32)) w.heap.size 0 3 (triF (.int .i64 k) (.string q) (.int .i64 a)) :=
  ArrAt.new w _ _ 3 _ (fun j hj => by
    match j, hj with
    | 0, _ => rfl
    | 1, _ => rfl
    | 2, _ => rfl)
set_option maxRecDepth 100000 in
set_option maxHeartbeats 4000000 in
theorem LexCovers_walk (s : ByteArray) (m : Int) (w : World) (hs : s.size ≤ maxLen) (hm : w.cell? ⟨0, 0, none⟩ = some (.int .i64 m)) : Calls Tryd.prog 5 #[.string s] w fun e w' => e = .returned (.bool true) ∧ Grew w w' := by
  have hss : s.size ≤ 9223372036854775807 := by unfold maxLen at hs; omega
  have HA := hidd (alive_any m w hm)
  have H1 := hidd (fun w (hm : w.cell? ⟨0, 0, none⟩ = some (.int .i64 m)) => Line_all s m w hs hm)
  have hcs := codeOf_cases s
  obtain ⟨⟨x, y, l⟩, hc⟩ : ∃ c, codeOf s = c := ⟨_, rfl⟩
  simp only [hc] at H1 hcs
  clear hc hs
  have HM := hidd hm
  clear hm
  rcases hcs with ⟨h1, h2, h3, h4⟩ | ⟨rfl, rfl, h3, h4⟩
  · subst h4
    have k0 : ((x : Int) != 0) = true := by simp; omega
    have k1 : decide ((0 : Int) ≤ (y : Int)) = true := decide_eq_true (by omega)
    have k2 : decide ((y : Int) ≤ (s.size : Int)) = true := decide_eq_true (by omega)
    go_enter Tryd.func5, Tryd.ntmps5
    go_wp2_with (first
      | (go_at_call 9; refine HA.out.mono ?_; rintro e w1 ⟨rfl, g1⟩; have HG1 := hidd g1; clear g1)
      | (go_at_call 6; refine (H1.out _ (HG1.out.keeps HM.out)).mono ?_; rintro e w2 ⟨v2, rfl, hT2, hG2⟩; dsimp only at hT2; obtain ⟨p2, c2, rfl, hc2, hn2⟩ := hT2.len; have HG2 := hidd (HG1.out.trans hG2); clear hT2 hG2))
    go_ret
    exact ⟨rfl, HG2.out.alloc _⟩
  · have HC := hidd h4
    clear h4
    go_enter Tryd.func5, Tryd.ntmps5
    go_wp2_with (first
      | (go_at_call 9; refine HA.out.mono ?_; rintro e w1 ⟨rfl, g1⟩; have HG1 := hidd g1; clear g1)
      | (go_at_call 6; refine (H1.out _ (HG1.out.keeps HM.out)).mono ?_; rintro e w2 ⟨v2, rfl, hT2, hG2⟩; dsimp only at hT2; obtain ⟨p2, c2, rfl, hc2, hn2⟩ := hT2.len; have HT := hidd (hT2.kept ((Grew.refl w2).alloc (.cells #[.int .i64 0, .int .i64 0] 25))); have HG2 := hidd ((HG1.out.trans hG2).alloc (.cells #[.int .i64 0, .int .i64 0] 25)); have HGC := HG2; have HW := hidd (Grew.refl (w2.alloc (.cells #[.int .i64 0, .int .i64 0] 25))); clear hT2 hG2))
    go_loopw [5, 38] (fun v5 v38 wr => ∃ k e : Nat, v38 = .int .i64 k ∧ v5 = .int .i64 e ∧ k ≤ l.length ∧ e ≤ s.size ∧ Hid (Cov s.data.toList e (l.drop k)) ∧ Hid (Grew (w2.alloc (.cells #[.int .i64 0, .int .i64 0] 25)) wr)) (fun _ v38 _ => l.length - (intOf v38).toNat)
    case atStart => exact ⟨0, 0, rfl, rfl, by omega, by omega, by rw [Hid, List.drop_zero]; exact HC.out, HW.out⟩
    case round =>
      obtain ⟨k, e, rfl, rfl, hk, he, HCv0, HGr⟩ := hrel
      clear HC
      by_cases hlt : k < l.length
      · obtain ⟨b, rfl, a0, a1, a2⟩ := HT.out.at hlt
        have hdr0 : l.drop k = l.getD k tok0 :: l.drop (k + 1) := by rw [List.drop_eq_getElem_cons hlt, List.getD_eq_getElem?_getD, List.getElem?_eq_getElem hlt]; rfl
        obtain ⟨⟨kd, t, at0⟩, hx⟩ : ∃ x, l.getD k tok0 = x := ⟨_, rfl⟩
        rw [hx] at a0 a1 a2 hdr0
        clear hx
        dsimp only at a0 a1 a2
        have d0 := HGr.out.keeps a0
        have d1 := HGr.out.keeps a1
        have d2 := HGr.out.keeps a2
        clear a0 a1 a2
        have hCv := HCv0.out
        rw [hdr0] at hCv
        obtain ⟨q1, q2, q3, q4, q5, q6⟩ := hCv
        dsimp only at q1 q2 q3
        have HB := hidd q3
        clear q3
        have hltk : decide ((k : Int) < (l.length : Int)) = true := decide_eq_true (by omega)
        have r1 : decide ((at0 : Int) < (e : Int)) = false := decide_eq_false (by omega)
        have q2' : at0 < s.size := by rw [size_data]; exact q2
        have r2 : decide ((s.size : Int) ≤ (at0 : Int)) = false := decide_eq_false (by omega)
        have HGn := hidd (HGr.out.alloc (.cells #[.int .i64 kd, .string (txt t), .int .i64 at0] 32))
        have HK := hidd q4
        have HCv := hidd q6
        have HN5 := hidd q5
        clear q4 q5 q6 q2
        go_wp2_with fail
        go_loopw [8] (fun v8 w9 => ∃ i : Nat, v8 = .int .i64 i ∧ e ≤ i ∧ i ≤ at0 ∧ w9 = wr.alloc (.cells #[.int .i64 kd, .string (txt t), .int .i64 at0] 32)) (fun v8 _ => at0 - (intOf v8).toNat)
        case atStart => exact ⟨e, rfl, Nat.le_refl _, q1, rfl⟩
        case round =>
          obtain ⟨i, rfl, hi1, hi2, rfl⟩ := hrel
          by_cases hia : i < at0
          · have hil : i < s.size := by omega
            have r3 : decide ((i : Int) < (at0 : Int)) = true := decide_eq_true (by omega)
            have hil' : i < s.data.toList.length := hil
            have h32 : (s[i]'hil).toNat = 32 := by
              have h5 := HB.out i hi1 hia
              rw [List.getD_eq_getElem?_getD, List.getElem?_eq_getElem hil'] at h5
              exact h5
            go_wp2_with fail
            exact ⟨⟨i + 1, by simp, by omega, by omega, trivial⟩, by simp [intOf]; omega⟩
          have r3 : decide ((i : Int) < (at0 : Int)) = false := decide_eq_false (by omega)
          have hts := txt_size t
          have hidx : at0 < s.data.toList.length := q2'
          have hget : s.data.toList.getD at0 0 = s.data.toList[at0] := by rw [List.getD_eq_getElem?_getD, List.getElem?_eq_getElem hidx]; rfl
          rcases HK.out with ⟨hk3, h39⟩ | ⟨hk4, h91⟩ | ⟨hk1, hlen, hfit, htx⟩
          · dsimp only at hk3 h39
            subst hk3
            have HC3 : Hid (Cov s.data.toList (at0 + (2 + t.length + t.count 39)) (l.drop (k + 1))) := HCv.out
            have hn3 : at0 + (2 + t.length + t.count 39) ≤ s.size := by rw [size_data]; exact HN5.out
            have h39' : (s[at0]'q2').toNat = 39 := by rw [hget] at h39; exact h39
            have HQ := hidd (fun w hm => Quote_len t m w (by omega) hm)
            have HM9 := hidd (HGn.out.keeps (HGC.out.keeps HM.out))
            clear HK HCv HN5 h39
            go_wp2_with (go_at_call 10; refine (HQ.out _ HM9.out).mono ?_; rintro e5 w5 ⟨q, rfl, hq, g5⟩; have c2 : w5.cell? ⟨wr.heap.size, 2, none⟩ = some (.int .i64 at0) := ((tok_at wr 3 (txt t) at0).kept g5).at0 2 (by omega); have HG5 := hidd (HGn.out.trans g5); clear g5)
            go_roundw
            case rel => exact ⟨k + 1, at0 + q.size, by simp, by first | (simp; done) | (simp [hq]; done) | (simp [hq]; omega) | (simp; omega), by omega, by omega, by rw [Hid, hq]; exact HC3.out, HG5.out⟩
            case measure => simp [intOf]; omega
          · dsimp only at hk4 h91
            subst hk4
            have HC3 : Hid (Cov s.data.toList (at0 + (t.length + 2)) (l.drop (k + 1))) := HCv.out
            have hn3 : at0 + (t.length + 2) ≤ s.size := by rw [size_data]; exact HN5.out
            have h91' : (s[at0]'q2').toNat = 91 := by rw [hget] at h91; exact h91
            clear HK HCv HN5 h91
            go_wp2_with fail
            go_roundw
            case rel => exact ⟨k + 1, at0 + (t.length + 2), by simp, by first | (simp; done) | (simp; omega), by omega, by omega, HC3, HGn.out⟩
            case measure => simp [intOf]; omega
          · dsimp only at hk1 hlen hfit htx
            have htn : tokN (kd, t, at0) = t.length := by
              unfold tokN
              rw [if_neg (by show ¬ kd = 3; omega), if_neg (by show ¬ kd = 4; omega)]
            have HC3 : Hid (Cov s.data.toList (at0 + t.length) (l.drop (k + 1))) := by have h := HCv.out; rw [htn] at h; exact h
            have hn3 : at0 + t.length ≤ s.size := by rw [size_data]; exact hfit
            have HX : Hid (s.extract at0 (at0 + t.length) = txt t) := by have h := part_eq s at0 t.length; rw [htx] at h; exact h
            clear HK HCv HN5 htx htn hfit
            have hnz : ((t.length : Int) == 0) = false := by rw [beq_eq_false_iff_ne]; omega
            have hle2 : decide ((s.size : Int) < (at0 : Int) + (t.length : Int)) = false := decide_eq_false (by omega)
            have hsl : at0 ≤ at0 + t.length := by omega
            have f1 : ((s.extract at0 (at0 + t.length)).toList == (txt t).toList) = true := text_eq HX.out
            rcases hk1 with rfl | rfl | rfl
            · go_wp2_with fail
              go_quiet (fail)
              go_wp2_with fail
              go_roundw
              case rel => exact ⟨k + 1, at0 + t.length, by simp, by simp, by omega, by omega, HC3, HGn.out.drewN _⟩
              case measure => simp [intOf]; omega
            · go_wp2_with fail
              go_quiet (fail)
              go_wp2_with fail
              go_roundw
              case rel => exact ⟨k + 1, at0 + t.length, by simp, by simp, by omega, by omega, HC3, HGn.out.drewN _⟩
              case measure => simp [intOf]; omega
            · go_wp2_with fail
              go_quiet (fail)
              go_wp2_with fail
              go_roundw
              case rel => exact ⟨k + 1, at0 + t.length, by simp, by simp, by omega, by omega, HC3, HGn.out.drewN _⟩
              case measure => simp [intOf]; omega
      · have hltk : decide ((k : Int) < (l.length : Int)) = false := decide_eq_false (by omega)
        have HE : Hid (∀ i, e ≤ i → i < s.data.toList.length → (s.data.toList.getD i 0).toNat = 32) := by
          have h := HCv0.out
          rw [List.drop_eq_nil_of_le (by omega)] at h
          exact h
        go_wp2_with fail
        go_loopw [10] (fun v10 w9 => ∃ i : Nat, v10 = .int .i64 i ∧ e ≤ i ∧ i ≤ s.size ∧ w9 = wr) (fun v10 _ => s.size - (intOf v10).toNat)
        case atStart => exact ⟨e, rfl, Nat.le_refl _, he, rfl⟩
        case round =>
          obtain ⟨i, rfl, hi1, hi2, rfl⟩ := hrel
          by_cases hil : i < s.size
          · have hil' : i < s.data.toList.length := hil
            have h32 : (s[i]'hil).toNat = 32 := by
              have h5 := HE.out i hi1 hil'
              rw [List.getD_eq_getElem?_getD, List.getElem?_eq_getElem hil'] at h5
              exact h5
            go_wp2_with fail
            exact ⟨⟨i + 1, by simp, by omega, by omega, trivial⟩, by simp [intOf]; omega⟩
          · go_wp2_with fail
            go_ret
            exact ⟨rfl, HGC.out.trans HGr.out⟩
end Go.Proofs.YtlpjoakdhblbaaaDoor
