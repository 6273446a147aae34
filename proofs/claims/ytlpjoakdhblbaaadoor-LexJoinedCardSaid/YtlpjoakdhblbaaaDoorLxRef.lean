/- The document's answer, chapter 9: Line, at every text of a line's length, the walk. -/
import Derived.Test.YtlpjoakdhblbaaaDoorLxLineW
import Derived.Lib.SlBytesConst
import Derived.Deep.DeepCutAuto
namespace Go.Proofs.YtlpjoakdhblbaaaDoor
open Go.RowKit
set_option linter.unusedVariables false
set_option maxHeartbeats 2000000 in
set_option maxRecDepth 8000 in
theorem RLine_much (s : ByteArray) (w : World) (hs : s.size ≤ maxLen) (h : 2000 < s.size) : Calls Tryd.prog 7 #[.string s] w fun e w' => e = .returned (.tuple #[.slice none 0 0, faultV 4 0]) ∧ Grew w w' := by
  have hss : s.size ≤ 9223372036854775807 := by unfold maxLen at hs; omega
  clear hs
  have HF := hidd (fault_at w 4 0)
  have HG := hidd ((Grew.refl w).alloc (.cells #[.int .i64 4, .int .i64 0] 25))
  have k1 : decide (2000 < (s.size : Int)) = true := decide_eq_true (by omega)
  go_enter Tryd.func7, Tryd.ntmps7
  go_wp2_with fail
  exact bodyPost_tmp_arr rfl rfl rfl HF.out Tryd.underlying25 rfl info_fault rfl ⟨rfl, HG.out⟩
theorem textV_no {n i : Nat} {l : List UInt8} (h : qLen l = none) : textV n i l = .tuple #[.int .i64 (n : Int), .string ⟨#[]⟩, .bool false] := by unfold textV; rw [h]
theorem textV_yes {n i q : Nat} {l : List UInt8} (h : qLen l = some q) : textV n i l = .tuple #[.int .i64 ((i + q : Nat) : Int), .string (txt (qText l)), .bool true] := by unfold textV; rw [h]; rfl
/-- The signs' bytes, as cells. -/
def SG : Array Value := #[.int .u8 61, .int .u8 63, .int .u8 38, .int .u8 43, .int .u8 45, .int .u8 42, .int .u8 47, .int .u8 37, .int .u8 40, .int .u8 41, .int .u8 60, .int .u8 62, .int .u8 44, .int .u8 58, .int .u8 36]
theorem sg_cell (w : World) (k : Nat) (hk : k < 15) : (w.alloc (.cells #[.int .u8 61, .int .u8 63, .int .u8 38, .int .u8 43, .int .u8 45, .int .u8 42, .int .u8 47, .int .u8 37, .int .u8 40, .int .u8 41, .int .u8 60, .int .u8 62, .int .u8 44, .int .u8 58, .int .u8 36] 5 (15, 16))).cell? ⟨w.heap.size, k, none⟩ = some (.int .u8 (signs.getD k 0 : Nat)) := by
  rw [World.cell?_alloc_mark]
  match k, hk with
  | 0, _ => rfl
  | 1, _ => rfl
  | 2, _ => rfl
  | 3, _ => rfl
  | 4, _ => rfl
  | 5, _ => rfl
  | 6, _ => rfl
  | 7, _ => rfl
  | 8, _ => rfl
  | 9, _ => rfl
  | 10, _ => rfl
  | 11, _ => rfl
  | 12, _ => rfl
  | 13, _ => rfl
  | 14, _ => rfl
theorem sg_next (k c : Nat) (hk : k < 15) : (signs.take (k + 1)).contains c = ((signs.take k).contains c || (signs.getD k 0 == c)) := by
  have hl : k < signs.length := hk
  have e : signs.getD k 0 = signs[k] := by simp [List.getD_eq_getElem?_getD, hl]
  rw [e, List.take_succ_eq_append_getElem hl, Bool.eq_iff_iff, List.contains_iff_mem, List.mem_append, Bool.or_eq_true, List.contains_iff_mem, List.mem_singleton, beq_iff_eq]
  exact or_congr Iff.rfl eq_comm
theorem sg_end (c : Nat) : (signs.take 15).contains c = signs.contains c := rfl
theorem equals_at {l : List UInt8} {i : Nat} (h : i + 1 < l.length) : equalsNext (l.drop (i + 1)) = decide ((l[i + 1]).toNat = 61) := by
  rw [drop_at h, equalsNext, Bool.eq_iff_iff]; simp
theorem equals_end {l : List UInt8} {i : Nat} (h : ¬ i + 1 < l.length) : equalsNext (l.drop (i + 1)) = false := by
  rw [List.drop_eq_nil_of_le (by omega)]; rfl
theorem tok_behind {w wr : World} {v : Value} {d : List Tok} (h : LS w wr v d) (o : Obj) (hl : d.length ≤ 1000000) {kd : Int} {q : ByteArray} (k : Nat) (t : List UInt8) (i : Nat) (hk : kd = (k : Int)) (hq : q = txt t) (ty : TypeId) {t' : TypeId} :
    ∃ v' w', (Builtin.append_ #[22, 22] ty #[v, .slice (some ⟨wr.heap.size + 1, 0, none⟩) 1 1]).run Tryd.prog ((wr.alloc o).alloc (.cells #[.int .i64 kd, .string q, .int .i64 i] t')) = .ok v' w' ∧ LS w w' v' (d ++ [(k, t, i)]) := by
  obtain ⟨v', w', e, ho⟩ := tok_last (h.kept ((Grew.refl wr).alloc o)) hl k t i hk hq ty (t' := t')
  have hz : (wr.alloc o).heap.size = wr.heap.size + 1 := by simp
  rw [hz] at e
  exact ⟨v', w', e, ho⟩
set_option maxHeartbeats 16000000 in
set_option maxRecDepth 8000 in
theorem RLine_any (s : ByteArray) (w : World) (hs : s.size ≤ 2000) : Calls Tryd.prog 7 #[.string s] w (LineEnd w (line 0 s.data.toList)) := by
  obtain ⟨O, hO⟩ : ∃ O, line 0 s.data.toList = O := ⟨_, rfl⟩
  have HO := hidd hO
  rw [hO]
  clear hO
  have HS := hidd (LS.start w)
  have k1 : decide (2000 < (s.size : Int)) = false := decide_eq_false (by omega)
  go_enter Tryd.func7, Tryd.ntmps7
  go_wp2_with fail
  go_loopw [4, 5] (fun u4 u5 wr => ∃ (i : Nat) (d : List Tok), u5 = .int .i64 i ∧ i ≤ s.size ∧ d.length ≤ i ∧ Hid (LS w wr u4 d) ∧ Hid ((line i (s.data.toList.drop i)).ahead d = O)) (fun _ u5 _ => s.size - (intOf u5).toNat)
  case atStart => exact ⟨0, [], rfl, by omega, by simp, HS, by rw [Hid, List.drop_zero, ahead_nil]; exact HO.out⟩
  case round =>
    obtain ⟨i, d, rfl, hi, hdl, HL, HI⟩ := hrel
    clear HO HS
    by_cases h : i < s.size
    · have h' : i < s.data.toList.length := h
      obtain ⟨c, hc⟩ : ∃ c, (s[i]'h).toNat = c := ⟨_, rfl⟩
      have hc2 : c < 256 := by rw [← hc]; exact (s[i]'h).toNat_lt
      have HC : Hid ((s.data.toList[i]'h').toNat = c) := hc
      by_cases h32 : c = 32
      · have k32 : ((c : Int) == 32) = true := by simp [h32]
        have HN := hidd (lin_blank h' (HC.out.trans h32) HI.out)
        go_wp2_with fail
        exact ⟨⟨i + 1, d, by simp, by omega, by omega, HL, HN⟩, by simp [intOf]; omega⟩
      have k32 : ((c : Int) == 32) = false := by simp; omega
      have HLet := hidd (fun w => rword_any c w hc2)
      by_cases hl : isLetter c = true
      · simp only [hl] at HLet
        as_aux_lemma =>
          obtain ⟨n, hn, hn0, hn1, t, hb, ht⟩ := word_at s h' (by rw [HC.out]; exact h32) (by rw [HC.out]; exact hl)
          have HN := hidd (lin_tok h' hb HI.out)
          have HE : Hid (i + 1 + sp alnum (s.data.toList.drop (i + 1)) = i + n) := by
            rw [Hid, ← hn]; exact (sp_step h' (by unfold alnum; rw [HC.out, hl]; rfl)).symm
          have HT := hidd ht
          clear hn hb ht
          go_wp2_with (go_at_call 18; refine (HLet.out _).mono ?_; rintro e w1 ⟨rfl, hw⟩; rw [hw]; clear hw)
          go_loopw [7] (fun v7 wr2 => ∃ j : Nat, v7 = .int .i64 j ∧ i + 1 ≤ j ∧ j ≤ s.size ∧ wr2 = wr ∧ Hid (j + sp alnum (s.data.toList.drop j) = i + n)) (fun v7 _ => s.size - (intOf v7).toNat)
          case atStart => exact ⟨i + 1, by simp, Nat.le_refl _, h, rfl, HE⟩
          case round =>
            obtain ⟨j, rfl, hij, hj, rfl, HJ⟩ := hrel
            by_cases h2 : j < s.size
            · have h2' : j < s.data.toList.length := h2
              obtain ⟨e, he⟩ : ∃ e, (s[j]'h2).toNat = e := ⟨_, rfl⟩
              have he2 : e < 256 := by rw [← he]; exact (s[j]'h2).toNat_lt
              have HE2 : Hid ((s.data.toList[j]'h2').toNat = e) := he
              have HP := hidd (fun w => rword_any e w he2)
              have HQ := hidd (fun w => rdigit_any e w he2)
              by_cases ha : isLetter e = true
              · have HX := hidd (sp_step (p := alnum) h2' (by unfold alnum; rw [HE2.out, ha]; rfl))
                simp only [ha] at HP
                go_wp2_with (go_at_call 18; refine (HP.out _).mono ?_; rintro e w1 ⟨rfl, hw⟩; rw [hw]; clear hw)
                exact ⟨⟨j + 1, by simp, by omega, by omega, trivial, by rw [Hid, ← HX.out]; exact HJ.out⟩, by simp [intOf]; omega⟩
              have ha' : isLetter e = false := by simpa using ha
              simp only [ha'] at HP
              by_cases hdg : isDigit e = true
              · have HX := hidd (sp_step (p := alnum) h2' (by unfold alnum; rw [HE2.out, hdg, Bool.or_true]))
                simp only [hdg] at HQ
                go_wp2_with (first | (go_at_call 18; refine (HP.out _).mono ?_; rintro e w1 ⟨rfl, hw⟩; rw [hw]; clear hw) | (go_at_call 19; refine (HQ.out _).mono ?_; rintro e w1 ⟨rfl, hw⟩; rw [hw]; clear hw))
                exact ⟨⟨j + 1, by simp, by omega, by omega, trivial, by rw [Hid, ← HX.out]; exact HJ.out⟩, by simp [intOf]; omega⟩
              have hdg' : isDigit e = false := by simpa using hdg
              simp only [hdg'] at HQ
              have hjn : j = i + n := by
                have h3 := sp_stop (p := alnum) h2' (by unfold alnum; rw [HE2.out, ha', hdg']; rfl)
                rw [← h3]; exact HJ.out
              subst hjn
              have hsl : i ≤ i + n := by omega
              obtain ⟨v', w', hap, hL2⟩ := tok_last HL.out (by omega) 1 t i (show (1 : Int) = ((1 : Nat) : Int) from rfl) HT.out 22 (t' := 32)
              have HL2 := hidd hL2
              clear hL2
              go_wp2_with (first | (go_at_call 18; refine (HP.out _).mono ?_; rintro e w1 ⟨rfl, hw⟩; rw [hw]; clear hw) | (go_at_call 19; refine (HQ.out _).mono ?_; rintro e w1 ⟨rfl, hw⟩; rw [hw]; clear hw) | (at_builtin; refine wpList_append_eq rfl rfl rfl rfl hap ?_))
              exact ⟨⟨i + n, d ++ [(1, t, i)], by simp, by omega, by simp; omega, HL2, HN⟩, by simp [intOf]; omega⟩
            · have hjn : j = i + n := by
                have h3 := sp_end (p := alnum) (l := s.data.toList) (i := j) (by rw [← size_data]; exact h2)
                rw [← h3]; exact HJ.out
              subst hjn
              have hsl : i ≤ i + n := by omega
              have hdl0 : decide (((i + n : Nat) : Int) < (s.size : Int)) = false := decide_eq_false (by omega)
              obtain ⟨v', w', hap, hL2⟩ := tok_last HL.out (by omega) 1 t i (show (1 : Int) = ((1 : Nat) : Int) from rfl) HT.out 22 (t' := 32)
              have HL2 := hidd hL2
              clear hL2
              go_wp2_with (at_builtin; refine wpList_append_eq rfl rfl rfl rfl hap ?_)
              exact ⟨⟨i + n, d ++ [(1, t, i)], by simp, by omega, by simp; omega, HL2, HN⟩, by simp [intOf]; omega⟩
      have hl' : isLetter c = false := by simpa using hl
      simp only [hl'] at HLet
      have HDig := hidd (fun w => rdigit_any c w hc2)
      by_cases hdg : isDigit c = true
      · simp only [hdg] at HDig
        as_aux_lemma =>
          obtain ⟨n, hn, hn0, hn1, t, hb, ht⟩ := num_at s h' (by rw [HC.out]; exact h32) (by rw [HC.out]; exact hl') (by rw [HC.out]; exact hdg)
          have HN := hidd (lin_tok h' hb HI.out)
          have HE : Hid (i + 1 + sp dig (s.data.toList.drop (i + 1)) = i + n) := by
            rw [Hid, ← hn]; exact (sp_step h' (by unfold dig; rw [HC.out, hdg])).symm
          have HT := hidd ht
          clear hn hb ht
          go_wp2_with (first | (go_at_call 18; refine (HLet.out _).mono ?_; rintro e w1 ⟨rfl, hw⟩; rw [hw]; clear hw) | (go_at_call 19; refine (HDig.out _).mono ?_; rintro e w1 ⟨rfl, hw⟩; rw [hw]; clear hw))
          go_loopw [7] (fun v7 wr2 => ∃ j : Nat, v7 = .int .i64 j ∧ i + 1 ≤ j ∧ j ≤ s.size ∧ wr2 = wr ∧ Hid (j + sp dig (s.data.toList.drop j) = i + n)) (fun v7 _ => s.size - (intOf v7).toNat)
          case atStart => exact ⟨i + 1, by simp, Nat.le_refl _, h, rfl, HE⟩
          case round =>
            obtain ⟨j, rfl, hij, hj, rfl, HJ⟩ := hrel
            by_cases h2 : j < s.size
            · have h2' : j < s.data.toList.length := h2
              obtain ⟨e, he⟩ : ∃ e, (s[j]'h2).toNat = e := ⟨_, rfl⟩
              have he2 : e < 256 := by rw [← he]; exact (s[j]'h2).toNat_lt
              have HE2 : Hid ((s.data.toList[j]'h2').toNat = e) := he
              have HQ := hidd (fun w => rdigit_any e w he2)
              by_cases hdg : isDigit e = true
              · have HX := hidd (sp_step (p := dig) h2' (by unfold dig; rw [HE2.out, hdg]))
                simp only [hdg] at HQ
                go_wp2_with (go_at_call 19; refine (HQ.out _).mono ?_; rintro e w1 ⟨rfl, hw⟩; rw [hw]; clear hw)
                exact ⟨⟨j + 1, by simp, by omega, by omega, trivial, by rw [Hid, ← HX.out]; exact HJ.out⟩, by simp [intOf]; omega⟩
              have hdg' : isDigit e = false := by simpa using hdg
              simp only [hdg'] at HQ
              have hjn : j = i + n := by
                have h3 := sp_stop (p := dig) h2' (by unfold dig; rw [HE2.out, hdg'])
                rw [← h3]; exact HJ.out
              subst hjn
              have hsl : i ≤ i + n := by omega
              obtain ⟨v', w', hap, hL2⟩ := tok_last HL.out (by omega) 2 t i (show (2 : Int) = ((2 : Nat) : Int) from rfl) HT.out 22 (t' := 32)
              have HL2 := hidd hL2
              clear hL2
              go_wp2_with (first | (go_at_call 19; refine (HQ.out _).mono ?_; rintro e w1 ⟨rfl, hw⟩; rw [hw]; clear hw) | (at_builtin; refine wpList_append_eq rfl rfl rfl rfl hap ?_))
              exact ⟨⟨i + n, d ++ [(2, t, i)], by simp, by omega, by simp; omega, HL2, HN⟩, by simp [intOf]; omega⟩
            · have hjn : j = i + n := by
                have h3 := sp_end (p := dig) (l := s.data.toList) (i := j) (by rw [← size_data]; exact h2)
                rw [← h3]; exact HJ.out
              subst hjn
              have hsl : i ≤ i + n := by omega
              have hdl0 : decide (((i + n : Nat) : Int) < (s.size : Int)) = false := decide_eq_false (by omega)
              obtain ⟨v', w', hap, hL2⟩ := tok_last HL.out (by omega) 2 t i (show (2 : Int) = ((2 : Nat) : Int) from rfl) HT.out 22 (t' := 32)
              have HL2 := hidd hL2
              clear hL2
              go_wp2_with (at_builtin; refine wpList_append_eq rfl rfl rfl rfl hap ?_)
              exact ⟨⟨i + n, d ++ [(2, t, i)], by simp, by omega, by simp; omega, HL2, HN⟩, by simp [intOf]; omega⟩
      have hdg' : isDigit c = false := by simpa using hdg
      simp only [hdg'] at HDig
      by_cases h39 : c = 39
      · have k39 : ((c : Int) == 39) = true := by simp [h39]
        have HC3 := hidd (HC.out.trans h39)
        clear h39
        as_aux_lemma =>
          have HV := hidd (rtext_any s i wr (by omega) h)
          cases hq : qLen (s.data.toList.drop (i + 1)) with
          | none =>
            rw [textV_no hq] at HV
            have HF := hidd (lin_loose h' (bite_quote_none HC3.out hq) HI.out)
            clear hq
            go_wp2_with (first | (go_at_call 18; refine (HLet.out _).mono ?_; rintro e w1 ⟨rfl, hw⟩; rw [hw]; clear hw) | (go_at_call 19; refine (HDig.out _).mono ?_; rintro e w1 ⟨rfl, hw⟩; rw [hw]; clear hw) | (go_at_call 20; refine (HV.out).mono ?_; rintro e w1 ⟨rfl, g1⟩; have hL3 := hidd (HL.out.kept g1); clear g1) | (refine wpList_store_bes (f := twoF (.int .i64 2) (.int .i64 (s.size : Nat))) rfl rfl rfl rfl hL3.out.fault info_fault (fun j _ => twoF_one _ _ rfl rfl j) ?_; intro w6 hF hb6))
            exact bodyPost_tmp_arr rfl rfl rfl hF Tryd.underlying25 rfl info_fault rfl (hL3.out.fell hb6 HF.out)
          | some q =>
            rw [textV_yes hq] at HV
            have hql := qLen_le _ _ q (Nat.le_refl _) hq
            have hql2 : q ≤ s.size - (i + 1) := by have := hql.2; rw [List.length_drop, ← size_data] at this; exact this
            have hql1 := hql.1
            have HN := hidd (lin_tok h' (bite_quote HC3.out hq) HI.out)
            obtain ⟨T, hT⟩ : ∃ T, qText (s.data.toList.drop (i + 1)) = T := ⟨_, rfl⟩
            rw [hT] at HV HN
            clear hq hql hT
            rw [show i + (1 + q) = i + 1 + q by omega] at HN
            go_wp2_with (first | (go_at_call 18; refine (HLet.out _).mono ?_; rintro e w1 ⟨rfl, hw⟩; rw [hw]; clear hw) | (go_at_call 19; refine (HDig.out _).mono ?_; rintro e w1 ⟨rfl, hw⟩; rw [hw]; clear hw) | (go_at_call 20; refine (HV.out).mono ?_; rintro e w1 ⟨rfl, g1⟩; have hL3 := hidd (HL.out.kept g1); clear g1; obtain ⟨v', w', hap, hL2⟩ := tok_last hL3.out (by omega) 3 T i (show (3 : Int) = ((3 : Nat) : Int) from rfl) rfl 22 (t' := 32); have HL2 := hidd hL2; clear hL2) | (at_builtin; refine wpList_append_eq rfl rfl rfl rfl hap ?_))
            exact ⟨⟨i + 1 + q, d ++ [(3, T, i)], by simp, by omega, by simp; omega, HL2, HN⟩, by simp [intOf]; omega⟩
      have k39 : ((c : Int) == 39) = false := by simp; omega
      by_cases h91 : c = 91
      · have k91 : ((c : Int) == 91) = true := by simp [h91]
        have HC9 := hidd (HC.out.trans h91)
        clear h91
        as_aux_lemma =>
          obtain ⟨R, hR⟩ : ∃ R, lenI (i + 1) (brk (s.data.toList.drop (i + 1))) = R := ⟨_, rfl⟩
          have HR := hidd hR
          have HFell : Hid (R = 0 → O = .bad s.size) := fun h0 => lin_loose h' (bite_brk_none HC9.out (by
            cases hq : brk (s.data.toList.drop (i + 1)) with
            | none => rfl
            | some q => rw [hq] at hR; simp only [lenI] at hR; omega)) HI.out
          have HDone : Hid (∀ j : Nat, i + 1 ≤ j → j < s.size → R = ((j + 1 : Nat) : Int) → Hid (s.extract (i + 1) j = txt ((s.data.toList.drop (i + 1)).take (j - (i + 1)))) ∧ Hid ((line (j + 1) (s.data.toList.drop (j + 1))).ahead (d ++ [(4, (s.data.toList.drop (i + 1)).take (j - (i + 1)), i)]) = O)) := fun j hj0 hj1 h0 => by
            have hq : brk (s.data.toList.drop (i + 1)) = some (j - i) := by
              cases hq : brk (s.data.toList.drop (i + 1)) with
              | none => rw [hq] at hR; simp only [lenI] at hR; omega
              | some q => rw [hq] at hR; simp only [lenI] at hR; congr 1; omega
            refine ⟨?_, ?_⟩
            · have e := part_eq s (i + 1) (j - (i + 1))
              rw [show i + 1 + (j - (i + 1)) = j by omega] at e
              exact e
            · have hn := lin_tok h' (bite_brk HC9.out hq) HI.out
              rw [show i + (1 + (j - i)) = j + 1 by omega, show j - i - 1 = j - (i + 1) by omega] at hn
              exact hn
          clear hR
          go_wp2_with (first | (go_at_call 18; refine (HLet.out _).mono ?_; rintro e w1 ⟨rfl, hw⟩; rw [hw]; clear hw) | (go_at_call 19; refine (HDig.out _).mono ?_; rintro e w1 ⟨rfl, hw⟩; rw [hw]; clear hw))
          go_loopw [11] (fun v11 wr2 => ∃ j : Nat, v11 = .int .i64 j ∧ i + 1 ≤ j ∧ j ≤ s.size ∧ Hid (LS w wr2 u4 d) ∧ Hid (lenI j (brk (s.data.toList.drop j)) = R)) (fun v11 _ => s.size - (intOf v11).toNat)
          case atStart => exact ⟨i + 1, by simp, Nat.le_refl _, h, HL, HR⟩
          case round =>
            clear HL HR
            obtain ⟨j, rfl, hij, hj, HL, HJ⟩ := hrel
            by_cases h2 : j < s.size
            · have h2' : j < s.data.toList.length := h2
              obtain ⟨e, he⟩ : ∃ e, (s[j]'h2).toNat = e := ⟨_, rfl⟩
              have HE2 : Hid ((s.data.toList[j]'h2').toNat = e) := he
              by_cases h93 : e = 93
              · have k93 : ((e : Int) != 93) = false := by simp [h93]
                have HX := hidd (HDone.out j hij h2 (by rw [← HJ.out]; exact brk_stop h2' (HE2.out.trans h93)))
                clear h93
                obtain ⟨T, hT⟩ : ∃ T, (s.data.toList.drop (i + 1)).take (j - (i + 1)) = T := ⟨_, rfl⟩
                rw [hT] at HX
                clear hT
                have HT := hidd HX.out.1.out
                have HN := hidd HX.out.2.out
                clear HX
                have hge : decide ((s.size : Int) ≤ (j : Int)) = false := decide_eq_false (by omega)
                have hsl : i + 1 ≤ j := hij
                obtain ⟨v', w', hap, hL2⟩ := tok_last HL.out (by omega) 4 T i (show (4 : Int) = ((4 : Nat) : Int) from rfl) HT.out 22 (t' := 32)
                have HL2 := hidd hL2
                clear hL2
                go_wp2_with (at_builtin; refine wpList_append_eq rfl rfl rfl rfl hap ?_)
                exact ⟨⟨j + 1, d ++ [(4, T, i)], by simp, by omega, by simp; omega, HL2, HN⟩, by simp [intOf]; omega⟩
              have k93 : ((e : Int) != 93) = true := by simp; omega
              by_cases h39 : e = 39
              · have k39 : ((e : Int) == 39) = true := by simp [h39]
                have HV := hidd (rtext_any s j wr (by omega) h2)
                have HE3 := hidd (HE2.out.trans h39)
                clear h39
                cases hq : qLen (s.data.toList.drop (j + 1)) with
                | none =>
                  rw [textV_no hq] at HV
                  have HF := hidd (HFell.out (by rw [← HJ.out]; exact brk_none h2' HE3.out hq))
                  clear hq
                  go_wp2_with (first | (go_at_call 20; refine (HV.out).mono ?_; rintro e w1 ⟨rfl, g1⟩; have hL3 := hidd (HL.out.kept g1); clear g1) | (refine wpList_store_bes (f := twoF (.int .i64 2) (.int .i64 (s.size : Nat))) rfl rfl rfl rfl hL3.out.fault info_fault (fun j _ => twoF_one _ _ rfl rfl j) ?_; intro w6 hF hb6))
                  exact bodyPost_tmp_arr rfl rfl rfl hF Tryd.underlying25 rfl info_fault rfl (hL3.out.fell hb6 HF.out)
                | some q =>
                  rw [textV_yes hq] at HV
                  have HX := hidd (brk_some h2' HE3.out hq)
                  have hql := qLen_le _ _ q (Nat.le_refl _) hq
                  have hql2 : q ≤ s.size - (j + 1) := by have := hql.2; rw [List.length_drop, ← size_data] at this; exact this
                  have hql1 := hql.1
                  clear hq hql
                  go_wp2_with (first | (go_at_call 20; refine (HV.out).mono ?_; rintro e w1 ⟨rfl, g1⟩; have hL3 := hidd (HL.out.kept g1); clear g1))
                  exact ⟨⟨j + 1 + q, by simp, by omega, by omega, hL3, by rw [Hid, ← HX.out]; exact HJ.out⟩, by simp [intOf]; omega⟩
              · have k39 : ((e : Int) == 39) = false := by simp; omega
                have HX := hidd (brk_skip h2' (by rw [HE2.out]; exact h93) (by rw [HE2.out]; exact h39))
                go_wp2_with fail
                exact ⟨⟨j + 1, by simp, by omega, by omega, HL, by rw [Hid, ← HX.out]; exact HJ.out⟩, by simp [intOf]; omega⟩
            · have hjn : j = s.size := by omega
              have HF := hidd (HFell.out (by rw [← HJ.out, List.drop_eq_nil_of_le (by rw [← size_data]; omega)]; rfl))
              subst hjn
              go_wp2_with (refine wpList_store_bes (f := twoF (.int .i64 2) (.int .i64 (s.size : Nat))) rfl rfl rfl rfl HL.out.fault info_fault (fun j _ => twoF_one _ _ rfl rfl j) ?_; intro w6 hF hb6)
              exact bodyPost_tmp_arr rfl rfl rfl hF Tryd.underlying25 rfl info_fault rfl (HL.out.fell hb6 HF.out)
      have k91 : ((c : Int) == 91) = false := by simp; omega
      have HFL : Hid (signs.contains c = false → O = .bad i) := fun hs => lin_lost h' (bite_lost (by rw [HC.out]; exact h32) (by rw [HC.out]; exact hl') (by rw [HC.out]; exact hdg') (by rw [HC.out]; exact h39) (by rw [HC.out]; exact h91) (by rw [HC.out]; intro h5; rw [h5.1] at hs; exact absurd hs (by decide)) (by rw [HC.out]; exact hs)) HI.out
      have HOne0 : Hid (¬ (c = 58 ∧ equalsNext (s.data.toList.drop (i + 1)) = true) → Hid (signs.contains c = true → s.extract i (i + 1) = txt [s.data.toList[i]] ∧ (line (i + 1) (s.data.toList.drop (i + 1))).ahead (d ++ [(5, [s.data.toList[i]], i)]) = O)) := fun hap2 hs => by
        have e := part_eq s i 1
        rw [drop_at h'] at e
        exact ⟨e, lin_tok h' (bite_sign (by rw [HC.out]; exact h32) (by rw [HC.out]; exact hl') (by rw [HC.out]; exact hdg') (by rw [HC.out]; exact h39) (by rw [HC.out]; exact h91) (by rw [HC.out]; exact hap2) (by rw [HC.out]; exact hs)) HI.out⟩
      go_upto_region 39 with (first | (go_at_call 18; refine (HLet.out _).mono ?_; rintro e w1 ⟨rfl, hw⟩; rw [hw]; clear hw) | (go_at_call 19; refine (HDig.out _).mono ?_; rintro e w1 ⟨rfl, hw⟩; rw [hw]; clear hw))
      go_cut [174] (fun s174 wx => s174 = .bool (assignB c (s.data.toList.drop (i + 1))) ∧ wx = wr)
      case first =>
        by_cases h58 : c = 58
        · have k58 : ((c : Int) == 58) = true := by simp [h58]
          by_cases h1 : i + 1 < s.size
          · have h1' : i + 1 < s.data.toList.length := h1
            obtain ⟨e, he⟩ : ∃ e, (s[i + 1]'h1).toNat = e := ⟨_, rfl⟩
            have HE2 : Hid ((s.data.toList[i + 1]'h1').toNat = e) := he
            have hle : decide ((i : Int) + 1 < (s.size : Int)) = true := decide_eq_true (by omega)
            by_cases h61 : e = 61
            · have k61 : ((e : Int) == 61) = true := by simp [h61]
              have HB : Hid (true = assignB c (s.data.toList.drop (i + 1))) := by unfold assignB; rw [equals_at h1', HE2.out, h61, h58]; rfl
              clear h61 h58
              go_wp2_with (first | (go_at_call 18; refine (HLet.out _).mono ?_; rintro e w1 ⟨rfl, hw⟩; rw [hw]; clear hw) | (go_at_call 19; refine (HDig.out _).mono ?_; rintro e w1 ⟨rfl, hw⟩; rw [hw]; clear hw))
              go_meet
              exact ⟨by rw [← HB.out], rfl⟩
            · have k61 : ((e : Int) == 61) = false := by simp; omega
              have HB : Hid (false = assignB c (s.data.toList.drop (i + 1))) := by unfold assignB; rw [equals_at h1', HE2.out, decide_eq_false h61, Bool.and_false]; rfl
              clear h58
              go_wp2_with (first | (go_at_call 18; refine (HLet.out _).mono ?_; rintro e w1 ⟨rfl, hw⟩; rw [hw]; clear hw) | (go_at_call 19; refine (HDig.out _).mono ?_; rintro e w1 ⟨rfl, hw⟩; rw [hw]; clear hw))
              go_meet
              exact ⟨by rw [← HB.out], rfl⟩
          · have hle : decide ((i : Int) + 1 < (s.size : Int)) = false := decide_eq_false (by omega)
            have HB : Hid (false = assignB c (s.data.toList.drop (i + 1))) := by unfold assignB; rw [equals_end (by rw [← size_data]; exact h1), Bool.and_false]; rfl
            clear h58
            go_wp2_with (first | (go_at_call 18; refine (HLet.out _).mono ?_; rintro e w1 ⟨rfl, hw⟩; rw [hw]; clear hw) | (go_at_call 19; refine (HDig.out _).mono ?_; rintro e w1 ⟨rfl, hw⟩; rw [hw]; clear hw))
            go_meet
            exact ⟨by rw [← HB.out], rfl⟩
        · have k58 : ((c : Int) == 58) = false := by simp; omega
          have HB : Hid (false = assignB c (s.data.toList.drop (i + 1))) := by unfold assignB; rw [decide_eq_false h58, Bool.false_and]; rfl
          go_wp2_with (first | (go_at_call 18; refine (HLet.out _).mono ?_; rintro e w1 ⟨rfl, hw⟩; rw [hw]; clear hw) | (go_at_call 19; refine (HDig.out _).mono ?_; rintro e w1 ⟨rfl, hw⟩; rw [hw]; clear hw))
          go_meet
          exact ⟨by rw [← HB.out], rfl⟩
      case rest =>
      obtain ⟨rfl, rfl⟩ := hcut
      obtain ⟨bb, hbb⟩ : ∃ bb, assignB c (s.data.toList.drop (i + 1)) = bb := ⟨_, rfl⟩
      have HBB := hidd hbb
      rw [hbb]
      clear hbb
      go_upto_if 174 with fail
      go_cut [7] (fun s7 wx => ∃ (n : Nat) (T : List UInt8), s7 = .int .i64 ((i + n : Nat) : Int) ∧ 0 < n ∧ i + n ≤ s.size ∧ wx = wc ∧ Hid (signs.contains c = true → s.extract i (i + n) = txt T ∧ (line (i + n) (s.data.toList.drop (i + n))).ahead (d ++ [(5, T, i)]) = O))
      case first =>
        cases bb with
        | true =>
          have hap2 : c = 58 ∧ equalsNext (s.data.toList.drop (i + 1)) = true := by
            have := HBB.out; unfold assignB at this; simpa using this
          have hbt := bite_assign (HC.out.trans hap2.1) hap2.2
          have hi2 : i + 2 ≤ s.size := by
            have hk := (bite_kind hbt).2.1
            rw [List.length_drop, ← size_data] at hk
            omega
          have HTwo : Hid (signs.contains c = true → s.extract i (i + 2) = txt [58, 61] ∧ (line (i + 2) (s.data.toList.drop (i + 2))).ahead (d ++ [(5, [58, 61], i)]) = O) := fun _ => by
            refine ⟨?_, lin_tok h' hbt HI.out⟩
            have e1 := part_eq s i 2
            have hk := bite_kind hbt
            rcases hk.2.2 with ⟨h1, _⟩ | ⟨h1, _⟩ | ⟨_, _, h1⟩
            · omega
            · omega
            · rw [drop_at h', h1] at e1; exact e1
          clear hap2 hbt
          go_wp2_with fail
          go_meet
          exact ⟨2, [58, 61], by first | (simp; done) | (simp; omega), by omega, hi2, rfl, HTwo⟩
        | false =>
          have HOne := hidd (HOne0.out (fun h5 => by
            have := HBB.out; unfold assignB at this; rw [h5.2, h5.1] at this; exact absurd this (by decide)))
          go_wp2_with fail
          go_meet
          exact ⟨1, [s.data.toList[i]], by simp, by omega, by omega, rfl, HOne⟩
      case rest =>
        obtain ⟨n, T, rfl, hn0, hn1, rfl, HG⟩ := hcut
        have HLS := hidd (HL.out.kept ((Grew.refl wc).alloc (.cells #[.int .u8 61, .int .u8 63, .int .u8 38, .int .u8 43, .int .u8 45, .int .u8 42, .int .u8 47, .int .u8 37, .int .u8 40, .int .u8 41, .int .u8 60, .int .u8 62, .int .u8 44, .int .u8 58, .int .u8 36] 5 (15, 16))))
        have kc : (convert 41 41 (.slice (some ⟨wc.heap.size, 0, none⟩) 15 15)).run Tryd.prog (wc.alloc (.cells #[.int .u8 61, .int .u8 63, .int .u8 38, .int .u8 43, .int .u8 45, .int .u8 42, .int .u8 47, .int .u8 37, .int .u8 40, .int .u8 41, .int .u8 60, .int .u8 62, .int .u8 44, .int .u8 58, .int .u8 36] 5)) = .ok (.slice (some ⟨wc.heap.size, 0, none⟩) 15 15) (wc.alloc (.cells #[.int .u8 61, .int .u8 63, .int .u8 38, .int .u8 43, .int .u8 45, .int .u8 42, .int .u8 47, .int .u8 37, .int .u8 40, .int .u8 41, .int .u8 60, .int .u8 62, .int .u8 44, .int .u8 58, .int .u8 36] 5 (15, 16))) := Lib.run_convert_bytes_const (P := Tryd.prog) wc 41 5 #[.int .u8 61, .int .u8 63, .int .u8 38, .int .u8 43, .int .u8 45, .int .u8 42, .int .u8 47, .int .u8 37, .int .u8 40, .int .u8 41, .int .u8 60, .int .u8 62, .int .u8 44, .int .u8 58, .int .u8 36] 15 15 Tryd.underlying41 Tryd.underlying5
        go_wp2_with fail
        go_loopw [15, 180] (fun v15 v180 wr2 => ∃ (k : Nat) (kb : Bool), v180 = .int .i64 k ∧ v15 = .bool kb ∧ k ≤ 15 ∧ wr2 = (wc.alloc (.cells #[.int .u8 61, .int .u8 63, .int .u8 38, .int .u8 43, .int .u8 45, .int .u8 42, .int .u8 47, .int .u8 37, .int .u8 40, .int .u8 41, .int .u8 60, .int .u8 62, .int .u8 44, .int .u8 58, .int .u8 36] 5 (15, 16))) ∧ Hid ((signs.take k).contains c = kb)) (fun _ v180 _ => 15 - (intOf v180).toNat)
        case atStart => exact ⟨0, false, rfl, rfl, by omega, rfl, rfl⟩
        case round =>
          obtain ⟨k, kb, rfl, rfl, hk, rfl, HK⟩ := hrel
          by_cases hk1 : k < 15
          · have c0 := sg_cell wc k hk1
            have HX := hidd (sg_next k c hk1)
            obtain ⟨y, hy⟩ : ∃ y, signs.getD k 0 = y := ⟨_, rfl⟩
            rw [hy] at c0 HX
            rw [HK.out] at HX
            clear hy
            have hkl : decide ((k : Int) < 15) = true := decide_eq_true (by omega)
            cases kb with
            | true =>
              go_wp2_with fail
              exact ⟨⟨k + 1, true, by simp, rfl, by omega, trivial, by rw [Hid, HX.out]; rfl⟩, by simp [intOf]; omega⟩
            | false =>
              by_cases hyc : y = c
              · have kyc : ((y : Int) == (c : Int)) = true := by simp [hyc]
                have HX2 : Hid ((signs.take (k + 1)).contains c = true) := by rw [Hid, HX.out]; simp [hyc]
                clear hyc HX
                go_wp2_with fail
                exact ⟨⟨k + 1, true, by simp, rfl, by omega, trivial, HX2⟩, by simp [intOf]; omega⟩
              · have kyc : ((y : Int) == (c : Int)) = false := by simp; omega
                have HX2 : Hid ((signs.take (k + 1)).contains c = false) := by rw [Hid, HX.out]; simp [hyc]
                clear HX
                go_wp2_with fail
                exact ⟨⟨k + 1, false, by simp, rfl, by omega, trivial, HX2⟩, by simp [intOf]; omega⟩
          · have hkl : decide ((15 : Int) < 15) = false := rfl
            have hkb : signs.contains c = kb := by rw [← HK.out, show k = 15 by omega, sg_end]
            have hk15 : k = 15 := by omega
            subst hk15
            cases kb with
            | true =>
              obtain ⟨h1, h2⟩ := HG.out hkb
              have HN := hidd h2
              obtain ⟨v', w', hap, hL2⟩ := tok_behind HL.out (.cells #[.int .u8 61, .int .u8 63, .int .u8 38, .int .u8 43, .int .u8 45, .int .u8 42, .int .u8 47, .int .u8 37, .int .u8 40, .int .u8 41, .int .u8 60, .int .u8 62, .int .u8 44, .int .u8 58, .int .u8 36] 5 (15, 16)) (by omega) 5 T i (show (5 : Int) = ((5 : Nat) : Int) from rfl) h1 22 (t' := 32)
              have HL2 := hidd hL2
              clear hL2 h1 h2 hkb HG
              have hsl : i ≤ i + n := by omega
              go_wp2_with (at_builtin; refine wpList_append_eq rfl rfl rfl rfl hap ?_)
              go_roundw
              case rel => exact ⟨i + n, d ++ [(5, T, i)], by first | (simp; done) | (simp; omega), by omega, by simp; omega, HL2, HN⟩
              case measure => simp [intOf]; omega
            | false =>
              have HF := hidd (HFL.out hkb)
              clear hkb HG
              go_wp2_with (refine wpList_store_bes (f := twoF (.int .i64 2) (.int .i64 (i : Nat))) rfl rfl rfl rfl HLS.out.fault info_fault (fun j _ => twoF_one _ _ rfl rfl j) ?_; intro w6 hF hb6)
              exact bodyPost_tmp_arr rfl rfl rfl hF Tryd.underlying25 rfl info_fault rfl (HLS.out.fell hb6 HF.out)
    · have HF := hidd (lin_done (by rw [← size_data]; exact h) HI.out)
      have hdl0 : decide ((i : Int) < (s.size : Int)) = false := decide_eq_false (by omega)
      go_wp2_with (refine wpList_store_bes (f := twoF (.int .i64 0) (.int .i64 0)) rfl rfl rfl rfl HL.out.fault info_fault (fun j _ => twoF_one _ _ rfl rfl j) ?_; intro w6 hF hb6)
      exact bodyPost_tmp_arr rfl rfl rfl hF Tryd.underlying25 rfl info_fault rfl (HL.out.tell hb6 HF.out)
end Go.Proofs.YtlpjoakdhblbaaaDoor
