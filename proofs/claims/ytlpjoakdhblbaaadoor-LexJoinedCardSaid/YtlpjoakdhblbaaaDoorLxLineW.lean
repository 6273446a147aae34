/- lex.Line: at every text of a line's length, the walk. -/
import Derived.Test.YtlpjoakdhblbaaaDoorLxLine
import Derived.Test.YtlpjoakdhblbaaaDoorShelfB
import Derived.Lib.SplitLaws
namespace Go.Proofs.YtlpjoakdhblbaaaDoor
open Go.RowKit
set_option linter.unusedVariables false
theorem bite_quote_none {c : UInt8} {l : List UInt8} (hc : c.toNat = 39) (hq : qLen l = none) : bite c l = .loose := by
  unfold bite; rw [hc]; simp [isLetter, isDigit, hq]
theorem bite_quote {c : UInt8} {l : List UInt8} {q : Nat} (hc : c.toNat = 39) (hq : qLen l = some q) : bite c l = .tok 3 (qText l) (1 + q) := by
  unfold bite; rw [hc]; simp [isLetter, isDigit, hq]
theorem bite_brk_none {c : UInt8} {l : List UInt8} (hc : c.toNat = 91) (hq : brk l = none) : bite c l = .loose := by
  unfold brk at hq
  unfold bite; rw [hc]; simp [isLetter, isDigit, hq]
theorem bite_brk {c : UInt8} {l : List UInt8} {q : Nat} (hc : c.toNat = 91) (hq : brk l = some q) : bite c l = .tok 4 (l.take (q - 1)) (1 + q) := by
  unfold brk at hq
  unfold bite; rw [hc]; simp [isLetter, isDigit, hq]
theorem bite_assign {c : UInt8} {l : List UInt8} (hc : c.toNat = 58) (hq : equalsNext l = true) : bite c l = .tok 5 [58, 61] 2 := by
  unfold bite; rw [hc]; simp [isLetter, isDigit, hq]
section
variable {c : UInt8} {l : List UInt8} (h1 : c.toNat ≠ 32) (h2 : isLetter c.toNat = false) (h3 : isDigit c.toNat = false) (h4 : c.toNat ≠ 39) (h5 : c.toNat ≠ 91) (h6 : ¬ (c.toNat = 58 ∧ equalsNext l = true))
include h1 h2 h3 h4 h5 h6
theorem bite_sign (h7 : signs.contains c.toNat = true) : bite c l = .tok 5 [c] 1 := by
  unfold bite; rw [if_neg h1, if_neg (by simp [h2]), if_neg (by simp [h3]), if_neg h4, if_neg h5, if_neg h6, if_pos h7]
theorem bite_lost (h7 : signs.contains c.toNat = false) : bite c l = .lost := by
  unfold bite; rw [if_neg h1, if_neg (by simp [h2]), if_neg (by simp [h3]), if_neg h4, if_neg h5, if_neg h6, if_neg (by rw [h7]; simp)]
end
/-- What Line's asking for the sign says. -/
def assignB (c : Nat) (l : List UInt8) : Bool := decide (c = 58) && equalsNext l
theorem assign_prefix {l : List UInt8} {i : Nat} (h : i < l.length) : Lib.hasPrefix (l.drop i) [58, 61] = assignB (l[i]).toNat (l.drop (i + 1)) := by
  rw [drop_at h]
  have hb : ((58 : UInt8) == l[i]) = decide ((l[i]).toNat = 58) := by
    rw [Bool.eq_iff_iff, beq_iff_eq, decide_eq_true_eq]
    exact ⟨fun e => by rw [← e]; rfl, fun e => UInt8.toNat_inj.1 e.symm⟩
  unfold Lib.hasPrefix assignB
  rw [List.isPrefixOf, hb]
  congr 1
  cases l.drop (i + 1) with
  | nil => rfl
  | cons d t =>
    rw [List.isPrefixOf]
    have hb2 : ((61 : UInt8) == d) = (d.toNat == 61) := by
      rw [Bool.eq_iff_iff, beq_iff_eq, beq_iff_eq]
      exact ⟨fun e => by rw [← e]; rfl, fun e => UInt8.toNat_inj.1 e.symm⟩
    rw [hb2]; simp [equalsNext, List.isPrefixOf]
def sgnI (c : Nat) : Int := Lib.indexByte [61, 63, 38, 43, 45, 42, 47, 37, 40, 41, 60, 62, 44, 58, 36] (c : Int).toNat.toUInt8
set_option maxRecDepth 100000 in
theorem sgn_all : ∀ c, c < 256 → decide (0 ≤ sgnI c) = signs.contains c := by decide
theorem prefix_any (s : ByteArray) (i : Nat) (h : i < s.data.toList.length) {c : Nat} (hc : (s.data.toList[i]).toNat = c) (w : World) : Calls Tryd.prog 16 #[.string (s.extract i s.size), .string ⟨#[58, 61]⟩] w fun e w' => e = .returned (.bool (assignB c (s.data.toList.drop (i + 1)))) ∧ w' = w := by
  have := Tryd.strings_HasPrefix (s.extract i s.size) ⟨#[58, 61]⟩ w
  rw [rest_data] at this
  have e : Lib.hasPrefix (s.data.toList.drop i) [58, 61] = assignB c (s.data.toList.drop (i + 1)) := by rw [assign_prefix h, hc]
  rw [← e]
  exact this
theorem rep_any (s : ByteArray) (m : Int) (w : World) (hs : s.size ≤ 100000) (hm : w.cell? ⟨0, 0, none⟩ = some (.int .i64 m)) : Calls Tryd.prog 14 #[.string s, .string ⟨#[39, 39]⟩, .string ⟨#[39]⟩] w fun e w' => e = .returned (.string (txt (Lib.replaceAll s.data.toList [39, 39] [39]))) ∧ Grew w w' := by
  have h1 := Lib.countB_le ⟨#[39, 39]⟩ (by decide) s.size s (Nat.le_refl _)
  have h2 : (⟨#[39]⟩ : ByteArray).size = 1 := rfl
  exact Tryd.strings_ReplaceAll s ⟨#[39, 39]⟩ ⟨#[39]⟩ m w (by omega) hm (by decide) (by rw [h2]; omega)
theorem quote_text (s : ByteArray) (i q : Nat) (hq : qLen (s.data.toList.drop (i + 1)) = some q) : txt (Lib.replaceAll (s.extract (i + 1) (i + q)).data.toList [39, 39] [39]) = txt (qText (s.data.toList.drop (i + 1))) := by
  have e := Lib.extract_data s (i + 1) (i + q)
  rw [e, show i + q - (i + 1) = q - 1 by omega, inside_text _ _ q (Nat.le_refl _) hq]
theorem tok_cells (w : World) (a : Int) : (w.alloc (.cells #[.int .i64 0, .string ⟨#[]⟩, .int .i64 a] 32)).drew.cell? ⟨w.heap.size, 0, none⟩ = some (.int .i64 0) ∧ (w.alloc (.cells #[.int .i64 0, .string ⟨#[]⟩, .int .i64 a] 32)).drew.cell? ⟨w.heap.size, 1, none⟩ = some (.string ⟨#[]⟩) ∧
    (w.alloc (.cells #[.int .i64 0, .string ⟨#[]⟩, .int .i64 a] 32)).drew.frozen? ⟨w.heap.size, 0, none⟩ = false ∧ (w.alloc (.cells #[.int .i64 0, .string ⟨#[]⟩, .int .i64 a] 32)).drew.frozen? ⟨w.heap.size, 1, none⟩ = false :=
  ⟨(tok_new w a).drew.at0 0 (by omega), (tok_new w a).drew.at0 1 (by omega), (tok_new w a).drew.free0 0 (by omega), (tok_new w a).drew.free0 1 (by omega)⟩
theorem tok_more {w wr : World} {v : Value} {d : List Tok} (h : LS w wr v d) (hl : d.length ≤ 1000000) {kd : Int} {q : ByteArray} (k : Nat) (t : List UInt8) (i : Nat) (hk : kd = (k : Int)) (hq : q = txt t) (ty : TypeId) {t' : TypeId} :
    ∃ v' w', (Builtin.append_ #[22, 22] ty #[v, .slice (some ⟨wr.heap.size + 1, 0, none⟩) 1 1]).run Tryd.prog ((wr.alloc (.cells #[.int .i64 kd, .string q, .int .i64 i] 32)).alloc (.cells #[.int .i64 kd, .string q, .int .i64 i] t')) = .ok v' w' ∧ LS w w' v' (d ++ [(k, t, i)]) := by
  have h1 := h.kept ((Grew.refl wr).alloc (.cells #[.int .i64 kd, .string q, .int .i64 i] 32))
  obtain ⟨v', w', e, ho, hb⟩ := own_tok h1.own (by have := h.size; simp; omega) (k, t, i) hk hq hl ty (t' := t')
  have hz : (wr.alloc (.cells #[.int .i64 kd, .string q, .int .i64 i] 32)).heap.size = wr.heap.size + 1 := by simp
  rw [hz] at e
  exact ⟨v', w', e, h1.more hb ho⟩
theorem tok_last {w wr : World} {v : Value} {d : List Tok} (h : LS w wr v d) (hl : d.length ≤ 1000000) {kd : Int} {q : ByteArray} (k : Nat) (t : List UInt8) (i : Nat) (hk : kd = (k : Int)) (hq : q = txt t) (ty : TypeId) {t' : TypeId} :
    ∃ v' w', (Builtin.append_ #[22, 22] ty #[v, .slice (some ⟨wr.heap.size, 0, none⟩) 1 1]).run Tryd.prog (wr.alloc (.cells #[.int .i64 kd, .string q, .int .i64 i] t')) = .ok v' w' ∧ LS w w' v' (d ++ [(k, t, i)]) := by
  obtain ⟨v', w', e, ho, hb⟩ := own_tok h.own h.size (k, t, i) hk hq hl ty (t' := t')
  exact ⟨v', w', e, h.more hb ho⟩
theorem tok_grew {w w1 : World} {a : Int} (g : Grew (w.alloc (.cells #[.int .i64 0, .string ⟨#[]⟩, .int .i64 a] 32)) w1) : w1.cell? ⟨w.heap.size, 0, none⟩ = some (.int .i64 0) ∧ w1.cell? ⟨w.heap.size, 1, none⟩ = some (.string ⟨#[]⟩) ∧
    w1.frozen? ⟨w.heap.size, 0, none⟩ = false ∧ w1.frozen? ⟨w.heap.size, 1, none⟩ = false ∧ w1.cell? ⟨w.heap.size, 2, none⟩ = some (.int .i64 a) :=
  have h := (tok_new w a).kept g
  ⟨h.at0 0 (by omega), h.at0 1 (by omega), h.free0 0 (by omega), h.free0 1 (by omega), h.at0 2 (by omega)⟩
theorem tok_text {w wr w1 : World} {v : Value} {d : List Tok} {i : Nat} (h : LS w wr v d) (g : Grew (wr.alloc (.cells #[.int .i64 0, .string ⟨#[]⟩, .int .i64 i] 32)) w1) (hl : d.length ≤ 1000000) {q : ByteArray} (t : List UInt8) (hq : q = txt t) (ty : TypeId) {t' : TypeId} :
    ∃ v' w', (Builtin.append_ #[22, 22] ty #[v, .slice (some ⟨w1.heap.size, 0, none⟩) 1 1]).run Tryd.prog (((w1.setCell ⟨wr.heap.size, 0, none⟩ (.int .i64 3)).setCell ⟨wr.heap.size, 1, none⟩ (.string q)).alloc (.cells #[.int .i64 3, .string q, .int .i64 i] t')) = .ok v' w' ∧ LS w w' v' (d ++ [(3, t, i)]) := by
  have h1 := h.kept ((((Grew.refl wr).alloc _).trans g).setCell (p := ⟨wr.heap.size, 0, none⟩) (Nat.le_refl _) (.int .i64 3) |>.setCell (p := ⟨wr.heap.size, 1, none⟩) (Nat.le_refl _) (.string q))
  obtain ⟨v', w', e, k⟩ := tok_last h1 hl (kd := 3) 3 t i rfl hq ty (t' := t')
  refine ⟨v', w', ?_, k⟩
  have hz : ((w1.setCell ⟨wr.heap.size, 0, none⟩ (.int .i64 3)).setCell ⟨wr.heap.size, 1, none⟩ (.string q)).heap.size = w1.heap.size := by simp
  rw [hz] at e
  exact e
theorem LS.drew {w wr : World} {v : Value} {d : List Tok} (h : LS w wr v d) : LS w wr.drew v d := h.kept (Grew.refl _).drew
theorem OwnT.beside {w w' : World} {B a : Nat} {v : Value} {l : List Tok} (h : OwnT w B v l) (ha : a < B) (b : Beside a w w') : OwnT w' B v l := by
  refine ⟨h.1, ?_⟩
  rcases h.2 with hn | ⟨g, cap, cur, rfl, hb, hgg, rest⟩
  · exact .inl hn
  · exact .inr ⟨g, cap, cur, rfl, hb, by rw [b.block g (by omega)]; exact hgg, rest⟩
theorem LS.tell {w wr w' : World} {v : Value} {d : List Tok} {O : Out} (h : LS w wr v d) (b : Beside w.heap.size wr w') (hO : O = .fine d) : LineEnd w O (.returned (.tuple #[v, .agg (rowB 2 (twoF (.int .i64 0) (.int .i64 0)))])) w' := by
  subst hO
  exact ⟨h.grew.below b.below (Nat.le_refl _), v, rfl, (h.own.beside (by omega) b).mono (by omega)⟩
theorem LS.fell {w wr w' : World} {v : Value} {d : List Tok} {O : Out} {a : Nat} (h : LS w wr v d) (b : Beside w.heap.size wr w') (hO : O = .bad a) : LineEnd w O (.returned (.tuple #[.slice none 0 0, .agg (rowB 2 (twoF (.int .i64 2) (.int .i64 a)))])) w' := by
  subst hO
  exact ⟨h.grew.below b.below (Nat.le_refl _), rfl⟩
set_option maxHeartbeats 16000000 in
set_option maxRecDepth 8000 in
theorem Line_any (s : ByteArray) (m : Int) (w : World) (hs : s.size ≤ 2000) (hm : w.cell? ⟨0, 0, none⟩ = some (.int .i64 m)) : Calls Tryd.prog 6 #[.string s] w (LineEnd w (line 0 s.data.toList)) := by
  obtain ⟨O, hO⟩ : ∃ O, line 0 s.data.toList = O := ⟨_, rfl⟩
  have HO := hidd hO
  rw [hO]
  clear hO
  have HM := hidd hm
  clear hm
  have HS := hidd (LS.start w)
  have k1 : decide (2000 < (s.size : Int)) = false := decide_eq_false (by omega)
  go_enter Tryd.func6, Tryd.ntmps6
  go_wp2_with fail
  go_loopw [4, 5] (fun u4 u5 wr => ∃ (i : Nat) (d : List Tok), u5 = .int .i64 i ∧ i ≤ s.size ∧ d.length ≤ i ∧ Hid (LS w wr u4 d) ∧ Hid ((line i (s.data.toList.drop i)).ahead d = O)) (fun _ u5 _ => s.size - (intOf u5).toNat)
  case atStart => exact ⟨0, [], rfl, by omega, by simp, HS, by rw [Hid, List.drop_zero, ahead_nil]; exact HO.out⟩
  case round =>
    obtain ⟨i, d, rfl, hi, hdl, HL, HI⟩ := hrel
    clear HO HS
    by_cases h : i < s.size
    · have h' : i < s.data.toList.length := h
      obtain ⟨c, hc⟩ : ∃ c, (s[i]'h).toNat = c := ⟨_, rfl⟩
      have hc2 : c < 256 := by rw [← hc]; exact (s[i]'h).toNat_lt
      have HC : Hid ((s.data.toList[i]'h').toNat = c) := hc
      have HLT := hidd (HL.out.kept ((Grew.refl wr).alloc (.cells #[.int .i64 0, .string ⟨#[]⟩, .int .i64 i] 32)))
      by_cases h32 : c = 32
      · have k32 : ((c : Int) == 32) = true := by simp [h32]
        have HN := hidd (lin_blank h' (HC.out.trans h32) HI.out)
        go_wp2_with fail
        exact ⟨⟨i + 1, d, by simp, by omega, by omega, HLT, HN⟩, by simp [intOf]; omega⟩
      have k32 : ((c : Int) == 32) = false := by simp; omega
      have HLet := hidd (fun w => letter_any c w hc2)
      by_cases hl : isLetter c = true
      · simp only [hl] at HLet
        obtain ⟨n, hn, hn0, hn1, t, hb, ht⟩ := word_at s h' (by rw [HC.out]; exact h32) (by rw [HC.out]; exact hl)
        have HN := hidd (lin_tok h' hb HI.out)
        have HE := hidd hn
        have HT := hidd ht
        clear hn hb ht
        go_wp2_with (go_at_call 11; refine (HLet.out _).mono ?_; rintro e w1 ⟨rfl, rfl⟩)
        go_loopw [5] (fun v5 wr2 => ∃ j : Nat, v5 = .int .i64 j ∧ i ≤ j ∧ j ≤ s.size ∧ wr2 = wr.alloc (.cells #[.int .i64 0, .string ⟨#[]⟩, .int .i64 i] 32) ∧ Hid (j + sp alnum (s.data.toList.drop j) = i + n)) (fun v5 _ => s.size - (intOf v5).toNat)
        case atStart => exact ⟨i, rfl, Nat.le_refl _, hi, rfl, HE⟩
        case round =>
          obtain ⟨j, rfl, hij, hj, rfl, HJ⟩ := hrel
          by_cases h2 : j < s.size
          · have h2' : j < s.data.toList.length := h2
            obtain ⟨e, he⟩ : ∃ e, (s[j]'h2).toNat = e := ⟨_, rfl⟩
            have he2 : e < 256 := by rw [← he]; exact (s[j]'h2).toNat_lt
            have HE2 : Hid ((s.data.toList[j]'h2').toNat = e) := he
            have HP := hidd (fun w => letter_any e w he2)
            have HQ := hidd (fun w => digit_any e w he2)
            by_cases ha : isLetter e = true
            · have HX := hidd (sp_step (p := alnum) h2' (by unfold alnum; rw [HE2.out, ha]; rfl))
              simp only [ha] at HP
              go_wp2_with (go_at_call 11; refine (HP.out _).mono ?_; rintro e w1 ⟨rfl, rfl⟩)
              exact ⟨⟨j + 1, by simp, by omega, by omega, trivial, by rw [Hid, ← HX.out]; exact HJ.out⟩, by simp [intOf]; omega⟩
            have ha' : isLetter e = false := by simpa using ha
            simp only [ha'] at HP
            by_cases hdg : isDigit e = true
            · have HX := hidd (sp_step (p := alnum) h2' (by unfold alnum; rw [HE2.out, hdg, Bool.or_true]))
              simp only [hdg] at HQ
              go_wp2_with (first | (go_at_call 11; refine (HP.out _).mono ?_; rintro e w1 ⟨rfl, rfl⟩) | (go_at_call 12; refine (HQ.out _).mono ?_; rintro e w1 ⟨rfl, rfl⟩))
              exact ⟨⟨j + 1, by simp, by omega, by omega, trivial, by rw [Hid, ← HX.out]; exact HJ.out⟩, by simp [intOf]; omega⟩
            have hdg' : isDigit e = false := by simpa using hdg
            simp only [hdg'] at HQ
            have hjn : j = i + n := by
              have h3 := sp_stop (p := alnum) h2' (by unfold alnum; rw [HE2.out, ha', hdg']; rfl)
              rw [← h3]; exact HJ.out
            subst hjn
            obtain ⟨c0, c1, c2, c3⟩ := tok_cells wr i
            have hsl : i ≤ i + n := by omega
            go_wp2_with (first | (go_at_call 11; refine (HP.out _).mono ?_; rintro e w1 ⟨rfl, rfl⟩) | (go_at_call 12; refine (HQ.out _).mono ?_; rintro e w1 ⟨rfl, rfl⟩))
            go_region
            obtain ⟨v', w', hap, hL2⟩ := tok_more HL.out.drew (by omega) 1 t i (show (1 : Int) = ((1 : Nat) : Int) from rfl) HT.out 22 (t' := 32)
            have HL2 := hidd hL2
            clear hL2
            go_wp2_with (at_builtin; refine wpList_append_eq rfl rfl rfl rfl hap ?_)
            exact ⟨⟨i + n, d ++ [(1, t, i)], by simp, by omega, by simp; omega, HL2, HN⟩, by simp [intOf]; omega⟩
          · have hjn : j = i + n := by
              have h3 := sp_end (p := alnum) (l := s.data.toList) (i := j) (by rw [← size_data]; exact h2)
              rw [← h3]; exact HJ.out
            subst hjn
            obtain ⟨c0, c1, c2, c3⟩ := tok_cells wr i
            have hsl : i ≤ i + n := by omega
            have hdl0 : decide (((i + n : Nat) : Int) < (s.size : Int)) = false := decide_eq_false (by omega)
            go_wp2_with fail
            go_region
            obtain ⟨v', w', hap, hL2⟩ := tok_more HL.out.drew (by omega) 1 t i (show (1 : Int) = ((1 : Nat) : Int) from rfl) HT.out 22 (t' := 32)
            have HL2 := hidd hL2
            clear hL2
            go_wp2_with (at_builtin; refine wpList_append_eq rfl rfl rfl rfl hap ?_)
            exact ⟨⟨i + n, d ++ [(1, t, i)], by simp, by omega, by simp; omega, HL2, HN⟩, by simp [intOf]; omega⟩
      have hl' : isLetter c = false := by simpa using hl
      simp only [hl'] at HLet
      have HDig := hidd (fun w => digit_any c w hc2)
      by_cases hdg : isDigit c = true
      · simp only [hdg] at HDig
        obtain ⟨n, hn, hn0, hn1, t, hb, ht⟩ := num_at s h' (by rw [HC.out]; exact h32) (by rw [HC.out]; exact hl') (by rw [HC.out]; exact hdg)
        have HN := hidd (lin_tok h' hb HI.out)
        have HE := hidd hn
        have HT := hidd ht
        clear hn hb ht
        go_wp2_with (first | (go_at_call 11; refine (HLet.out _).mono ?_; rintro e w1 ⟨rfl, rfl⟩) | (go_at_call 12; refine (HDig.out _).mono ?_; rintro e w1 ⟨rfl, rfl⟩))
        go_loopw [5] (fun v5 wr2 => ∃ j : Nat, v5 = .int .i64 j ∧ i ≤ j ∧ j ≤ s.size ∧ wr2 = wr.alloc (.cells #[.int .i64 0, .string ⟨#[]⟩, .int .i64 i] 32) ∧ Hid (j + sp dig (s.data.toList.drop j) = i + n)) (fun v5 _ => s.size - (intOf v5).toNat)
        case atStart => exact ⟨i, rfl, Nat.le_refl _, hi, rfl, HE⟩
        case round =>
          obtain ⟨j, rfl, hij, hj, rfl, HJ⟩ := hrel
          by_cases h2 : j < s.size
          · have h2' : j < s.data.toList.length := h2
            obtain ⟨e, he⟩ : ∃ e, (s[j]'h2).toNat = e := ⟨_, rfl⟩
            have he2 : e < 256 := by rw [← he]; exact (s[j]'h2).toNat_lt
            have HE2 : Hid ((s.data.toList[j]'h2').toNat = e) := he
            have HQ := hidd (fun w => digit_any e w he2)
            by_cases hdg : isDigit e = true
            · have HX := hidd (sp_step (p := dig) h2' (by unfold dig; rw [HE2.out, hdg]))
              simp only [hdg] at HQ
              go_wp2_with (go_at_call 12; refine (HQ.out _).mono ?_; rintro e w1 ⟨rfl, rfl⟩)
              exact ⟨⟨j + 1, by simp, by omega, by omega, trivial, by rw [Hid, ← HX.out]; exact HJ.out⟩, by simp [intOf]; omega⟩
            have hdg' : isDigit e = false := by simpa using hdg
            simp only [hdg'] at HQ
            have hjn : j = i + n := by
              have h3 := sp_stop (p := dig) h2' (by unfold dig; rw [HE2.out, hdg'])
              rw [← h3]; exact HJ.out
            subst hjn
            obtain ⟨c0, c1, c2, c3⟩ := tok_cells wr i
            have hsl : i ≤ i + n := by omega
            go_wp2_with (go_at_call 12; refine (HQ.out _).mono ?_; rintro e w1 ⟨rfl, rfl⟩)
            go_region
            obtain ⟨v', w', hap, hL2⟩ := tok_more HL.out.drew (by omega) 2 t i (show (2 : Int) = ((2 : Nat) : Int) from rfl) HT.out 22 (t' := 32)
            have HL2 := hidd hL2
            clear hL2
            go_wp2_with (at_builtin; refine wpList_append_eq rfl rfl rfl rfl hap ?_)
            exact ⟨⟨i + n, d ++ [(2, t, i)], by simp, by omega, by simp; omega, HL2, HN⟩, by simp [intOf]; omega⟩
          · have hjn : j = i + n := by
              have h3 := sp_end (p := dig) (l := s.data.toList) (i := j) (by rw [← size_data]; exact h2)
              rw [← h3]; exact HJ.out
            subst hjn
            obtain ⟨c0, c1, c2, c3⟩ := tok_cells wr i
            have hsl : i ≤ i + n := by omega
            have hdl0 : decide (((i + n : Nat) : Int) < (s.size : Int)) = false := decide_eq_false (by omega)
            go_wp2_with fail
            go_region
            obtain ⟨v', w', hap, hL2⟩ := tok_more HL.out.drew (by omega) 2 t i (show (2 : Int) = ((2 : Nat) : Int) from rfl) HT.out 22 (t' := 32)
            have HL2 := hidd hL2
            clear hL2
            go_wp2_with (at_builtin; refine wpList_append_eq rfl rfl rfl rfl hap ?_)
            exact ⟨⟨i + n, d ++ [(2, t, i)], by simp, by omega, by simp; omega, HL2, HN⟩, by simp [intOf]; omega⟩
      have hdg' : isDigit c = false := by simpa using hdg
      simp only [hdg'] at HDig
      by_cases h39 : c = 39
      · have k39 : ((c : Int) == 39) = true := by simp [h39]
        have HC3 := hidd (HC.out.trans h39)
        clear h39
        have HV : Hid (Calls Tryd.prog 13 #[.string (s.extract i s.size)] (wr.alloc (.cells #[.int .i64 0, .string ⟨#[]⟩, .int .i64 i] 32)) fun e w' => e = .returned (.int .i64 (lenI 1 (qLen (s.data.toList.drop (i + 1))))) ∧ w' = (wr.alloc (.cells #[.int .i64 0, .string ⟨#[]⟩, .int .i64 i] 32))) := by
          have := quoted_any (s.extract i s.size) (wr.alloc (.cells #[.int .i64 0, .string ⟨#[]⟩, .int .i64 i] 32)) (by rw [ByteArray.size_extract]; unfold maxLen; omega)
          rw [rest_data, List.drop_drop] at this
          exact this
        cases hq : qLen (s.data.toList.drop (i + 1)) with
        | none =>
          rw [hq] at HV
          have HF := hidd (lin_loose h' (bite_quote_none HC3.out hq) HI.out)
          clear hq
          simp only [lenI] at HV
          go_wp2_with (first | (go_at_call 11; refine (HLet.out _).mono ?_; rintro e w1 ⟨rfl, rfl⟩) | (go_at_call 12; refine (HDig.out _).mono ?_; rintro e w1 ⟨rfl, rfl⟩) | (go_at_call 13; refine HV.out.mono ?_; rintro e w1 ⟨rfl, rfl⟩) | (refine wpList_store_bes (f := twoF (.int .i64 2) (.int .i64 (s.size : Nat))) rfl rfl rfl rfl HLT.out.fault info_fault (fun j _ => twoF_one _ _ rfl rfl j) ?_; intro w6 hF hb6))
          exact bodyPost_tmp_arr rfl rfl rfl hF Tryd.underlying25 rfl info_fault rfl (HLT.out.fell hb6 HF.out)
        | some q =>
          rw [hq] at HV
          have hql := qLen_le _ _ q (Nat.le_refl _) hq
          have hql2 : q ≤ s.size - (i + 1) := by have := hql.2; rw [List.length_drop, ← size_data] at this; exact this
          have hql1 := hql.1
          have HN := hidd (lin_tok h' (bite_quote HC3.out hq) HI.out)
          have HT := hidd (quote_text s i q hq)
          rw [show i + q = i + (1 + q) - 1 by omega] at HT
          have HR : Hid (∀ w2, Grew wr w2 → Calls Tryd.prog 14 #[.string (s.extract (i + 1) (i + (1 + q) - 1)), .string ⟨#[39, 39]⟩, .string ⟨#[39]⟩] w2 fun e w' => e = .returned (.string (txt (qText (s.data.toList.drop (i + 1))))) ∧ Grew w2 w') := fun w2 g => by
            have e := rep_any (s.extract (i + 1) (i + (1 + q) - 1)) m w2 (by rw [ByteArray.size_extract]; omega) (g.keeps (HL.out.grew.keeps HM.out))
            rw [HT.out] at e
            exact e
          obtain ⟨T, hT⟩ : ∃ T, qText (s.data.toList.drop (i + 1)) = T := ⟨_, rfl⟩
          rw [hT] at HR HN
          clear HT hT
          have k0 : (((1 + q : Nat) : Int) == 0) = false := by simp; omega
          clear hq hql
          simp only [lenI] at HV
          have hsl : i + 1 ≤ i + (1 + q) - 1 := by omega
          go_wp2_with (first | (go_at_call 11; refine (HLet.out _).mono ?_; rintro e w1 ⟨rfl, rfl⟩) | (go_at_call 12; refine (HDig.out _).mono ?_; rintro e w1 ⟨rfl, rfl⟩) | (go_at_call 13; refine HV.out.mono ?_; rintro e w1 ⟨rfl, rfl⟩) | (go_at_call 14; refine (HR.out _ ((Grew.refl wr).alloc _)).mono ?_; rintro e w1 ⟨rfl, g1⟩; obtain ⟨d0, d1, d2, d3, d4⟩ := tok_grew g1; have G1 := hidd g1; clear g1; obtain ⟨v', w', hap, hL2⟩ := tok_text HL.out G1.out (by omega) T rfl 22 (t' := 32); have HL2 := hidd hL2; clear hL2) | (at_builtin; refine wpList_append_eq rfl rfl rfl rfl hap ?_))
          exact ⟨⟨i + (1 + q), d ++ [(3, T, i)], by simp, by omega, by simp; omega, HL2, HN⟩, by simp [intOf]; omega⟩
      have k39 : ((c : Int) == 39) = false := by simp; omega
      by_cases h91 : c = 91
      · have k91 : ((c : Int) == 91) = true := by simp [h91]
        have HC9 := hidd (HC.out.trans h91)
        clear h91
        have HV : Hid (Calls Tryd.prog 15 #[.string (s.extract i s.size)] (wr.alloc (.cells #[.int .i64 0, .string ⟨#[]⟩, .int .i64 i] 32)) fun e w' => e = .returned (.int .i64 (lenI 1 (brk (s.data.toList.drop (i + 1))))) ∧ w' = (wr.alloc (.cells #[.int .i64 0, .string ⟨#[]⟩, .int .i64 i] 32))) := by
          have := bracketed_any (s.extract i s.size) (wr.alloc (.cells #[.int .i64 0, .string ⟨#[]⟩, .int .i64 i] 32)) (by rw [ByteArray.size_extract]; unfold maxLen; omega)
          rw [rest_data, List.drop_drop] at this
          exact this
        cases hq : brk (s.data.toList.drop (i + 1)) with
        | none =>
          rw [hq] at HV
          have HF := hidd (lin_loose h' (bite_brk_none HC9.out hq) HI.out)
          clear hq
          simp only [lenI] at HV
          go_wp2_with (first | (go_at_call 11; refine (HLet.out _).mono ?_; rintro e w1 ⟨rfl, rfl⟩) | (go_at_call 12; refine (HDig.out _).mono ?_; rintro e w1 ⟨rfl, rfl⟩) | (go_at_call 15; refine HV.out.mono ?_; rintro e w1 ⟨rfl, rfl⟩) | (refine wpList_store_bes (f := twoF (.int .i64 2) (.int .i64 (s.size : Nat))) rfl rfl rfl rfl HLT.out.fault info_fault (fun j _ => twoF_one _ _ rfl rfl j) ?_; intro w6 hF hb6))
          exact bodyPost_tmp_arr rfl rfl rfl hF Tryd.underlying25 rfl info_fault rfl (HLT.out.fell hb6 HF.out)
        | some q =>
          rw [hq] at HV
          have hql := brk_le hq
          have hql2 : q ≤ s.size - (i + 1) := by have := hql.2; rw [List.length_drop, ← size_data] at this; exact this
          have hql1 := hql.1
          have HN := hidd (lin_tok h' (bite_brk HC9.out hq) HI.out)
          have HT : Hid (s.extract (i + 1) (i + (1 + q) - 1) = txt ((s.data.toList.drop (i + 1)).take (q - 1))) := by
            have e := part_eq s (i + 1) (q - 1)
            rw [show i + 1 + (q - 1) = i + (1 + q) - 1 by omega] at e
            exact e
          have k0 : (((1 + q : Nat) : Int) == 0) = false := by simp; omega
          clear hq hql
          simp only [lenI] at HV
          obtain ⟨c0, c1, c2, c3⟩ := tok_cells wr i
          have hsl : i + 1 ≤ i + (1 + q) - 1 := by omega
          go_wp2_with (first | (go_at_call 11; refine (HLet.out _).mono ?_; rintro e w1 ⟨rfl, rfl⟩) | (go_at_call 12; refine (HDig.out _).mono ?_; rintro e w1 ⟨rfl, rfl⟩) | (go_at_call 15; refine HV.out.mono ?_; rintro e w1 ⟨rfl, rfl⟩))
          go_region
          obtain ⟨v', w', hap, hL2⟩ := tok_more HL.out.drew (by omega) 4 ((s.data.toList.drop (i + 1)).take (q - 1)) i (show (4 : Int) = ((4 : Nat) : Int) from rfl) HT.out 22 (t' := 32)
          have HL2 := hidd hL2
          clear hL2
          go_wp2_with (at_builtin; refine wpList_append_eq rfl rfl rfl rfl hap ?_)
          exact ⟨⟨i + (1 + q), d ++ [(4, ((s.data.toList.drop (i + 1)).take (q - 1)), i)], by simp, by omega, by simp; omega, HL2, HN⟩, by simp [intOf]; omega⟩
      have k91 : ((c : Int) == 91) = false := by simp; omega
      have HP := hidd (fun w => prefix_any s i h' HC.out w)
      obtain ⟨bb, hbb⟩ : ∃ bb, assignB c (s.data.toList.drop (i + 1)) = bb := ⟨_, rfl⟩
      simp only [hbb] at HP
      have HBB := hidd hbb
      clear hbb
      cases bb with
      | true =>
        have hap2 : c = 58 ∧ equalsNext (s.data.toList.drop (i + 1)) = true := by
          have := HBB.out; unfold assignB at this; simpa using this
        have HN := hidd (lin_tok h' (bite_assign (HC.out.trans hap2.1) hap2.2) HI.out)
        have hi2 : i + 2 ≤ s.size := by
          have h2 := hap2.2
          cases hq : s.data.toList.drop (i + 1) with
          | nil => rw [hq] at h2; simp [equalsNext] at h2
          | cons x y =>
            have h3 := congrArg List.length hq
            rw [List.length_drop, List.length_cons, ← size_data] at h3
            omega
        clear hap2
        obtain ⟨v', w', hap, hL2⟩ := tok_more HL.out (by omega) 5 [58, 61] i (show (5 : Int) = ((5 : Nat) : Int) from rfl) rfl 22 (t' := 32)
        have HL2 := hidd hL2
        clear hL2
        go_wp2_with (first | (go_at_call 11; refine (HLet.out _).mono ?_; rintro e w1 ⟨rfl, rfl⟩) | (go_at_call 12; refine (HDig.out _).mono ?_; rintro e w1 ⟨rfl, rfl⟩) | (go_at_call 16; refine (HP.out _).mono ?_; rintro e w1 ⟨rfl, rfl⟩) | (at_builtin; refine wpList_append_eq rfl rfl rfl rfl hap ?_))
        exact ⟨⟨i + 2, d ++ [(5, [58, 61], i)], by simp, by omega, by simp; omega, HL2, HN⟩, by simp [intOf]; omega⟩
      | false =>
        have hap2 : ¬ (c = 58 ∧ equalsNext (s.data.toList.drop (i + 1)) = true) := by
          have := HBB.out; unfold assignB at this; simpa using this
        have hg := sgn_all c hc2
        have HS := hidd (fun w => Tryd.strings_IndexByte ⟨#[61, 63, 38, 43, 45, 42, 47, 37, 40, 41, 60, 62, 44, 58, 36]⟩ (c : Int) w)
        obtain ⟨x, hx⟩ : ∃ x, sgnI c = x := ⟨_, rfl⟩
        have HX : Hid (∀ w, Calls Tryd.prog 17 #[.string ⟨#[61, 63, 38, 43, 45, 42, 47, 37, 40, 41, 60, 62, 44, 58, 36]⟩, .int .u8 c] w fun e w' => e = .returned (.int .i64 x) ∧ w' = w) := by
          rw [← hx]; exact HS.out
        rw [hx] at hg
        clear hx HS
        cases hs : signs.contains c with
        | true =>
          rw [hs] at hg
          have hx0 : 0 ≤ x := of_decide_eq_true hg
          have HN := hidd (lin_tok h' (bite_sign (by rw [HC.out]; exact h32) (by rw [HC.out]; exact hl') (by rw [HC.out]; exact hdg') (by rw [HC.out]; exact h39) (by rw [HC.out]; exact h91) (by rw [HC.out]; exact hap2) (by rw [HC.out]; exact hs)) HI.out)
          have HT : Hid (s.extract i (i + 1) = txt [s.data.toList[i]]) := by
            have e := part_eq s i 1
            rw [drop_at h'] at e
            exact e
          clear hs hap2 hg
          obtain ⟨c0, c1, c2, c3⟩ := tok_cells wr i
          go_wp2_with (first | (go_at_call 11; refine (HLet.out _).mono ?_; rintro e w1 ⟨rfl, rfl⟩) | (go_at_call 12; refine (HDig.out _).mono ?_; rintro e w1 ⟨rfl, rfl⟩) | (go_at_call 16; refine (HP.out _).mono ?_; rintro e w1 ⟨rfl, rfl⟩) | (go_at_call 17; refine (HX.out _).mono ?_; rintro e w1 ⟨rfl, rfl⟩))
          go_region
          obtain ⟨v', w', hap, hL2⟩ := tok_more HL.out.drew (by omega) 5 [s.data.toList[i]] i (show (5 : Int) = ((5 : Nat) : Int) from rfl) HT.out 22 (t' := 32)
          have HL2 := hidd hL2
          clear hL2
          go_wp2_with (at_builtin; refine wpList_append_eq rfl rfl rfl rfl hap ?_)
          exact ⟨⟨i + 1, d ++ [(5, [s.data.toList[i]], i)], by simp, by omega, by simp; omega, HL2, HN⟩, by simp [intOf]; omega⟩
        | false =>
          rw [hs] at hg
          have hx0 : x < 0 := by have := of_decide_eq_false hg; omega
          have HF := hidd (lin_lost h' (bite_lost (by rw [HC.out]; exact h32) (by rw [HC.out]; exact hl') (by rw [HC.out]; exact hdg') (by rw [HC.out]; exact h39) (by rw [HC.out]; exact h91) (by rw [HC.out]; exact hap2) (by rw [HC.out]; exact hs)) HI.out)
          clear hs hap2 hg
          go_wp2_with (first | (go_at_call 11; refine (HLet.out _).mono ?_; rintro e w1 ⟨rfl, rfl⟩) | (go_at_call 12; refine (HDig.out _).mono ?_; rintro e w1 ⟨rfl, rfl⟩) | (go_at_call 16; refine (HP.out _).mono ?_; rintro e w1 ⟨rfl, rfl⟩) | (go_at_call 17; refine (HX.out _).mono ?_; rintro e w1 ⟨rfl, rfl⟩) | (refine wpList_store_bes (f := twoF (.int .i64 2) (.int .i64 (i : Nat))) rfl rfl rfl rfl HLT.out.fault info_fault (fun j _ => twoF_one _ _ rfl rfl j) ?_; intro w6 hF hb6))
          exact bodyPost_tmp_arr rfl rfl rfl hF Tryd.underlying25 rfl info_fault rfl (HLT.out.fell hb6 HF.out)
    · have HF := hidd (lin_done (by rw [← size_data]; exact h) HI.out)
      have hdl0 : decide ((i : Int) < (s.size : Int)) = false := decide_eq_false (by omega)
      go_wp2_with (refine wpList_store_bes (f := twoF (.int .i64 0) (.int .i64 0)) rfl rfl rfl rfl HL.out.fault info_fault (fun j _ => twoF_one _ _ rfl rfl j) ?_; intro w6 hF hb6)
      exact bodyPost_tmp_arr rfl rfl rfl hF Tryd.underlying25 rfl info_fault rfl (HL.out.tell hb6 HF.out)
end Go.Proofs.YtlpjoakdhblbaaaDoor
