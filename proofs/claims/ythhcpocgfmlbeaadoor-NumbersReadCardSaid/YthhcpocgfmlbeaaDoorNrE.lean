/- The document's Read: of any text. -/
import Derived.Test.YthhcpocgfmlbeaaDoorNrU
import Derived.Lib.SlTrimSet
namespace Go.Proofs.YthhcpocgfmlbeaaDoor
open Go.RowKit
set_option linter.unusedVariables false
set_option maxRecDepth 100000 in
theorem RRead_much (t : ByteArray) (hs : t.size ≤ maxLen) (h : 65536 < t.size) (w : World) :
    Calls Tryd.prog 19 #[.string t] w fun e w' => e = .returned (.tuple #[.int .i64 0, .int .i64 4]) ∧ Grew w w' := by
  unfold maxLen at hs
  have e4 : decide ((65536 : Int) < (t.size : Int)) = true := decide_eq_true (by omega)
  have e5 : decide (65536 < t.size) = true := decide_eq_true h
  go_enter Tryd.func19, Tryd.ntmps19
  go_wp2_with fail
  go_ret2
  exact ⟨rfl, Grew.refl _⟩
def bl9 (c : UInt8) : Bool := [(32 : UInt8), 9].contains c
theorem bl9_iff {c : UInt8} : [(32 : UInt8), 9].contains c = true ↔ c.toNat = 32 ∨ c.toNat = 9 := by
  simp only [List.contains_cons, List.contains_nil, Bool.or_false, Bool.or_eq_true, beq_iff_eq]
  constructor
  · rintro (rfl | rfl)
    · exact Or.inl rfl
    · exact Or.inr rfl
  · rintro (h | h)
    · exact Or.inl (UInt8.toNat_inj.1 h)
    · exact Or.inr (UInt8.toNat_inj.1 h)
theorem left_on {T : ByteArray} (h : 0 < T.size) (hc : (T[0]'h).toNat = 32 ∨ (T[0]'h).toNat = 9) : Lib.trimLeftS T.data.toList [32, 9] = Lib.trimLeftS (T.extract 1 T.size).data.toList [32, 9] := by
  rw [list_of h]
  unfold Lib.trimLeftS
  rw [List.dropWhile_cons, if_pos (bl9_iff.2 hc)]
theorem left_end {T : ByteArray} (h : 0 < T.size) (hc : ¬ ((T[0]'h).toNat = 32 ∨ (T[0]'h).toNat = 9)) : Lib.trimLeftS T.data.toList [32, 9] = T.data.toList := by
  rw [list_of h]
  unfold Lib.trimLeftS
  rw [List.dropWhile_cons, if_neg (fun k => hc (bl9_iff.1 k))]
theorem last_of {T : ByteArray} {q : Nat} (h : T.size = q + 1) : T.data.toList = (T.extract 0 q).data.toList ++ [T[q]'(by omega)] := by
  have hl : q < T.data.toList.length := by rw [← size_data]; omega
  have h1 : (T.extract 0 q).data.toList = T.data.toList.take q := by
    rw [Lib.extract_data, List.drop_zero, Nat.sub_zero]
  rw [h1]
  have h2 : T.data.toList.take (q + 1) = T.data.toList := List.take_of_length_le (by rw [← size_data]; omega)
  have h3 := List.take_succ_eq_append_getElem hl
  rw [h2] at h3
  exact h3
theorem right_on {T : ByteArray} {q : Nat} (h : T.size = q + 1) (hc : (T[q]'(by omega)).toNat = 32 ∨ (T[q]'(by omega)).toNat = 9) : Lib.trimRightS T.data.toList [32, 9] = Lib.trimRightS (T.extract 0 q).data.toList [32, 9] := by
  rw [last_of h]
  unfold Lib.trimRightS
  rw [List.reverse_append, List.reverse_singleton, List.singleton_append, List.dropWhile_cons, if_pos (bl9_iff.2 hc)]
theorem right_end {T : ByteArray} {q : Nat} (h : T.size = q + 1) (hc : ¬ ((T[q]'(by omega)).toNat = 32 ∨ (T[q]'(by omega)).toNat = 9)) : Lib.trimRightS T.data.toList [32, 9] = T.data.toList := by
  rw [last_of h]
  unfold Lib.trimRightS
  rw [List.reverse_append, List.reverse_singleton, List.singleton_append, List.dropWhile_cons, if_neg (fun k => hc (bl9_iff.1 k)), List.reverse_cons, List.reverse_reverse]
theorem nil_list {T : ByteArray} (h : T.size = 0) : T.data.toList = [] := List.eq_nil_of_length_eq_zero (by rw [← size_data]; exact h)
/-- The text without blanks at its ends: by its first byte. -/
theorem docT_cases (S : ByteArray) (hS : S.size ≤ 65536) (h : 0 < S.size) : ∃ (D : ByteArray) (g : Bool), D.size ≤ 65536 ∧ ((S[0]'h).toNat = 45 ∧ D = S.extract 1 S.size ∧ g = true ∨ (((S[0]'h).toNat : Int) == 45) = false ∧ (S[0]'h).toNat = 43 ∧ D = S.extract 1 S.size ∧ g = false ∨ (((S[0]'h).toNat : Int) == 45) = false ∧ (((S[0]'h).toNat : Int) == 43) = false ∧ D = S ∧ g = false) ∧
    (numV? 10 D.data.toList = none → docT S.data.toList = .returned (.tuple #[.int .i64 0, .int .i64 2])) ∧ (D.size = 0 → docT S.data.toList = .returned (.tuple #[.int .i64 0, .int .i64 2])) ∧ ∀ V, 0 < D.size → numV? 10 D.data.toList = some V → nw V ≤ 65537 ∧ docT S.data.toList = .returned (.tuple #[.int .i64 (numV (sgn V g)), .int .i64 (numE (sgn V g))]) := by
  have key : ∀ (D : ByteArray) (g : Bool), D.size ≤ 65536 → behind S.data.toList = D.data.toList → (S.data.toList.head? == some 45) = g →
      (numV? 10 D.data.toList = none → docT S.data.toList = .returned (.tuple #[.int .i64 0, .int .i64 2])) ∧ (D.size = 0 → docT S.data.toList = .returned (.tuple #[.int .i64 0, .int .i64 2])) ∧ ∀ V, 0 < D.size → numV? 10 D.data.toList = some V → nw V ≤ 65537 ∧ docT S.data.toList = .returned (.tuple #[.int .i64 (numV (sgn V g)), .int .i64 (numE (sgn V g))]) := fun D g hD hb hg => by
    refine ⟨fun k => docT_bad (by rw [hb]; exact k), fun k => docT_nil (by rw [hb]; exact nil_list k), fun V k0 k => ⟨?_, ?_⟩⟩
    · have := numV?_fits (by omega) k
      rw [← size_data] at this; omega
    · rw [docT_val (by rw [hb]; intro e; rw [size_data, e] at k0; exact absurd k0 (by simp)) (by rw [hb]; exact k), hg]; rfl
  have hl := list_of h
  by_cases h45 : (S[0]'h).toNat = 45
  · refine ⟨S.extract 1 S.size, true, by rw [ByteArray.size_extract]; omega, Or.inl ⟨h45, rfl, rfl⟩, key _ _ (by rw [ByteArray.size_extract]; omega) ?_ ?_⟩
    · rw [hl, behind_sign (Or.inr h45)]
    · rw [hl, List.head?_cons, show (S[0]'h) = 45 from UInt8.toNat_inj.1 h45]; rfl
  · have n45 : (((S[0]'h).toNat : Int) == 45) = false := by rw [beq_eq_false_iff_ne]; omega
    have hh : (S.data.toList.head? == some 45) = false := by
      rw [hl, List.head?_cons, beq_eq_false_iff_ne]
      intro e; injection e with e; rw [e] at h45; exact h45 rfl
    by_cases h43 : (S[0]'h).toNat = 43
    · refine ⟨S.extract 1 S.size, false, by rw [ByteArray.size_extract]; omega, Or.inr (Or.inl ⟨n45, h43, rfl, rfl⟩), key _ _ (by rw [ByteArray.size_extract]; omega) ?_ hh⟩
      rw [hl, behind_sign (Or.inl h43)]
    · refine ⟨S, false, hS, Or.inr (Or.inr ⟨n45, by rw [beq_eq_false_iff_ne]; omega, rfl, rfl⟩), key _ _ hS ?_ hh⟩
      rw [hl, behind_none (by rintro (e | e) <;> contradiction)]
set_option maxRecDepth 100000 in
set_option maxHeartbeats 8000000 in
theorem RRead_any (t : ByteArray) (ht : t.size ≤ 65536) (w : World) :
    Calls Tryd.prog 19 #[.string t] w fun e w' => e = readR t.data.toList ∧ Grew w w' := by
  have e4 : decide ((65536 : Int) < (t.size : Int)) = false := decide_eq_false (by omega)
  have HR := hidd (read_doc t.data.toList)
  obtain ⟨R, hR⟩ : ∃ R, readR t.data.toList = R := ⟨_, rfl⟩
  rw [hR] at HR ⊢
  have HD := hidd (fun (D : ByteArray) (hD : D.size ≤ 65536) w1 => RDigits_any D 10 (by omega) (by omega) hD w1)
  have HTs := hidd ht
  clear hR ht
  go_enter Tryd.func19, Tryd.ntmps19
  go_wp2_with fail
  go_loopw [0] (fun u0 wr => ∃ T : ByteArray, u0 = .string T ∧ T.size ≤ 65536 ∧ Hid (Lib.trimLeftS t.data.toList [32, 9] = Lib.trimLeftS T.data.toList [32, 9]) ∧ Hid (Grew w wr)) (fun u _ => match u with | .string t => t.size | _ => 0)
  case atStart => exact ⟨t, rfl, HTs.out, rfl, Grew.refl w⟩
  case round =>
    obtain ⟨T, rfl, hT, HL, HG⟩ := hrel
    have hexit : (T.size = 0 ∨ ∃ h : 0 < T.size, (((T[0]'h).toNat : Int) == 32) = false ∧ (((T[0]'h).toNat : Int) == 9) = false) ∧ Hid (Lib.trimLeftS t.data.toList [32, 9] = T.data.toList) ∨ ∃ h : 0 < T.size, ((T[0]'h).toNat = 32 ∨ (((T[0]'h).toNat : Int) == 32) = false ∧ (T[0]'h).toNat = 9) := by
      rcases Nat.eq_zero_or_pos T.size with h0 | h0
      · exact Or.inl ⟨Or.inl h0, by rw [Hid, HL.out, nil_list h0]; rfl⟩
      · by_cases hc : (T[0]'h0).toNat = 32 ∨ (T[0]'h0).toNat = 9
        · refine Or.inr ⟨h0, ?_⟩
          rcases hc with hc | hc
          · exact Or.inl hc
          · exact Or.inr ⟨by rw [beq_eq_false_iff_ne]; omega, hc⟩
        · exact Or.inl ⟨Or.inr ⟨h0, by rw [beq_eq_false_iff_ne]; omega, by rw [beq_eq_false_iff_ne]; omega⟩, by rw [Hid, HL.out, left_end h0 hc]⟩
    rcases hexit with ⟨hx, HT⟩ | ⟨h0, hc⟩
    rotate_left
    · have HNx : Hid (Lib.trimLeftS t.data.toList [32, 9] = Lib.trimLeftS (T.extract 1 T.size).data.toList [32, 9]) := by
        rw [Hid, HL.out]; exact left_on h0 (by rcases hc with hc | hc; exact Or.inl hc; exact Or.inr hc.2)
      have hsz : Hid ((T.extract 1 T.size).size = T.size - 1) := by rw [Hid, ByteArray.size_extract]; omega
      have hone : (1 : Int) ≤ (T.size : Int) := by omega
      have hpos' : (0 : Int) < (T.size : Int) := by omega
      rcases hc with hc | ⟨hc0, hc⟩
      all_goals
        go_wp2_with fail
        go_roundw
        case rel => exact ⟨T.extract 1 T.size, rfl, by rw [hsz.out]; omega, HNx, HG⟩
        case measure => show (T.extract 1 T.size).size < T.size; rw [hsz.out]; omega
    · have HRd : Hid (R = if Lib.trimRightS T.data.toList [32, 9] = [] then .returned (.tuple #[.int .i64 0, .int .i64 0]) else docT (Lib.trimRightS T.data.toList [32, 9])) := by
        have := HR.out
        rw [HT.out] at this
        exact this
      clear HL HT
      rcases hx with hx | ⟨hx0, hx1, hx2⟩
      all_goals
        go_wp2_with fail
        go_loopw [0] (fun u0 wr2 => ∃ U : ByteArray, u0 = .string U ∧ U.size ≤ 65536 ∧ Hid (Lib.trimRightS T.data.toList [32, 9] = Lib.trimRightS U.data.toList [32, 9]) ∧ Hid (Grew w wr2)) (fun u _ => match u with | .string t => t.size | _ => 0)
        case atStart => exact ⟨T, rfl, hT, rfl, HG⟩
      all_goals
        obtain ⟨U, rfl, hU, HL2, HG2⟩ := hrel
        have hexit : ((U.size = 0 ∨ ∃ q, ∃ h : U.size = q + 1, (((U[q]'(by omega)).toNat : Int) == 32) = false ∧ (((U[q]'(by omega)).toNat : Int) == 9) = false) ∧ Hid (Lib.trimRightS T.data.toList [32, 9] = U.data.toList)) ∨ ∃ q, ∃ h : U.size = q + 1, ((U[q]'(by omega)).toNat = 32 ∨ (((U[q]'(by omega)).toNat : Int) == 32) = false ∧ (U[q]'(by omega)).toNat = 9) := by
          rcases Nat.eq_zero_or_pos U.size with h0 | h0
          · exact Or.inl ⟨Or.inl h0, by rw [Hid, HL2.out, nil_list h0]; rfl⟩
          · obtain ⟨q, hq⟩ : ∃ q, U.size = q + 1 := ⟨U.size - 1, by omega⟩
            by_cases hc : (U[q]'(by omega)).toNat = 32 ∨ (U[q]'(by omega)).toNat = 9
            · refine Or.inr ⟨q, hq, ?_⟩
              rcases hc with hc | hc
              · exact Or.inl hc
              · exact Or.inr ⟨by rw [beq_eq_false_iff_ne]; omega, hc⟩
            · exact Or.inl ⟨Or.inr ⟨q, hq, by rw [beq_eq_false_iff_ne]; omega, by rw [beq_eq_false_iff_ne]; omega⟩, by rw [Hid, HL2.out, right_end hq hc]⟩
        rcases hexit with ⟨hy, HT2⟩ | ⟨q, hq, hc⟩
        rotate_left
        · have HNx : Hid (Lib.trimRightS T.data.toList [32, 9] = Lib.trimRightS (U.extract 0 q).data.toList [32, 9]) := by
            rw [Hid, HL2.out]; exact right_on hq (by rcases hc with hc | hc; exact Or.inl hc; exact Or.inr hc.2)
          have hsz : Hid ((U.extract 0 q).size = q) := by rw [Hid, ByteArray.size_extract]; omega
          have hqt : q < U.size := by omega
          rcases hc with hc | ⟨hc0, hc⟩
          all_goals
            go_wp2_with fail
            go_roundw
            case rel => exact ⟨U.extract 0 q, rfl, by rw [hsz.out]; omega, HNx, HG2⟩
            case measure => show (U.extract 0 q).size < U.size; rw [hsz.out]; omega
        · have HRe : Hid (R = if U.data.toList = [] then .returned (.tuple #[.int .i64 0, .int .i64 0]) else docT U.data.toList) := by
            have := HRd.out
            rw [HT2.out] at this
            exact this
          clear HL2 HT2
          rcases hy with hy | ⟨q, hq, hy1, hy2⟩
          · have HF : Hid (R = .returned (.tuple #[.int .i64 0, .int .i64 0])) := by rw [Hid, HRe.out, if_pos (nil_list hy)]
            go_wp2_with fail
            go_ret2
            exact ⟨HF.out.symm, HG2.out⟩
          · have hqt : q < U.size := by omega
            have hpos : 0 < U.size := by omega
            have hpos' : (0 : Int) < (U.size : Int) := by omega
            have hone : (1 : Int) ≤ (U.size : Int) := by omega
            have hnz : ((U.size : Int) == 0) = false := by rw [beq_eq_false_iff_ne]; omega
            obtain ⟨D, g, hDs, hcs, d1, d2, d3⟩ := docT_cases U hU hpos
            have hRd : R = docT U.data.toList := by
              rw [HRe.out, if_neg]
              intro e; rw [size_data, e] at hpos; exact absurd hpos (by simp)
            rw [← hRd] at d1 d2 d3
            have HC := hidd (And.intro d1 (And.intro d2 d3))
            have HDg := hidd (fun w1 => HD.out D hDs w1)
            clear d1 d2 d3 hDs hRd
            rcases hcs with ⟨h45, rfl, rfl⟩ | ⟨n45, h43, rfl, rfl⟩ | ⟨n45, n43, rfl, rfl⟩
            rotate_left 2
            · clear HRd HRe HR HD
              go_wp2_with fail
              refine (HDg.out _).mono ?_; rintro e w1 ⟨g1, ⟨hn, rfl⟩ | ⟨V, hn, rfl, i1⟩⟩
              · have HF := hidd (And.intro (HC.out.1 hn) (HG2.out.trans g1))
                clear g1 hn
                go_wp2_with fail
                go_ret2
                exact ⟨HF.out.1.symm, HF.out.2⟩
              · obtain ⟨hv, hr⟩ := HC.out.2.2 V hpos hn
                have HF := hidd (And.intro hr (HG2.out.trans g1))
                have HW := hidd (pos_within i1 hv)
                have d0 : decide (0 < D.size) = true := decide_eq_true (by omega)
                have d1 : decide ((0 : Int) < (D.size : Int)) = true := decide_eq_true (by omega)
                clear g1 hn i1 hr hv
                go_wp2_with fail
                refine HW.out.mono ?_; rintro e w3 ⟨rfl, rfl⟩
                go_wp2_with fail
                go_ret2
                exact ⟨HF.out.1.symm, HF.out.2⟩
            all_goals
              obtain ⟨D, hD0⟩ : ∃ D, U.extract 1 U.size = D := ⟨_, rfl⟩
              rw [hD0] at HDg HC
              rw [hq] at hD0
              clear HRd HRe HR HD
              go_wp2_with fail
              try rw [hD0]
              refine (HDg.out _).mono ?_; rintro e w1 ⟨g1, ⟨hn, rfl⟩ | ⟨V, hn, rfl, i1⟩⟩
              · have HF := hidd (And.intro (HC.out.1 hn) (HG2.out.trans g1))
                clear g1 hn
                go_wp2_with fail
                go_ret2
                exact ⟨HF.out.1.symm, HF.out.2⟩
              · rcases Nat.eq_zero_or_pos D.size with hz | hz
                · have HF := hidd (And.intro (HC.out.2.1 hz) (HG2.out.trans g1))
                  have d0 : decide (0 < D.size) = false := decide_eq_false (by omega)
                  have d1 : decide ((0 : Int) < (D.size : Int)) = false := decide_eq_false (by omega)
                  clear g1 hn i1 hD0
                  go_wp2_with fail
                  go_ret2
                  exact ⟨HF.out.1.symm, HF.out.2⟩
                · obtain ⟨hv, hr⟩ := HC.out.2.2 V hz hn
                  have HF := hidd (And.intro hr (HG2.out.trans g1))
                  have HNg := hidd (neg_within i1 hv)
                  have HPs := hidd (pos_within i1 hv)
                  have d0 : decide (0 < D.size) = true := decide_eq_true (by omega)
                  have d1 : decide ((0 : Int) < (D.size : Int)) = true := decide_eq_true (by omega)
                  have HBase := hidd (And.intro (HG2.out.size) g1.size)
                  have HG3 := hidd (And.intro HG2.out g1)
                  clear g1 hn i1 hr hv hD0
                  go_wp2_with fail
                  first
                  | (refine HPs.out.mono ?_; rintro e w3 ⟨rfl, rfl⟩
                     go_wp2_with fail
                     go_ret2
                     exact ⟨HF.out.1.symm, HF.out.2⟩)
                  | (refine HNg.out.mono ?_; rintro e w2 ⟨rfl, b2, hw⟩
                     have HW := hidd hw
                     have HG4 := hidd (b2.grew HF.out.2 HBase.out.1)
                     clear b2 hw
                     go_wp2_with fail
                     refine (HW.out _ (Grew.refl _)).mono ?_; rintro e w3 ⟨rfl, rfl⟩
                     go_wp2_with fail
                     go_ret2
                     exact ⟨HF.out.1.symm, HG4.out⟩)
end Go.Proofs.YthhcpocgfmlbeaaDoor
