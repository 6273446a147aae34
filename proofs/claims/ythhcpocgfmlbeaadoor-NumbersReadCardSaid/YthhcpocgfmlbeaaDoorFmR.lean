/- numbers.Read: at every text. Conditions: the library's two errors are there. -/
import Derived.Test.YthhcpocgfmlbeaaDoorNum
import Derived.Test.YthhcpocgfmlbeaaDoorShelfB
import Derived.Test.YthhcpocgfmlbeaaDoorTxEmpty
import Derived.Shelf.Strings.SlTrimAscii
import Derived.Lib.AtoiErrMem
namespace Go.Proofs.YthhcpocgfmlbeaaDoor
open Go.RowKit
set_option linter.unusedVariables false
theorem str_of (l : List UInt8) : (⟨l.toArray⟩ : ByteArray).data.toList = l := by simp
theorem trim_blanks (s : ByteArray) (w : World) (hs : s.size ≤ 9223372036854775807) :
    Calls Tryd.prog 28 #[.string s, .string ⟨#[32, 9]⟩] w fun e w' => e = .returned (.string ⟨(Lib.trimS s.data.toList [32, 9]).toArray⟩) ∧ Grew w w' :=
  Any.strings_Trim_laid Tryd.lays160 (by kernel_rfl) s ⟨#[32, 9]⟩ w hs (by decide) (ascii_of_all (by decide))
theorem trim_digits (s : ByteArray) (w : World) (hs : s.size ≤ 9223372036854775807) :
    Calls Tryd.prog 28 #[.string s, .string ⟨#[48, 49, 50, 51, 52, 53, 54, 55, 56, 57]⟩] w fun e w' => e = .returned (.string ⟨(Lib.trimS s.data.toList [48, 49, 50, 51, 52, 53, 54, 55, 56, 57]).toArray⟩) ∧ Grew w w' :=
  Any.strings_Trim_laid Tryd.lays160 (by kernel_rfl) s ⟨#[48, 49, 50, 51, 52, 53, 54, 55, 56, 57]⟩ w hs (by decide) (ascii_of_all (by decide))
/-- The library's two errors are there. -/
def ErrsD (w : World) : Prop := (∃ tp p, w.var? Tryd.prog "strconv.ErrSyntax" = some #[.iface tp p]) ∧ ∃ tp p, w.var? Tryd.prog "strconv.ErrRange" = some #[.iface tp p]
/-- Behind a sign. -/
def behind : List UInt8 → List UInt8
  | [] => []
  | c :: r => if c.toNat = 43 ∨ c.toNat = 45 then r else c :: r
def pIntR (l : List UInt8) : Ending := match Lib.parseIntB 64 l with
  | .ok v => .returned (.tuple #[.int .i64 v, .int .i64 0])
  | _ => .returned (.tuple #[.int .i64 0, .int .i64 3])
/-- What Read says of a text. -/
def readR (l : List UInt8) : Ending :=
  if Lib.trimS l [32, 9] = [] then .returned (.tuple #[.int .i64 0, .int .i64 0])
  else if behind (Lib.trimS l [32, 9]) = [] ∨ Lib.trimS (behind (Lib.trimS l [32, 9])) [48, 49, 50, 51, 52, 53, 54, 55, 56, 57] ≠ [] then .returned (.tuple #[.int .i64 0, .int .i64 2])
  else pIntR (Lib.trimS l [32, 9])
theorem ErrsD.grew {w w' : World} (h : ErrsD w) (g : Grew w w') : ErrsD w' := by
  have key : ∀ n v, w.var? Tryd.prog n = some v → w'.var? Tryd.prog n = some v := fun n v h => by
    unfold World.var? at *
    cases hg : Tryd.prog.globalNamed n with
    | none => rw [hg] at h; simp at h
    | some i =>
      rw [hg] at h
      simp only [Option.bind_some] at h ⊢
      have hi : i < w.heap.size := by
        cases hh : w.heap[i]? with
        | none => rw [hh] at h; simp at h
        | some o => exact (Array.getElem?_eq_some_iff.1 hh).1
      rw [g.block i hi]; exact h
  obtain ⟨⟨a, b, h1⟩, c, d, h2⟩ := h
  exact ⟨⟨a, b, key _ _ h1⟩, c, d, key _ _ h2⟩
/-- ParseInt at base ten, in handy form: a number and no error, or an error. -/
theorem pint (s : ByteArray) (w : World) (hs : s.size ≤ 65536) (he : ErrsD w) :
    Calls Tryd.prog 29 #[.string s, .int .i64 10, .int .i64 64] w fun e w' => ((∃ v, pIntR s.data.toList = .returned (.tuple #[.int .i64 v, .int .i64 0]) ∧ e = .returned (.tuple #[.int .i64 v, .nilIface])) ∨ (pIntR s.data.toList = .returned (.tuple #[.int .i64 0, .int .i64 3]) ∧ ∃ v ty p, e = .returned (.tuple #[.int .i64 v, .iface ty p]))) ∧ Grew w w' := by
  obtain ⟨⟨a, b, h1⟩, c, d, h2⟩ := he
  cases hp : Lib.parseIntB 64 s.data.toList with
  | ok v =>
    refine (Tryd.strconv_ParseInt_10_at64_ok s (by omega) v hp w).mono ?_
    rintro e w' ⟨rfl, hw⟩
    refine ⟨Or.inl ⟨v, by unfold pIntR; rw [hp], rfl⟩, ?_⟩
    rcases hw with rfl | ⟨t, rfl⟩
    · exact Grew.refl _
    · exact Lib.bytesWorld_below w _ t
  | range =>
    refine (Tryd.strconv_ParseInt_10_at64_range_var s (by omega) hp c d w h2).mono ?_
    rintro e w' ⟨N, rfl, _, _, hb⟩
    exact ⟨Or.inr ⟨by unfold pIntR; rw [hp], _, _, _, rfl⟩, hb⟩
  | _ =>
    refine (Any.strconv_ParseInt_10_at64_syntax_var Tryd.laysC174 s (by omega) hp a b w h1).mono ?_
    rintro e w' ⟨N, rfl, _, _, hb⟩
    exact ⟨Or.inr ⟨by unfold pIntR; rw [hp], _, _, _, rfl⟩, hb⟩
theorem trimS_le (l cs : List UInt8) : (Lib.trimS l cs).length ≤ l.length := by
  unfold Lib.trimS Lib.trimLeftS Lib.trimRightS
  have h1 := (List.dropWhile_sublist (fun x => cs.contains x) (l := (l.reverse.dropWhile (cs.contains ·)).reverse)).length_le
  have h2 := (List.dropWhile_sublist (fun x => cs.contains x) (l := l.reverse)).length_le
  rw [List.length_reverse] at h1 h2
  omega
theorem behind_sign {c : UInt8} {r : List UInt8} (h : c.toNat = 43 ∨ c.toNat = 45) : behind (c :: r) = r := if_pos h
theorem behind_none {c : UInt8} {r : List UInt8} (h : ¬ (c.toNat = 43 ∨ c.toNat = 45)) : behind (c :: r) = c :: r := if_neg h
theorem list_of {s : ByteArray} (h : 0 < s.size) : s.data.toList = s[0] :: (s.extract 1 s.size).data.toList := by
  have hl : 0 < s.data.toList.length := by rw [← size_data]; exact h
  have h1 := List.drop_eq_getElem_cons hl
  rw [List.drop_zero] at h1
  rw [ByteArray.data_extract, Array.toList_extract, List.extract_eq_take_drop, List.take_of_length_le (by rw [List.length_drop, ← size_data]; omega)]
  exact h1
/-- What is said once the text behind the sign is known. -/
def tailR (S D : List UInt8) : Ending := if D = [] ∨ Lib.trimS D [48, 49, 50, 51, 52, 53, 54, 55, 56, 57] ≠ [] then .returned (.tuple #[.int .i64 0, .int .i64 2]) else pIntR S
theorem readR_tail {l S : List UInt8} (h : Lib.trimS l [32, 9] = S) (h0 : S ≠ []) : readR l = tailR S (behind S) := by
  unfold readR; rw [h, if_neg h0]; rfl
set_option maxRecDepth 100000 in
set_option maxHeartbeats 4000000 in
theorem Read_any (t : ByteArray) (ht : t.size ≤ 65536) (w : World) (he : ErrsD w) :
    Calls Tryd.prog 18 #[.string t] w fun e w' => e = readR t.data.toList ∧ Grew w w' := by
  have HT := hidd (trim_blanks t w (by omega))
  obtain ⟨S, hS⟩ : ∃ S : ByteArray, (⟨(Lib.trimS t.data.toList [32, 9]).toArray⟩ : ByteArray) = S := ⟨_, rfl⟩
  have hSl : S.data.toList = Lib.trimS t.data.toList [32, 9] := by rw [← hS]
  rw [hS] at HT
  have hSs : S.size ≤ 65536 := by
    rw [size_data S, hSl]
    rw [size_data t] at ht
    have := trimS_le t.data.toList [32, 9]
    omega
  have e4 : decide ((65536 : Int) < (t.size : Int)) = false := decide_eq_false (by omega)
  have HE := hidd he
  clear he
  by_cases h0 : S.size = 0
  · have HR : Hid (readR t.data.toList = .returned (.tuple #[.int .i64 0, .int .i64 0])) := by
      have : S.data.toList = [] := List.eq_nil_of_length_eq_zero (by rw [← size_data]; exact h0)
      unfold Hid readR; rw [← hSl, if_pos this]
    obtain ⟨R, hRR⟩ : ∃ R, readR t.data.toList = R := ⟨_, rfl⟩
    rw [hRR] at HR ⊢
    have hne : S.toList.isEmpty = true := by rw [nil_of_size h0]; rfl
    clear hS hSl hRR
    go_enter Tryd.func18, Tryd.ntmps18
    go_wp2_with fail
    refine HT.out.mono ?_; rintro e w1 ⟨rfl, g1⟩
    have G1 := hidd g1
    clear g1
    go_wp2_with fail
    go_ret2
    exact ⟨HR.out.symm, G1.out⟩
  · have hpos : 0 < S.size := Nat.pos_of_ne_zero h0
    have hSne : S.data.toList ≠ [] := by
      intro e; rw [size_data, e] at h0; exact h0 rfl
    have hRT := readR_tail hSl.symm hSne
    have hcons := list_of hpos
    have hne := isEmpty_of_size hpos
    obtain ⟨D, hD, hDb⟩ : ∃ D : ByteArray, (((S[0]'hpos).toNat = 43 ∨ (S[0]'hpos).toNat = 45) ∧ D = S.extract 1 S.size ∨ ¬ ((S[0]'hpos).toNat = 43 ∨ (S[0]'hpos).toNat = 45) ∧ D = S) ∧ behind S.data.toList = D.data.toList := by
      by_cases hc : (S[0]'hpos).toNat = 43 ∨ (S[0]'hpos).toNat = 45
      · exact ⟨S.extract 1 S.size, Or.inl ⟨hc, rfl⟩, by rw [hcons, behind_sign hc]⟩
      · exact ⟨S, Or.inr ⟨hc, rfl⟩, by rw [hcons, behind_none hc]⟩
    rw [hDb] at hRT
    have hDs : D.size ≤ 65536 := by
      rcases hD with ⟨_, rfl⟩ | ⟨_, rfl⟩
      · rw [ByteArray.size_extract]; omega
      · exact hSs
    have HDT := hidd (fun w1 => trim_digits D w1 (by omega))
    obtain ⟨E, hE⟩ : ∃ E : ByteArray, (⟨(Lib.trimS D.data.toList [48, 49, 50, 51, 52, 53, 54, 55, 56, 57]).toArray⟩ : ByteArray) = E := ⟨_, rfl⟩
    have hEl : E.data.toList = Lib.trimS D.data.toList [48, 49, 50, 51, 52, 53, 54, 55, 56, 57] := by rw [← hE]
    rw [hE] at HDT
    have HPI := hidd (fun w1 (g : Grew w w1) => pint S w1 hSs (HE.out.grew g))
    obtain ⟨R, hRR⟩ : ∃ R, readR t.data.toList = R := ⟨_, rfl⟩
    rw [hRR] at hRT ⊢
    have HRT := hidd hRT
    have HEL := hidd hEl
    have hD' : ((S[0]'hpos).toNat = 43 ∧ D = S.extract 1 S.size) ∨ ((S[0]'hpos).toNat = 45 ∧ D = S.extract 1 S.size) ∨ (((S[0]'hpos).toNat : Int) == 43) = false ∧ (((S[0]'hpos).toNat : Int) == 45) = false ∧ D = S := by
      rcases hD with ⟨h | h, e⟩ | ⟨h, e⟩
      · exact Or.inl ⟨h, e⟩
      · exact Or.inr (Or.inl ⟨h, e⟩)
      · exact Or.inr (Or.inr ⟨by rw [beq_eq_false_iff_ne]; omega, by rw [beq_eq_false_iff_ne]; omega, e⟩)
    have hpos' : (0 : Int) < (S.size : Int) := by omega
    have hone : (1 : Int) ≤ (S.size : Int) := by omega
    clear hS hSl hRR hRT hcons hD hDb hE hEl hSne h0
    by_cases hd0 : D.size = 0
    · have HF : Hid (R = .returned (.tuple #[.int .i64 0, .int .i64 2])) := by
        have : D.data.toList = [] := List.eq_nil_of_length_eq_zero (by rw [← size_data]; exact hd0)
        rw [Hid, HRT.out, tailR, if_pos (Or.inl this)]
      have hdne : D.toList.isEmpty = true := by rw [nil_of_size hd0]; rfl
      clear hd0
      rcases hD' with ⟨h1, rfl⟩ | ⟨h1, rfl⟩ | ⟨h1, h2, rfl⟩
      rotate_left 2
      · rw [hne] at hdne; cases hdne
      all_goals
        go_enter Tryd.func18, Tryd.ntmps18
        go_wp2_with fail
        refine HT.out.mono ?_; rintro e w1 ⟨rfl, g1⟩
        have G1 := hidd g1
        clear g1
        go_wp2_with fail
        go_ret2
        exact ⟨HF.out.symm, G1.out⟩
    · have hdne := isEmpty_of_size (Nat.pos_of_ne_zero hd0)
      have hDn : D.data.toList ≠ [] := by
        intro e; rw [size_data, e] at hd0; exact hd0 rfl
      by_cases hE0 : E.size = 0
      · have hene : E.toList.isEmpty = true := by rw [nil_of_size hE0]; rfl
        have HF : Hid (R = pIntR S.data.toList) := by
          have : E.data.toList = [] := List.eq_nil_of_length_eq_zero (by rw [← size_data]; exact hE0)
          rw [Hid, HRT.out, tailR, if_neg]
          rintro (h | h)
          · exact hDn h
          · exact h (by rw [← HEL.out]; exact this)
        clear hd0 hE0 hDn
        rcases hD' with ⟨h1, rfl⟩ | ⟨h1, rfl⟩ | ⟨h1, h2, rfl⟩
        all_goals
          go_enter Tryd.func18, Tryd.ntmps18
          go_wp2_with fail
          refine HT.out.mono ?_; rintro e w1 ⟨rfl, g1⟩
          have G1 := hidd g1
          clear g1
          go_wp2_with fail
          refine (HDT.out _).mono ?_; rintro e w2 ⟨rfl, g2⟩
          have G2 := hidd (G1.out.trans g2)
          clear g2
          go_wp2_with fail
          refine (HPI.out _ G2.out).mono ?_; rintro e w3 ⟨⟨v, hv, rfl⟩ | ⟨hv, v, ty, p, rfl⟩, g3⟩
          all_goals
            have G3 := hidd (G2.out.trans g3)
            have HFF : Hid (R = _) := HF.out.trans hv
            clear g3 hv
            go_wp2_with fail
            go_ret2
            exact ⟨HFF.out.symm, G3.out⟩
      · have hene := isEmpty_of_size (Nat.pos_of_ne_zero hE0)
        have HF : Hid (R = .returned (.tuple #[.int .i64 0, .int .i64 2])) := by
          rw [Hid, HRT.out, tailR, if_pos (Or.inr ?_)]
          rw [← HEL.out]; intro e; rw [size_data, e] at hE0; exact hE0 rfl
        clear hd0 hE0 hDn
        rcases hD' with ⟨h1, rfl⟩ | ⟨h1, rfl⟩ | ⟨h1, h2, rfl⟩
        all_goals
          go_enter Tryd.func18, Tryd.ntmps18
          go_wp2_with fail
          refine HT.out.mono ?_; rintro e w1 ⟨rfl, g1⟩
          have G1 := hidd g1
          clear g1
          go_wp2_with fail
          refine (HDT.out _).mono ?_; rintro e w2 ⟨rfl, g2⟩
          have G2 := hidd (G1.out.trans g2)
          clear g2
          go_wp2_with fail
          go_ret2
          exact ⟨HF.out.symm, G2.out⟩
end Go.Proofs.YthhcpocgfmlbeaaDoor
