/- texts.Split and the reference's: at every two texts. -/
import Derived.Test.YtgkchdjogfdjaaaDoorTxSplitL
import Derived.Test.YtgkchdjogfdjaaaDoorTxLong
import Derived.Test.YtgkchdjogfdjaaaDoorTxMuch
import Derived.Test.YtgkchdjogfdjaaaDoorTxStrs
import Derived.Test.YtgkchdjogfdjaaaDoorShelfB
import Derived.Lib.ItoaWalk
namespace Go.Proofs.YtgkchdjogfdjaaaDoor
open Go.RowKit
set_option linter.unusedVariables false

def textOf (l : List UInt8) : ByteArray := ⟨l.toArray⟩
theorem textOf_data (s : ByteArray) : textOf s.data.toList = s := by cases s; simp [textOf]
def signOf (t : ByteArray) : UInt8 := t.data.toList.getD 0 0
theorem sign_list (t : ByteArray) (h : t.size = 1) : t.data.toList = [signOf t] := by
  unfold signOf
  rw [size_data] at h
  match hl : t.data.toList, h with
  | [c], _ => rfl
/-- The pieces between the signs. -/
def piecesB (c : UInt8) (s : ByteArray) : List ByteArray := (pieces c s.data.toList).map textOf
theorem piecesB_length (c : UInt8) (s : ByteArray) : (piecesB c s).length = s.data.toList.count c + 1 := by unfold piecesB; rw [List.length_map, pieces_length]
theorem map_textOf (l : List ByteArray) : (l.map (·.data.toList)).map textOf = l := by
  rw [List.map_map]
  conv => rhs; rw [← List.map_id l]
  exact List.map_congr_left (fun s _ => textOf_data s)
theorem splitB_pieces (s t : ByteArray) (h : t.size = 1) : Lib.splitB t 0 (Lib.countB s t) s = piecesB (signOf t) s := by
  rw [← map_textOf (Lib.splitB t 0 (Lib.countB s t) s), Lib.splitB_data]
  unfold piecesB
  rw [← split_one, ← sign_list t h]; rfl
theorem countB_sign (s t : ByteArray) (h : t.size = 1) : Lib.countB s t = s.data.toList.count (signOf t) := by
  unfold Lib.countB
  rw [sign_list t h, Lib.count_one]

theorem Split_much (s t : ByteArray) (w : World) (hs : s.size ≤ maxLen) (h : 65536 < s.size) :
    Calls Tryd.prog 6 #[.string s, .string t] w fun e w' => e = .returned (.tuple #[.slice none 0 0, .int .i64 4]) ∧ Grew w w' := by
  have hd : decide (65536 < s.size) = true := by simpa using h
  go_enter Tryd.func6, Tryd.ntmps6
  go_wp2_with fail
  refine (long_1 s w 9 hs).mono ?_; rintro e w1 ⟨rfl, rfl⟩
  rw [hd]
  go_wp2_with fail
  go_ret2
  exact ⟨rfl, (Grew.refl _).alloc _⟩
theorem Split_fit (s t : ByteArray) (w : World) (hs : s.size ≤ 65536) (ht : t.size ≤ maxLen) (h : t.size ≠ 1) :
    Calls Tryd.prog 6 #[.string s, .string t] w fun e w' => e = .returned (.tuple #[.slice none 0 0, .int .i64 8]) ∧ Grew w w' := by
  have hd : decide (65536 < s.size) = false := by simpa using hs
  have hz : ((t.size : Int) != 1) = true := by rw [bne_iff_ne]; omega
  have HH := hidd h
  clear h
  go_enter Tryd.func6, Tryd.ntmps6
  go_wp2_with fail
  refine (long_1 s w 9 (by unfold maxLen; omega)).mono ?_; rintro e w1 ⟨rfl, rfl⟩
  rw [hd]
  go_wp2_with fail
  go_ret2
  exact ⟨rfl, (Grew.refl _).alloc _⟩
theorem Split_ok (s t : ByteArray) (m : Int) (w : World) (hs : s.size ≤ 65536) (ht : t.size = 1) (hm : w.cell? ⟨0, 0, none⟩ = some (.int .i64 m)) :
    Calls Tryd.prog 6 #[.string s, .string t] w fun e w' => ∃ v, e = .returned (.tuple #[v, .int .i64 0]) ∧ StrsArg w' v (piecesB (signOf t) s) ∧ Grew w w' := by
  have hd : decide (65536 < s.size) = false := by simpa using hs
  have hz : ((t.size : Int) != 1) = false := by rw [bne_eq_false_iff_eq]; omega
  have HH := hidd ht
  have HM := hidd hm
  clear ht hm
  go_enter Tryd.func6, Tryd.ntmps6
  go_wp2_with fail
  refine (long_1 s w 9 (by unfold maxLen; omega)).mono ?_; rintro e w1 ⟨rfl, rfl⟩
  rw [hd]
  go_wp2_with fail
  refine (Tryd.strings_Split s t m _ (by omega) (((Grew.refl w).alloc _).keeps HM.out) (by have := HH.out; omega)).mono ?_; rintro e w2 ⟨rfl, rfl⟩
  have hP : ∀ W : World, Hid (StrsArg (W.alloc (.cells ((Lib.splitB t 0 (Lib.countB s t) s).map Value.string).toArray 9)) (.slice (some ⟨W.heap.size, 0, none⟩) (Lib.countB s t + 1) (Lib.countB s t + 1)) (piecesB (signOf t) s)) := by
    intro W
    have hl : (piecesB (signOf t) s).length = Lib.countB s t + 1 := by rw [piecesB_length, countB_sign s t HH.out]
    refine Or.inr ⟨W.heap.size, 0, Lib.countB s t + 1, by rw [hl], by omega, by omega, ?_, fun i hi => ?_⟩
    · have := Lib.countB_le t (by have := HH.out; omega) s.size s (Nat.le_refl _)
      unfold maxLen; omega
    · rw [Nat.zero_add, World.cell?_alloc_mark, splitB_pieces s t HH.out]
      simp [List.getD_eq_getElem?_getD, List.getElem?_eq_getElem hi]
  have HP := hP (w.alloc (.cells #[.string s] 9))
  obtain ⟨C, hC⟩ : ∃ C, Lib.countB s t = C := ⟨_, rfl⟩
  obtain ⟨L, hL⟩ : ∃ L, Lib.splitB t 0 C s = L := ⟨_, rfl⟩
  rw [hC, hL] at HP ⊢
  rw [World.size_alloc] at HP
  clear hC hL hP
  go_wp2_with fail
  go_ret2
  exact ⟨_, rfl, HP.out, ((Grew.refl w).alloc _).alloc _⟩

theorem RSplit_much (s t : ByteArray) (w : World) (hs : s.size ≤ maxLen) (h : 65536 < s.size) :
    Calls Tryd.prog 7 #[.string s, .string t] w fun e w' => e = .returned (.tuple #[.slice none 0 0, .int .i64 4]) ∧ Grew w w' := by
  have hd : decide (65536 < s.size) = true := by simpa using h
  go_enter Tryd.func7, Tryd.ntmps7
  go_wp2_with fail
  refine (much_1 s w 9 hs).mono ?_; rintro e w1 ⟨rfl, rfl⟩
  rw [hd]
  go_wp2_with fail
  go_ret2
  exact ⟨rfl, (Grew.refl _).alloc _⟩
theorem RSplit_fit (s t : ByteArray) (w : World) (hs : s.size ≤ 65536) (ht : t.size ≤ maxLen) (h : t.size ≠ 1) :
    Calls Tryd.prog 7 #[.string s, .string t] w fun e w' => e = .returned (.tuple #[.slice none 0 0, .int .i64 8]) ∧ Grew w w' := by
  have hd : decide (65536 < s.size) = false := by simpa using hs
  have hz : ((t.size : Int) != 1) = true := by rw [bne_iff_ne]; omega
  have HH := hidd h
  clear h
  go_enter Tryd.func7, Tryd.ntmps7
  go_wp2_with fail
  refine (much_1 s w 9 (by unfold maxLen; omega)).mono ?_; rintro e w1 ⟨rfl, rfl⟩
  rw [hd]
  go_wp2_with fail
  go_ret2
  exact ⟨rfl, (Grew.refl _).alloc _⟩

theorem piecesB_hit (c : UInt8) (s : ByteArray) (f i : Nat) (done : List ByteArray) (hfi : f ≤ i) (hi : i < s.size) (hd : piecesB c s = done ++ (pieces c (s.data.toList.drop f)).map textOf)
    (hn : ∀ j, f ≤ j → j < i → s.data.toList.getD j 0 ≠ c) (hc : s.data.toList.getD i 0 = c) :
    piecesB c s = (done ++ [s.extract f i]) ++ (pieces c (s.data.toList.drop (i + 1))).map textOf := by
  have hl : s.data.toList.length = s.size := (size_data s).symm
  have e1 : s.data.toList.drop f = (s.data.toList.drop f).take (i - f) ++ c :: s.data.toList.drop (i + 1) := by
    conv => lhs; rw [← List.take_append_drop (i - f) (s.data.toList.drop f)]
    congr 1
    rw [List.drop_drop, show f + (i - f) = i by omega, List.drop_eq_getElem_cons (by omega)]
    congr 1
    rw [← hc, List.getD_eq_getElem?_getD, List.getElem?_eq_getElem (by omega)]; rfl
  have e2 : ∀ b ∈ (s.data.toList.drop f).take (i - f), b ≠ c := by
    intro b hb
    obtain ⟨j, hj, rfl⟩ := List.getElem_of_mem hb
    have hj2 : j < i - f := by simp at hj; omega
    have := hn (f + j) (by omega) (by omega)
    rw [List.getD_eq_getElem?_getD, List.getElem?_eq_getElem (by omega)] at this
    simpa using this
  rw [hd, e1, pieces_hit c _ _ e2, List.map_cons, List.append_assoc]
  congr 2
  rw [← textOf_data (s.extract f i), Lib.extract_data]
theorem piecesB_end (c : UInt8) (s : ByteArray) (f : Nat) (done : List ByteArray) (hd : piecesB c s = done ++ (pieces c (s.data.toList.drop f)).map textOf)
    (hn : ∀ j, f ≤ j → j < s.size → s.data.toList.getD j 0 ≠ c) : piecesB c s = done ++ [s.extract f s.size] := by
  have hl : s.data.toList.length = s.size := (size_data s).symm
  rw [hd, pieces_none c _ (fun b hb => by
    obtain ⟨j, hj, rfl⟩ := List.getElem_of_mem hb
    have hj2 : j < s.size - f := by simp at hj; omega
    have := hn (f + j) (by omega) (by omega)
    rw [List.getD_eq_getElem?_getD, List.getElem?_eq_getElem (by omega)] at this
    simpa using this)]
  congr 1
  rw [← textOf_data (s.extract f s.size), Lib.extract_data]
  simp only [List.map_cons, List.map_nil]
  rw [List.take_of_length_le (by rw [List.length_drop]; omega)]

set_option maxHeartbeats 1000000 in
theorem RSplit_ok (s t : ByteArray) (w : World) (hs : s.size ≤ 65536) (ht : t.size = 1) :
    Calls Tryd.prog 7 #[.string s, .string t] w fun e w' => ∃ v, e = .returned (.tuple #[v, .int .i64 0]) ∧ StrsArg w' v (piecesB (signOf t) s) ∧ Grew w w' := by
  have hd : decide (65536 < s.size) = false := by simpa using hs
  have hz : ((t.size : Int) != 1) = false := by rw [bne_eq_false_iff_eq]; omega
  have ht1 : 0 < t.size := by omega
  have HT : Hid (signOf t = t[0]) := by
    have e2 : t.data.toList.getD 0 0 = t[0] := (Lib.getD_at t 0 ht1).symm
    exact e2
  clear ht
  obtain ⟨z, hz0⟩ : ∃ z, t[0] = z := ⟨_, rfl⟩
  obtain ⟨C, hC⟩ : ∃ C, signOf t = C := ⟨_, rfl⟩
  have hcz : C = z := by rw [← hC, HT.out, hz0]
  subst hcz
  rw [hC]
  clear hC HT
  go_enter Tryd.func7, Tryd.ntmps7
  go_wp2_with fail
  refine (much_1 s w 9 (by unfold maxLen; omega)).mono ?_; rintro e w1 ⟨rfl, rfl⟩
  rw [hd]
  have HO := hidd (Own.nil 9 (w.alloc (.cells #[.string s] 9)) w.heap.size)
  have HG := hidd ((Grew.refl w).alloc (.cells #[.string s] 9))
  go_wp2_with fail
  go_loopw [6, 7, 8] (fun v6 v7 v8 wr => ∃ (f i : Nat) (done : List ByteArray), v7 = .int .i64 f ∧ v8 = .int .i64 i ∧ f ≤ i ∧ i ≤ s.size ∧ done.length ≤ f ∧ w.heap.size ≤ wr.heap.size ∧ Hid (Own 9 wr w.heap.size v6 (done.map Value.string)) ∧ Hid (Grew w wr) ∧ Hid (piecesB C s = done ++ (pieces C (s.data.toList.drop f)).map textOf) ∧ Hid (∀ j, f ≤ j → j < i → s.data.toList.getD j 0 ≠ C)) (fun _ _ v8 _ => s.size - (intOf v8).toNat)
  case atStart => exact ⟨0, 0, [], rfl, rfl, by omega, by omega, by simp, by simp, HO, HG, rfl, fun j _ h => by omega⟩
  case round =>
    obtain ⟨f, i, done, rfl, rfl, hfi, hi, hdf, hsz, HO, HG, HP, HN⟩ := hrel
    by_cases h : i < s.size
    · have h' : i < s.data.toList.length := h
      have hgd : s.data.toList.getD i 0 = s[i]'h := by rw [List.getD_eq_getElem?_getD, List.getElem?_eq_getElem h']; rfl
      by_cases hc : s[i]'h = C
      · have kc : (((s[i]'h).toNat : Int) == (C.toNat : Int)) = true := by rw [hc]; simp
        have HP2 := hidd (piecesB_hit C s f i done hfi h HP.out HN.out (by rw [hgd, hc]))
        clear hc
        go_wp2_with fail
        go_quiet (fail)
        obtain ⟨v', w', hap, ho2, hb2⟩ := own_text (HO.out.drewN nq) hsz (s.extract f i) (by rw [List.length_map]; omega) 22 9
        have HO2 := hidd ho2
        have HB2 := hidd ((HG.out.drewN nq).below hb2 (Nat.le_refl _))
        have hsz2 : w.heap.size ≤ w'.heap.size := HB2.out.size
        clear ho2 hb2
        go_wp2_with (at_builtin; refine wpList_append_eq rfl rfl rfl rfl hap ?_)
        go_roundw
        case rel => exact ⟨i + 1, i + 1, done ++ [s.extract f i], by simp, by simp, by omega, by omega, by simp; omega, hsz2, by rw [Hid, List.map_append]; exact HO2.out, HB2, HP2, fun j _ h => by omega⟩
        case measure => simp [intOf]; omega
      · have kc : (((s[i]'h).toNat : Int) == (C.toNat : Int)) = false := by
          rw [beq_eq_false_iff_ne]; intro e; apply hc; apply UInt8.toNat_inj.1; omega
        have HN2 : Hid (∀ j, f ≤ j → j < i + 1 → s.data.toList.getD j 0 ≠ C) := fun j h1 h2 => by
          rcases Nat.lt_or_ge j i with h3 | h3
          · exact HN.out j h1 h3
          · obtain rfl : j = i := by omega
            rw [hgd]; exact hc
        clear hc
        go_wp2_with fail
        go_quiet (fail)
        have HO2 := hidd (HO.out.drewN nq)
        have HG2 := hidd (HG.out.drewN nq)
        go_wp2_with fail
        go_roundw
        case rel => exact ⟨f, i + 1, done, rfl, by simp, by omega, by omega, hdf, hsz, HO2, HG2, HP, HN2⟩
        case measure => simp [intOf]; omega
    · have hie : i = s.size := by omega
      have HE := hidd (piecesB_end C s f done HP.out (fun j h1 h2 => HN.out j h1 (by omega)))
      obtain ⟨v', w', hap, ho2, hb2⟩ := own_text HO.out hsz (s.extract f s.size) (by rw [List.length_map]; omega) 22 9
      have HO2 := hidd ho2
      have HB2 := hidd (HG.out.below hb2 (Nat.le_refl _))
      clear ho2 hb2 hie
      go_wp2_with (at_builtin; refine wpList_append_eq rfl rfl rfl rfl hap ?_)
      go_ret2
      refine ⟨_, rfl, ?_, HB2.out⟩
      rw [HE.out]
      exact Own.strs (by rw [List.map_append]; exact HO2.out)
end Go.Proofs.YtgkchdjogfdjaaaDoor
