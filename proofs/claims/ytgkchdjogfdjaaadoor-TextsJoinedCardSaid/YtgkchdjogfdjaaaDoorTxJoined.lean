/- What is split is joined: the law's walk. Conditions: the texts' reach. -/
import Derived.Test.YtgkchdjogfdjaaaDoorTxLists
import Derived.Test.YtgkchdjogfdjaaaDoorTxCount
import Derived.Test.YtgkchdjogfdjaaaDoorTxReverse
import Derived.Deep.DeepCutAuto
namespace Go.Proofs.YtgkchdjogfdjaaaDoor
open Go.RowKit
set_option linter.unusedVariables false
theorem textOf_eq (s : ByteArray) : (⟨s.data.toList.toArray⟩ : ByteArray) = s := textOf_data s
theorem joinB_pieces (c : UInt8) (s : ByteArray) : joinB c (piecesB c s) = s := by
  unfold joinB piecesB ld
  rw [List.map_map]
  have : (fun x : ByteArray => x.data.toList) ∘ textOf = id := by funext x; simp [textOf]
  rw [this, List.map_id, join_pieces]
theorem sumL_join (c : UInt8) (l : List ByteArray) (h : 0 < l.length) : (joinB c l).size + 1 = sumL l := by
  have := jn_len c (l := l) l.length h (Nat.le_refl _)
  rw [jn_all c l (Nat.le_refl _), List.take_length] at this
  rw [← this, size_data]; rfl
theorem piecesB_pos (c : UInt8) (s : ByteArray) : 0 < (piecesB c s).length := by rw [piecesB_length]; omega
theorem joinS_pieces (s t : ByteArray) (hs : s.size ≤ 65536) (ht : t.size = 1) : joinS (piecesB (signOf t) s) t = (s, 0) := by
  have h := sumL_join (signOf t) (piecesB (signOf t) s) (piecesB_pos _ _)
  rw [joinB_pieces] at h
  rw [joinS_ok ht (by omega), joinB_pieces]
theorem splitS_join {l : List ByteArray} {g s : ByteArray} (h : joinS l g = (s, 0)) (h0 : 0 < l.length) (hn : ∀ x ∈ l, ∀ b ∈ x.data.toList, b ≠ signOf g) : splitS s g = (l, 0) := by
  unfold joinS at h
  split at h
  · cases h
  · rename_i hg
    split at h
    · cases h
    · rename_i hs
      have e : joinB (signOf g) l = s := congrArg Prod.fst h
      have hz := sumL_join (signOf g) l h0
      rw [e] at hz
      unfold splitS
      rw [if_neg (by omega), if_neg hg]
      refine congrArg (·, 0) ?_
      subst e
      unfold piecesB joinB
      rw [str_mk]
      match l, h0 with
      | x :: r, _ =>
        have := pieces_join (signOf g) x.data.toList (ld r) (by
          intro y hy b hb
          have hy : y ∈ ld (x :: r) := hy
          obtain ⟨z, hz, rfl⟩ := List.mem_map.1 hy
          exact hn z hz b hb)
        rw [show ld (x :: r) = x.data.toList :: ld r from rfl, this]
        exact map_textOf (x :: r)
theorem le_sumL {s : ByteArray} : ∀ {L : List ByteArray}, s ∈ L → s.size + 1 ≤ sumL L
  | x :: L, h => by
    rw [sumL_cons]
    rcases List.mem_cons.1 h with rfl | h
    · omega
    · have := le_sumL h; omega
theorem count_pieces (s t : ByteArray) (ht : t.size = 1) : (piecesB (signOf t) s).length = Lib.count s.data.toList t.data.toList + 1 := by
  rw [piecesB_length, sign_list t ht, Lib.count_one]
theorem joinS_code (l : List ByteArray) (g : ByteArray) : joinS l g = (⟨#[]⟩, 8) ∨ joinS l g = (⟨#[]⟩, 4) ∨ ∃ s, joinS l g = (s, 0) := by
  unfold joinS; split
  · exact Or.inl rfl
  · split
    · exact Or.inr (Or.inl rfl)
    · exact Or.inr (Or.inr ⟨_, rfl⟩)
theorem one_byte {x g : ByteArray} {i : Nat} (hi : i < x.size) (hg : g.size = 1) : ((x.extract i (i + 1)).toList == g.toList) = decide (x.data.toList.getD i 0 = signOf g) := by
  have e : (x.extract i (i + 1)).data.toList = [x.data.toList.getD i 0] := by
    rw [Lib.extract_data, show i + 1 - i = 1 by omega, List.drop_eq_getElem_cons (by rw [← size_data]; exact hi), List.take_succ_cons, List.take_zero, List.getD_eq_getElem?_getD, List.getElem?_eq_getElem (by rw [← size_data]; exact hi)]; rfl
  rw [Lib.toList_data, Lib.toList_data, e, sign_list g hg]
  generalize x.data.toList.getD i 0 = a
  generalize signOf g = b
  by_cases h : a = b
  · subst h; simp
  · simp [h]
set_option maxRecDepth 100000 in
set_option maxHeartbeats 2000000 in
theorem TextsJoined_walk (t : ByteArray) (v : Value) (l : List ByteArray) (g : ByteArray) (m : Int) (w : World) (ht : t.size ≤ maxLen) (hl : StrsArg w v l) (hz : ∀ s ∈ l, s.size ≤ 140737488355328) (hg : g.size ≤ maxLen) (hm : w.cell? ⟨0, 0, none⟩ = some (.int .i64 m)) :
    Calls Tryd.prog 5 #[.string t, v, .string g] w fun e w' => e = .returned (.bool true) ∧ Grew w w' := by
  obtain ⟨p, c, rfl, hn⟩ := hl.len
  have HSp := hidd (fun w' (k : Grew w w') => Split_all t g m w' ht hg (k.keeps hm))
  have HSp2 := hidd (fun s (hs : s.size ≤ maxLen) w' (k : Grew w w') => Split_all s g m w' hs hg (k.keeps hm))
  have HJ := hidd (fun w' (k : Grew w w') => Join_all l g _ w' (hl.kept k) hg hz)
  have HL := hidd hl
  have HM := hidd hm
  clear hm hl ht
  have HZ := hidd hz
  clear hz
  go_enter Tryd.func5, Tryd.ntmps5
  go_wp2_with fail
  refine (alive_true _).mono ?_
  rintro e w1 ⟨rfl, g1⟩
  have G1 := hidd g1
  clear g1
  go_wp2_with fail
  refine (HSp.out _ G1.out).mono ?_
  rintro e w2 ⟨v2, rfl, h2, g2⟩
  have G2 := hidd (G1.out.trans g2)
  have K2 := hidd h2
  clear g2 h2 G1
  obtain ⟨⟨sp, x⟩, hx⟩ : ∃ c, splitS t g = c := ⟨_, rfl⟩
  rw [hx] at K2 ⊢
  dsimp only at K2 ⊢
  have HX := hidd hx
  clear hx
  go_upto_if 26 with fail
  go_cut [7, 8] (fun _ _ wx => Hid (Grew w wx))
  case first =>
    have hx := HX.out
    clear HX
    by_cases h1 : 65536 < t.size
    · have e1 : splitS t g = ([], 4) := by unfold splitS; rw [if_pos h1]
      rw [e1] at hx
      cases hx
      go_wp2_with fail
      go_meet
      exact G2
    · by_cases h2 : g.size ≠ 1
      · have e1 : splitS t g = ([], 8) := by unfold splitS; rw [if_neg h1, if_pos h2]
        rw [e1] at hx
        cases hx
        go_wp2_with fail
        go_meet
        exact G2
      · have e1 : splitS t g = (piecesB (signOf g) t, 0) := by unfold splitS; rw [if_neg h1, if_neg h2]
        rw [e1] at hx
        cases hx
        have hg1 : g.size = 1 := by omega
        have hj := joinS_pieces t g (by omega) hg1
        have hc := count_pieces t g hg1
        obtain ⟨L, hL⟩ : ∃ L, piecesB (signOf g) t = L := ⟨_, rfl⟩
        have hzL : ∀ s ∈ L, s.size ≤ 140737488355328 := by
          intro s hs
          rw [hL] at hj
          have h3 : sumL L ≤ 65537 := by
            have := sumL_join (signOf g) (piecesB (signOf g) t) (piecesB_pos _ _)
            rw [joinB_pieces, hL] at this; omega
          have h4 : s.size + 1 ≤ sumL L := by
            exact le_sumL hs
          omega
        rw [hL] at K2 hj hc
        obtain ⟨p2, c2, rfl, hn2⟩ := K2.out.len
        have HJ3 : Hid (∀ w', Grew w2 w' → Calls Tryd.prog 9 #[.slice p2 L.length c2, .string g] w' fun e w'' => e = .returned (.tuple #[.string t, .int .i64 0]) ∧ Grew w' w'') := by
          intro w' k
          have := Join_all L g _ w' (K2.out.kept k) hg hzL
          unfold joinV at this
          rw [hj] at this
          exact this
        have HCt := hidd (Count_ok t g m)
        have hcz : L.length ≤ 65537 := by
          have := length_le_sumL L
          have h3 := sumL_join (signOf g) (piecesB (signOf g) t) (piecesB_pos _ _)
          rw [joinB_pieces, hL] at h3; omega
        obtain ⟨C, hC⟩ : ∃ C, Lib.count t.data.toList g.data.toList = C := ⟨_, rfl⟩
        rw [hC] at HCt hc
        rw [hc] at HJ3 K2 hcz ⊢
        have hst := same_text t
        have HT := hidd (show t.size ≤ 65536 by omega)
        clear hj hC hL hzL e1 h1 h2 hc
        go_wp2_with fail
        refine (HJ3.out _ (Grew.refl _)).mono ?_
        rintro e w3 ⟨rfl, g3⟩
        have G3 := hidd (G2.out.trans g3)
        clear g3
        go_wp2_with fail
        refine (HCt.out _ HT.out (by omega) (by omega) (G3.out.keeps HM.out)).mono ?_
        rintro e w4 ⟨rfl, g4⟩
        have G4 := hidd (G3.out.trans g4)
        clear g4
        go_wp2_with fail
        go_meet
        exact G4
  case rest =>
    have G5 := hcut
    clear hcut G2 K2 HX HSp
    have HJ5 : ∀ (s : ByteArray) (y : Nat), joinS l g = (s, y) → Hid (∀ w', Grew w w' → Calls Tryd.prog 9 #[.slice p l.length c, .string g] w' fun e w'' => e = .returned (.tuple #[.string s, .int .i64 (y : Nat)]) ∧ Grew w' w'') := by
      intro s y hj w' k
      have := HJ.out w' k
      unfold joinV at this
      rw [hj] at this
      exact this
    clear HJ
    rcases joinS_code l g with hj | hj | ⟨s, hj⟩
    · have HJ6 := HJ5 _ _ hj
      clear HJ5 hj
      go_wp2_with fail
      refine (HJ6.out _ G5.out).mono ?_
      rintro e w3 ⟨rfl, g3⟩
      have G6 := hidd (G5.out.trans g3)
      clear g3
      go_wp2_with fail
      go_ret
      exact ⟨rfl, G6.out⟩
    · have HJ6 := HJ5 _ _ hj
      clear HJ5 hj
      go_wp2_with fail
      refine (HJ6.out _ G5.out).mono ?_
      rintro e w3 ⟨rfl, g3⟩
      have G6 := hidd (G5.out.trans g3)
      clear g3
      go_wp2_with fail
      go_ret
      exact ⟨rfl, G6.out⟩
    have HJ6 := HJ5 _ _ hj
    have HJS := hidd hj
    clear HJ5 hj
    rcases Nat.eq_zero_or_pos l.length with h0 | h0
    · rw [h0] at HJ6 ⊢
      clear h0
      go_wp2_with fail
      refine (HJ6.out _ G5.out).mono ?_
      rintro e w3 ⟨rfl, g3⟩
      have G6 := hidd (G5.out.trans g3)
      clear g3
      go_wp2_with fail
      go_ret
      exact ⟨rfl, G6.out⟩
    have hl0 : ((l.length : Int) == 0) = false := by rw [beq_eq_false_iff_ne]; omega
    have hg1 : g.size = 1 := by
      rcases Nat.decEq g.size 1 with h | h
      · have := HJS.out; rw [joinS_fit h] at this; cases this
      · exact h
    have HG1 := hidd hg1
    have hs1 : s.size ≤ maxLen := by
      have h1 := HJS.out
      unfold joinS at h1
      rw [if_neg (by omega)] at h1
      split at h1
      · cases h1
      · have e : joinB (signOf g) l = s := congrArg Prod.fst h1
        have := sumL_join (signOf g) l h0
        rw [e] at this
        unfold maxLen; omega
    clear hg1
    go_wp2_with fail
    refine (HJ6.out _ G5.out).mono ?_
    rintro e w3 ⟨rfl, g3⟩
    have G6 := hidd (G5.out.trans g3)
    clear g3
    go_wp2_with fail
    go_loopw [15, 16, 72, 79] (fun _ _ v72 _ wr => ∃ k : Nat, v72 = .int .i64 k ∧ k ≤ l.length ∧ Hid (Grew w wr) ∧ Hid (∀ j, j < k → ∀ b ∈ (l.getD j ByteArray.empty).data.toList, b ≠ signOf g)) (fun _ _ v72 _ _ => l.length - (intOf v72).toNat)
    case atStart => exact ⟨0, rfl, by omega, G6, fun j hj => by omega⟩
    case round =>
      obtain ⟨k, rfl, hk, HG, HN⟩ := hrel
      by_cases hlt : k < l.length
      · obtain ⟨b, o, rfl, c00⟩ := HL.out.at hlt
        have c0 := HG.out.keeps c00
        have HX := hidd (rfl : l.getD k ByteArray.empty = l.getD k ByteArray.empty)
        obtain ⟨x, hx0⟩ : ∃ x, l.getD k ByteArray.empty = x := ⟨_, rfl⟩
        have hxz := HZ.out _ (mem_getD hlt)
        rw [hx0] at c0 hxz
        clear HX c00
        have HX := hidd hx0
        clear hx0
        have hkl : decide ((k : Int) < (l.length : Int)) = true := decide_eq_true (by omega)
        have hcv := bytesOf wr x
        obtain ⟨C, hC⟩ : ∃ C, grownCap wr x.size 0 5 = C := ⟨_, rfl⟩
        rw [hC] at hcv
        clear hC
        have HGa : Hid (∀ A B fr, Grew w (wr.drew.alloc (.cells A B fr))) := fun A B fr => HG.out.drew.alloc _
        go_wp2_with fail
        go_loopw [16, 79] (fun _ v79 wx => ∃ i : Nat, v79 = .int .i64 i ∧ i ≤ x.size ∧ Hid (Grew w wx) ∧ Hid (∀ j, j < i → x.data.toList.getD j 0 ≠ signOf g)) (fun _ v79 _ => x.size - (intOf v79).toNat)
        case atStart => exact ⟨0, rfl, by omega, HGa.out _ _ _, fun j hj => by omega⟩
        case round =>
          clear HG HGa hcv c0
          obtain ⟨i, rfl, hi, HG, HN2⟩ := hrel
          by_cases hil : i < x.size
          · have hob := one_byte hil HG1.out
            have kk : decide ((i : Int) < (x.size : Int)) = true := decide_eq_true (by omega)
            by_cases hsg : x.data.toList.getD i 0 = signOf g
            · rw [decide_eq_true hsg] at hob
              clear hsg
              go_wp2_with fail
              go_ret
              exact ⟨rfl, HG.out⟩
            · have HSG := hidd hsg
              rw [decide_eq_false hsg] at hob
              clear hsg
              go_wp2_with fail
              go_roundw
              case rel =>
                refine ⟨i + 1, by go_num, by omega, HG, fun j hj => ?_⟩
                rcases Nat.lt_or_ge j i with h | h
                · exact HN2.out j h
                · obtain rfl : i = j := by omega
                  exact HSG.out
              case measure => simp [intOf]; omega
          · have hie : i = x.size := by omega
            have kk : decide ((i : Int) < (x.size : Int)) = false := decide_eq_false (by omega)
            have HIE := hidd hie
            clear hie
            go_wp2_with fail
            go_roundw
            case rel =>
              refine ⟨k + 1, by go_num, by omega, HG, fun j hj bb hb => ?_⟩
              rcases Nat.lt_or_ge j k with h | h
              · exact HN.out j h bb hb
              · obtain rfl : k = j := by omega
                rw [HX.out] at hb
                obtain ⟨q, hq, rfl⟩ := List.getElem_of_mem hb
                have := HN2.out q (by rw [HIE.out, size_data]; exact hq)
                rwa [List.getD_eq_getElem?_getD, List.getElem?_eq_getElem hq] at this
            case measure => simp [intOf]; omega
      · have hke : k = l.length := by omega
        have hkl : decide ((k : Int) < (l.length : Int)) = false := decide_eq_false (by omega)
        have HS2 := splitS_join HJS.out h0 (fun y hy bb hb => by
          obtain ⟨q, hq, rfl⟩ := List.getElem_of_mem hy
          refine HN.out q (by omega) bb ?_
          rwa [List.getD_eq_getElem?_getD, List.getElem?_eq_getElem hq])
        have HSp3 : Hid (∀ w', Grew w w' → Calls Tryd.prog 6 #[.string s, .string g] w' fun e w'' => ∃ v, e = .returned (.tuple #[v, .int .i64 0]) ∧ StrsArg w'' v l ∧ Grew w' w'') := by
          intro w' k'
          have := HSp2.out s hs1 w' k'
          unfold SplitSaid at this
          rw [HS2] at this
          exact this
        clear HSp2 HS2 hke
        go_wp2_with fail
        refine (HSp3.out _ HG.out).mono ?_
        rintro e w4 ⟨v4, rfl, h4, g4⟩
        have K4 := hidd h4
        have G7 := hidd (HG.out.trans g4)
        clear h4 g4
        go_wp2_with fail
        refine (Same_eq v4 _ l _ K4.out (HL.out.kept G7.out)).mono ?_
        rintro e w5 ⟨rfl, g5⟩
        have G8 := hidd (G7.out.trans g5)
        clear g5
        go_wp2_with fail
        go_ret
        exact ⟨rfl, G8.out⟩
end Go.Proofs.YtgkchdjogfdjaaaDoor
