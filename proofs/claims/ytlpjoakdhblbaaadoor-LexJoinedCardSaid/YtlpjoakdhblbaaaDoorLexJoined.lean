/- Two lines, a blank between: the law's walk. -/
import Derived.Test.YtlpjoakdhblbaaaDoorLexCovers
namespace Go.Proofs.YtlpjoakdhblbaaaDoor
open Go.RowKit
set_option linter.unusedVariables false
set_option maxHeartbeats 2000000 in
theorem Line_over (s : ByteArray) (w : World) (hss : s.size ≤ 9223372036854775807) (h : 2000 < s.size) : Calls Tryd.prog 6 #[.string s] w fun e w' => e = .returned (.tuple #[.slice none 0 0, faultV 4 0]) ∧ Grew w w' := by
  have HF := hidd (fault_at w 4 0)
  have HG := hidd ((Grew.refl w).alloc (.cells #[.int .i64 4, .int .i64 0] 25))
  have k1 : decide (2000 < (s.size : Int)) = true := decide_eq_true (by omega)
  go_enter Tryd.func6, Tryd.ntmps6
  go_wp2_with fail
  exact bodyPost_tmp_arr rfl rfl rfl HF.out Tryd.underlying25 rfl info_fault rfl ⟨rfl, HG.out⟩
theorem Line_long (s : ByteArray) (m : Int) (w : World) (hs : s.size ≤ 9223372036854775807) (hm : w.cell? ⟨0, 0, none⟩ = some (.int .i64 m)) : Calls Tryd.prog 6 #[.string s] w (Said w (codeOf s)) := by
  by_cases h : s.size ≤ 2000
  · exact (Line_any s m w h hm).mono fun e w' k => said_of h k
  · refine (Line_over s w hs (by omega)).mono fun e w' k => ?_
    unfold codeOf; rw [if_neg h]
    exact ⟨_, k.1, toksV_nil _, k.2⟩
theorem cov_at (s : List UInt8) : ∀ (l : List Tok) (e : Nat), Cov s e l → ∀ x ∈ l, x.2.2 < s.length
  | [], _, _, x, hx => by simp at hx
  | y :: l, e, h, x, hx => by
    obtain ⟨_, h2, _, _, _, h6⟩ := h
    rcases List.mem_cons.1 hx with rfl | hx
    · exact h2
    · exact cov_at s l _ h6 x hx
theorem codeOf_zero {s : ByteArray} {y : Nat} {l : List Tok} (h : codeOf s = (0, y, l)) : s.size ≤ 2000 ∧ y = 0 ∧ line 0 s.data.toList = .fine l := by
  unfold codeOf at h
  by_cases hs : s.size ≤ 2000
  · rw [if_pos hs] at h
    cases hO : line 0 s.data.toList with
    | bad a => rw [hO] at h; simp at h
    | fine l' => rw [hO] at h; simp at h; exact ⟨hs, h.1.symm, by rw [h.2]⟩
  · rw [if_neg hs] at h; simp at h
theorem codeOf_join {s t : ByteArray} {y1 y2 : Nat} {l1 l2 : List Tok} (h1 : codeOf s = (0, y1, l1)) (h2 : codeOf t = (0, y2, l2)) (hz : s.size + t.size + 1 ≤ 2000) : codeOf (s ++ ⟨#[32]⟩ ++ t) = (0, 0, l1 ++ l2.map (shifted (s.size + 1))) := by
  obtain ⟨_, _, e1⟩ := codeOf_zero h1
  obtain ⟨_, _, e2⟩ := codeOf_zero h2
  have hsz : (s ++ ⟨#[32]⟩ ++ t).size ≤ 2000 := by
    rw [ByteArray.size_append, ByteArray.size_append, show (⟨#[32]⟩ : ByteArray).size = 1 from rfl]; omega
  have hd : (s ++ ⟨#[32]⟩ ++ t).data.toList = s.data.toList ++ 32 :: t.data.toList := by
    rw [data_append, data_append, List.append_assoc]; rfl
  unfold codeOf
  rw [if_pos hsz, hd, line_blank t.data.toList _ 0 _ l1 (Nat.le_refl _) e1, show 0 + s.data.toList.length + 1 = 0 + (s.size + 1) by rw [← size_data]; omega, line_move (s.size + 1) _ 0 _ (Nat.le_refl _), e2]
  rfl
theorem getD_left {l1 l2 : List Tok} {k : Nat} (h : k < l1.length) : (l1 ++ l2).getD k tok0 = l1.getD k tok0 := by
  rw [List.getD_eq_getElem?_getD, List.getD_eq_getElem?_getD, List.getElem?_append_left h]
theorem getD_right {l1 l2 : List Tok} {k m : Nat} (h : l1.length ≤ k) (h2 : k < l1.length + l2.length) : (l1 ++ l2.map (shifted m)).getD k tok0 = shifted m (l2.getD (k - l1.length) tok0) := by
  have h3 : k - l1.length < l2.length := by omega
  rw [List.getD_eq_getElem?_getD, List.getD_eq_getElem?_getD, List.getElem?_append_right h, List.getElem?_map, List.getElem?_eq_getElem h3]; rfl
set_option maxRecDepth 100000 in
set_option maxHeartbeats 4000000 in
theorem LexJoined_walk (s t : ByteArray) (m : Int) (w : World) (hs : s.size ≤ 140737488355328) (ht : t.size ≤ 140737488355328) (hm : w.cell? ⟨0, 0, none⟩ = some (.int .i64 m)) : Calls Tryd.prog 4 #[.string s, .string t] w fun e w' => e = .returned (.bool true) ∧ Grew w w' := by
  have hss : s.size ≤ 4611686018427387000 := by omega
  have hts : t.size ≤ 4611686018427387000 := by omega
  have HA := hidd (alive_any m w hm)
  have H1 := hidd (fun w (hm : w.cell? ⟨0, 0, none⟩ = some (.int .i64 m)) => Line_long s m w (by omega) hm)
  have H2 := hidd (fun w (hm : w.cell? ⟨0, 0, none⟩ = some (.int .i64 m)) => Line_long t m w (by omega) hm)
  have H3 := hidd (fun w (hm : w.cell? ⟨0, 0, none⟩ = some (.int .i64 m)) => Line_long (s ++ ⟨#[32]⟩ ++ t) m w (by rw [ByteArray.size_append, ByteArray.size_append, show (⟨#[32]⟩ : ByteArray).size = 1 from rfl]; omega) hm)
  have hj := fun (y1 y2 : Nat) (l1 l2 : List Tok) => codeOf_join (s := s) (t := t) (y1 := y1) (y2 := y2) (l1 := l1) (l2 := l2)
  have hz2 := fun (y2 : Nat) (l2 : List Tok) => codeOf_zero (s := t) (y := y2) (l := l2)
  obtain ⟨⟨x1, y1, l1⟩, hc1⟩ : ∃ c, codeOf s = c := ⟨_, rfl⟩
  obtain ⟨⟨x2, y2, l2⟩, hc2⟩ : ∃ c, codeOf t = c := ⟨_, rfl⟩
  obtain ⟨⟨x3, y3, l3⟩, hc3⟩ : ∃ c, codeOf (s ++ ⟨#[32]⟩ ++ t) = c := ⟨_, rfl⟩
  simp only [hc1] at H1
  simp only [hc2] at H2
  simp only [hc3] at H3
  have HM := hidd hm
  clear hm hs ht
  rcases Nat.eq_zero_or_pos x1 with hx1 | hx1
  rotate_left
  · have k1 : ((x1 : Int) != 0) = true := by simp; omega
    clear hj hz2 hc1 hc2 hc3
    go_enter Tryd.func4, Tryd.ntmps4
    go_wp2_with fail
    refine HA.out.mono ?_; rintro e w1 ⟨rfl, g1⟩; have HG1 := hidd g1; clear g1
    go_wp2_with fail
    refine (H1.out _ (HG1.out.keeps HM.out)).mono ?_; rintro e w2 ⟨v1, rfl, hT1, hG⟩; dsimp only at hT1; obtain ⟨p1, c1, rfl, hc1, hn1⟩ := hT1.len; have HG2 := hidd ((HG1.out.trans hG).alloc (.cells #[.int .i64 x1, .int .i64 y1] 25)); have HT1 := hidd (hT1.kept ((Grew.refl w2).alloc (.cells #[.int .i64 x1, .int .i64 y1] 25))); have HF1 := hidd (two_at w2 (.int .i64 x1) (.int .i64 y1) 25); clear hT1 hG
    go_wp2_with fail
    refine (H2.out _ (HG2.out.keeps HM.out)).mono ?_; rintro e w3 ⟨v2, rfl, hT2, hG⟩; dsimp only at hT2; obtain ⟨p2, c2, rfl, hc2, hn2⟩ := hT2.len; have HG3 := hidd ((HG2.out.trans hG).alloc (.cells #[.int .i64 x2, .int .i64 y2] 25)); have HT1b := hidd ((HT1.out.kept hG).kept ((Grew.refl w3).alloc (.cells #[.int .i64 x2, .int .i64 y2] 25))); have HT2 := hidd (hT2.kept ((Grew.refl w3).alloc (.cells #[.int .i64 x2, .int .i64 y2] 25))); have HF1b := hidd ((HF1.out.kept hG).kept ((Grew.refl w3).alloc (.cells #[.int .i64 x2, .int .i64 y2] 25))); have HF2 := hidd (two_at w3 (.int .i64 x2) (.int .i64 y2) 25); clear hT2 hG
    go_wp2_with fail
    refine (H3.out _ (HG3.out.keeps HM.out)).mono ?_; rintro e w4 ⟨v3, rfl, hT3, hG⟩; dsimp only at hT3; obtain ⟨p3, c3, rfl, hc3, hn3⟩ := hT3.len; have HG4 := hidd ((HG3.out.trans hG).alloc (.cells #[.int .i64 x3, .int .i64 y3] 25)); have HT1c := hidd ((HT1b.out.kept hG).kept ((Grew.refl w4).alloc (.cells #[.int .i64 x3, .int .i64 y3] 25))); have HT2c := hidd ((HT2.out.kept hG).kept ((Grew.refl w4).alloc (.cells #[.int .i64 x3, .int .i64 y3] 25))); have HT3c := hidd (hT3.kept ((Grew.refl w4).alloc (.cells #[.int .i64 x3, .int .i64 y3] 25))); have c6 : (w4.alloc (.cells #[.int .i64 x3, .int .i64 y3] 25)).cell? ⟨w2.heap.size, 0, none⟩ = some (.int .i64 x1) := ((HF1b.out.kept hG).kept ((Grew.refl w4).alloc (.cells #[.int .i64 x3, .int .i64 y3] 25))).at0 0 (by omega); have c8 : (w4.alloc (.cells #[.int .i64 x3, .int .i64 y3] 25)).cell? ⟨w3.heap.size, 0, none⟩ = some (.int .i64 x2) := ((HF2.out.kept hG).kept ((Grew.refl w4).alloc (.cells #[.int .i64 x3, .int .i64 y3] 25))).at0 0 (by omega); have HW := hidd (Grew.refl (w4.alloc (.cells #[.int .i64 x3, .int .i64 y3] 25))); clear hT3 hG
    go_wp2_with fail
    go_ret
    exact ⟨rfl, HG4.out⟩
  subst hx1
  rcases Nat.eq_zero_or_pos x2 with hx2 | hx2
  rotate_left
  · have k1 : ((x2 : Int) != 0) = true := by simp; omega
    clear hj hz2 hc1 hc2 hc3
    go_enter Tryd.func4, Tryd.ntmps4
    go_wp2_with fail
    refine HA.out.mono ?_; rintro e w1 ⟨rfl, g1⟩; have HG1 := hidd g1; clear g1
    go_wp2_with fail
    refine (H1.out _ (HG1.out.keeps HM.out)).mono ?_; rintro e w2 ⟨v1, rfl, hT1, hG⟩; dsimp only at hT1; obtain ⟨p1, c1, rfl, hc1, hn1⟩ := hT1.len; have HG2 := hidd ((HG1.out.trans hG).alloc (.cells #[.int .i64 0, .int .i64 y1] 25)); have HT1 := hidd (hT1.kept ((Grew.refl w2).alloc (.cells #[.int .i64 0, .int .i64 y1] 25))); have HF1 := hidd (two_at w2 (.int .i64 0) (.int .i64 y1) 25); clear hT1 hG
    go_wp2_with fail
    refine (H2.out _ (HG2.out.keeps HM.out)).mono ?_; rintro e w3 ⟨v2, rfl, hT2, hG⟩; dsimp only at hT2; obtain ⟨p2, c2, rfl, hc2, hn2⟩ := hT2.len; have HG3 := hidd ((HG2.out.trans hG).alloc (.cells #[.int .i64 x2, .int .i64 y2] 25)); have HT1b := hidd ((HT1.out.kept hG).kept ((Grew.refl w3).alloc (.cells #[.int .i64 x2, .int .i64 y2] 25))); have HT2 := hidd (hT2.kept ((Grew.refl w3).alloc (.cells #[.int .i64 x2, .int .i64 y2] 25))); have HF1b := hidd ((HF1.out.kept hG).kept ((Grew.refl w3).alloc (.cells #[.int .i64 x2, .int .i64 y2] 25))); have HF2 := hidd (two_at w3 (.int .i64 x2) (.int .i64 y2) 25); clear hT2 hG
    go_wp2_with fail
    refine (H3.out _ (HG3.out.keeps HM.out)).mono ?_; rintro e w4 ⟨v3, rfl, hT3, hG⟩; dsimp only at hT3; obtain ⟨p3, c3, rfl, hc3, hn3⟩ := hT3.len; have HG4 := hidd ((HG3.out.trans hG).alloc (.cells #[.int .i64 x3, .int .i64 y3] 25)); have HT1c := hidd ((HT1b.out.kept hG).kept ((Grew.refl w4).alloc (.cells #[.int .i64 x3, .int .i64 y3] 25))); have HT2c := hidd ((HT2.out.kept hG).kept ((Grew.refl w4).alloc (.cells #[.int .i64 x3, .int .i64 y3] 25))); have HT3c := hidd (hT3.kept ((Grew.refl w4).alloc (.cells #[.int .i64 x3, .int .i64 y3] 25))); have c6 : (w4.alloc (.cells #[.int .i64 x3, .int .i64 y3] 25)).cell? ⟨w2.heap.size, 0, none⟩ = some (.int .i64 0) := ((HF1b.out.kept hG).kept ((Grew.refl w4).alloc (.cells #[.int .i64 x3, .int .i64 y3] 25))).at0 0 (by omega); have c8 : (w4.alloc (.cells #[.int .i64 x3, .int .i64 y3] 25)).cell? ⟨w3.heap.size, 0, none⟩ = some (.int .i64 x2) := ((HF2.out.kept hG).kept ((Grew.refl w4).alloc (.cells #[.int .i64 x3, .int .i64 y3] 25))).at0 0 (by omega); have HW := hidd (Grew.refl (w4.alloc (.cells #[.int .i64 x3, .int .i64 y3] 25))); clear hT3 hG
    go_wp2_with fail
    go_ret
    exact ⟨rfl, HG4.out⟩
  subst hx2
  rcases Nat.lt_or_ge 2000 (s.size + t.size + 1) with hsz | hsz
  · have k1 : decide ((2000 : Int) < (s.size : Int) + (t.size : Int) + 1) = true := decide_eq_true (by omega)
    clear hj hz2 hc1 hc2 hc3
    go_enter Tryd.func4, Tryd.ntmps4
    go_wp2_with fail
    refine HA.out.mono ?_; rintro e w1 ⟨rfl, g1⟩; have HG1 := hidd g1; clear g1
    go_wp2_with fail
    refine (H1.out _ (HG1.out.keeps HM.out)).mono ?_; rintro e w2 ⟨v1, rfl, hT1, hG⟩; dsimp only at hT1; obtain ⟨p1, c1, rfl, hc1, hn1⟩ := hT1.len; have HG2 := hidd ((HG1.out.trans hG).alloc (.cells #[.int .i64 0, .int .i64 y1] 25)); have HT1 := hidd (hT1.kept ((Grew.refl w2).alloc (.cells #[.int .i64 0, .int .i64 y1] 25))); have HF1 := hidd (two_at w2 (.int .i64 0) (.int .i64 y1) 25); clear hT1 hG
    go_wp2_with fail
    refine (H2.out _ (HG2.out.keeps HM.out)).mono ?_; rintro e w3 ⟨v2, rfl, hT2, hG⟩; dsimp only at hT2; obtain ⟨p2, c2, rfl, hc2, hn2⟩ := hT2.len; have HG3 := hidd ((HG2.out.trans hG).alloc (.cells #[.int .i64 0, .int .i64 y2] 25)); have HT1b := hidd ((HT1.out.kept hG).kept ((Grew.refl w3).alloc (.cells #[.int .i64 0, .int .i64 y2] 25))); have HT2 := hidd (hT2.kept ((Grew.refl w3).alloc (.cells #[.int .i64 0, .int .i64 y2] 25))); have HF1b := hidd ((HF1.out.kept hG).kept ((Grew.refl w3).alloc (.cells #[.int .i64 0, .int .i64 y2] 25))); have HF2 := hidd (two_at w3 (.int .i64 0) (.int .i64 y2) 25); clear hT2 hG
    go_wp2_with fail
    refine (H3.out _ (HG3.out.keeps HM.out)).mono ?_; rintro e w4 ⟨v3, rfl, hT3, hG⟩; dsimp only at hT3; obtain ⟨p3, c3, rfl, hc3, hn3⟩ := hT3.len; have HG4 := hidd ((HG3.out.trans hG).alloc (.cells #[.int .i64 x3, .int .i64 y3] 25)); have HT1c := hidd ((HT1b.out.kept hG).kept ((Grew.refl w4).alloc (.cells #[.int .i64 x3, .int .i64 y3] 25))); have HT2c := hidd ((HT2.out.kept hG).kept ((Grew.refl w4).alloc (.cells #[.int .i64 x3, .int .i64 y3] 25))); have HT3c := hidd (hT3.kept ((Grew.refl w4).alloc (.cells #[.int .i64 x3, .int .i64 y3] 25))); have c6 : (w4.alloc (.cells #[.int .i64 x3, .int .i64 y3] 25)).cell? ⟨w2.heap.size, 0, none⟩ = some (.int .i64 0) := ((HF1b.out.kept hG).kept ((Grew.refl w4).alloc (.cells #[.int .i64 x3, .int .i64 y3] 25))).at0 0 (by omega); have c8 : (w4.alloc (.cells #[.int .i64 x3, .int .i64 y3] 25)).cell? ⟨w3.heap.size, 0, none⟩ = some (.int .i64 0) := ((HF2.out.kept hG).kept ((Grew.refl w4).alloc (.cells #[.int .i64 x3, .int .i64 y3] 25))).at0 0 (by omega); have HW := hidd (Grew.refl (w4.alloc (.cells #[.int .i64 x3, .int .i64 y3] 25))); clear hT3 hG
    go_wp2_with fail
    go_ret
    exact ⟨rfl, HG4.out⟩
  have k1 : decide ((2000 : Int) < (s.size : Int) + (t.size : Int) + 1) = false := decide_eq_false (by omega)
  have h3 := hj y1 y2 l1 l2 hc1 hc2 hsz
  have h5 := hz2 y2 l2 hc2
  rw [hc3] at h3
  simp only [Prod.mk.injEq] at h3
  obtain ⟨rfl, rfl, rfl⟩ := h3
  have hcov : ∀ x ∈ l2, x.2.2 < t.size := by
    have := line_cov t.data.toList t.data.toList.length 0 0 l2 (by omega) (Nat.le_refl _) (by omega) (fun j _ h2 => by omega) (by rw [List.drop_zero]; exact h5.2.2)
    intro x hx
    rw [size_data]
    exact cov_at _ l2 0 this x hx
  have HCv := hidd hcov
  have hlen : (l1 ++ l2.map (shifted (s.size + 1))).length = l1.length + l2.length := by simp
  have hlI : (((l1 ++ l2.map (shifted (s.size + 1))).length : Nat) : Int) = (l1.length : Int) + (l2.length : Int) := by rw [hlen]; omega
  clear hj hz2 hc1 hc2 hc3 hcov h5
  go_enter Tryd.func4, Tryd.ntmps4
  go_wp2_with fail
  refine HA.out.mono ?_; rintro e w1 ⟨rfl, g1⟩; have HG1 := hidd g1; clear g1
  go_wp2_with fail
  refine (H1.out _ (HG1.out.keeps HM.out)).mono ?_; rintro e w2 ⟨v1, rfl, hT1, hG⟩; dsimp only at hT1; obtain ⟨p1, c1, rfl, hc1, hn1⟩ := hT1.len; have HG2 := hidd ((HG1.out.trans hG).alloc (.cells #[.int .i64 0, .int .i64 y1] 25)); have HT1 := hidd (hT1.kept ((Grew.refl w2).alloc (.cells #[.int .i64 0, .int .i64 y1] 25))); have HF1 := hidd (two_at w2 (.int .i64 0) (.int .i64 y1) 25); clear hT1 hG
  go_wp2_with fail
  refine (H2.out _ (HG2.out.keeps HM.out)).mono ?_; rintro e w3 ⟨v2, rfl, hT2, hG⟩; dsimp only at hT2; obtain ⟨p2, c2, rfl, hc2, hn2⟩ := hT2.len; have HG3 := hidd ((HG2.out.trans hG).alloc (.cells #[.int .i64 0, .int .i64 y2] 25)); have HT1b := hidd ((HT1.out.kept hG).kept ((Grew.refl w3).alloc (.cells #[.int .i64 0, .int .i64 y2] 25))); have HT2 := hidd (hT2.kept ((Grew.refl w3).alloc (.cells #[.int .i64 0, .int .i64 y2] 25))); have HF1b := hidd ((HF1.out.kept hG).kept ((Grew.refl w3).alloc (.cells #[.int .i64 0, .int .i64 y2] 25))); have HF2 := hidd (two_at w3 (.int .i64 0) (.int .i64 y2) 25); clear hT2 hG
  go_wp2_with fail
  refine (H3.out _ (HG3.out.keeps HM.out)).mono ?_; rintro e w4 ⟨v3, rfl, hT3, hG⟩; dsimp only at hT3; obtain ⟨p3, c3, rfl, hc3, hn3⟩ := hT3.len; have HG4 := hidd ((HG3.out.trans hG).alloc (.cells #[.int .i64 0, .int .i64 0] 25)); have HT1c := hidd ((HT1b.out.kept hG).kept ((Grew.refl w4).alloc (.cells #[.int .i64 0, .int .i64 0] 25))); have HT2c := hidd ((HT2.out.kept hG).kept ((Grew.refl w4).alloc (.cells #[.int .i64 0, .int .i64 0] 25))); have HT3c := hidd (hT3.kept ((Grew.refl w4).alloc (.cells #[.int .i64 0, .int .i64 0] 25))); have c6 : (w4.alloc (.cells #[.int .i64 0, .int .i64 0] 25)).cell? ⟨w2.heap.size, 0, none⟩ = some (.int .i64 0) := ((HF1b.out.kept hG).kept ((Grew.refl w4).alloc (.cells #[.int .i64 0, .int .i64 0] 25))).at0 0 (by omega); have c8 : (w4.alloc (.cells #[.int .i64 0, .int .i64 0] 25)).cell? ⟨w3.heap.size, 0, none⟩ = some (.int .i64 0) := ((HF2.out.kept hG).kept ((Grew.refl w4).alloc (.cells #[.int .i64 0, .int .i64 0] 25))).at0 0 (by omega); have HW := hidd (Grew.refl (w4.alloc (.cells #[.int .i64 0, .int .i64 0] 25))); clear hT3 hG
  go_wp2_with fail
  go_loopw [66] (fun v66 wr => ∃ k : Nat, v66 = .int .i64 k ∧ k ≤ l1.length + l2.length ∧ Hid (Grew (w4.alloc (.cells #[.int .i64 0, .int .i64 0] 25)) wr)) (fun v66 _ => l1.length + l2.length - (intOf v66).toNat)
  case atStart => exact ⟨0, rfl, by omega, HW⟩
  case round =>
    obtain ⟨k, rfl, hk, HGr⟩ := hrel
    have hh := tok_held
    have hg := tok_guard
    by_cases hlt : k < l1.length + l2.length
    · have hkk : decide ((k : Int) < (l1.length : Int) + (l2.length : Int)) = true := decide_eq_true (by omega)
      obtain ⟨b3, rfl, a0, a1, a2⟩ := HT3c.out.at (k := k) (by rw [hlen]; exact hlt)
      have d0 := HGr.out.keeps a0
      have d1 := HGr.out.keeps a1
      have d2 := HGr.out.keeps a2
      clear a0 a1 a2
      by_cases hl : k < l1.length
      · have hkl : decide ((k : Int) < (l1.length : Int)) = true := decide_eq_true (by omega)
        rw [getD_left hl] at d0 d1 d2
        obtain ⟨b1, rfl, a0, a1, a2⟩ := HT1c.out.at hl
        have e0 := HGr.out.keeps a0
        have e1 := HGr.out.keeps a1
        have e2 := HGr.out.keeps a2
        clear a0 a1 a2
        obtain ⟨⟨z1, z2, z3⟩, hz⟩ : ∃ z, l1.getD k tok0 = z := ⟨_, rfl⟩
        rw [hz] at d0 d1 d2 e0 e1 e2
        clear hz
        dsimp only at d0 d1 d2 e0 e1 e2
        have g0 := (((Grew.refl wr).alloc (.cells #[.int .i64 z1, .string (txt z2), .int .i64 z3] 32)).alloc (.cells #[.int .i64 0, .string ⟨#[]⟩, .int .i64 0] 32)).keeps e0
        have g1 := (((Grew.refl wr).alloc (.cells #[.int .i64 z1, .string (txt z2), .int .i64 z3] 32)).alloc (.cells #[.int .i64 0, .string ⟨#[]⟩, .int .i64 0] 32)).keeps e1
        have g2 := (((Grew.refl wr).alloc (.cells #[.int .i64 z1, .string (txt z2), .int .i64 z3] 32)).alloc (.cells #[.int .i64 0, .string ⟨#[]⟩, .int .i64 0] 32)).keeps e2
        clear e0 e1 e2
        have f1 := text_eq (rfl : txt z2 = txt z2)
        have HGn := hidd ((HGr.out.alloc (.cells #[.int .i64 z1, .string (txt z2), .int .i64 z3] 32)).alloc (.cells #[.int .i64 z1, .string (txt z2), .int .i64 z3] 32))
        go_wp2_with fail
        go_roundw
        case rel => exact ⟨k + 1, by simp, by omega, HGn⟩
        case measure => simp [intOf]; omega
      · obtain ⟨j, rfl⟩ : ∃ j, k = l1.length + j := ⟨k - l1.length, by omega⟩
        have hj2 : j < l2.length := by omega
        have hkl : decide (((l1.length + j : Nat) : Int) < (l1.length : Int)) = false := decide_eq_false (by omega)
        rw [getD_right (by omega) hlt, Nat.add_sub_cancel_left] at d0 d1 d2
        obtain ⟨b2, rfl, a0, a1, a2⟩ := HT2c.out.at hj2
        have e0 := HGr.out.keeps a0
        have e1 := HGr.out.keeps a1
        have e2 := HGr.out.keeps a2
        clear a0 a1 a2
        have hz3 := HCv.out (l2.getD j tok0) (by rw [List.getD_eq_getElem?_getD, List.getElem?_eq_getElem hj2]; exact List.getElem_mem _)
        obtain ⟨⟨z1, z2, z3⟩, hz⟩ : ∃ z, l2.getD j tok0 = z := ⟨_, rfl⟩
        rw [hz] at d0 d1 d2 e0 e1 e2 hz3
        clear hz
        dsimp only [shifted] at d0 d1 d2 e0 e1 e2 hz3
        have g0 := (((Grew.refl wr).alloc (.cells #[.int .i64 z1, .string (txt z2), .int .i64 ((z3 : Int) + ((s.size : Int) + 1))] 32)).alloc (.cells #[.int .i64 0, .string ⟨#[]⟩, .int .i64 0] 32)).keeps e0
        have g1 := (((Grew.refl wr).alloc (.cells #[.int .i64 z1, .string (txt z2), .int .i64 ((z3 : Int) + ((s.size : Int) + 1))] 32)).alloc (.cells #[.int .i64 0, .string ⟨#[]⟩, .int .i64 0] 32)).keeps e1
        have g2 := (((Grew.refl wr).alloc (.cells #[.int .i64 z1, .string (txt z2), .int .i64 ((z3 : Int) + ((s.size : Int) + 1))] 32)).alloc (.cells #[.int .i64 0, .string ⟨#[]⟩, .int .i64 0] 32)).keeps e2
        clear e0 e1 e2
        have f1 := text_eq (rfl : txt z2 = txt z2)
        have HGn := hidd ((HGr.out.alloc (.cells #[.int .i64 z1, .string (txt z2), .int .i64 ((z3 : Int) + ((s.size : Int) + 1))] 32)).alloc (.cells #[.int .i64 z1, .string (txt z2), .int .i64 ((z3 : Int) + s.size + 1)] 32))
        go_wp2_with fail
        exact ⟨⟨l1.length + j + 1, by simp, by omega, HGn⟩, by simp [intOf]; omega⟩
    · have hkk : decide ((k : Int) < (l1.length : Int) + (l2.length : Int)) = false := decide_eq_false (by omega)
      go_wp2_with fail
      go_ret
      exact ⟨rfl, HG4.out.trans HGr.out⟩
end Go.Proofs.YtlpjoakdhblbaaaDoor
