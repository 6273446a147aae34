/- The document's Two, with each of the four functions that are handed to it. No condition. -/
import Derived.Test.YtolfdcbebjfjiaaDoorStTwoR
namespace Go.Proofs.YtolfdcbebjfjiaaDoor
open Go.RowKit
set_option linter.unusedVariables false
theorem lit_or (x y : Bool) (w : World) : Calls Tryd.prog 15 #[.bool x, .bool y] w fun e w' => e = .returned (.bool (x || y)) ∧ w' = w := by
  cases x <;> cases y <;> (
    go_enter Tryd.func15, Tryd.ntmps15
    go_wp2_with fail
    go_ret
    exact ⟨rfl, rfl⟩)
theorem lit_and (x y : Bool) (w : World) : Calls Tryd.prog 17 #[.bool x, .bool y] w fun e w' => e = .returned (.bool (x && y)) ∧ w' = w := by
  cases x <;> cases y <;> (
    go_enter Tryd.func17, Tryd.ntmps17
    go_wp2_with fail
    go_ret
    exact ⟨rfl, rfl⟩)
theorem lit_less (x y : Bool) (w : World) : Calls Tryd.prog 19 #[.bool x, .bool y] w fun e w' => e = .returned (.bool (x && !y)) ∧ w' = w := by
  cases x <;> cases y <;> (
    go_enter Tryd.func19, Tryd.ntmps19
    go_wp2_with fail
    go_ret
    exact ⟨rfl, rfl⟩)
theorem lit_not (x y : Bool) (w : World) : Calls Tryd.prog 21 #[.bool x, .bool y] w fun e w' => e = .returned (.bool (!x)) ∧ w' = w := by
  cases x <;> cases y <;> (
    go_enter Tryd.func21, Tryd.ntmps21
    go_wp2_with fail
    go_ret
    exact ⟨rfl, rfl⟩)
set_option maxRecDepth 20000 in
set_option maxHeartbeats 4000000 in
theorem two_or (f g : Nat → Bool) (w : World) : Calls Tryd.prog 14 #[setV f, setV g, .func (.func 15) #[] #[]] w fun e w' => e = .returned (setV fun i => f i || g i) ∧ Grew w w' := by
  have hz := run_zero_row
  have HBk := fun w0 : World => hidd (Back_any (fun i => f i || g i) w0)
  have B3 : Hid (SetAt (((w.alloc (.cells #[.int .u64 (word f 0 64 : Nat), .int .u64 (word f 64 64 : Nat), .int .u64 (word f 128 64 : Nat), .int .u64 (word f 192 64 : Nat)] 24)).alloc (.cells #[.int .u64 (word g 0 64 : Nat), .int .u64 (word g 64 64 : Nat), .int .u64 (word g 128 64 : Nat), .int .u64 (word g 192 64 : Nat)] 24)).alloc (.cells (wordsB fun _ => 0) 24)) w.heap.size f) := ((SetAt.new w f).kept ((Grew.refl _).alloc _)).kept ((Grew.refl _).alloc _)
  have B4 : Hid (SetAt (((w.alloc (.cells #[.int .u64 (word f 0 64 : Nat), .int .u64 (word f 64 64 : Nat), .int .u64 (word f 128 64 : Nat), .int .u64 (word f 192 64 : Nat)] 24)).alloc (.cells #[.int .u64 (word g 0 64 : Nat), .int .u64 (word g 64 64 : Nat), .int .u64 (word g 128 64 : Nat), .int .u64 (word g 192 64 : Nat)] 24)).alloc (.cells (wordsB fun _ => 0) 24)) (w.heap.size + 1) g) := by
    have := SetAt.new (w.alloc (.cells #[.int .u64 (word f 0 64 : Nat), .int .u64 (word f 64 64 : Nat), .int .u64 (word f 128 64 : Nat), .int .u64 (word f 192 64 : Nat)] 24)) g
    rw [World.size_alloc] at this
    exact this.kept ((Grew.refl _).alloc _)
  have B6 : Hid (ArrAt (((w.alloc (.cells #[.int .u64 (word f 0 64 : Nat), .int .u64 (word f 64 64 : Nat), .int .u64 (word f 128 64 : Nat), .int .u64 (word f 192 64 : Nat)] 24)).alloc (.cells #[.int .u64 (word g 0 64 : Nat), .int .u64 (word g 64 64 : Nat), .int .u64 (word g 128 64 : Nat), .int .u64 (word g 192 64 : Nat)] 24)).alloc (.cells (wordsB fun _ => 0) 24)) (w.heap.size + 1 + 1) 0 4 (fun j => .int .u64 ((0 : Nat) : Int))) := by
    have := words_at ((w.alloc (.cells #[.int .u64 (word f 0 64 : Nat), .int .u64 (word f 64 64 : Nat), .int .u64 (word f 128 64 : Nat), .int .u64 (word f 192 64 : Nat)] 24)).alloc (.cells #[.int .u64 (word g 0 64 : Nat), .int .u64 (word g 64 64 : Nat), .int .u64 (word g 128 64 : Nat), .int .u64 (word g 192 64 : Nat)] 24)) fun _ => 0
    rw [World.size_alloc, World.size_alloc] at this
    exact this
  have HG : Hid (Grew w (((w.alloc (.cells #[.int .u64 (word f 0 64 : Nat), .int .u64 (word f 64 64 : Nat), .int .u64 (word f 128 64 : Nat), .int .u64 (word f 192 64 : Nat)] 24)).alloc (.cells #[.int .u64 (word g 0 64 : Nat), .int .u64 (word g 64 64 : Nat), .int .u64 (word g 128 64 : Nat), .int .u64 (word g 192 64 : Nat)] 24)).alloc (.cells (wordsB fun _ => 0) 24))) := (((Grew.refl w).alloc _).alloc _).alloc _
  have hsz : Hid ((((w.alloc (.cells #[.int .u64 (word f 0 64 : Nat), .int .u64 (word f 64 64 : Nat), .int .u64 (word f 128 64 : Nat), .int .u64 (word f 192 64 : Nat)] 24)).alloc (.cells #[.int .u64 (word g 0 64 : Nat), .int .u64 (word g 64 64 : Nat), .int .u64 (word g 128 64 : Nat), .int .u64 (word g 192 64 : Nat)] 24)).alloc (.cells (wordsB fun _ => 0) 24)).heap.size = w.heap.size + 1 + 1 + 1) := by simp [Hid]
  unfold wordsB at B3 B4 B6 HG hsz
  unfold setV
  go_enter Tryd.func14, Tryd.ntmps14
  go_wp2_with fail
  refine wp_region_steps (TwoI f g _ _) mixed (by kernel_rfl) (TwoI.start _ (Grew.refl _).drew) ⟨?_, ?_, ?_, ?_, ?_, ?_, ?_, ?_, trivial⟩ ?_
  · intro listed a w2 hs hI hdep hlf K hK
    rw [if_pos (want rfl)]
    have hv : a.eval (.tmp 3) = .pointer (some ⟨w.heap.size, 0, none⟩) := hI.same 3 (by decide)
    have h := run_loadVar_arr (B3.out.kept hI.grew) Tryd.underlying24 rfl info_set
    unfold Oper.wp execOp
    simp only [hv, Instr.loadAt, Instr.sureAddr, Sem.run_bind, Sem.run_pure, Result.andThen_ok, h]
    exact hK _ _ (hI.val hs rfl (i := 0) (by omega) rfl (Grew.refl _))
  · intro listed a w2 hs hI hdep hlf K hK
    rw [if_pos (want rfl)]
    have h11 := hI.l0 (hdep ⟨0, .data⟩ (by simp) rfl)
    have hv : a.eval (.tmp 11) = setV f := h11
    unfold Oper.wp
    rw [execOp_call_go, run_go go_bytes, Array.append_empty, Array.empty_append]
    show Calls _ _ _ _ _
    simp only [List.map_toArray, List.map_cons, List.map_nil, hv]
    refine (Bytes_any f w2).mono fun e w' ⟨he, hg⟩ => ?_
    subst he
    exact hK _ _ (hI.val hs rfl (i := 1) (by omega) rfl hg)
  · intro listed a w2 hs hI hdep hlf K hK
    rw [if_pos (want rfl)]
    have hv : a.eval (.tmp 4) = .pointer (some ⟨w.heap.size + 1, 0, none⟩) := hI.same 4 (by decide)
    have h := run_loadVar_arr (B4.out.kept hI.grew) Tryd.underlying24 rfl info_set
    unfold Oper.wp execOp
    simp only [hv, Instr.loadAt, Instr.sureAddr, Sem.run_bind, Sem.run_pure, Result.andThen_ok, h]
    exact hK _ _ (hI.val hs rfl (i := 2) (by omega) rfl (Grew.refl _))
  · intro listed a w2 hs hI hdep hlf K hK
    rw [if_pos (want rfl)]
    have h11 := hI.l2 (hdep ⟨2, .data⟩ (by simp) rfl)
    have hv : a.eval (.tmp 13) = setV g := h11
    unfold Oper.wp
    rw [execOp_call_go, run_go go_bytes, Array.append_empty, Array.empty_append]
    show Calls _ _ _ _ _
    simp only [List.map_toArray, List.map_cons, List.map_nil, hv]
    refine (Bytes_any g w2).mono fun e w' ⟨he, hg⟩ => ?_
    subst he
    exact hK _ _ (hI.val hs rfl (i := 3) (by omega) rfl hg)
  · intro listed a w2 hs hI hdep hlf K hK
    rw [if_pos (want rfl)]
    have h6 : fl listed 6 = false := by
      cases h : fl listed 6 with
      | false => rfl
      | true => have := hI.l64 h; unfold fl at this; rw [hlf] at this; cases this
    exact wp_alloc_row rfl (hK _ _ (hI.new4 hs rfl h6))
  · intro listed a w2 hs hI hdep hlf K hK
    rw [if_pos (want rfl)]
    have h7 : fl listed 7 = false := by
      cases h : fl listed 7 with
      | false => rfl
      | true => have := hI.l75 h; unfold fl at this; rw [hlf] at this; cases this
    exact wp_alloc_row rfl (hK _ _ (hI.new5 hs rfl h7))
  · intro listed a w2 hs hI hdep hlf K hK
    rw [if_pos (want rfl)]
    have d4 : fl listed 4 = true := hdep ⟨4, .data⟩ (by simp) rfl
    have d1 : fl listed 1 = true := hdep ⟨1, .data⟩ (by simp) rfl
    obtain ⟨b, h1, h2, h3, h4⟩ := hI.l4 d4
    have h5 := hI.l1 d1
    exact wp_store_bes rfl h1 h5 h4 info_row (fun j _ => rfl) fun w' k1 k2 => hK _ _ (hI.put6 hs d4 h1 h2 k1 k2)
  · intro listed a w2 hs hI hdep hlf K hK
    rw [if_pos (want rfl)]
    have d5 : fl listed 5 = true := hdep ⟨5, .data⟩ (by simp) rfl
    have d3 : fl listed 3 = true := hdep ⟨3, .data⟩ (by simp) rfl
    obtain ⟨b, h1, h2, h3, h4⟩ := hI.l5 d5
    have h5 := hI.l3 d3
    exact wp_store_bes rfl h1 h5 h4 info_row (fun j _ => rfl) fun w' k1 k2 => hK _ _ (hI.put7 hs d5 h1 h2 k1 k2)
  · intro listed a w2 hall hI
    have hf : ∀ i, i < 8 → fl listed i = true := fun i hi => hall i hi
    obtain ⟨b7, p7, q7, r7, A7⟩ := hI.l4 (hf 4 (by omega))
    obtain ⟨b8, p8, q8, r8, A8⟩ := hI.l5 (hf 5 (by omega))
    rw [hf 6 (by omega)] at A7
    rw [hf 7 (by omega)] at A8
    have q7 : w.heap.size + 1 + 1 + 1 ≤ b7 := by simpa using q7
    have q8 : w.heap.size + 1 + 1 + 1 ≤ b8 := by simpa using q8
    have hgw : w.heap.size + 1 + 1 + 1 ≤ w2.heap.size := by have := hI.grew.lt; simpa using this
    have A7 := hidd (A7.congr (g := fun j => .bool (f j)) fun j hj => by simp)
    have A8 := hidd (A8.congr (g := fun j => .bool (g j)) fun j hj => by simp)
    have D6 := hidd (B6.out.kept hI.grew)
    have GG := hidd (HG.out.trans hI.grew)
    have hfr := frame_of (D := [11, 12, 13, 14, 7, 8]) hI.size hI.same
    have hdf := hI.defers
    obtain ⟨tm, df⟩ := a
    dsimp only at hfr hdf p7 p8
    subst hdf
    have e7 : tm.getD 7 undef = .pointer (some ⟨b7, 0, none⟩) := p7
    have e8 : tm.getD 8 undef = .pointer (some ⟨b8, 0, none⟩) := p8
    rw [hfr]
    clear hfr hI hall hf B3 B4 B6 HG hsz p7 p8
    simp only [List.foldl_cons, List.foldl_nil, List.setIfInBounds_toArray, List.set_cons_succ, List.set_cons_zero, e7, e8]
    generalize tm.getD 11 undef = x11
    generalize tm.getD 12 undef = x12
    generalize tm.getD 13 undef = x13
    generalize tm.getD 14 undef = x14
    clear e7 e8
    have R0 := hidd ((row_at w2 fun _ => .bool false).congr (g := fun j => .bool (decide (j < 0) && (f j || g j))) fun j hj => by simp)
    have A7 := hidd (A7.out.alloc (.cells (rowB 256 fun _ => .bool false) 25))
    have A8 := hidd (A8.out.alloc (.cells (rowB 256 fun _ => .bool false) 25))
    have D6 := hidd (D6.out.alloc (.cells (rowB 256 fun _ => .bool false) 25))
    have GG := hidd (GG.out.alloc (.cells (rowB 256 fun _ => .bool false) 25))
    go_wp2_with fail
    go_loopw [10, 15] (fun u10 u15 wr => ∃ i : Nat, u15 = .int .i64 i ∧ i ≤ 256 ∧ Hid (ArrAt wr b7 0 256 (fun j => .bool (f j))) ∧ Hid (ArrAt wr b8 0 256 (fun j => .bool (g j))) ∧ Hid (ArrAt wr (w.heap.size + 1 + 1) 0 4 (fun j => .int .u64 ((0 : Nat) : Int))) ∧ Hid (ArrAt wr w2.heap.size 0 256 (fun j => .bool (decide (j < i) && (f j || g j)))) ∧ Hid (Grew w wr)) (fun _ u15 _ => 256 - (intOf u15).toNat)
    case atStart => exact ⟨0, rfl, Nat.zero_le _, A7, A8, D6, R0, GG⟩
    case round =>
      obtain ⟨i, rfl, hi, K7, K8, K6, K9, KW⟩ := hrel
      clear A7 A8 D6 R0 GG
      by_cases h : i < 256
      · have c7 := K7.out.at0 i h
        have c8 := K8.out.at0 i h
        have c9 := K9.out.at0 i h
        have cf := K9.out.free0 i h
        have HL := fun w0 : World => hidd (lit_or (f i) (g i) w0)
        go_wp2_with fail
        go_region_with (go_at_call 15; refine (HL _).out.mono ?_; rintro e w1 ⟨rfl, rfl⟩)
        all_goals (
          have K7' := hidd ((K7.out.other ⟨w2.heap.size, i, none⟩ (by simp; omega) (.bool (f i || g i))).drew)
          have K8' := hidd ((K8.out.other ⟨w2.heap.size, i, none⟩ (by simp; omega) (.bool (f i || g i))).drew)
          have K6' := hidd ((K6.out.other ⟨w2.heap.size, i, none⟩ (by simp; omega) (.bool (f i || g i))).drew)
          have K9' := hidd ((K9.out.set0 i h (.bool (f i || g i))).drew)
          have KW' := hidd ((KW.out.setCell (p := ⟨w2.heap.size, i, none⟩) (by simp; omega) (.bool (f i || g i))).drew)
          go_wp2_with fail
          exact ⟨⟨i + 1, (by simp), (by omega), K7', K8', K6', (by
            rw [Hid]; exact K9'.out.congr fun j hj => by
              by_cases e : j = i
              · subst e; simp
              · have : (j < i + 1) = (j < i) := by apply propext; omega
                simp [e, this]), KW'⟩, (by simp [intOf]; omega)⟩)
      · obtain rfl : i = 256 := by omega
        have K9 := hidd (K9.out.congr (g := fun j => .bool (f j || g j)) fun j hj => by simp [hj])
        unfold rowF at HBk
        go_wp2_with (refine wpList_load_arr rfl rfl rfl K9.out Tryd.underlying25 rfl info_row ?_)
        refine (HBk _).out.mono ?_; rintro e w3 ⟨rfl, G3⟩
        have S6 := hidd (K6.out.kept G3)
        have W3 := hidd (KW.out.trans G3)
        unfold setV
        go_wp2_with (refine wpList_store_bes (f := fun j => .int .u64 (word (fun i => f i || g i) (64 * j) 64)) rfl rfl rfl rfl S6.out info_set (fun j _ => rfl) ?_; intro w5 hS hb5)
        exact bodyPost_arr rfl rfl hS Tryd.underlying24 rfl info_set rfl ⟨rfl, W3.out.below hb5.below (by omega)⟩
set_option maxRecDepth 20000 in
set_option maxHeartbeats 4000000 in
theorem two_and (f g : Nat → Bool) (w : World) : Calls Tryd.prog 14 #[setV f, setV g, .func (.func 17) #[] #[]] w fun e w' => e = .returned (setV fun i => f i && g i) ∧ Grew w w' := by
  have hz := run_zero_row
  have HBk := fun w0 : World => hidd (Back_any (fun i => f i && g i) w0)
  have B3 : Hid (SetAt (((w.alloc (.cells #[.int .u64 (word f 0 64 : Nat), .int .u64 (word f 64 64 : Nat), .int .u64 (word f 128 64 : Nat), .int .u64 (word f 192 64 : Nat)] 24)).alloc (.cells #[.int .u64 (word g 0 64 : Nat), .int .u64 (word g 64 64 : Nat), .int .u64 (word g 128 64 : Nat), .int .u64 (word g 192 64 : Nat)] 24)).alloc (.cells (wordsB fun _ => 0) 24)) w.heap.size f) := ((SetAt.new w f).kept ((Grew.refl _).alloc _)).kept ((Grew.refl _).alloc _)
  have B4 : Hid (SetAt (((w.alloc (.cells #[.int .u64 (word f 0 64 : Nat), .int .u64 (word f 64 64 : Nat), .int .u64 (word f 128 64 : Nat), .int .u64 (word f 192 64 : Nat)] 24)).alloc (.cells #[.int .u64 (word g 0 64 : Nat), .int .u64 (word g 64 64 : Nat), .int .u64 (word g 128 64 : Nat), .int .u64 (word g 192 64 : Nat)] 24)).alloc (.cells (wordsB fun _ => 0) 24)) (w.heap.size + 1) g) := by
    have := SetAt.new (w.alloc (.cells #[.int .u64 (word f 0 64 : Nat), .int .u64 (word f 64 64 : Nat), .int .u64 (word f 128 64 : Nat), .int .u64 (word f 192 64 : Nat)] 24)) g
    rw [World.size_alloc] at this
    exact this.kept ((Grew.refl _).alloc _)
  have B6 : Hid (ArrAt (((w.alloc (.cells #[.int .u64 (word f 0 64 : Nat), .int .u64 (word f 64 64 : Nat), .int .u64 (word f 128 64 : Nat), .int .u64 (word f 192 64 : Nat)] 24)).alloc (.cells #[.int .u64 (word g 0 64 : Nat), .int .u64 (word g 64 64 : Nat), .int .u64 (word g 128 64 : Nat), .int .u64 (word g 192 64 : Nat)] 24)).alloc (.cells (wordsB fun _ => 0) 24)) (w.heap.size + 1 + 1) 0 4 (fun j => .int .u64 ((0 : Nat) : Int))) := by
    have := words_at ((w.alloc (.cells #[.int .u64 (word f 0 64 : Nat), .int .u64 (word f 64 64 : Nat), .int .u64 (word f 128 64 : Nat), .int .u64 (word f 192 64 : Nat)] 24)).alloc (.cells #[.int .u64 (word g 0 64 : Nat), .int .u64 (word g 64 64 : Nat), .int .u64 (word g 128 64 : Nat), .int .u64 (word g 192 64 : Nat)] 24)) fun _ => 0
    rw [World.size_alloc, World.size_alloc] at this
    exact this
  have HG : Hid (Grew w (((w.alloc (.cells #[.int .u64 (word f 0 64 : Nat), .int .u64 (word f 64 64 : Nat), .int .u64 (word f 128 64 : Nat), .int .u64 (word f 192 64 : Nat)] 24)).alloc (.cells #[.int .u64 (word g 0 64 : Nat), .int .u64 (word g 64 64 : Nat), .int .u64 (word g 128 64 : Nat), .int .u64 (word g 192 64 : Nat)] 24)).alloc (.cells (wordsB fun _ => 0) 24))) := (((Grew.refl w).alloc _).alloc _).alloc _
  have hsz : Hid ((((w.alloc (.cells #[.int .u64 (word f 0 64 : Nat), .int .u64 (word f 64 64 : Nat), .int .u64 (word f 128 64 : Nat), .int .u64 (word f 192 64 : Nat)] 24)).alloc (.cells #[.int .u64 (word g 0 64 : Nat), .int .u64 (word g 64 64 : Nat), .int .u64 (word g 128 64 : Nat), .int .u64 (word g 192 64 : Nat)] 24)).alloc (.cells (wordsB fun _ => 0) 24)).heap.size = w.heap.size + 1 + 1 + 1) := by simp [Hid]
  unfold wordsB at B3 B4 B6 HG hsz
  unfold setV
  go_enter Tryd.func14, Tryd.ntmps14
  go_wp2_with fail
  refine wp_region_steps (TwoI f g _ _) mixed (by kernel_rfl) (TwoI.start _ (Grew.refl _).drew) ⟨?_, ?_, ?_, ?_, ?_, ?_, ?_, ?_, trivial⟩ ?_
  · intro listed a w2 hs hI hdep hlf K hK
    rw [if_pos (want rfl)]
    have hv : a.eval (.tmp 3) = .pointer (some ⟨w.heap.size, 0, none⟩) := hI.same 3 (by decide)
    have h := run_loadVar_arr (B3.out.kept hI.grew) Tryd.underlying24 rfl info_set
    unfold Oper.wp execOp
    simp only [hv, Instr.loadAt, Instr.sureAddr, Sem.run_bind, Sem.run_pure, Result.andThen_ok, h]
    exact hK _ _ (hI.val hs rfl (i := 0) (by omega) rfl (Grew.refl _))
  · intro listed a w2 hs hI hdep hlf K hK
    rw [if_pos (want rfl)]
    have h11 := hI.l0 (hdep ⟨0, .data⟩ (by simp) rfl)
    have hv : a.eval (.tmp 11) = setV f := h11
    unfold Oper.wp
    rw [execOp_call_go, run_go go_bytes, Array.append_empty, Array.empty_append]
    show Calls _ _ _ _ _
    simp only [List.map_toArray, List.map_cons, List.map_nil, hv]
    refine (Bytes_any f w2).mono fun e w' ⟨he, hg⟩ => ?_
    subst he
    exact hK _ _ (hI.val hs rfl (i := 1) (by omega) rfl hg)
  · intro listed a w2 hs hI hdep hlf K hK
    rw [if_pos (want rfl)]
    have hv : a.eval (.tmp 4) = .pointer (some ⟨w.heap.size + 1, 0, none⟩) := hI.same 4 (by decide)
    have h := run_loadVar_arr (B4.out.kept hI.grew) Tryd.underlying24 rfl info_set
    unfold Oper.wp execOp
    simp only [hv, Instr.loadAt, Instr.sureAddr, Sem.run_bind, Sem.run_pure, Result.andThen_ok, h]
    exact hK _ _ (hI.val hs rfl (i := 2) (by omega) rfl (Grew.refl _))
  · intro listed a w2 hs hI hdep hlf K hK
    rw [if_pos (want rfl)]
    have h11 := hI.l2 (hdep ⟨2, .data⟩ (by simp) rfl)
    have hv : a.eval (.tmp 13) = setV g := h11
    unfold Oper.wp
    rw [execOp_call_go, run_go go_bytes, Array.append_empty, Array.empty_append]
    show Calls _ _ _ _ _
    simp only [List.map_toArray, List.map_cons, List.map_nil, hv]
    refine (Bytes_any g w2).mono fun e w' ⟨he, hg⟩ => ?_
    subst he
    exact hK _ _ (hI.val hs rfl (i := 3) (by omega) rfl hg)
  · intro listed a w2 hs hI hdep hlf K hK
    rw [if_pos (want rfl)]
    have h6 : fl listed 6 = false := by
      cases h : fl listed 6 with
      | false => rfl
      | true => have := hI.l64 h; unfold fl at this; rw [hlf] at this; cases this
    exact wp_alloc_row rfl (hK _ _ (hI.new4 hs rfl h6))
  · intro listed a w2 hs hI hdep hlf K hK
    rw [if_pos (want rfl)]
    have h7 : fl listed 7 = false := by
      cases h : fl listed 7 with
      | false => rfl
      | true => have := hI.l75 h; unfold fl at this; rw [hlf] at this; cases this
    exact wp_alloc_row rfl (hK _ _ (hI.new5 hs rfl h7))
  · intro listed a w2 hs hI hdep hlf K hK
    rw [if_pos (want rfl)]
    have d4 : fl listed 4 = true := hdep ⟨4, .data⟩ (by simp) rfl
    have d1 : fl listed 1 = true := hdep ⟨1, .data⟩ (by simp) rfl
    obtain ⟨b, h1, h2, h3, h4⟩ := hI.l4 d4
    have h5 := hI.l1 d1
    exact wp_store_bes rfl h1 h5 h4 info_row (fun j _ => rfl) fun w' k1 k2 => hK _ _ (hI.put6 hs d4 h1 h2 k1 k2)
  · intro listed a w2 hs hI hdep hlf K hK
    rw [if_pos (want rfl)]
    have d5 : fl listed 5 = true := hdep ⟨5, .data⟩ (by simp) rfl
    have d3 : fl listed 3 = true := hdep ⟨3, .data⟩ (by simp) rfl
    obtain ⟨b, h1, h2, h3, h4⟩ := hI.l5 d5
    have h5 := hI.l3 d3
    exact wp_store_bes rfl h1 h5 h4 info_row (fun j _ => rfl) fun w' k1 k2 => hK _ _ (hI.put7 hs d5 h1 h2 k1 k2)
  · intro listed a w2 hall hI
    have hf : ∀ i, i < 8 → fl listed i = true := fun i hi => hall i hi
    obtain ⟨b7, p7, q7, r7, A7⟩ := hI.l4 (hf 4 (by omega))
    obtain ⟨b8, p8, q8, r8, A8⟩ := hI.l5 (hf 5 (by omega))
    rw [hf 6 (by omega)] at A7
    rw [hf 7 (by omega)] at A8
    have q7 : w.heap.size + 1 + 1 + 1 ≤ b7 := by simpa using q7
    have q8 : w.heap.size + 1 + 1 + 1 ≤ b8 := by simpa using q8
    have hgw : w.heap.size + 1 + 1 + 1 ≤ w2.heap.size := by have := hI.grew.lt; simpa using this
    have A7 := hidd (A7.congr (g := fun j => .bool (f j)) fun j hj => by simp)
    have A8 := hidd (A8.congr (g := fun j => .bool (g j)) fun j hj => by simp)
    have D6 := hidd (B6.out.kept hI.grew)
    have GG := hidd (HG.out.trans hI.grew)
    have hfr := frame_of (D := [11, 12, 13, 14, 7, 8]) hI.size hI.same
    have hdf := hI.defers
    obtain ⟨tm, df⟩ := a
    dsimp only at hfr hdf p7 p8
    subst hdf
    have e7 : tm.getD 7 undef = .pointer (some ⟨b7, 0, none⟩) := p7
    have e8 : tm.getD 8 undef = .pointer (some ⟨b8, 0, none⟩) := p8
    rw [hfr]
    clear hfr hI hall hf B3 B4 B6 HG hsz p7 p8
    simp only [List.foldl_cons, List.foldl_nil, List.setIfInBounds_toArray, List.set_cons_succ, List.set_cons_zero, e7, e8]
    generalize tm.getD 11 undef = x11
    generalize tm.getD 12 undef = x12
    generalize tm.getD 13 undef = x13
    generalize tm.getD 14 undef = x14
    clear e7 e8
    have R0 := hidd ((row_at w2 fun _ => .bool false).congr (g := fun j => .bool (decide (j < 0) && (f j && g j))) fun j hj => by simp)
    have A7 := hidd (A7.out.alloc (.cells (rowB 256 fun _ => .bool false) 25))
    have A8 := hidd (A8.out.alloc (.cells (rowB 256 fun _ => .bool false) 25))
    have D6 := hidd (D6.out.alloc (.cells (rowB 256 fun _ => .bool false) 25))
    have GG := hidd (GG.out.alloc (.cells (rowB 256 fun _ => .bool false) 25))
    go_wp2_with fail
    go_loopw [10, 15] (fun u10 u15 wr => ∃ i : Nat, u15 = .int .i64 i ∧ i ≤ 256 ∧ Hid (ArrAt wr b7 0 256 (fun j => .bool (f j))) ∧ Hid (ArrAt wr b8 0 256 (fun j => .bool (g j))) ∧ Hid (ArrAt wr (w.heap.size + 1 + 1) 0 4 (fun j => .int .u64 ((0 : Nat) : Int))) ∧ Hid (ArrAt wr w2.heap.size 0 256 (fun j => .bool (decide (j < i) && (f j && g j)))) ∧ Hid (Grew w wr)) (fun _ u15 _ => 256 - (intOf u15).toNat)
    case atStart => exact ⟨0, rfl, Nat.zero_le _, A7, A8, D6, R0, GG⟩
    case round =>
      obtain ⟨i, rfl, hi, K7, K8, K6, K9, KW⟩ := hrel
      clear A7 A8 D6 R0 GG
      by_cases h : i < 256
      · have c7 := K7.out.at0 i h
        have c8 := K8.out.at0 i h
        have c9 := K9.out.at0 i h
        have cf := K9.out.free0 i h
        have HL := fun w0 : World => hidd (lit_and (f i) (g i) w0)
        go_wp2_with fail
        go_region_with (go_at_call 17; refine (HL _).out.mono ?_; rintro e w1 ⟨rfl, rfl⟩)
        all_goals (
          have K7' := hidd ((K7.out.other ⟨w2.heap.size, i, none⟩ (by simp; omega) (.bool (f i && g i))).drew)
          have K8' := hidd ((K8.out.other ⟨w2.heap.size, i, none⟩ (by simp; omega) (.bool (f i && g i))).drew)
          have K6' := hidd ((K6.out.other ⟨w2.heap.size, i, none⟩ (by simp; omega) (.bool (f i && g i))).drew)
          have K9' := hidd ((K9.out.set0 i h (.bool (f i && g i))).drew)
          have KW' := hidd ((KW.out.setCell (p := ⟨w2.heap.size, i, none⟩) (by simp; omega) (.bool (f i && g i))).drew)
          go_wp2_with fail
          exact ⟨⟨i + 1, (by simp), (by omega), K7', K8', K6', (by
            rw [Hid]; exact K9'.out.congr fun j hj => by
              by_cases e : j = i
              · subst e; simp
              · have : (j < i + 1) = (j < i) := by apply propext; omega
                simp [e, this]), KW'⟩, (by simp [intOf]; omega)⟩)
      · obtain rfl : i = 256 := by omega
        have K9 := hidd (K9.out.congr (g := fun j => .bool (f j && g j)) fun j hj => by simp [hj])
        unfold rowF at HBk
        go_wp2_with (refine wpList_load_arr rfl rfl rfl K9.out Tryd.underlying25 rfl info_row ?_)
        refine (HBk _).out.mono ?_; rintro e w3 ⟨rfl, G3⟩
        have S6 := hidd (K6.out.kept G3)
        have W3 := hidd (KW.out.trans G3)
        unfold setV
        go_wp2_with (refine wpList_store_bes (f := fun j => .int .u64 (word (fun i => f i && g i) (64 * j) 64)) rfl rfl rfl rfl S6.out info_set (fun j _ => rfl) ?_; intro w5 hS hb5)
        exact bodyPost_arr rfl rfl hS Tryd.underlying24 rfl info_set rfl ⟨rfl, W3.out.below hb5.below (by omega)⟩
set_option maxRecDepth 20000 in
set_option maxHeartbeats 4000000 in
theorem two_less (f g : Nat → Bool) (w : World) : Calls Tryd.prog 14 #[setV f, setV g, .func (.func 19) #[] #[]] w fun e w' => e = .returned (setV fun i => f i && !g i) ∧ Grew w w' := by
  have hz := run_zero_row
  have HBk := fun w0 : World => hidd (Back_any (fun i => f i && !g i) w0)
  have B3 : Hid (SetAt (((w.alloc (.cells #[.int .u64 (word f 0 64 : Nat), .int .u64 (word f 64 64 : Nat), .int .u64 (word f 128 64 : Nat), .int .u64 (word f 192 64 : Nat)] 24)).alloc (.cells #[.int .u64 (word g 0 64 : Nat), .int .u64 (word g 64 64 : Nat), .int .u64 (word g 128 64 : Nat), .int .u64 (word g 192 64 : Nat)] 24)).alloc (.cells (wordsB fun _ => 0) 24)) w.heap.size f) := ((SetAt.new w f).kept ((Grew.refl _).alloc _)).kept ((Grew.refl _).alloc _)
  have B4 : Hid (SetAt (((w.alloc (.cells #[.int .u64 (word f 0 64 : Nat), .int .u64 (word f 64 64 : Nat), .int .u64 (word f 128 64 : Nat), .int .u64 (word f 192 64 : Nat)] 24)).alloc (.cells #[.int .u64 (word g 0 64 : Nat), .int .u64 (word g 64 64 : Nat), .int .u64 (word g 128 64 : Nat), .int .u64 (word g 192 64 : Nat)] 24)).alloc (.cells (wordsB fun _ => 0) 24)) (w.heap.size + 1) g) := by
    have := SetAt.new (w.alloc (.cells #[.int .u64 (word f 0 64 : Nat), .int .u64 (word f 64 64 : Nat), .int .u64 (word f 128 64 : Nat), .int .u64 (word f 192 64 : Nat)] 24)) g
    rw [World.size_alloc] at this
    exact this.kept ((Grew.refl _).alloc _)
  have B6 : Hid (ArrAt (((w.alloc (.cells #[.int .u64 (word f 0 64 : Nat), .int .u64 (word f 64 64 : Nat), .int .u64 (word f 128 64 : Nat), .int .u64 (word f 192 64 : Nat)] 24)).alloc (.cells #[.int .u64 (word g 0 64 : Nat), .int .u64 (word g 64 64 : Nat), .int .u64 (word g 128 64 : Nat), .int .u64 (word g 192 64 : Nat)] 24)).alloc (.cells (wordsB fun _ => 0) 24)) (w.heap.size + 1 + 1) 0 4 (fun j => .int .u64 ((0 : Nat) : Int))) := by
    have := words_at ((w.alloc (.cells #[.int .u64 (word f 0 64 : Nat), .int .u64 (word f 64 64 : Nat), .int .u64 (word f 128 64 : Nat), .int .u64 (word f 192 64 : Nat)] 24)).alloc (.cells #[.int .u64 (word g 0 64 : Nat), .int .u64 (word g 64 64 : Nat), .int .u64 (word g 128 64 : Nat), .int .u64 (word g 192 64 : Nat)] 24)) fun _ => 0
    rw [World.size_alloc, World.size_alloc] at this
    exact this
  have HG : Hid (Grew w (((w.alloc (.cells #[.int .u64 (word f 0 64 : Nat), .int .u64 (word f 64 64 : Nat), .int .u64 (word f 128 64 : Nat), .int .u64 (word f 192 64 : Nat)] 24)).alloc (.cells #[.int .u64 (word g 0 64 : Nat), .int .u64 (word g 64 64 : Nat), .int .u64 (word g 128 64 : Nat), .int .u64 (word g 192 64 : Nat)] 24)).alloc (.cells (wordsB fun _ => 0) 24))) := (((Grew.refl w).alloc _).alloc _).alloc _
  have hsz : Hid ((((w.alloc (.cells #[.int .u64 (word f 0 64 : Nat), .int .u64 (word f 64 64 : Nat), .int .u64 (word f 128 64 : Nat), .int .u64 (word f 192 64 : Nat)] 24)).alloc (.cells #[.int .u64 (word g 0 64 : Nat), .int .u64 (word g 64 64 : Nat), .int .u64 (word g 128 64 : Nat), .int .u64 (word g 192 64 : Nat)] 24)).alloc (.cells (wordsB fun _ => 0) 24)).heap.size = w.heap.size + 1 + 1 + 1) := by simp [Hid]
  unfold wordsB at B3 B4 B6 HG hsz
  unfold setV
  go_enter Tryd.func14, Tryd.ntmps14
  go_wp2_with fail
  refine wp_region_steps (TwoI f g _ _) mixed (by kernel_rfl) (TwoI.start _ (Grew.refl _).drew) ⟨?_, ?_, ?_, ?_, ?_, ?_, ?_, ?_, trivial⟩ ?_
  · intro listed a w2 hs hI hdep hlf K hK
    rw [if_pos (want rfl)]
    have hv : a.eval (.tmp 3) = .pointer (some ⟨w.heap.size, 0, none⟩) := hI.same 3 (by decide)
    have h := run_loadVar_arr (B3.out.kept hI.grew) Tryd.underlying24 rfl info_set
    unfold Oper.wp execOp
    simp only [hv, Instr.loadAt, Instr.sureAddr, Sem.run_bind, Sem.run_pure, Result.andThen_ok, h]
    exact hK _ _ (hI.val hs rfl (i := 0) (by omega) rfl (Grew.refl _))
  · intro listed a w2 hs hI hdep hlf K hK
    rw [if_pos (want rfl)]
    have h11 := hI.l0 (hdep ⟨0, .data⟩ (by simp) rfl)
    have hv : a.eval (.tmp 11) = setV f := h11
    unfold Oper.wp
    rw [execOp_call_go, run_go go_bytes, Array.append_empty, Array.empty_append]
    show Calls _ _ _ _ _
    simp only [List.map_toArray, List.map_cons, List.map_nil, hv]
    refine (Bytes_any f w2).mono fun e w' ⟨he, hg⟩ => ?_
    subst he
    exact hK _ _ (hI.val hs rfl (i := 1) (by omega) rfl hg)
  · intro listed a w2 hs hI hdep hlf K hK
    rw [if_pos (want rfl)]
    have hv : a.eval (.tmp 4) = .pointer (some ⟨w.heap.size + 1, 0, none⟩) := hI.same 4 (by decide)
    have h := run_loadVar_arr (B4.out.kept hI.grew) Tryd.underlying24 rfl info_set
    unfold Oper.wp execOp
    simp only [hv, Instr.loadAt, Instr.sureAddr, Sem.run_bind, Sem.run_pure, Result.andThen_ok, h]
    exact hK _ _ (hI.val hs rfl (i := 2) (by omega) rfl (Grew.refl _))
  · intro listed a w2 hs hI hdep hlf K hK
    rw [if_pos (want rfl)]
    have h11 := hI.l2 (hdep ⟨2, .data⟩ (by simp) rfl)
    have hv : a.eval (.tmp 13) = setV g := h11
    unfold Oper.wp
    rw [execOp_call_go, run_go go_bytes, Array.append_empty, Array.empty_append]
    show Calls _ _ _ _ _
    simp only [List.map_toArray, List.map_cons, List.map_nil, hv]
    refine (Bytes_any g w2).mono fun e w' ⟨he, hg⟩ => ?_
    subst he
    exact hK _ _ (hI.val hs rfl (i := 3) (by omega) rfl hg)
  · intro listed a w2 hs hI hdep hlf K hK
    rw [if_pos (want rfl)]
    have h6 : fl listed 6 = false := by
      cases h : fl listed 6 with
      | false => rfl
      | true => have := hI.l64 h; unfold fl at this; rw [hlf] at this; cases this
    exact wp_alloc_row rfl (hK _ _ (hI.new4 hs rfl h6))
  · intro listed a w2 hs hI hdep hlf K hK
    rw [if_pos (want rfl)]
    have h7 : fl listed 7 = false := by
      cases h : fl listed 7 with
      | false => rfl
      | true => have := hI.l75 h; unfold fl at this; rw [hlf] at this; cases this
    exact wp_alloc_row rfl (hK _ _ (hI.new5 hs rfl h7))
  · intro listed a w2 hs hI hdep hlf K hK
    rw [if_pos (want rfl)]
    have d4 : fl listed 4 = true := hdep ⟨4, .data⟩ (by simp) rfl
    have d1 : fl listed 1 = true := hdep ⟨1, .data⟩ (by simp) rfl
    obtain ⟨b, h1, h2, h3, h4⟩ := hI.l4 d4
    have h5 := hI.l1 d1
    exact wp_store_bes rfl h1 h5 h4 info_row (fun j _ => rfl) fun w' k1 k2 => hK _ _ (hI.put6 hs d4 h1 h2 k1 k2)
  · intro listed a w2 hs hI hdep hlf K hK
    rw [if_pos (want rfl)]
    have d5 : fl listed 5 = true := hdep ⟨5, .data⟩ (by simp) rfl
    have d3 : fl listed 3 = true := hdep ⟨3, .data⟩ (by simp) rfl
    obtain ⟨b, h1, h2, h3, h4⟩ := hI.l5 d5
    have h5 := hI.l3 d3
    exact wp_store_bes rfl h1 h5 h4 info_row (fun j _ => rfl) fun w' k1 k2 => hK _ _ (hI.put7 hs d5 h1 h2 k1 k2)
  · intro listed a w2 hall hI
    have hf : ∀ i, i < 8 → fl listed i = true := fun i hi => hall i hi
    obtain ⟨b7, p7, q7, r7, A7⟩ := hI.l4 (hf 4 (by omega))
    obtain ⟨b8, p8, q8, r8, A8⟩ := hI.l5 (hf 5 (by omega))
    rw [hf 6 (by omega)] at A7
    rw [hf 7 (by omega)] at A8
    have q7 : w.heap.size + 1 + 1 + 1 ≤ b7 := by simpa using q7
    have q8 : w.heap.size + 1 + 1 + 1 ≤ b8 := by simpa using q8
    have hgw : w.heap.size + 1 + 1 + 1 ≤ w2.heap.size := by have := hI.grew.lt; simpa using this
    have A7 := hidd (A7.congr (g := fun j => .bool (f j)) fun j hj => by simp)
    have A8 := hidd (A8.congr (g := fun j => .bool (g j)) fun j hj => by simp)
    have D6 := hidd (B6.out.kept hI.grew)
    have GG := hidd (HG.out.trans hI.grew)
    have hfr := frame_of (D := [11, 12, 13, 14, 7, 8]) hI.size hI.same
    have hdf := hI.defers
    obtain ⟨tm, df⟩ := a
    dsimp only at hfr hdf p7 p8
    subst hdf
    have e7 : tm.getD 7 undef = .pointer (some ⟨b7, 0, none⟩) := p7
    have e8 : tm.getD 8 undef = .pointer (some ⟨b8, 0, none⟩) := p8
    rw [hfr]
    clear hfr hI hall hf B3 B4 B6 HG hsz p7 p8
    simp only [List.foldl_cons, List.foldl_nil, List.setIfInBounds_toArray, List.set_cons_succ, List.set_cons_zero, e7, e8]
    generalize tm.getD 11 undef = x11
    generalize tm.getD 12 undef = x12
    generalize tm.getD 13 undef = x13
    generalize tm.getD 14 undef = x14
    clear e7 e8
    have R0 := hidd ((row_at w2 fun _ => .bool false).congr (g := fun j => .bool (decide (j < 0) && (f j && !g j))) fun j hj => by simp)
    have A7 := hidd (A7.out.alloc (.cells (rowB 256 fun _ => .bool false) 25))
    have A8 := hidd (A8.out.alloc (.cells (rowB 256 fun _ => .bool false) 25))
    have D6 := hidd (D6.out.alloc (.cells (rowB 256 fun _ => .bool false) 25))
    have GG := hidd (GG.out.alloc (.cells (rowB 256 fun _ => .bool false) 25))
    go_wp2_with fail
    go_loopw [10, 15] (fun u10 u15 wr => ∃ i : Nat, u15 = .int .i64 i ∧ i ≤ 256 ∧ Hid (ArrAt wr b7 0 256 (fun j => .bool (f j))) ∧ Hid (ArrAt wr b8 0 256 (fun j => .bool (g j))) ∧ Hid (ArrAt wr (w.heap.size + 1 + 1) 0 4 (fun j => .int .u64 ((0 : Nat) : Int))) ∧ Hid (ArrAt wr w2.heap.size 0 256 (fun j => .bool (decide (j < i) && (f j && !g j)))) ∧ Hid (Grew w wr)) (fun _ u15 _ => 256 - (intOf u15).toNat)
    case atStart => exact ⟨0, rfl, Nat.zero_le _, A7, A8, D6, R0, GG⟩
    case round =>
      obtain ⟨i, rfl, hi, K7, K8, K6, K9, KW⟩ := hrel
      clear A7 A8 D6 R0 GG
      by_cases h : i < 256
      · have c7 := K7.out.at0 i h
        have c8 := K8.out.at0 i h
        have c9 := K9.out.at0 i h
        have cf := K9.out.free0 i h
        have HL := fun w0 : World => hidd (lit_less (f i) (g i) w0)
        go_wp2_with fail
        go_region_with (go_at_call 19; refine (HL _).out.mono ?_; rintro e w1 ⟨rfl, rfl⟩)
        all_goals (
          have K7' := hidd ((K7.out.other ⟨w2.heap.size, i, none⟩ (by simp; omega) (.bool (f i && !g i))).drew)
          have K8' := hidd ((K8.out.other ⟨w2.heap.size, i, none⟩ (by simp; omega) (.bool (f i && !g i))).drew)
          have K6' := hidd ((K6.out.other ⟨w2.heap.size, i, none⟩ (by simp; omega) (.bool (f i && !g i))).drew)
          have K9' := hidd ((K9.out.set0 i h (.bool (f i && !g i))).drew)
          have KW' := hidd ((KW.out.setCell (p := ⟨w2.heap.size, i, none⟩) (by simp; omega) (.bool (f i && !g i))).drew)
          go_wp2_with fail
          exact ⟨⟨i + 1, (by simp), (by omega), K7', K8', K6', (by
            rw [Hid]; exact K9'.out.congr fun j hj => by
              by_cases e : j = i
              · subst e; simp
              · have : (j < i + 1) = (j < i) := by apply propext; omega
                simp [e, this]), KW'⟩, (by simp [intOf]; omega)⟩)
      · obtain rfl : i = 256 := by omega
        have K9 := hidd (K9.out.congr (g := fun j => .bool (f j && !g j)) fun j hj => by simp [hj])
        unfold rowF at HBk
        go_wp2_with (refine wpList_load_arr rfl rfl rfl K9.out Tryd.underlying25 rfl info_row ?_)
        refine (HBk _).out.mono ?_; rintro e w3 ⟨rfl, G3⟩
        have S6 := hidd (K6.out.kept G3)
        have W3 := hidd (KW.out.trans G3)
        unfold setV
        go_wp2_with (refine wpList_store_bes (f := fun j => .int .u64 (word (fun i => f i && !g i) (64 * j) 64)) rfl rfl rfl rfl S6.out info_set (fun j _ => rfl) ?_; intro w5 hS hb5)
        exact bodyPost_arr rfl rfl hS Tryd.underlying24 rfl info_set rfl ⟨rfl, W3.out.below hb5.below (by omega)⟩
set_option maxRecDepth 20000 in
set_option maxHeartbeats 4000000 in
theorem two_not (f g : Nat → Bool) (w : World) : Calls Tryd.prog 14 #[setV f, setV g, .func (.func 21) #[] #[]] w fun e w' => e = .returned (setV fun i => !f i) ∧ Grew w w' := by
  have hz := run_zero_row
  have HBk := fun w0 : World => hidd (Back_any (fun i => !f i) w0)
  have B3 : Hid (SetAt (((w.alloc (.cells #[.int .u64 (word f 0 64 : Nat), .int .u64 (word f 64 64 : Nat), .int .u64 (word f 128 64 : Nat), .int .u64 (word f 192 64 : Nat)] 24)).alloc (.cells #[.int .u64 (word g 0 64 : Nat), .int .u64 (word g 64 64 : Nat), .int .u64 (word g 128 64 : Nat), .int .u64 (word g 192 64 : Nat)] 24)).alloc (.cells (wordsB fun _ => 0) 24)) w.heap.size f) := ((SetAt.new w f).kept ((Grew.refl _).alloc _)).kept ((Grew.refl _).alloc _)
  have B4 : Hid (SetAt (((w.alloc (.cells #[.int .u64 (word f 0 64 : Nat), .int .u64 (word f 64 64 : Nat), .int .u64 (word f 128 64 : Nat), .int .u64 (word f 192 64 : Nat)] 24)).alloc (.cells #[.int .u64 (word g 0 64 : Nat), .int .u64 (word g 64 64 : Nat), .int .u64 (word g 128 64 : Nat), .int .u64 (word g 192 64 : Nat)] 24)).alloc (.cells (wordsB fun _ => 0) 24)) (w.heap.size + 1) g) := by
    have := SetAt.new (w.alloc (.cells #[.int .u64 (word f 0 64 : Nat), .int .u64 (word f 64 64 : Nat), .int .u64 (word f 128 64 : Nat), .int .u64 (word f 192 64 : Nat)] 24)) g
    rw [World.size_alloc] at this
    exact this.kept ((Grew.refl _).alloc _)
  have B6 : Hid (ArrAt (((w.alloc (.cells #[.int .u64 (word f 0 64 : Nat), .int .u64 (word f 64 64 : Nat), .int .u64 (word f 128 64 : Nat), .int .u64 (word f 192 64 : Nat)] 24)).alloc (.cells #[.int .u64 (word g 0 64 : Nat), .int .u64 (word g 64 64 : Nat), .int .u64 (word g 128 64 : Nat), .int .u64 (word g 192 64 : Nat)] 24)).alloc (.cells (wordsB fun _ => 0) 24)) (w.heap.size + 1 + 1) 0 4 (fun j => .int .u64 ((0 : Nat) : Int))) := by
    have := words_at ((w.alloc (.cells #[.int .u64 (word f 0 64 : Nat), .int .u64 (word f 64 64 : Nat), .int .u64 (word f 128 64 : Nat), .int .u64 (word f 192 64 : Nat)] 24)).alloc (.cells #[.int .u64 (word g 0 64 : Nat), .int .u64 (word g 64 64 : Nat), .int .u64 (word g 128 64 : Nat), .int .u64 (word g 192 64 : Nat)] 24)) fun _ => 0
    rw [World.size_alloc, World.size_alloc] at this
    exact this
  have HG : Hid (Grew w (((w.alloc (.cells #[.int .u64 (word f 0 64 : Nat), .int .u64 (word f 64 64 : Nat), .int .u64 (word f 128 64 : Nat), .int .u64 (word f 192 64 : Nat)] 24)).alloc (.cells #[.int .u64 (word g 0 64 : Nat), .int .u64 (word g 64 64 : Nat), .int .u64 (word g 128 64 : Nat), .int .u64 (word g 192 64 : Nat)] 24)).alloc (.cells (wordsB fun _ => 0) 24))) := (((Grew.refl w).alloc _).alloc _).alloc _
  have hsz : Hid ((((w.alloc (.cells #[.int .u64 (word f 0 64 : Nat), .int .u64 (word f 64 64 : Nat), .int .u64 (word f 128 64 : Nat), .int .u64 (word f 192 64 : Nat)] 24)).alloc (.cells #[.int .u64 (word g 0 64 : Nat), .int .u64 (word g 64 64 : Nat), .int .u64 (word g 128 64 : Nat), .int .u64 (word g 192 64 : Nat)] 24)).alloc (.cells (wordsB fun _ => 0) 24)).heap.size = w.heap.size + 1 + 1 + 1) := by simp [Hid]
  unfold wordsB at B3 B4 B6 HG hsz
  unfold setV
  go_enter Tryd.func14, Tryd.ntmps14
  go_wp2_with fail
  refine wp_region_steps (TwoI f g _ _) mixed (by kernel_rfl) (TwoI.start _ (Grew.refl _).drew) ⟨?_, ?_, ?_, ?_, ?_, ?_, ?_, ?_, trivial⟩ ?_
  · intro listed a w2 hs hI hdep hlf K hK
    rw [if_pos (want rfl)]
    have hv : a.eval (.tmp 3) = .pointer (some ⟨w.heap.size, 0, none⟩) := hI.same 3 (by decide)
    have h := run_loadVar_arr (B3.out.kept hI.grew) Tryd.underlying24 rfl info_set
    unfold Oper.wp execOp
    simp only [hv, Instr.loadAt, Instr.sureAddr, Sem.run_bind, Sem.run_pure, Result.andThen_ok, h]
    exact hK _ _ (hI.val hs rfl (i := 0) (by omega) rfl (Grew.refl _))
  · intro listed a w2 hs hI hdep hlf K hK
    rw [if_pos (want rfl)]
    have h11 := hI.l0 (hdep ⟨0, .data⟩ (by simp) rfl)
    have hv : a.eval (.tmp 11) = setV f := h11
    unfold Oper.wp
    rw [execOp_call_go, run_go go_bytes, Array.append_empty, Array.empty_append]
    show Calls _ _ _ _ _
    simp only [List.map_toArray, List.map_cons, List.map_nil, hv]
    refine (Bytes_any f w2).mono fun e w' ⟨he, hg⟩ => ?_
    subst he
    exact hK _ _ (hI.val hs rfl (i := 1) (by omega) rfl hg)
  · intro listed a w2 hs hI hdep hlf K hK
    rw [if_pos (want rfl)]
    have hv : a.eval (.tmp 4) = .pointer (some ⟨w.heap.size + 1, 0, none⟩) := hI.same 4 (by decide)
    have h := run_loadVar_arr (B4.out.kept hI.grew) Tryd.underlying24 rfl info_set
    unfold Oper.wp execOp
    simp only [hv, Instr.loadAt, Instr.sureAddr, Sem.run_bind, Sem.run_pure, Result.andThen_ok, h]
    exact hK _ _ (hI.val hs rfl (i := 2) (by omega) rfl (Grew.refl _))
  · intro listed a w2 hs hI hdep hlf K hK
    rw [if_pos (want rfl)]
    have h11 := hI.l2 (hdep ⟨2, .data⟩ (by simp) rfl)
    have hv : a.eval (.tmp 13) = setV g := h11
    unfold Oper.wp
    rw [execOp_call_go, run_go go_bytes, Array.append_empty, Array.empty_append]
    show Calls _ _ _ _ _
    simp only [List.map_toArray, List.map_cons, List.map_nil, hv]
    refine (Bytes_any g w2).mono fun e w' ⟨he, hg⟩ => ?_
    subst he
    exact hK _ _ (hI.val hs rfl (i := 3) (by omega) rfl hg)
  · intro listed a w2 hs hI hdep hlf K hK
    rw [if_pos (want rfl)]
    have h6 : fl listed 6 = false := by
      cases h : fl listed 6 with
      | false => rfl
      | true => have := hI.l64 h; unfold fl at this; rw [hlf] at this; cases this
    exact wp_alloc_row rfl (hK _ _ (hI.new4 hs rfl h6))
  · intro listed a w2 hs hI hdep hlf K hK
    rw [if_pos (want rfl)]
    have h7 : fl listed 7 = false := by
      cases h : fl listed 7 with
      | false => rfl
      | true => have := hI.l75 h; unfold fl at this; rw [hlf] at this; cases this
    exact wp_alloc_row rfl (hK _ _ (hI.new5 hs rfl h7))
  · intro listed a w2 hs hI hdep hlf K hK
    rw [if_pos (want rfl)]
    have d4 : fl listed 4 = true := hdep ⟨4, .data⟩ (by simp) rfl
    have d1 : fl listed 1 = true := hdep ⟨1, .data⟩ (by simp) rfl
    obtain ⟨b, h1, h2, h3, h4⟩ := hI.l4 d4
    have h5 := hI.l1 d1
    exact wp_store_bes rfl h1 h5 h4 info_row (fun j _ => rfl) fun w' k1 k2 => hK _ _ (hI.put6 hs d4 h1 h2 k1 k2)
  · intro listed a w2 hs hI hdep hlf K hK
    rw [if_pos (want rfl)]
    have d5 : fl listed 5 = true := hdep ⟨5, .data⟩ (by simp) rfl
    have d3 : fl listed 3 = true := hdep ⟨3, .data⟩ (by simp) rfl
    obtain ⟨b, h1, h2, h3, h4⟩ := hI.l5 d5
    have h5 := hI.l3 d3
    exact wp_store_bes rfl h1 h5 h4 info_row (fun j _ => rfl) fun w' k1 k2 => hK _ _ (hI.put7 hs d5 h1 h2 k1 k2)
  · intro listed a w2 hall hI
    have hf : ∀ i, i < 8 → fl listed i = true := fun i hi => hall i hi
    obtain ⟨b7, p7, q7, r7, A7⟩ := hI.l4 (hf 4 (by omega))
    obtain ⟨b8, p8, q8, r8, A8⟩ := hI.l5 (hf 5 (by omega))
    rw [hf 6 (by omega)] at A7
    rw [hf 7 (by omega)] at A8
    have q7 : w.heap.size + 1 + 1 + 1 ≤ b7 := by simpa using q7
    have q8 : w.heap.size + 1 + 1 + 1 ≤ b8 := by simpa using q8
    have hgw : w.heap.size + 1 + 1 + 1 ≤ w2.heap.size := by have := hI.grew.lt; simpa using this
    have A7 := hidd (A7.congr (g := fun j => .bool (f j)) fun j hj => by simp)
    have A8 := hidd (A8.congr (g := fun j => .bool (g j)) fun j hj => by simp)
    have D6 := hidd (B6.out.kept hI.grew)
    have GG := hidd (HG.out.trans hI.grew)
    have hfr := frame_of (D := [11, 12, 13, 14, 7, 8]) hI.size hI.same
    have hdf := hI.defers
    obtain ⟨tm, df⟩ := a
    dsimp only at hfr hdf p7 p8
    subst hdf
    have e7 : tm.getD 7 undef = .pointer (some ⟨b7, 0, none⟩) := p7
    have e8 : tm.getD 8 undef = .pointer (some ⟨b8, 0, none⟩) := p8
    rw [hfr]
    clear hfr hI hall hf B3 B4 B6 HG hsz p7 p8
    simp only [List.foldl_cons, List.foldl_nil, List.setIfInBounds_toArray, List.set_cons_succ, List.set_cons_zero, e7, e8]
    generalize tm.getD 11 undef = x11
    generalize tm.getD 12 undef = x12
    generalize tm.getD 13 undef = x13
    generalize tm.getD 14 undef = x14
    clear e7 e8
    have R0 := hidd ((row_at w2 fun _ => .bool false).congr (g := fun j => .bool (decide (j < 0) && (!f j))) fun j hj => by simp)
    have A7 := hidd (A7.out.alloc (.cells (rowB 256 fun _ => .bool false) 25))
    have A8 := hidd (A8.out.alloc (.cells (rowB 256 fun _ => .bool false) 25))
    have D6 := hidd (D6.out.alloc (.cells (rowB 256 fun _ => .bool false) 25))
    have GG := hidd (GG.out.alloc (.cells (rowB 256 fun _ => .bool false) 25))
    go_wp2_with fail
    go_loopw [10, 15] (fun u10 u15 wr => ∃ i : Nat, u15 = .int .i64 i ∧ i ≤ 256 ∧ Hid (ArrAt wr b7 0 256 (fun j => .bool (f j))) ∧ Hid (ArrAt wr b8 0 256 (fun j => .bool (g j))) ∧ Hid (ArrAt wr (w.heap.size + 1 + 1) 0 4 (fun j => .int .u64 ((0 : Nat) : Int))) ∧ Hid (ArrAt wr w2.heap.size 0 256 (fun j => .bool (decide (j < i) && (!f j)))) ∧ Hid (Grew w wr)) (fun _ u15 _ => 256 - (intOf u15).toNat)
    case atStart => exact ⟨0, rfl, Nat.zero_le _, A7, A8, D6, R0, GG⟩
    case round =>
      obtain ⟨i, rfl, hi, K7, K8, K6, K9, KW⟩ := hrel
      clear A7 A8 D6 R0 GG
      by_cases h : i < 256
      · have c7 := K7.out.at0 i h
        have c8 := K8.out.at0 i h
        have c9 := K9.out.at0 i h
        have cf := K9.out.free0 i h
        have HL := fun w0 : World => hidd (lit_not (f i) (g i) w0)
        go_wp2_with fail
        go_region_with (go_at_call 21; refine (HL _).out.mono ?_; rintro e w1 ⟨rfl, rfl⟩)
        all_goals (
          have K7' := hidd ((K7.out.other ⟨w2.heap.size, i, none⟩ (by simp; omega) (.bool (!f i))).drew)
          have K8' := hidd ((K8.out.other ⟨w2.heap.size, i, none⟩ (by simp; omega) (.bool (!f i))).drew)
          have K6' := hidd ((K6.out.other ⟨w2.heap.size, i, none⟩ (by simp; omega) (.bool (!f i))).drew)
          have K9' := hidd ((K9.out.set0 i h (.bool (!f i))).drew)
          have KW' := hidd ((KW.out.setCell (p := ⟨w2.heap.size, i, none⟩) (by simp; omega) (.bool (!f i))).drew)
          go_wp2_with fail
          exact ⟨⟨i + 1, (by simp), (by omega), K7', K8', K6', (by
            rw [Hid]; exact K9'.out.congr fun j hj => by
              by_cases e : j = i
              · subst e; simp
              · have : (j < i + 1) = (j < i) := by apply propext; omega
                simp [e, this]), KW'⟩, (by simp [intOf]; omega)⟩)
      · obtain rfl : i = 256 := by omega
        have K9 := hidd (K9.out.congr (g := fun j => .bool (!f j)) fun j hj => by simp [hj])
        unfold rowF at HBk
        go_wp2_with (refine wpList_load_arr rfl rfl rfl K9.out Tryd.underlying25 rfl info_row ?_)
        refine (HBk _).out.mono ?_; rintro e w3 ⟨rfl, G3⟩
        have S6 := hidd (K6.out.kept G3)
        have W3 := hidd (KW.out.trans G3)
        unfold setV
        go_wp2_with (refine wpList_store_bes (f := fun j => .int .u64 (word (fun i => !f i) (64 * j) 64)) rfl rfl rfl rfl S6.out info_set (fun j _ => rfl) ?_; intro w5 hS hb5)
        exact bodyPost_arr rfl rfl hS Tryd.underlying24 rfl info_set rfl ⟨rfl, W3.out.below hb5.below (by omega)⟩
end Go.Proofs.YtolfdcbebjfjiaaDoor
