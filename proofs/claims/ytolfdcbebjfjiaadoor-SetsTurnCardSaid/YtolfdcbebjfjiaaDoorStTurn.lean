/- SetsTurn: the walk. Conditions: the library's table of de Bruijn. -/
import Derived.Test.YtolfdcbebjfjiaaDoorStShape
import Derived.Test.YtolfdcbebjfjiaaDoorStTurnP
namespace Go.Proofs.YtolfdcbebjfjiaaDoor
open Go.RowKit
set_option linter.unusedVariables false
theorem setV_of {f g : Nat → Bool} (h : ∀ c, c < 256 → f c = g c) : setV f = setV g := setV_congr h
/-- What Read says, at the texts that the law hands it. -/
theorem Read_print (f : Nat → Bool) (w : World) : Calls Tryd.prog 24 #[.string (txt (pr f 0))] w fun v w' => v = .returned (.tuple #[setV f, faultV 0 0]) ∧ Grew w w' := by
  obtain ⟨g, h1, h2⟩ := read_print f
  have := Read_any (txt (pr f 0)) w (by rw [txt_size]; have := pr_length f 0; unfold maxLen; omega)
  rw [h1, setV_of h2] at this
  exact this
theorem Read_signed (f : Nat → Bool) (w : World) : Calls Tryd.prog 24 #[.string (txt (94 :: pr f 0))] w fun v w' => v = .returned (.tuple #[setV (fun i => !f i), faultV 0 0]) ∧ Grew w w' := by
  obtain ⟨g, h1, h2⟩ := read_not f
  have := Read_any (txt (94 :: pr f 0)) w (by rw [txt_size]; have := pr_length f 0; unfold maxLen; simp; omega)
  rw [h1, setV_of h2] at this
  exact this
theorem Of_text (f : Nat → Bool) (w : World) : Calls Tryd.prog 7 #[.string (txt (bl f 0 256))] w fun v w' => v = .returned (setV f) ∧ Grew w w' := by
  have := Of_any (txt (bl f 0 256)) w (by rw [txt_size]; have := bl_length f 256 0; unfold maxLen; omega)
  rw [show (txt (bl f 0 256)).data.toList = bytesL (bl f 0 256) by simp [txt], setV_of (of_text f)] at this
  exact this
section
variable {ops : Array Oper} {Q : Exit → Act → World → Prop} {shs : List Sh} {a0 : Act} {w0 : World} {A : Array Edge} {i : Nat} {d : Option Tmp} {ty : TypeId} {pos : String} {G : Option (Nat × Bool)}
theorem fault_field (b : Nat) (w : World) : (Instr.fieldAt 40 (.pointer (some ⟨b, 0, none⟩)) 0).run Tryd.prog w = .ok (.pointer (some ⟨b, 0, none⟩)) w := by
  have hi : (Tryd.prog.info? 38).map (·.size) = some 1 := by kernel_rfl
  cases hq : Tryd.prog.info? 38 with
  | none => rw [hq] at hi; cases hi
  | some ie =>
    have hs : ie.size = 1 := by simpa [hq] using hi
    simp [Instr.fieldAt, Instr.sureAddr, Sem.run_bind, run_underlying Tryd.underlying40, fieldPlace, sizeOf, typeInfo, hq, hs, Addr.add]
theorem st_field {x : Operand} {b : Nat} (hg : guardOk ops shs A G = true) (hx : opSh ops shs A a0 x = .val (.pointer (some ⟨b, 0, none⟩))) (hs : shs.getD i .any = .val (.pointer (some ⟨b, 0, none⟩))) : StepOk Tryd.prog ops Q (shF shs) a0 w0 i ⟨d, .fieldAddr 40 x 0, ty, pos, A, G⟩ :=
  st_run hg fun a w E K hK => by
    have hv := E.op x
    rw [hx] at hv
    have hv : a.eval x = .pointer (some ⟨b, 0, none⟩) := hv
    have := hK (.pointer (some ⟨b, 0, none⟩)) w (Grew.refl w) (by unfold shF; rw [hs]; rfl)
    unfold Oper.wp execOp
    simpa [hv, fault_field, Oper.upon] using this
theorem st_loadI {x : Operand} {b : Nat} {z : Int} (hb : w0.cell? ⟨b, 0, none⟩ = some (.int .i64 z)) (hg : guardOk ops shs A G = true) (hx : opSh ops shs A a0 x = .val (.pointer (some ⟨b, 0, none⟩))) (hs : shs.getD i .any = .val (.int .i64 z)) : StepOk Tryd.prog ops Q (shF shs) a0 w0 i ⟨d, .load 38 x, ty, pos, A, G⟩ :=
  st_run hg fun a w E K hK => by
    have hv := E.op x
    rw [hx] at hv
    have hv : a.eval x = .pointer (some ⟨b, 0, none⟩) := hv
    have := hK (.int .i64 z) w (Grew.refl w) (by unfold shF; rw [hs]; rfl)
    have hc := E.grew.keeps hb
    have hagg : (isAgg 38).run Tryd.prog w = .ok false w := by
      unfold isAgg
      rw [Sem.run_bind, run_underlying Tryd.underlying38 w]; rfl
    unfold Oper.wp execOp
    simpa [hv, Instr.loadAt, Instr.sureAddr, loadVar, Sem.run_bind, hagg, hc, Oper.upon] using this
theorem num_neq0 {xt : TypeId} {x y : Operand} (a : Act) (w : World) : (do eqGuard .neq xt x y (.int .i64 0) (.int .i64 0); binOp .neq xt (.int .i64 0) (.int .i64 0) : Sem Value).run Tryd.prog w = .ok (.bool false) w := by
  simp [eqGuard, binOp, Op.intCmp]
end
set_option maxRecDepth 100000 in
set_option maxHeartbeats 4000000 in
theorem SetsTurn_walk (f : Nat → Bool) (t : ByteArray) (w : World) (hT : TabZ w) (ht : t.size ≤ maxLen) : Calls Tryd.prog 5 #[setV f, .string t] w fun e w' => e = .returned (.bool true) ∧ Grew w w' := by
  have HT := hidd hT
  have HB : Hid (SetAt (w.alloc (.cells #[.int .u64 (word f 0 64 : Nat), .int .u64 (word f 64 64 : Nat), .int .u64 (word f 128 64 : Nat), .int .u64 (word f 192 64 : Nat)] 24)) w.heap.size f) := SetAt.new w f
  have HG : Hid (Grew w (w.alloc (.cells #[.int .u64 (word f 0 64 : Nat), .int .u64 (word f 64 64 : Nat), .int .u64 (word f 128 64 : Nat), .int .u64 (word f 192 64 : Nat)] 24))) := (Grew.refl w).alloc _
  have HP := fun w0 : World => hidd (Print_any f w0)
  change ∀ w0, Hid (Calls _ _ _ w0 fun e w' => e = .returned (.string (txt (pr f 0))) ∧ Grew w0 w') at HP
  have HR1 := fun w0 : World => hidd (Read_print f w0)
  have HR2 := fun w0 : World => hidd (Read_signed f w0)
  have HR3 := fun w0 : World => hidd (Read_any t w0 ht)
  obtain ⟨⟨e, p, g⟩, hr⟩ : ∃ r, readR t = r := ⟨_, rfl⟩
  have HCS : Hid ((e ≠ 0 ∧ ∀ w0 : World, Hid (Calls Tryd.prog 24 #[.string t] w0 fun v w' => v = .returned (.tuple #[.agg #[.int .u64 0, .int .u64 0, .int .u64 0, .int .u64 0], .agg #[.int .i64 (e : Nat), .int .i64 (p : Nat)]]) ∧ Grew w0 w')) ∨
      ((∀ w0 : World, Hid (Calls Tryd.prog 24 #[.string t] w0 fun v w' => v = .returned (.tuple #[.agg #[.int .u64 (word g 0 64 : Nat), .int .u64 (word g 64 64 : Nat), .int .u64 (word g 128 64 : Nat), .int .u64 (word g 192 64 : Nat)], .agg #[.int .i64 0, .int .i64 0]]) ∧ Grew w0 w')) ∧
       (∀ w0 : World, Hid (Calls Tryd.prog 23 #[.agg #[.int .u64 (word g 0 64 : Nat), .int .u64 (word g 64 64 : Nat), .int .u64 (word g 128 64 : Nat), .int .u64 (word g 192 64 : Nat)]] w0 fun v w' => v = .returned (.string (txt (pr g 0))) ∧ Grew w0 w')) ∧
       (∀ w0 : World, Hid (Calls Tryd.prog 24 #[.string (txt (pr g 0))] w0 fun v w' => v = .returned (.tuple #[.agg #[.int .u64 (word g 0 64 : Nat), .int .u64 (word g 64 64 : Nat), .int .u64 (word g 128 64 : Nat), .int .u64 (word g 192 64 : Nat)], .agg #[.int .i64 0, .int .i64 0]]) ∧ Grew w0 w')))) := by
    have k1 := readR_bad (t := t)
    have k2 := readR_ok (t := t)
    rw [hr] at k1 k2 HR3
    by_cases h : e = 0
    · have hp := k2 h
      dsimp only at hp
      subst h hp
      exact Or.inr ⟨fun w0 => HR3 w0, fun w0 => Print_any g w0, fun w0 => Read_print g w0⟩
    · have hg := k1 h
      dsimp only at hg
      subst hg
      refine Or.inl ⟨h, fun w0 => ?_⟩
      have h3 := HR3 w0
      dsimp only at h3
      rw [setV_empty] at h3
      exact h3
  replace HCS := HCS.out
  clear HR3 hr
  have HCX := hidd HCS
  clear HCS
  have hcat : (⟨#[94]⟩ : ByteArray) ++ txt (pr f 0) = txt (94 :: pr f 0) := by
    refine str_ext ?_
    rw [data_append]
    simp [txt, bytesL]
  have hps : (txt (pr f 0)).size ≤ 1792 := by rw [txt_size]; exact pr_length f 0
  generalize txt (pr f 0) = P at HP HR1 hcat hps
  generalize txt (94 :: pr f 0) = P2 at HR2 hcat
  clear hT ht
  unfold setV at HP HR1 HR2 ⊢
  unfold faultV at HR1 HR2
  go_enter Tryd.func5, Tryd.ntmps5
  go_wp2_with fail
  refine (alive_any _ (HT.out.kept HG.out)).mono ?_; rintro e w1 ⟨rfl, G1⟩
  obtain ⟨c0, c1, c2, c3⟩ := (HB.out.kept G1).four
  have HB1 := hidd (HB.out.kept G1)
  have HG1 := hidd (HG.out.trans G1)
  clear HB HG G1
  go_wp2_with fail
  refine (HP _).out.mono ?_; rintro e w2 ⟨rfl, G2⟩
  have HB2 := hidd (HB1.out.kept G2)
  have HG2 := hidd (HG1.out.trans G2)
  clear c0 c1 c2 c3 HB1 HG1 G2
  go_wp2_with fail
  refine (HR1 _).out.mono ?_; rintro e w3 ⟨rfl, G3⟩
  have hw3 : w.heap.size ≤ w3.heap.size := (HG2.out.trans G3).lt
  have HB3 := hidd (((HB2.out.kept G3).kept ((Grew.refl _).alloc (.cells #[.int .u64 (word f 0 64 : Nat), .int .u64 (word f 64 64 : Nat), .int .u64 (word f 128 64 : Nat), .int .u64 (word f 192 64 : Nat)] 24))).kept ((Grew.refl _).alloc (.cells #[.int .i64 0, .int .i64 0] 40)))
  have HC3 := hidd ((SetAt.new w3 f).kept ((Grew.refl _).alloc (.cells #[.int .i64 0, .int .i64 0] 40)))
  have HF3 : Hid (ArrAt ((w3.alloc (.cells #[.int .u64 (word f 0 64 : Nat), .int .u64 (word f 64 64 : Nat), .int .u64 (word f 128 64 : Nat), .int .u64 (word f 192 64 : Nat)] 24)).alloc (.cells #[.int .i64 0, .int .i64 0] 40)) (w3.heap.size + 1) 0 2 (twoF (.int .i64 0) (.int .i64 0))) := by
    have := two_at (w3.alloc (.cells #[.int .u64 (word f 0 64 : Nat), .int .u64 (word f 64 64 : Nat), .int .u64 (word f 128 64 : Nat), .int .u64 (word f 192 64 : Nat)] 24)) (.int .i64 0) (.int .i64 0) 40
    rw [World.size_alloc] at this
    exact this
  have HG3 := hidd (((HG2.out.trans G3).alloc (.cells #[.int .u64 (word f 0 64 : Nat), .int .u64 (word f 64 64 : Nat), .int .u64 (word f 128 64 : Nat), .int .u64 (word f 192 64 : Nat)] 24)).alloc (.cells #[.int .i64 0, .int .i64 0] 40))
  clear HB2 HG2 G3
  go_wp2_with fail
  refine (HR2 _).out.mono ?_; rintro e w4 ⟨rfl, G4⟩
  have HB4 := hidd (((HB3.out.kept G4).kept ((Grew.refl _).alloc (.cells #[.int .u64 (word (fun i => !f i) 0 64 : Nat), .int .u64 (word (fun i => !f i) 64 64 : Nat), .int .u64 (word (fun i => !f i) 128 64 : Nat), .int .u64 (word (fun i => !f i) 192 64 : Nat)] 24))).kept ((Grew.refl _).alloc (.cells #[.int .i64 0, .int .i64 0] 40)))
  have HC4 := hidd (((HC3.out.kept G4).kept ((Grew.refl _).alloc (.cells #[.int .u64 (word (fun i => !f i) 0 64 : Nat), .int .u64 (word (fun i => !f i) 64 64 : Nat), .int .u64 (word (fun i => !f i) 128 64 : Nat), .int .u64 (word (fun i => !f i) 192 64 : Nat)] 24))).kept ((Grew.refl _).alloc (.cells #[.int .i64 0, .int .i64 0] 40)))
  have HF4 := hidd (((HF3.out.kept G4).kept ((Grew.refl _).alloc (.cells #[.int .u64 (word (fun i => !f i) 0 64 : Nat), .int .u64 (word (fun i => !f i) 64 64 : Nat), .int .u64 (word (fun i => !f i) 128 64 : Nat), .int .u64 (word (fun i => !f i) 192 64 : Nat)] 24))).kept ((Grew.refl _).alloc (.cells #[.int .i64 0, .int .i64 0] 40)))
  have HD4 := hidd ((SetAt.new w4 (fun i => !f i)).kept ((Grew.refl _).alloc (.cells #[.int .i64 0, .int .i64 0] 40)))
  have HE4 : Hid (ArrAt ((w4.alloc (.cells #[.int .u64 (word (fun i => !f i) 0 64 : Nat), .int .u64 (word (fun i => !f i) 64 64 : Nat), .int .u64 (word (fun i => !f i) 128 64 : Nat), .int .u64 (word (fun i => !f i) 192 64 : Nat)] 24)).alloc (.cells #[.int .i64 0, .int .i64 0] 40)) (w4.heap.size + 1) 0 2 (twoF (.int .i64 0) (.int .i64 0))) := by
    have := two_at (w4.alloc (.cells #[.int .u64 (word (fun i => !f i) 0 64 : Nat), .int .u64 (word (fun i => !f i) 64 64 : Nat), .int .u64 (word (fun i => !f i) 128 64 : Nat), .int .u64 (word (fun i => !f i) 192 64 : Nat)] 24)) (.int .i64 0) (.int .i64 0) 40
    rw [World.size_alloc] at this
    exact this
  have HG4 := hidd (((HG3.out.trans G4).alloc (.cells #[.int .u64 (word (fun i => !f i) 0 64 : Nat), .int .u64 (word (fun i => !f i) 64 64 : Nat), .int .u64 (word (fun i => !f i) 128 64 : Nat), .int .u64 (word (fun i => !f i) 192 64 : Nat)] 24)).alloc (.cells #[.int .i64 0, .int .i64 0] 40))
  clear HB3 HG3 HC3 HF3 G4
  go_wp2_with fail
  have B2 := HB4.out
  have B6 := HC4.out
  have B8 := HD4.out
  have F7 := HF4.out.at0 0 (by omega)
  have F9 := HE4.out.at0 0 (by omega)
  have HTT := HT.out.kept HG4.out
  refine region_frame [27, 28, 29, 30, 31, 32, 33, 34, 35, 36, 37, 38, 39, 40, 41, 42, 43, 44, 45, 46, 47, 48, 49, 50, 51, 52] ([.val (.pointer (some ⟨w3.heap.size + 1, 0, none⟩)), .val (.int .i64 0), .val (.bool false), .val (.bool false), .val (.pointer (some ⟨w4.heap.size + 1, 0, none⟩)), .val (.int .i64 0), .val (.bool false), .val (.bool false), .val (.bool false), .val (setV fun i => f i), .val (setV fun i => f i), .val (.bool false), .val (.bool false), .val (.bool false), .val (setV fun i => !f i), .val (setV fun i => f i), .val (setV fun i => (!f i)), .val (.bool false), .val (.bool false), .val (.bool false), .val (setV fun i => f i), .val (.string (txt (bl f 0 256))), .val (setV fun i => f i), .val (setV fun i => f i), .val (.bool false), .val (.bool false)]) (by kernel_rfl) (by kernel_rfl)
    ⟨st_field (by kernel_rfl) rfl rfl, st_loadI F7 (by kernel_rfl) rfl rfl, st_num num_neq0 (by kernel_rfl) rfl rfl rfl, st_move (by kernel_rfl) rfl, st_field (by kernel_rfl) rfl rfl, st_loadI F9 (by kernel_rfl) rfl rfl, st_num num_neq0 (by kernel_rfl) rfl rfl rfl, st_pickF (by kernel_rfl) rfl rfl, st_move (by kernel_rfl) rfl, st_load (g := fun i => f i) B6 (by kernel_rfl) rfl rfl, st_load (g := fun i => f i) B2 (by kernel_rfl) rfl rfl, st_neq (f := fun i => f i) (g := fun i => f i) (setV_congr fun i hi => by cases f i <;> rfl) (by kernel_rfl) rfl rfl rfl, st_pickF (by kernel_rfl) rfl rfl, st_move (by kernel_rfl) rfl, st_load (g := fun i => !f i) B8 (by kernel_rfl) rfl rfl, st_load (g := fun i => f i) B2 (by kernel_rfl) rfl rfl, st_call1 go_not (fun w1 g => Not_any _ w1) (by kernel_rfl) rfl rfl, st_neq (f := fun i => !f i) (g := fun i => (!f i)) (setV_congr fun i hi => by cases f i <;> rfl) (by kernel_rfl) rfl rfl rfl, st_pickF (by kernel_rfl) rfl rfl, st_move (by kernel_rfl) rfl, st_load (g := fun i => f i) B2 (by kernel_rfl) rfl rfl, st_call1 go_text (fun w1 g => Text_any _ w1 (HTT.kept g)) (by kernel_rfl) rfl rfl, st_call1 go_of (fun w1 g => Of_text f w1) (by kernel_rfl) rfl rfl, st_load (g := fun i => f i) B2 (by kernel_rfl) rfl rfl, st_neq (f := fun i => f i) (g := fun i => f i) (setV_congr fun i hi => by cases f i <;> rfl) (by kernel_rfl) rfl rfl rfl, st_pickF (by kernel_rfl) rfl rfl, trivial⟩ ?_
  intro xs w5 g5 hx
  have el : xs 52 = .bool false := hx 25 _ 52 rfl rfl
  have B5 := hidd (HF4.out.kept g5)
  have HG5 := hidd (HG4.out.trans g5)
  clear hx g5 B2 B6 B8 F7 F9 HTT HB4 HC4 HF4 HD4 HE4 HG4 HP HR1 HR2 hcat
  simp only [List.foldl_cons, List.foldl_nil, List.setIfInBounds_toArray, List.set_cons_succ, List.set_cons_zero, el]
  clear el
  go_wp2_with fail
  rcases HCX.out with ⟨he, HR3⟩ | ⟨HR3, HP3, HR4⟩
  · refine (HR3 _).out.mono ?_; rintro e' w6 ⟨rfl, G6⟩
    have KF := hidd (B5.out.kept G6)
    have KG := hidd (HG5.out.trans G6)
    have d0 : w6.cell? ⟨w3.heap.size + 1, 0, none⟩ = some (.int .i64 0) := KF.out.at0 0 (by omega)
    have d1 : w6.cell? ⟨w3.heap.size + 1, 1, none⟩ = some (.int .i64 0) := KF.out.at0 1 (by omega)
    have k0 : w6.frozen? ⟨w3.heap.size + 1, 0, none⟩ = false := KF.out.free0 0 (by omega)
    have k1 : w6.frozen? ⟨w3.heap.size + 1, 1, none⟩ = false := KF.out.free0 1 (by omega)
    have hq := fun w0 => eq_set 0 0 0 0 w0
    have hne : ((e : Int) != 0) = true := by simp; omega
    have hlt : w3.heap.size + 1 < w6.heap.size := KF.out.lt (by omega)
    clear B5 HG5 G6
    go_wp2_with fail
    go_ret
    exact ⟨rfl, ((KG.out.setCell (p := ⟨w3.heap.size + 1, 0, none⟩) (show w.heap.size ≤ w3.heap.size + 1 by omega) _).setCell (p := ⟨w3.heap.size + 1, 1, none⟩) (show w.heap.size ≤ w3.heap.size + 1 by omega) _).alloc _⟩
  · refine (HR3 _).out.mono ?_; rintro e' w6 ⟨rfl, G6⟩
    have KF := hidd (B5.out.kept G6)
    have KG := hidd (HG5.out.trans G6)
    have d0 : w6.cell? ⟨w3.heap.size + 1, 0, none⟩ = some (.int .i64 0) := KF.out.at0 0 (by omega)
    have d1 : w6.cell? ⟨w3.heap.size + 1, 1, none⟩ = some (.int .i64 0) := KF.out.at0 1 (by omega)
    have k0 : w6.frozen? ⟨w3.heap.size + 1, 0, none⟩ = false := KF.out.free0 0 (by omega)
    have k1 : w6.frozen? ⟨w3.heap.size + 1, 1, none⟩ = false := KF.out.free0 1 (by omega)
    have hq := fun w0 => eq_setV g w0
    have hlt : w3.heap.size + 1 < w6.heap.size := KF.out.lt (by omega)
    clear B5 HG5 G6
    go_wp2_with fail
    have S7 : Hid (SetAt (((w6.setCell ⟨w3.heap.size + 1, 0, none⟩ (.int .i64 0)).setCell ⟨w3.heap.size + 1, 1, none⟩ (.int .i64 0)).alloc (.cells #[.int .u64 (word g 0 64 : Nat), .int .u64 (word g 64 64 : Nat), .int .u64 (word g 128 64 : Nat), .int .u64 (word g 192 64 : Nat)] 24)) w6.heap.size g) := by
      have := SetAt.new ((w6.setCell ⟨w3.heap.size + 1, 0, none⟩ (.int .i64 0)).setCell ⟨w3.heap.size + 1, 1, none⟩ (.int .i64 0)) g
      simp only [World.size_setCell] at this
      exact this
    have F7 : Hid (ArrAt (((w6.setCell ⟨w3.heap.size + 1, 0, none⟩ (.int .i64 0)).setCell ⟨w3.heap.size + 1, 1, none⟩ (.int .i64 0)).alloc (.cells #[.int .u64 (word g 0 64 : Nat), .int .u64 (word g 64 64 : Nat), .int .u64 (word g 128 64 : Nat), .int .u64 (word g 192 64 : Nat)] 24)) (w3.heap.size + 1) 0 2 (twoF (.int .i64 0) (.int .i64 0))) :=
      (((KF.out.set0 0 (by omega) (.int .i64 0)).set0 1 (by omega) (.int .i64 0)).alloc _).congr fun j hj => by
        match j, hj with
        | 0, _ => rfl
        | 1, _ => rfl
    have G7 := hidd (((KG.out.setCell (p := ⟨w3.heap.size + 1, 0, none⟩) (show w.heap.size ≤ w3.heap.size + 1 by omega) (.int .i64 0)).setCell (p := ⟨w3.heap.size + 1, 1, none⟩) (show w.heap.size ≤ w3.heap.size + 1 by omega) (.int .i64 0)).alloc (.cells #[.int .u64 (word g 0 64 : Nat), .int .u64 (word g 64 64 : Nat), .int .u64 (word g 128 64 : Nat), .int .u64 (word g 192 64 : Nat)] 24))
    clear d0 d1 k0 k1 KF KG
    refine (HP3 _).out.mono ?_; rintro e' w7 ⟨rfl, G8⟩
    have S8 := hidd (S7.out.kept G8)
    have F8 := hidd (F7.out.kept G8)
    have G8 := hidd (G7.out.trans G8)
    clear S7 F7 G7
    go_wp2_with fail
    refine (HR4 _).out.mono ?_; rintro e' w8 ⟨rfl, G9⟩
    have S9 := hidd (S8.out.kept G9)
    have F9 := hidd (F8.out.kept G9)
    have G9 := hidd (G8.out.trans G9)
    clear S8 F8 G8
    have hlt : w3.heap.size + 1 < w8.heap.size := F9.out.lt (by omega)
    have d0 : w8.cell? ⟨w3.heap.size + 1, 0, none⟩ = some (.int .i64 0) := F9.out.at0 0 (by omega)
    have d1 : w8.cell? ⟨w3.heap.size + 1, 1, none⟩ = some (.int .i64 0) := F9.out.at0 1 (by omega)
    have k0 : w8.frozen? ⟨w3.heap.size + 1, 0, none⟩ = false := F9.out.free0 0 (by omega)
    have k1 : w8.frozen? ⟨w3.heap.size + 1, 1, none⟩ = false := F9.out.free0 1 (by omega)
    have hl6 : w6.heap.size < w8.heap.size := ArrAt.lt S9.out (by omega)
    obtain ⟨c0, c1, c2, c3⟩ := S9.out.four
    go_wp2_with fail
    go_ret
    exact ⟨rfl, ((G9.out.setCell (p := ⟨w3.heap.size + 1, 0, none⟩) (show w.heap.size ≤ w3.heap.size + 1 by omega) _).setCell (p := ⟨w3.heap.size + 1, 1, none⟩) (show w.heap.size ≤ w3.heap.size + 1 by omega) _).alloc _⟩
end Go.Proofs.YtolfdcbebjfjiaaDoor
