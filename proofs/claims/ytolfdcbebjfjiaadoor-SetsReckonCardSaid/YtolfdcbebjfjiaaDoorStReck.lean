/- SetsReckon: the walk. Conditions: the library's table of de Bruijn; the text's own bound; a byte. -/
import Derived.Test.YtolfdcbebjfjiaaDoorStTwo
import Derived.Test.YtolfdcbebjfjiaaDoorStRText
import Derived.Test.YtolfdcbebjfjiaaDoorStTurnP
namespace Go.Proofs.YtolfdcbebjfjiaaDoor
open Go.RowKit
set_option linter.unusedVariables false
section
variable {ops : Array Oper} {Q : Exit → Act → World → Prop} {shs : List Sh} {a0 : Act} {w0 : World} {A : Array Edge} {i : Nat} {d : Option Tmp} {ty : TypeId} {pos : String} {G : Option (Nat × Bool)}
theorem st_call3 {f : FuncId} {x y z : Operand} {u u2 u3 v : Value} {ats : Array TypeId} (hf : isGo Tryd.prog f = true) (hC : ∀ w1, Grew w0 w1 → Calls Tryd.prog f #[u, u2, u3] w1 fun e w' => e = .returned v ∧ Grew w1 w') (hg : guardOk ops shs A G = true)
    (hx : opSh ops shs A a0 x = .val u) (hy : opSh ops shs A a0 y = .val u2) (hz : opSh ops shs A a0 z = .val u3) (hs : shs.getD i .any = .val v) : StepOk Tryd.prog ops Q (shF shs) a0 w0 i ⟨d, .call { callee := .value (.func f), args := #[x, y, z], argTypes := ats }, ty, pos, A, G⟩ :=
  st_call hf hg fun a w E => by
    have h1 := E.op x
    have h2 := E.op y
    have h3 := E.op z
    rw [hx] at h1
    rw [hy] at h2
    rw [hz] at h3
    have h1 : a.eval x = u := h1
    have h2 : a.eval y = u2 := h2
    have h3 : a.eval z = u3 := h3
    simp only [List.map_toArray, List.map_cons, List.map_nil]
    rw [h1, h2, h3]
    exact (hC w E.grew).mono fun e w' ⟨he, hg⟩ => ⟨_, he, hg, by unfold shF; rw [hs]; rfl⟩
theorem index_row_u8 (f : Nat → Bool) (c : Nat) (hc : c < 256) (w : World) : (Instr.index 25 (rowF f) (.int .u8 c)).run Tryd.prog w = .ok (.bool (f c)) w := by
  have h := run_index_row (fun j => .bool (f j)) c hc w
  unfold rowF
  simpa [Instr.index, asIntOf, Sem.run_bind, hc] using h
theorem st_index {x y : Operand} {f : Nat → Bool} {c : Nat} (hc : c < 256) (hg : guardOk ops shs A G = true) (hx : opSh ops shs A a0 x = .val (rowF f)) (hy : opSh ops shs A a0 y = .val (.int .u8 c)) (hs : shs.getD i .any = .val (.bool (f c))) : StepOk Tryd.prog ops Q (shF shs) a0 w0 i ⟨d, .index 25 x y, ty, pos, A, G⟩ :=
  st_run hg fun a w E K hK => by
    have hv := E.op x
    have hw := E.op y
    rw [hx] at hv
    rw [hy] at hw
    have hv : a.eval x = rowF f := hv
    have hw : a.eval y = .int .u8 c := hw
    have := hK (.bool (f c)) w (Grew.refl w) (by unfold shF; rw [hs]; rfl)
    unfold Oper.wp execOp
    simpa [hv, hw, index_row_u8 f c hc, Oper.upon, Sem.run_bind] using this
theorem str_neq (s : ByteArray) {x y : Operand} (a : Act) (w : World) : (do eqGuard .neq 9 x y (.string s) (.string s); binOp .neq 9 (.string s) (.string s) : Sem Value).run Tryd.prog w = .ok (.bool false) w := by
  simp [eqGuard, binOp, Op.stringOp]
theorem int_neq (n : Nat) {x y : Operand} (a : Act) (w : World) : (do eqGuard .neq 3 x y (.int .i64 (n : Nat)) (.int .i64 (n : Nat)); binOp .neq 3 (.int .i64 (n : Nat)) (.int .i64 (n : Nat)) : Sem Value).run Tryd.prog w = .ok (.bool false) w := by
  simp [eqGuard, binOp, Op.intCmp]
theorem bool_neq (b : Bool) {x y : Operand} (a : Act) (w : World) : (do eqGuard .neq 4 x y (.bool b) (.bool b); binOp .neq 4 (.bool b) (.bool b) : Sem Value).run Tryd.prog w = .ok (.bool false) w := by
  have h := run_equalIn_bool' (P := Tryd.prog) w 9999 4 b b Tryd.underlying4
  rw [show (9999 : Nat) + 1 = 10000 from rfl] at h
  simp [eqGuard, binOp, Op.equal, Op.maxDepth, h]
theorem go_two : isGo Tryd.prog 14 = true := by kernel_rfl
theorem go_rof : isGo Tryd.prog 8 = true := by kernel_rfl
theorem go_rtext : isGo Tryd.prog 10 = true := by kernel_rfl
theorem go_has : isGo Tryd.prog 12 = true := by kernel_rfl
end
set_option maxRecDepth 100000 in
set_option maxHeartbeats 4000000 in
theorem SetsReckon_walk (fa fb : Nat → Bool) (t : ByteArray) (c0 : Int) (w : World) (hT : TabZ w) (ht0 : t.size ≤ maxLen) (hc0 : (Lit.int .u8 c0).wf = true) : Calls Tryd.prog 3 #[setV fa, setV fb, .string t, .int .u8 c0] w fun e w' => e = .returned (.bool true) ∧ Grew w w' := by
  have hcb := bd_u8 hc0
  obtain ⟨c, rfl⟩ : ∃ c : Nat, c0 = c := ⟨c0.toNat, by omega⟩
  have hc : c < 256 := by omega
  clear hc0 hcb
  have HT := hidd hT
  have ht := hidd ht0
  clear hT ht0
  have HB : Hid (SetAt ((w.alloc (.cells #[.int .u64 (word fa 0 64 : Nat), .int .u64 (word fa 64 64 : Nat), .int .u64 (word fa 128 64 : Nat), .int .u64 (word fa 192 64 : Nat)] 24)).alloc (.cells #[.int .u64 (word fb 0 64 : Nat), .int .u64 (word fb 64 64 : Nat), .int .u64 (word fb 128 64 : Nat), .int .u64 (word fb 192 64 : Nat)] 24)) w.heap.size fa ∧ SetAt ((w.alloc (.cells #[.int .u64 (word fa 0 64 : Nat), .int .u64 (word fa 64 64 : Nat), .int .u64 (word fa 128 64 : Nat), .int .u64 (word fa 192 64 : Nat)] 24)).alloc (.cells #[.int .u64 (word fb 0 64 : Nat), .int .u64 (word fb 64 64 : Nat), .int .u64 (word fb 128 64 : Nat), .int .u64 (word fb 192 64 : Nat)] 24)) (w.heap.size + 1) fb ∧ Grew w ((w.alloc (.cells #[.int .u64 (word fa 0 64 : Nat), .int .u64 (word fa 64 64 : Nat), .int .u64 (word fa 128 64 : Nat), .int .u64 (word fa 192 64 : Nat)] 24)).alloc (.cells #[.int .u64 (word fb 0 64 : Nat), .int .u64 (word fb 64 64 : Nat), .int .u64 (word fb 128 64 : Nat), .int .u64 (word fb 192 64 : Nat)] 24))) := by
    refine ⟨(SetAt.new w fa).kept ((Grew.refl _).alloc _), ?_, ((Grew.refl w).alloc _).alloc _⟩
    have := SetAt.new (w.alloc (.cells #[.int .u64 (word fa 0 64 : Nat), .int .u64 (word fa 64 64 : Nat), .int .u64 (word fa 128 64 : Nat), .int .u64 (word fa 192 64 : Nat)] 24)) fb
    rw [World.size_alloc] at this
    exact this
  have HBy := fun w0 : World => hidd (Bytes_any fa w0)
  unfold setV at HBy ⊢
  go_enter Tryd.func3, Tryd.ntmps3
  go_wp2_with fail
  refine (HBy _).out.mono ?_; rintro e w1 ⟨rfl, G1⟩
  have B1 := hidd (And.intro (HB.out.1.kept G1) (HB.out.2.1.kept G1))
  have V1 := hidd (HB.out.2.2.trans G1)
  clear HB G1 HBy
  unfold rowF
  go_wp2_with fail
  go_loopw [9, 11, 14] (fun u9 u11 u14 wr => ∃ i : Nat, u14 = .int .i64 i ∧ i ≤ 256 ∧ u9 = .int .i64 ((bl fa 0 i).length : Nat) ∧ wr = w1) (fun _ _ u14 _ => 256 - (intOf u14).toNat)
  case atStart => exact ⟨0, rfl, Nat.zero_le _, rfl, rfl⟩
  case round =>
    obtain ⟨i, rfl, hi, rfl, rfl⟩ := hrel
    by_cases h : i < 256
    · have hx := run_index_row (fun j => .bool (fa j)) i h
      have hl := bl_last fa 0 i
      rw [Nat.zero_add] at hl
      have hn := bl_length fa i 0
      cases hf : fa i with
      | true =>
        have hx2 : ∀ w0, (Instr.index 25 (.agg (rowB 256 fun j => .bool (fa j))) (.int .i64 i)).run Tryd.prog w0 = .ok (.bool true) w0 := fun w0 => by rw [← hf]; exact hx w0
        have HL : Hid ((bl fa 0 (i + 1)).length = (bl fa 0 i).length + 1) := by rw [Hid, hl, hf]; simp
        clear hx hl
        go_wp2_with fail
        exact ⟨⟨i + 1, (by simp), (by omega), (by rw [HL.out]; simp), trivial⟩, (by simp [intOf]; omega)⟩
      | false =>
        have hx2 : ∀ w0, (Instr.index 25 (.agg (rowB 256 fun j => .bool (fa j))) (.int .i64 i)).run Tryd.prog w0 = .ok (.bool false) w0 := fun w0 => by rw [← hf]; exact hx w0
        have HL : Hid ((bl fa 0 (i + 1)).length = (bl fa 0 i).length) := by rw [Hid, hl, hf]; simp
        clear hx hl
        go_wp2_with fail
        exact ⟨⟨i + 1, (by simp), (by omega), (by rw [HL.out]), trivial⟩, (by simp [intOf]; omega)⟩
    · obtain rfl : i = 256 := by omega
      go_wp2_with fail
      have HTT := HT.out.kept V1.out
      refine region_frame [21, 22, 23, 24, 25, 26, 27, 28, 29, 30, 31, 32, 33, 34, 35, 36, 37, 38, 39, 40, 41, 42, 43, 44, 45, 46, 47, 48] ([.val (.string t), .val (setV fun i => setOf t.data.toList i), .val (.string t), .val (setV fun i => setOf t.data.toList i), .val (.bool (false)), .val (.bool (false)), .val (setV fun i => fa i), .val (.string (txt (bl fa 0 256))), .val (setV fun i => fa i), .val (.string (txt (bl fa 0 256))), .val (.bool (false)), .val (.bool (false)), .val (.bool (false)), .val (setV fun i => fa i), .val (.int .i64 ((bl fa 0 256).length : Nat)), .val (.int .i64 ((bl fa 0 256).length : Nat)), .val (.bool (false)), .val (.bool (false)), .val (.bool (false)), .val (setV fun i => fa i), .val (.int .u8 (c : Nat)), .val (.bool (fa c)), .val (setV fun i => fa i), .val (rowF fa), .val (.int .u8 (c : Nat)), .val (.bool (fa c)), .val (.bool (false)), .val (.bool (false))]) (by kernel_rfl) (by kernel_rfl)
        ⟨st_move (by kernel_rfl) rfl, st_call1 go_of (fun w1 g => Of_any t w1 ht.out) (by kernel_rfl) rfl rfl, st_move (by kernel_rfl) rfl, st_call1 go_rof (fun w1 g => ROf_any t w1 ht.out) (by kernel_rfl) rfl rfl, st_neq (f := fun i => setOf t.data.toList i) (g := fun i => setOf t.data.toList i) (setV_congr fun i hi => rfl) (by kernel_rfl) rfl rfl rfl, st_move (by kernel_rfl) rfl, st_load (g := fun i => fa i) B1.out.1 (by kernel_rfl) rfl rfl, st_call1 go_text (fun w1 g => Text_any fa w1 (HTT.kept g)) (by kernel_rfl) rfl rfl, st_load (g := fun i => fa i) B1.out.1 (by kernel_rfl) rfl rfl, st_call1 go_rtext (fun w1 g => RText_any fa w1) (by kernel_rfl) rfl rfl, st_num (str_neq _) (by kernel_rfl) rfl rfl rfl, st_pickF (by kernel_rfl) rfl rfl, st_move (by kernel_rfl) rfl, st_load (g := fun i => fa i) B1.out.1 (by kernel_rfl) rfl rfl, st_call1 go_size (fun w1 g => Size_any fa w1) (by kernel_rfl) rfl rfl, st_move (by kernel_rfl) rfl, st_num (int_neq _) (by kernel_rfl) rfl rfl rfl, st_pickF (by kernel_rfl) rfl rfl, st_move (by kernel_rfl) rfl, st_load (g := fun i => fa i) B1.out.1 (by kernel_rfl) rfl rfl, st_move (by kernel_rfl) rfl, st_call2 go_has (fun w1 g => Has_any fa c w1 hc) (by kernel_rfl) rfl rfl rfl, st_load (g := fun i => fa i) B1.out.1 (by kernel_rfl) rfl rfl, st_call1 go_bytes (fun w1 g => Bytes_any fa w1) (by kernel_rfl) rfl rfl, st_move (by kernel_rfl) rfl, st_index hc (by kernel_rfl) rfl rfl rfl, st_num (bool_neq _) (by kernel_rfl) rfl rfl rfl, st_pickF (by kernel_rfl) rfl rfl, trivial⟩ ?_
      intro xs w2x g2 hx
      have el : xs 48 = .bool false := hx 27 _ 48 rfl rfl
      have B2 := hidd (And.intro (B1.out.1.kept g2) (B1.out.2.kept g2))
      have V2 := hidd (V1.out.trans g2)
      clear hx g2 B1 V1
      simp only [List.foldl_cons, List.foldl_nil, List.setIfInBounds_toArray, List.set_cons_succ, List.set_cons_zero, el]
      clear el
      go_wp2_with fail
      refine region_frame [49, 50, 51, 52, 53, 54, 55, 56, 57, 58, 59, 60, 61, 62, 63, 64] ([.val (setV fun i => fa i), .val (setV fun i => fb i), .val (setV fun i => (fa i || fb i)), .val (setV fun i => fa i), .val (setV fun i => fb i), .val (setV fun i => (fa i || fb i)), .val (.bool (false)), .val (.bool (false)), .val (setV fun i => fa i), .val (setV fun i => fb i), .val (setV fun i => (fa i && fb i)), .val (setV fun i => fa i), .val (setV fun i => fb i), .val (setV fun i => (fa i && fb i)), .val (.bool (false)), .val (.bool (false))]) (by kernel_rfl) (by kernel_rfl)
        ⟨st_load (g := fun i => fa i) B2.out.1 (by kernel_rfl) rfl rfl, st_load (g := fun i => fb i) B2.out.2 (by kernel_rfl) rfl rfl, st_call2 go_union (fun w1 g => Union_any _ _ w1) (by kernel_rfl) rfl rfl rfl, st_load (g := fun i => fa i) B2.out.1 (by kernel_rfl) rfl rfl, st_load (g := fun i => fb i) B2.out.2 (by kernel_rfl) rfl rfl, st_call3 go_two (fun w1 g => two_or _ _ w1) (by kernel_rfl) rfl rfl rfl rfl, st_neq (f := fun i => (fa i || fb i)) (g := fun i => (fa i || fb i)) (setV_congr fun i hi => rfl) (by kernel_rfl) rfl rfl rfl, st_move (by kernel_rfl) rfl, st_load (g := fun i => fa i) B2.out.1 (by kernel_rfl) rfl rfl, st_load (g := fun i => fb i) B2.out.2 (by kernel_rfl) rfl rfl, st_call2 go_meet (fun w1 g => Meet_any _ _ w1) (by kernel_rfl) rfl rfl rfl, st_load (g := fun i => fa i) B2.out.1 (by kernel_rfl) rfl rfl, st_load (g := fun i => fb i) B2.out.2 (by kernel_rfl) rfl rfl, st_call3 go_two (fun w1 g => two_and _ _ w1) (by kernel_rfl) rfl rfl rfl rfl, st_neq (f := fun i => (fa i && fb i)) (g := fun i => (fa i && fb i)) (setV_congr fun i hi => rfl) (by kernel_rfl) rfl rfl rfl, st_pickF (by kernel_rfl) rfl rfl, trivial⟩ ?_
      intro xs w3x g3 hx
      have el : xs 64 = .bool false := hx 15 _ 64 rfl rfl
      have B3 := hidd (And.intro (B2.out.1.kept g3) (B2.out.2.kept g3))
      have V3 := hidd (V2.out.trans g3)
      clear hx g3 B2 V2
      simp only [List.foldl_cons, List.foldl_nil, List.setIfInBounds_toArray, List.set_cons_succ, List.set_cons_zero, el]
      clear el
      go_wp2_with fail
      refine region_frame [65, 66, 67, 68, 69, 70, 71, 72, 73, 74, 75, 76, 77, 78, 79, 8] ([.val (setV fun i => fa i), .val (setV fun i => fb i), .val (setV fun i => (fa i && !fb i)), .val (setV fun i => fa i), .val (setV fun i => fb i), .val (setV fun i => (fa i && !fb i)), .val (.bool (true)), .val (.bool (true)), .val (setV fun i => fa i), .val (setV fun i => (!fa i)), .val (setV fun i => fa i), .val (setV fun i => fa i), .val (setV fun i => (!fa i)), .val (.bool (true)), .val (.bool (true)), .val (.bool (true))]) (by kernel_rfl) (by kernel_rfl)
        ⟨st_load (g := fun i => fa i) B3.out.1 (by kernel_rfl) rfl rfl, st_load (g := fun i => fb i) B3.out.2 (by kernel_rfl) rfl rfl, st_call2 go_less (fun w1 g => Less_any _ _ w1) (by kernel_rfl) rfl rfl rfl, st_load (g := fun i => fa i) B3.out.1 (by kernel_rfl) rfl rfl, st_load (g := fun i => fb i) B3.out.2 (by kernel_rfl) rfl rfl, st_call3 go_two (fun w1 g => two_less _ _ w1) (by kernel_rfl) rfl rfl rfl rfl, st_eq (f := fun i => (fa i && !fb i)) (g := fun i => (fa i && !fb i)) (setV_congr fun i hi => rfl) (by kernel_rfl) rfl rfl rfl, st_move (by kernel_rfl) rfl, st_load (g := fun i => fa i) B3.out.1 (by kernel_rfl) rfl rfl, st_call1 go_not (fun w1 g => Not_any _ w1) (by kernel_rfl) rfl rfl, st_load (g := fun i => fa i) B3.out.1 (by kernel_rfl) rfl rfl, st_load (g := fun i => fa i) B3.out.1 (by kernel_rfl) rfl rfl, st_call3 go_two (fun w1 g => two_not _ _ w1) (by kernel_rfl) rfl rfl rfl rfl, st_eq (f := fun i => (!fa i)) (g := fun i => (!fa i)) (setV_congr fun i hi => rfl) (by kernel_rfl) rfl rfl rfl, st_pick (by kernel_rfl) rfl rfl, st_assign (by kernel_rfl) rfl, trivial⟩ ?_
      intro xs w4x g4 hx
      have el : xs 8 = .bool true := hx 15 _ 8 rfl rfl
      have B4 := hidd (And.intro (B3.out.1.kept g4) (B3.out.2.kept g4))
      have V4 := hidd (V3.out.trans g4)
      clear hx g4 B3 V3
      simp only [List.foldl_cons, List.foldl_nil, List.setIfInBounds_toArray, List.set_cons_succ, List.set_cons_zero, el]
      clear el
      go_wp2_with fail
      go_ret
      exact ⟨rfl, V4.out⟩
end Go.Proofs.YtolfdcbebjfjiaaDoor

