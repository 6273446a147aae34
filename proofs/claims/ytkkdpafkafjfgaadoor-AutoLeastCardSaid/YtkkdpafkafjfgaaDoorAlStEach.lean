/- sets.each with each of the four functions that are handed to it; Union, Meet, Less, Not. Conditions: words of 64 bits. -/
import Derived.Test.YtkkdpafkafjfgaaDoorAlStArr
namespace Go.Proofs.YtkkdpafkafjfgaaDoor
open Go.RowKit
set_option linter.unusedVariables false
theorem not_lt (b : Nat) : 18446744073709551615 - b < 18446744073709551616 := by omega
theorem testBit_not64 (x j : Nat) (hx : x < 18446744073709551616) : (18446744073709551615 - x).testBit j = (decide (j < 64) && !x.testBit j) := by
  rw [show 18446744073709551615 - x = 2 ^ 64 - (x + 1) by omega, Nat.testBit_two_pow_sub_succ hx]
theorem xor_not (x : Nat) (hx : x < 18446744073709551616) : 18446744073709551615 ^^^ x = 18446744073709551615 - x := by
  apply Nat.eq_of_testBit_eq
  intro j
  rw [Nat.testBit_xor, testBit_not64 x j hx, show 18446744073709551615 = 2 ^ 64 - 1 from rfl, Nat.testBit_two_pow_sub_one]
  by_cases hj : j < 64
  · simp [hj]
  · have := Nat.testBit_lt_two_pow (x := x) (i := j) (Nat.lt_of_lt_of_le hx (Nat.pow_le_pow_right (n := 2) (i := 64) (by decide) (by omega)))
    simp [hj, this]
theorem word_not (f : Nat → Bool) (b : Nat) : 18446744073709551615 - word f b 64 = word (fun i => !f i) b 64 :=
  word_eq (not_lt _) (fun j hj => by rw [testBit_not64 _ _ (word_lt64 f b), testBit_word]; simp [hj])
theorem words_eq {A B : Nat → Nat} (h : ∀ j, A j = B j) : setW A = setW B := by rw [funext h]
theorem not_fn (a b : Nat) (w : World) (ha : a < 18446744073709551616) (hb : b < 18446744073709551616) :
    Calls Tryd.prog 99 #[.int .u64 a, .int .u64 b] w fun e w' => e = .returned (.int .u64 ((18446744073709551615 - a : Nat) : Int)) ∧ w' = w := by
  have h := show bits .xor .u64 IntKind.u64.max (a : Int) = _ from bits_xor_u64_nat 18446744073709551615 a (by omega) ha
  rw [xor_not a ha] at h
  go_enter Tryd.func99, Tryd.ntmps99
  go_wp2_with fail
  go_ret
  all_goals exact ⟨rfl, rfl⟩
set_option maxHeartbeats 1000000 in
theorem not_each (A B : Nat → Nat) (w : World) (hA : W64 A) (hB : W64 B) :
    Calls Tryd.prog 98 #[setW A, setW B, .func (.func 99) #[] #[]] w fun e w' => e = .returned (setW (fun j => 18446744073709551615 - A j)) ∧ Grew w w' := by
  have HZ : Hid (ArrAt (((w.alloc (.cells (wordsB A) 77)).alloc (.cells (wordsB B) 77)).alloc (.cells (wordsB fun _ => 0) 77)) w.heap.size 0 4 (fun j => .int .u64 (A j))) := ((words_at w A).alloc _).alloc _
  have HY : Hid (ArrAt (((w.alloc (.cells (wordsB A) 77)).alloc (.cells (wordsB B) 77)).alloc (.cells (wordsB fun _ => 0) 77)) (w.heap.size + 1) 0 4 (fun j => .int .u64 (B j))) := by
    have := words_at (w.alloc (.cells (wordsB A) 77)) B
    rw [World.size_alloc] at this
    exact this.alloc _
  have HX : Hid (ArrAt (((w.alloc (.cells (wordsB A) 77)).alloc (.cells (wordsB B) 77)).alloc (.cells (wordsB fun _ => 0) 77)) (w.heap.size + 1 + 1) 0 4 (fun j => .int .u64 ((0 : Nat) : Int))) := by
    have := words_at ((w.alloc (.cells (wordsB A) 77)).alloc (.cells (wordsB B) 77)) (fun _ => 0)
    rw [World.size_alloc, World.size_alloc] at this
    exact this
  have HW : Hid (Grew w (((w.alloc (.cells (wordsB A) 77)).alloc (.cells (wordsB B) 77)).alloc (.cells (wordsB fun _ => 0) 77))) := (((Grew.refl w).alloc _).alloc _).alloc _
  unfold wordsB at HZ HY HX HW
  unfold setW
  have HA := hidd hA
  have HB := hidd hB
  clear hA hB
  go_enter Tryd.func98, Tryd.ntmps98
  go_wp2_with fail
  go_loopw [7, 8] (fun u7 u8 wr => ∃ (i : Nat), u8 = .int .i64 i ∧ i ≤ 4 ∧ Hid (ArrAt wr w.heap.size 0 4 (fun j => .int .u64 (A j))) ∧ Hid (ArrAt wr (w.heap.size + 1) 0 4 (fun j => .int .u64 (B j))) ∧ Hid (ArrAt wr (w.heap.size + 1 + 1) 0 4 (fun j => .int .u64 ((if j < i then 18446744073709551615 - A j else 0 : Nat) : Int))) ∧ Hid (Grew w wr)) (fun _ u8 _ => 4 - (intOf u8).toNat)
  case atStart => exact ⟨0, rfl, by omega, HZ, HY, (by rw [Hid]; exact HX.out.congr fun j hj => by simp), HW⟩
  case round =>
    obtain ⟨i, rfl, hi, KA, KB, KS, KW⟩ := hrel
    by_cases h : i < 4
    · have ca := KA.out.at0 i h
      have cb := KB.out.at0 i h
      have cs := KS.out.at0 i h
      have cf := KS.out.free0 i h
      have la := HA.out i
      have lb := HB.out i
      go_wp2_with fail
      go_region_with (go_at_call 99; refine (not_fn _ _ _ la lb).mono ?_; rintro e w1 ⟨rfl, rfl⟩)
      all_goals (
        have KA' := hidd ((KA.out.other ⟨w.heap.size + 1 + 1, i, none⟩ (by simp; omega) (.int .u64 ((18446744073709551615 - A i : Nat) : Int))).drew)
        have KB' := hidd ((KB.out.other ⟨w.heap.size + 1 + 1, i, none⟩ (by simp) (.int .u64 ((18446744073709551615 - A i : Nat) : Int))).drew)
        have KS' := hidd ((KS.out.set0 i h (.int .u64 ((18446744073709551615 - A i : Nat) : Int))).drew)
        have KW' := hidd ((KW.out.setCell (p := ⟨w.heap.size + 1 + 1, i, none⟩) (by simp; omega) (.int .u64 ((18446744073709551615 - A i : Nat) : Int))).drew)
        go_wp2_with fail
        refine ⟨⟨i + 1, (by simp), (by omega), KA', KB', (by
          rw [Hid]; exact KS'.out.congr fun j hj => by
            by_cases e : j = i
            · subst e; simp
            · have : (j < i + 1) = (j < i) := by apply propext; omega
              simp [e, this]), KW'⟩, (by simp [intOf]; omega)⟩)
    · obtain rfl : i = 4 := by omega
      have c0 := KS.out.at0 0 (by omega)
      have c1 := KS.out.at0 1 (by omega)
      have c2 := KS.out.at0 2 (by omega)
      have c3 := KS.out.at0 3 (by omega)
      simp only [show (0:Nat) < 4 from by omega, show (1:Nat) < 4 from by omega, show (2:Nat) < 4 from by omega, show (3:Nat) < 4 from by omega, if_true] at c0 c1 c2 c3
      have f0 := KS.out.free0 0 (by omega)
      have f1 := KS.out.free0 1 (by omega)
      have f2 := KS.out.free0 2 (by omega)
      have f3 := KS.out.free0 3 (by omega)
      go_wp2_with fail
      (try simp only [Exit.inBlock, Exit.then])
      refine bodyPost_arr (n := 4) rfl rfl ((((KS.out.set0 0 (by omega) _).set0 1 (by omega) _).set0 2 (by omega) _).set0 3 (by omega) _) Tryd.underlying77 rfl info_set rfl ⟨?_, ?_⟩
      · refine congrArg (fun x => Ending.returned (.agg x)) ((rowB_congr (g := fun j => .int .u64 ((18446744073709551615 - A j : Nat) : Int)) fun j hj => ?_).trans rfl)
        match j, hj with
        | 0, _ => rfl
        | 1, _ => rfl
        | 2, _ => rfl
        | 3, _ => rfl
      · exact (((KW.out.setCell (by simp <;> omega) _).setCell (by simp <;> omega) _).setCell (by simp <;> omega) _).setCell (by simp <;> omega) _
set_option maxHeartbeats 1000000 in
theorem Not_w (A : Nat → Nat) (w : World) (hA : W64 A) :
    Calls Tryd.prog 57 #[setW A] w fun e w' => e = .returned (setW (fun j => 18446744073709551615 - A j)) ∧ Grew w w' := by
  have HX : Hid (ArrAt ((w.alloc (.cells (wordsB A) 77)).alloc (.cells (wordsB fun _ => 0) 77)) (w.heap.size + 1) 0 4 (fun j => .int .u64 ((0 : Nat) : Int))) := by
    have := words_at (w.alloc (.cells (wordsB A) 77)) (fun _ => 0)
    rw [World.size_alloc] at this
    exact this
  have HW : Hid (Grew w ((w.alloc (.cells (wordsB A) 77)).alloc (.cells (wordsB fun _ => 0) 77))) := (((Grew.refl w).alloc _).alloc _)
  have HE := fun w0 : World => not_each A A w0
  unfold wordsB at HX HW
  unfold setW at HE ⊢
  have HA := hidd hA
  clear hA
  go_enter Tryd.func57, Tryd.ntmps57
  go_wp2_with fail
  refine (HE _ HA.out HA.out).mono ?_; rintro e w1 ⟨rfl, G⟩
  have KS := hidd (HX.out.kept G)
  have G1 := hidd (HW.out.trans G)
  clear G HE HX HW
  have c0 := KS.out.at0 0 (by omega)
  have c1 := KS.out.at0 1 (by omega)
  have c2 := KS.out.at0 2 (by omega)
  have c3 := KS.out.at0 3 (by omega)
  have f0 := KS.out.free0 0 (by omega)
  have f1 := KS.out.free0 1 (by omega)
  have f2 := KS.out.free0 2 (by omega)
  have f3 := KS.out.free0 3 (by omega)
  go_wp2_with fail
  (try simp only [Exit.inBlock, Exit.then])
  refine bodyPost_arr (n := 4) rfl rfl ((((KS.out.set0 0 (by omega) _).set0 1 (by omega) _).set0 2 (by omega) _).set0 3 (by omega) _) Tryd.underlying77 rfl info_set rfl ⟨?_, ?_⟩
  · refine congrArg (fun x => Ending.returned (.agg x)) ((rowB_congr (g := fun j => .int .u64 ((18446744073709551615 - A j : Nat) : Int)) fun j hj => ?_).trans rfl)
    match j, hj with
    | 0, _ => rfl
    | 1, _ => rfl
    | 2, _ => rfl
    | 3, _ => rfl
  · exact (((G1.out.setCell (by simp <;> omega) _).setCell (by simp <;> omega) _).setCell (by simp <;> omega) _).setCell (by simp <;> omega) _
theorem Not_any (f : Nat → Bool) (w : World) : Calls Tryd.prog 57 #[setV f] w fun e w' => e = .returned (setV fun i => !f i) ∧ Grew w w' := by
  have := Not_w (fun j => word f (64 * j) 64) w (fun j => word_lt64 f _)
  rw [words_eq (fun j => word_not f (64 * j))] at this
  exact this
end Go.Proofs.YtkkdpafkafjfgaaDoor
