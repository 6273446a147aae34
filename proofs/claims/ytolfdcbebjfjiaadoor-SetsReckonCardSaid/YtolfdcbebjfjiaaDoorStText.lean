/- sets.Text: a set's bytes, rising. Conditions: the library's table of de Bruijn. -/
import Derived.Test.YtolfdcbebjfjiaaDoorStBits
namespace Go.Proofs.YtolfdcbebjfjiaaDoor
open Go.RowKit
set_option linter.unusedVariables false
/-- Places as bytes, as cells. -/
def bytesL (l : List Nat) : List UInt8 := l.map UInt8.ofNat
def cellsL (l : List Nat) : List Value := l.map fun b : Nat => .int .u8 (b : Int)
theorem cellsL_eq (l : List Nat) (h : ∀ x ∈ l, x < 256) : cellsL l = (bytesL l).map fun b => .int .u8 b.toNat := by
  unfold cellsL bytesL
  rw [List.map_map]
  refine List.map_congr_left fun x hx => ?_
  have := h x hx
  simp only [Function.comp_apply, UInt8.toNat_ofNat']
  rw [Nat.mod_eq_of_lt (by omega)]
theorem cellsL_snoc (l : List Nat) (b : Nat) : cellsL l ++ [.int .u8 (b : Int)] = cellsL (l ++ [b]) := by simp [cellsL]
/-- What is out when the words ahead of w are done. -/
def outs (f : Nat → Bool) (k : Nat) : List Nat := bl f 0 (64 * k)
theorem outs_next (f : Nat → Bool) (k : Nat) : outs f (k + 1) = outs f k ++ (bl (word f (64 * k) 64).testBit 0 64).map (64 * k + ·) := by
  unfold outs
  rw [Nat.mul_add, Nat.mul_one, bl_add, Nat.zero_add, bl_word]
theorem and_pred_lt (x : Nat) (h : x ≠ 0) : x &&& (x - 1) < x := by
  have : x &&& (x - 1) ≤ x - 1 := Nat.and_le_right
  omega
theorem bl_zero : ∀ n k, bl (0 : Nat).testBit k n = []
  | 0, k => rfl
  | n + 1, k => by rw [bl, bl_zero n (k + 1)]; simp
theorem make_own (n : Nat) (hn : n ≤ 256) (w0 : World) : ∃ w', (Instr.makeSlice 44 (.int .i64 0) (.int .i64 (n : Int))).run Tryd.prog w0 = .ok (.slice (some ⟨w0.heap.size, 0, none⟩) 0 n) w' ∧ Own 5 w' w0.heap.size (.slice (some ⟨w0.heap.size, 0, none⟩) 0 n) [] ∧ Grew w0 w' := by
  obtain ⟨i0, hi, hz0, hz1, hz2⟩ := info_parts info_u8
  obtain ⟨w', h1, h2, h3⟩ := run_make_own (P := Tryd.prog) w0 w0.heap.size 44 5 i0 (.int .u8 0) 1 Tryd.underlying44 hi hz0 hz1 .i64 .i64 n (by rw [hz2]; omega) (by unfold maxLen; omega) (Nat.le_refl _)
  exact ⟨w', h1, h2, Grew.of_grownBy h3⟩
theorem cellsL_length (l : List Nat) : (cellsL l).length = l.length := by simp [cellsL]
/-- What the rest of a word adds. -/
theorem rest_step {x i : Nat} {ys L : List Nat} (h0 : x ≠ 0) (hx : x < 18446744073709551616) (h : ys ++ (bl x.testBit 0 64).map (64 * i + ·) = L) : Lib.ctz 64 x < 64 ∧ (ys ++ [64 * i + Lib.ctz 64 x]) ++ (bl (x &&& (x - 1)).testBit 0 64).map (64 * i + ·) = L := by
  obtain ⟨h1, h2⟩ := low_bit x h0 hx
  refine ⟨h1, ?_⟩
  rw [← h, h2]
  simp
set_option maxRecDepth 20000 in
set_option maxHeartbeats 1000000 in
theorem Text_w (A : Nat → Nat) (L : Nat → List Nat) (n : Nat) (w : World) (hT : TabZ w) (HC : ∀ w0, Hid (Calls Tryd.prog 11 #[setW A] w0 fun e w' => e = .returned (.int .i64 (n : Int)) ∧ Grew w0 w'))
    (HL : Hid (W64 A)) (hn : n ≤ 256) (H0 : Hid (L 0 = [])) (HS : ∀ i, Hid (L (i + 1) = L i ++ (bl (A i).testBit 0 64).map (64 * i + ·))) (HB : Hid (∀ i, i ≤ 4 → (L i).length ≤ 256)) (HM : Hid (∀ x ∈ L 4, x < 256)) :
    Calls Tryd.prog 9 #[setW A] w fun e w' => e = .returned (.string ⟨(bytesL (L 4)).toArray⟩) ∧ Grew w w' := by
  have HT := hidd hT
  clear hT
  have HK : ∀ w0, Hid _ := fun w0 => hidd (make_own n hn w0)
  have HW : Hid (ArrAt (w.alloc (.cells (wordsB A) 24)) w.heap.size 0 4 (fun j => .int .u64 (A j))) := words_at w A
  have HG : Hid (Grew w (w.alloc (.cells (wordsB A) 24))) := (Grew.refl w).alloc _
  unfold wordsB at HW HG
  unfold setW at HC ⊢
  go_enter Tryd.func9, Tryd.ntmps9
  go_wp2_with fail
  refine (HC _).out.mono ?_; rintro e w1 ⟨rfl, G⟩
  obtain ⟨w2, hm, OW, G2⟩ := (HK w1).out
  have KW := hidd (HG.out.trans G)
  have KX := hidd (HW.out.kept (G.trans G2))
  have OW := hidd OW
  have hsz : w.heap.size ≤ w1.heap.size := KW.out.lt
  have KW := hidd (KW.out.trans G2)
  have hs2 : w1.heap.size ≤ w2.heap.size := G2.lt
  clear G G2 HC HK HW HG
  have c0 := KX.out.at0 0 (by omega)
  have c1 := KX.out.at0 1 (by omega)
  have c2 := KX.out.at0 2 (by omega)
  have c3 := KX.out.at0 3 (by omega)
  clear KX
  go_wp2_with fail
  clear c0 c1 c2 c3 hm
  go_loopw [3, 4, 5, 10] (fun u3 u4 u5 u10 wr => ∃ (i : Nat), u10 = .int .i64 i ∧ i ≤ 4 ∧ Hid (Own 5 wr w1.heap.size u3 (cellsL (L i))) ∧ Hid (Grew w wr) ∧ w1.heap.size ≤ wr.heap.size) (fun _ _ _ u10 _ => 4 - (intOf u10).toNat)
  case atStart => exact ⟨0, rfl, Nat.zero_le _, (by rw [H0.out]; exact OW), KW, hs2⟩
  case round =>
    obtain ⟨i, rfl, hi, OR, KW, hsr⟩ := hrel
    by_cases h : i < 4
    · have hx := run_index_set A i h
      have HLB := hidd (HB.out (i + 1) (by omega))
      have hdd : decide ((i : Int) < 4) = true := decide_eq_true (by omega)
      go_wp2_with fail
      go_loopw [3, 5] (fun u3 u5 wr2 => ∃ (x : Nat) (ys : List Nat), u5 = .int .u64 x ∧ x < 18446744073709551616 ∧ Hid (Own 5 wr2 w1.heap.size u3 (cellsL ys)) ∧ Hid (ys ++ (bl x.testBit 0 64).map (64 * i + ·) = L (i + 1)) ∧ Hid (Grew w wr2) ∧ w1.heap.size ≤ wr2.heap.size) (fun _ u5 _ => (intOf u5).toNat)
      case atStart => exact ⟨A i, L i, rfl, HL.out i, OR, (HS i).out.symm, KW, hsr⟩
      case round =>
        obtain ⟨x, ys, rfl, hx, OR, HY, KW, hsr⟩ := hrel
        by_cases h0 : x = 0
        · subst h0
          have e : ys = L (i + 1) := by have := HY.out; rw [bl_zero] at this; simpa using this
          subst e
          go_wp2_with fail
          exact ⟨⟨i + 1, (by simp), (by omega), OR, KW, hsr⟩, (by simp [intOf]; omega)⟩
        · obtain ⟨hk, hY⟩ := rest_step h0 hx HY.out
          have HZ := hidd (zeros_any x wr hx h0 (HT.out.kept KW.out))
          have HY2 := hidd hY
          have HD := hidd (and_pred_lt x h0)
          obtain ⟨k, hk0⟩ : ∃ k, Lib.ctz 64 x = k := ⟨_, rfl⟩
          rw [hk0] at hk HY2 HZ
          have hln : (cellsL ys).length + 1 ≤ 257 := by
            have := HLB.out
            rw [← HY.out] at this
            rw [cellsL_length]
            simp at this
            omega
          obtain ⟨v', w', hap, HO', HB'⟩ := own_byte OR.out (B := w1.heap.size) hsr ((64 * i + k : Nat) : Int) (by omega) 44 5
          have HO2 := hidd HO'
          have HB2 := hidd HB'
          have hA2 : bits .and .u64 (x : Int) ((x : Int) - 1) = ((x &&& (x - 1) : Nat) : Int) := by
            rw [show ((x : Int) - 1) = ((x - 1 : Nat) : Int) by omega]
            exact bits_and_u64_nat x (x - 1) hx (by omega)
          clear HO' HB' hk0 hY
          go_wp2_with fail
          refine HZ.out.mono ?_; rintro e wz ⟨rfl, rfl⟩
          go_wp2_with (at_builtin; refine wpList_append_eq rfl rfl rfl rfl hap ?_)
          go_roundw
          case rel => exact ⟨x &&& (x - 1), ys ++ [64 * i + k], rfl, Nat.lt_trans HD.out hx, (by rw [← cellsL_snoc]; exact HO2), HY2, KW.out.below HB2.out hsz, Nat.le_trans hsr HB2.out.size⟩
          case measure => have := HD.out; simp [intOf]; omega
    · obtain rfl : i = 4 := by omega
      have hf := own_string (bytesL (L 4)) (by rw [← cellsL_eq _ HM.out]; exact OR.out)
      go_wp2_with fail
      go_ret
      exact ⟨rfl, KW.out⟩
theorem Text_any (f : Nat → Bool) (w : World) (hT : TabZ w) : Calls Tryd.prog 9 #[setV f] w fun e w' => e = .returned (.string ⟨(bytesL (bl f 0 256)).toArray⟩) ∧ Grew w w' :=
  Text_w (fun j => word f (64 * j) 64) (outs f) (bl f 0 256).length w hT (fun w0 => Size_any f w0) (fun j => word_lt64 f _) (bl_length _ _ _) rfl (fun i => outs_next f i)
    (fun i hi => Nat.le_trans (bl_length f (64 * i) 0) (by omega)) (fun x hx => by have := (bl_mem (f := f) 256 0 x hx).2.1; omega)
end Go.Proofs.YtolfdcbebjfjiaaDoor
