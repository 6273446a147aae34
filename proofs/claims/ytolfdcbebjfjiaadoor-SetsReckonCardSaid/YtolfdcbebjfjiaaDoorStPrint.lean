/- sets.Print: at every set. No condition. -/
import Derived.Test.YtolfdcbebjfjiaaDoorStPrintP
namespace Go.Proofs.YtolfdcbebjfjiaaDoor
open Go.RowKit
set_option linter.unusedVariables false
/-- What Has says of a set's words. -/
theorem seg_len {f : Nat → Bool} {xs : List Nat} {b : Nat} (h : xs ++ pr f b = pr f 0) : xs.length ≤ 1792 := by
  have h1 := pr_length f 0
  rw [← h, List.length_append] at h1
  omega
set_option maxRecDepth 20000 in
set_option maxHeartbeats 2000000 in
theorem Print_w (A : Nat → Nat) (f : Nat → Bool) (w : World) (HH : ∀ (b : Nat) w0, b < 256 → Hid (Calls Tryd.prog 12 #[setW A, .int .u8 b] w0 fun e w' => e = .returned (.bool (f b)) ∧ Grew w0 w')) :
    Calls Tryd.prog 23 #[setW A] w fun e w' => e = .returned (.string ⟨(bytesL (pr f 0)).toArray⟩) ∧ Grew w w' := by
  have HM : Hid (∀ x ∈ pr f 0, x < 256) := fun x hx => prF_lt 256 0 x hx
  have HW : Hid (ArrAt (w.alloc (.cells (wordsB A) 24)) w.heap.size 0 4 (fun j => .int .u64 (A j))) := words_at w A
  have HG : Hid (Grew w (w.alloc (.cells (wordsB A) 24))) := (Grew.refl w).alloc _
  unfold wordsB at HW HG
  unfold setW at HH ⊢
  go_enter Tryd.func23, Tryd.ntmps23
  go_wp2_with fail
  go_loopw [3, 4, 5] (fun u3 u4 u5 wr => ∃ (b : Nat) (xs : List Nat), u4 = .int .i64 b ∧ b ≤ 256 ∧ Hid (Own 5 wr (w.heap.size + 1) u3 (cellsL xs)) ∧ Hid (xs ++ pr f b = pr f 0) ∧ Hid (Below w.heap.size w wr) ∧ w.heap.size + 1 ≤ wr.heap.size ∧ Hid (ArrAt wr w.heap.size 0 4 (fun j => .int .u64 (A j)))) (fun _ u4 _ _ => 256 - (intOf u4).toNat)
  case atStart => exact ⟨0, [], rfl, Nat.zero_le _, Own.nil _ _ _, rfl, HG, by simp, HW⟩
  case round =>
    obtain ⟨b, xs, rfl, hb, OR, HX, KW, hsr, KX⟩ := hrel
    clear HW HG
    by_cases h : b < 256
    · have HFB := HH b
      have c0 := KX.out.at0 0 (by omega)
      have c1 := KX.out.at0 1 (by omega)
      have c2 := KX.out.at0 2 (by omega)
      have c3 := KX.out.at0 3 (by omega)
      have hwb : IntKind.u8.wrap (b : Int) = (b : Int) := by simp [IntKind.wrap, IntKind.signed, IntKind.bits]; omega
      have hdd : decide ((b : Int) < 256) = true := decide_eq_true (by omega)
      go_wp2_with fail
      refine (HFB _ h).out.mono ?_; rintro e w1 ⟨rfl, G1⟩
      have KX1 := hidd (KX.out.kept G1)
      have OR1 := hidd (OR.out.kept G1)
      have KW1 := hidd (Below.trans KW.out (Below.mono G1 (by omega)))
      have hs1 : w.heap.size + 1 ≤ w1.heap.size := Nat.le_trans hsr G1.lt
      clear c0 c1 c2 c3 KX OR KW G1
      cases hf : f b with
      | false =>
        have HN := hidd (pr_out h hf)
        go_wp2_with fail
        exact ⟨⟨b + 1, xs, (by simp), (by omega), OR1, (by rw [Hid, ← HN.out]; exact HX.out), KW1, hs1, KX1⟩, (by simp [intOf]; omega)⟩
      | true =>
        have HN := hidd (pr_in h hf)
        go_wp2_with fail
        go_loopw [5] (fun u5 wr2 => ∃ (l : Nat), u5 = .int .i64 l ∧ b ≤ l ∧ l ≤ 255 ∧ Hid (last f b = last f l) ∧ Hid (Own 5 wr2 (w.heap.size + 1) u3 (cellsL xs)) ∧ Hid (Below w.heap.size w wr2) ∧ w.heap.size + 1 ≤ wr2.heap.size ∧ Hid (ArrAt wr2 w.heap.size 0 4 (fun j => .int .u64 (A j)))) (fun u5 _ => 255 - (intOf u5).toNat)
        case atStart => exact ⟨b, rfl, Nat.le_refl _, by omega, rfl, OR1, KW1, hs1, KX1⟩
        case round =>
          obtain ⟨l, rfl, hbl, hl, HL, OR, KW, hsr, KX⟩ := hrel
          clear OR1 KW1 hs1 KX1
          have c0 := KX.out.at0 0 (by omega)
          have c1 := KX.out.at0 1 (by omega)
          have c2 := KX.out.at0 2 (by omega)
          have c3 := KX.out.at0 3 (by omega)
          have HLX := hidd (seg_len HX.out)
          have hwl : IntKind.u8.wrap (l : Int) = (l : Int) := by simp [IntKind.wrap, IntKind.signed, IntKind.bits]; omega
          by_cases h5 : l < 255
          · have HFL := HH (l + 1)
            have hwl1 : IntKind.u8.wrap ((l : Int) + 1) = ((l + 1 : Nat) : Int) := by simp [IntKind.wrap, IntKind.signed, IntKind.bits]; omega
            have hd5 : decide ((l : Int) < 255) = true := decide_eq_true (by omega)
            go_wp2_with fail
            refine (HFL _ (by omega)).out.mono ?_; rintro e w2 ⟨rfl, G2⟩
            have KX2 := hidd (KX.out.kept G2)
            have OR2 := hidd (OR.out.kept G2)
            have KW2 := hidd (Below.trans KW.out (Below.mono G2 (by omega)))
            have hs2 : w.heap.size + 1 ≤ w2.heap.size := Nat.le_trans hsr G2.lt
            clear c0 c1 c2 c3 KX OR KW G2
            cases hfl : f (l + 1) with
            | true =>
              have HL2 : Hid (last f b = last f (l + 1)) := HL.out.trans (last_step h5 hfl)
              go_wp2_with fail
              exact ⟨⟨l + 1, (by simp), (by omega), (by omega), HL2, OR2, KW2, hs2, KX2⟩, (by simp [intOf]; omega)⟩
            | false =>
              have HST := hidd (last_stop h5 hfl)
              go_wp2_with fail
              have HLB : Hid (last f b = l) := HL.out.trans HST.out
              obtain ⟨hl5, hsz5⟩ : l ≤ 255 ∧ w.heap.size + 1 ≤ w2.heap.size := ⟨hl, hs2⟩
              have HX2 : Hid ((xs ++ segL b l) ++ pr f (l + 1) = pr f 0) := by rw [Hid, List.append_assoc, ← HX.out, HN.out, HLB.out]
              refine (spell_any b OR2.out hsz5 h (by have := HLX.out; omega)).mono ?_; rintro e w3 ⟨v1, rfl, O1, B1⟩
              have O1 := hidd O1
              have KW3 := hidd (Below.trans KW2.out (Below.mono B1 (by omega)))
              have KX3 := hidd (KX2.out.below B1 (by omega))
              have hs3 : w.heap.size + 1 ≤ w3.heap.size := Nat.le_trans hsz5 B1.size
              clear B1
              rcases (show l = b ∨ l = b + 1 ∨ b + 1 < l by omega) with hlb | hlb | hlb
              · subst hlb
                have HSg : Hid (xs ++ segL l l = xs ++ spellL l) := by rw [Hid]; unfold segL; rw [if_neg (by omega), if_neg (by omega)]; simp
                rw [HSg.out] at HX2
                go_wp2_with fail
                exact ⟨⟨l + 1, xs ++ spellL l, (by simp), (by omega), O1, HX2, KW3, hs3, KX3⟩, (by simp [intOf]; omega)⟩
              · subst hlb
                have HSg : Hid (xs ++ segL b (b + 1) = (xs ++ spellL b) ++ spellL (b + 1)) := by rw [Hid]; unfold segL; rw [if_neg (by omega), if_pos (by omega)]; simp
                rw [HSg.out] at HX2
                have hq1 : decide ((b : Int) + 1 < (b : Int) + 1) = false := by simp
                have hwl2 : IntKind.u8.wrap ((b : Int) + 1) = ((b + 1 : Nat) : Int) := by simp [IntKind.wrap, IntKind.signed, IntKind.bits]; omega
                go_wp2_with fail
                refine (spell_any (b + 1) O1.out hs3 (by omega) (by have := HLX.out; have := spellL_length b; simp; omega)).mono ?_; rintro e w4 ⟨v2, rfl, O2, B2⟩
                have O2 := hidd O2
                have KW4 := hidd (Below.trans KW3.out (Below.mono B2 (by omega)))
                have KX4 := hidd (KX3.out.below B2 (by omega))
                have hs4 : w.heap.size + 1 ≤ w4.heap.size := Nat.le_trans hs3 B2.size
                clear B2
                go_wp2_with fail
                exact ⟨⟨b + 1 + 1, (xs ++ spellL b) ++ spellL (b + 1), (by simp), (by omega), O2, HX2, KW4, hs4, KX4⟩, (by simp [intOf]; omega)⟩
              · have HSg : Hid (xs ++ segL b l = ((xs ++ spellL b) ++ [45]) ++ spellL l) := by rw [Hid]; unfold segL; rw [if_pos hlb, if_pos (by omega)]; simp
                rw [HSg.out] at HX2
                have hq1 : decide ((b : Int) + 1 < (l : Int)) = true := decide_eq_true (by omega)
                have hq2 : decide ((b : Int) < (l : Int)) = true := decide_eq_true (by omega)
                obtain ⟨v5, w5, hap, O5, B5⟩ := own_byte O1.out hs3 (45 : Int) (by have := HLX.out; have := spellL_length b; rw [cellsL_length]; simp; omega) 44 5
                have O5 := hidd O5
                have KW5 := hidd (Below.trans KW3.out (Below.mono B5 (by omega)))
                have KX5 := hidd (KX3.out.below B5 (by omega))
                have hs5 : w.heap.size + 1 ≤ w5.heap.size := Nat.le_trans hs3 B5.size
                clear B5
                go_wp2_with (at_builtin; refine wpList_append_eq rfl rfl rfl rfl hap ?_)
                refine (spell_any (xs := (xs ++ spellL b) ++ [45]) l (by rw [← cellsL_snoc]; exact O5.out) hs5 (by omega) (by have := HLX.out; have := spellL_length b; simp; omega)).mono ?_; rintro e w4 ⟨v2, rfl, O2, B2⟩
                have O2 := hidd O2
                have KW4 := hidd (Below.trans KW5.out (Below.mono B2 (by omega)))
                have KX4 := hidd (KX5.out.below B2 (by omega))
                have hs4 : w.heap.size + 1 ≤ w4.heap.size := Nat.le_trans hs5 B2.size
                clear B2
                go_wp2_with fail
                exact ⟨⟨l + 1, ((xs ++ spellL b) ++ [45]) ++ spellL l, (by simp), (by omega), O2, HX2, KW4, hs4, KX4⟩, (by simp [intOf]; omega)⟩
          · have HST : Hid (last f l = l) := by rw [Hid, show l = 255 by omega]; exact last_top f
            have hd5 : decide ((l : Int) < 255) = false := decide_eq_false (by omega)
            go_wp2_with fail
            have HLB : Hid (last f b = l) := HL.out.trans HST.out
            obtain ⟨hl5, hsz5⟩ : l ≤ 255 ∧ w.heap.size + 1 ≤ wr.heap.size := ⟨hl, hsr⟩
            have HX2 : Hid ((xs ++ segL b l) ++ pr f (l + 1) = pr f 0) := by rw [Hid, List.append_assoc, ← HX.out, HN.out, HLB.out]
            refine (spell_any b OR.out hsz5 h (by have := HLX.out; omega)).mono ?_; rintro e w3 ⟨v1, rfl, O1, B1⟩
            have O1 := hidd O1
            have KW3 := hidd (Below.trans KW.out (Below.mono B1 (by omega)))
            have KX3 := hidd (KX.out.below B1 (by omega))
            have hs3 : w.heap.size + 1 ≤ w3.heap.size := Nat.le_trans hsz5 B1.size
            clear B1
            rcases (show l = b ∨ l = b + 1 ∨ b + 1 < l by omega) with hlb | hlb | hlb
            · subst hlb
              have HSg : Hid (xs ++ segL l l = xs ++ spellL l) := by rw [Hid]; unfold segL; rw [if_neg (by omega), if_neg (by omega)]; simp
              rw [HSg.out] at HX2
              go_wp2_with fail
              exact ⟨⟨l + 1, xs ++ spellL l, (by simp), (by omega), O1, HX2, KW3, hs3, KX3⟩, (by simp [intOf]; omega)⟩
            · subst hlb
              have HSg : Hid (xs ++ segL b (b + 1) = (xs ++ spellL b) ++ spellL (b + 1)) := by rw [Hid]; unfold segL; rw [if_neg (by omega), if_pos (by omega)]; simp
              rw [HSg.out] at HX2
              have hq1 : decide ((b : Int) + 1 < (b : Int) + 1) = false := by simp
              have hwl2 : IntKind.u8.wrap ((b : Int) + 1) = ((b + 1 : Nat) : Int) := by simp [IntKind.wrap, IntKind.signed, IntKind.bits]; omega
              go_wp2_with fail
              refine (spell_any (b + 1) O1.out hs3 (by omega) (by have := HLX.out; have := spellL_length b; simp; omega)).mono ?_; rintro e w4 ⟨v2, rfl, O2, B2⟩
              have O2 := hidd O2
              have KW4 := hidd (Below.trans KW3.out (Below.mono B2 (by omega)))
              have KX4 := hidd (KX3.out.below B2 (by omega))
              have hs4 : w.heap.size + 1 ≤ w4.heap.size := Nat.le_trans hs3 B2.size
              clear B2
              go_wp2_with fail
              exact ⟨⟨b + 1 + 1, (xs ++ spellL b) ++ spellL (b + 1), (by simp), (by omega), O2, HX2, KW4, hs4, KX4⟩, (by simp [intOf]; omega)⟩
            · have HSg : Hid (xs ++ segL b l = ((xs ++ spellL b) ++ [45]) ++ spellL l) := by rw [Hid]; unfold segL; rw [if_pos hlb, if_pos (by omega)]; simp
              rw [HSg.out] at HX2
              have hq1 : decide ((b : Int) + 1 < (l : Int)) = true := decide_eq_true (by omega)
              have hq2 : decide ((b : Int) < (l : Int)) = true := decide_eq_true (by omega)
              obtain ⟨v5, w5, hap, O5, B5⟩ := own_byte O1.out hs3 (45 : Int) (by have := HLX.out; have := spellL_length b; rw [cellsL_length]; simp; omega) 44 5
              have O5 := hidd O5
              have KW5 := hidd (Below.trans KW3.out (Below.mono B5 (by omega)))
              have KX5 := hidd (KX3.out.below B5 (by omega))
              have hs5 : w.heap.size + 1 ≤ w5.heap.size := Nat.le_trans hs3 B5.size
              clear B5
              go_wp2_with (at_builtin; refine wpList_append_eq rfl rfl rfl rfl hap ?_)
              refine (spell_any (xs := (xs ++ spellL b) ++ [45]) l (by rw [← cellsL_snoc]; exact O5.out) hs5 (by omega) (by have := HLX.out; have := spellL_length b; simp; omega)).mono ?_; rintro e w4 ⟨v2, rfl, O2, B2⟩
              have O2 := hidd O2
              have KW4 := hidd (Below.trans KW5.out (Below.mono B2 (by omega)))
              have KX4 := hidd (KX5.out.below B2 (by omega))
              have hs4 : w.heap.size + 1 ≤ w4.heap.size := Nat.le_trans hs5 B2.size
              clear B2
              go_wp2_with fail
              exact ⟨⟨l + 1, ((xs ++ spellL b) ++ [45]) ++ spellL l, (by simp), (by omega), O2, HX2, KW4, hs4, KX4⟩, (by simp [intOf]; omega)⟩
    · obtain rfl : b = 256 := by omega
      have HE : Hid (xs = pr f 0) := by have := HX.out; rw [pr_end f 256 (Nat.le_refl _), List.append_nil] at this; exact this
      have hf := own_string (bytesL (pr f 0)) (by rw [← cellsL_eq _ HM.out, ← HE.out]; exact OR.out)
      go_wp2_with fail
      go_ret
      exact ⟨rfl, KW.out⟩
theorem Print_any (f : Nat → Bool) (w : World) : Calls Tryd.prog 23 #[setV f] w fun e w' => e = .returned (.string ⟨(bytesL (pr f 0)).toArray⟩) ∧ Grew w w' :=
  Print_w (fun j => word f (64 * j) 64) f w (fun b w0 hb => Has_any f b w0 hb)
end Go.Proofs.YtolfdcbebjfjiaaDoor
