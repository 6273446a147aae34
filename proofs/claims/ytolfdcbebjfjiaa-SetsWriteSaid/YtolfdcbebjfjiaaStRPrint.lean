/- The document's Print: at every set. No condition. -/
import Derived.Test.YtolfdcbebjfjiaaStROne
import Derived.Test.YtolfdcbebjfjiaaStRef
namespace Go.Proofs.Ytolfdcbebjfjiaa
open Go.RowKit
set_option linter.unusedVariables false
/-- What is still to be written at b: within a run, what stands behind it. -/
def restR (f : Nat → Bool) (b : Nat) : List Nat := if 0 < b ∧ f (b - 1) = true then pr f (last f (b - 1) + 1) else pr f b
theorem restR_zero (f : Nat → Bool) : restR f 0 = pr f 0 := by unfold restR; rw [if_neg (by omega)]
theorem restR_out {f : Nat → Bool} {b : Nat} (hb : b < 256) (h : f b = false) : restR f b = restR f (b + 1) := by
  unfold restR
  rw [if_neg (c := 0 < b + 1 ∧ f (b + 1 - 1) = true) (by simp [h]), ← pr_out hb h]
  split
  · next hc =>
    rw [last_stop (by omega) (by rw [show b - 1 + 1 = b by omega]; exact h), show b - 1 + 1 = b by omega]
  · rfl
theorem restR_next {f : Nat → Bool} {b : Nat} (h : f b = true) : restR f (b + 1) = pr f (last f b + 1) := by
  unfold restR
  rw [if_pos ⟨by omega, by simpa using h⟩]; rfl
theorem restR_in {f : Nat → Bool} {c : Nat} (hc : c + 1 < 256) (h : f (c + 1) = true) (h0 : f c = true) : restR f (c + 1) = restR f (c + 1 + 1) := by
  rw [restR_next h0, restR_next h, last_step (by omega) h]
theorem restR_first {f : Nat → Bool} {b : Nat} (hb : b < 256) (h : f b = true) (h0 : b = 0 ∨ f (b - 1) = false) : restR f b = segL b (last f b) ++ restR f (b + 1) := by
  rw [restR_next h, ← pr_in hb h]
  unfold restR
  rw [if_neg]
  rintro ⟨h1, h2⟩
  rcases h0 with h0 | h0
  · omega
  · rw [h0] at h2; cases h2
theorem restR_end (f : Nat → Bool) : restR f 256 = [] := by
  unfold restR
  split
  · next h => rw [show 256 - 1 = 255 from rfl, last_top]; exact pr_end f 256 (by omega)
  · exact pr_end f 256 (by omega)
theorem txt_append (a b : List Nat) : txt a ++ txt b = txt (a ++ b) := by
  refine str_ext ?_
  rw [data_append]
  simp [txt, bytesL]
theorem txt_dash (a : List Nat) : txt a ++ ⟨#[45]⟩ = txt (a ++ [45]) := txt_append a [45]
theorem restR_len {f : Nat → Bool} {xs : List Nat} {b : Nat} (h : xs ++ restR f b = pr f 0) : (txt xs).size ≤ 1792 := by
  have h1 := pr_length f 0
  rw [← h, List.length_append] at h1
  rw [txt_size]; omega
set_option maxRecDepth 20000 in
set_option maxHeartbeats 4000000 in
theorem rprint_any (f : Nat → Bool) (w : World) : Calls Try.prog 5 #[setV f] w fun e w' => e = .returned (.string (txt (pr f 0))) ∧ Grew w w' := by
  have hz := run_zero_row
  have HB := fun w0 : World => hidd (Bytes_any f w0)
  have HG : Hid (Grew w (w.alloc (.cells #[.int .u64 (word f 0 64 : Nat), .int .u64 (word f 64 64 : Nat), .int .u64 (word f 128 64 : Nat), .int .u64 (word f 192 64 : Nat)] 24))) := (Grew.refl w).alloc _
  unfold setV at HB ⊢
  go_enter Try.func5, Try.ntmps5
  go_wp2_with fail
  refine (HB _).out.mono ?_; rintro e w1 ⟨rfl, G1⟩
  have HZ := hidd (row_at w1 fun _ => .bool false)
  have HG1 := hidd ((HG.out.trans G1).alloc (.cells (rowB 256 fun _ => .bool false) 35))
  have hw1 : w.heap.size ≤ w1.heap.size := (HG.out.trans G1).lt
  clear HB HG G1
  unfold rowF
  go_wp2_with (refine wpList_store_arr (f := fun j => .bool (f j)) rfl rfl rfl rfl HZ.out info_row (fun j _ => rfl) ?_; intro w2 hS hb2)
  have HS := hidd hS
  have HG2 := hidd (HG1.out.below hb2 hw1)
  clear hS hb2 HZ HG1
  go_loopw [4, 5, 6] (fun u4 u5 u6 wr => ∃ (b : Nat) (xs : List Nat) (s : ByteArray), u5 = .int .i64 b ∧ u4 = .string s ∧ Hid (s = txt xs) ∧ b ≤ 256 ∧ Hid (xs ++ restR f b = pr f 0) ∧ Hid (ArrAt wr w1.heap.size 0 256 (fun j => .bool (f j))) ∧ Hid (Grew w wr)) (fun _ u5 _ _ => 256 - (intOf u5).toNat)
  case atStart => exact ⟨0, [], _, rfl, rfl, rfl, Nat.zero_le _, restR_zero f, HS, HG2⟩
  case round =>
    obtain ⟨b, xs, s, rfl, rfl, HSX, hb, HX, KX, KW⟩ := hrel
    clear HS HG2
    by_cases h : b < 256
    · have cb := KX.out.at0 b h
      have hxs : s.size ≤ 1792 := by rw [HSX.out]; exact restR_len HX.out
      cases hf : f b with
      | false =>
        rw [hf] at cb
        have HN := hidd (restR_out h hf)
        go_wp2_with fail
        exact ⟨⟨b + 1, xs, s, (by simp), rfl, HSX, (by omega), (by rw [Hid, ← HN.out]; exact HX.out), KX, KW⟩, (by simp [intOf]; omega)⟩
      | true =>
        rw [hf] at cb
        rcases (show b = 0 ∨ ∃ c, b = c + 1 from (by cases b with | zero => exact Or.inl rfl | succ c => exact Or.inr ⟨c, rfl⟩)) with hb0 | ⟨c, hbc⟩
        · have HN := hidd (restR_first h hf (Or.inl hb0))
          have hd0 : decide ((0 : Int) < (b : Int)) = false := decide_eq_false (by omega)
          have hd1 : decide (0 < b) = false := decide_eq_false (by omega)
          clear hb0
          go_wp2_with fail
          go_loopw [6] (fun u6 wr2 => ∃ n : Nat, u6 = .int .i64 n ∧ 1 ≤ n ∧ b + n ≤ 256 ∧ Hid (last f (b) = last f (b + n - 1)) ∧ wr2 = wr) (fun u6 _ => 256 - (intOf u6).toNat)
          case atStart => exact ⟨1, rfl, Nat.le_refl _, by omega, rfl, rfl⟩
          case round =>
            obtain ⟨n, rfl, hn, hbn, HL, rfl⟩ := hrel
            by_cases hlt : b + n < 256
            · have cn := KX.out.at0 (b + n) hlt
              have hdl : decide ((b : Int) + (n : Int) < 256) = true := decide_eq_true (by omega)
              cases hfn : f (b + n) with
              | true =>
                rw [hfn] at cn
                have HL2 : Hid (last f (b) = last f (b + (n + 1) - 1)) := by
                  rw [Hid, HL.out, last_step (b := b + n - 1) (by omega) (by rw [show b + n - 1 + 1 = b + n by omega]; exact hfn)]
                  congr 1; omega
                go_wp2_with fail
                exact ⟨⟨n + 1, (by simp), (by omega), (by omega), HL2, trivial⟩, (by simp [intOf]; omega)⟩
              | false =>
                rw [hfn] at cn
                have HST : last f (b + n - 1) = b + n - 1 := last_stop (by omega) (by rw [show b + n - 1 + 1 = b + n by omega]; exact hfn)
                have HLL : last f (b) = b + n - 1 := HL.out.trans HST
                rcases (show n = 1 ∨ n = 2 ∨ 3 ≤ n by omega) with hn3 | hn3 | hn3
                · have HLL : last f (b) = b := by rw [HLL]; omega
                  have hn1 : ((n : Int) == 1) = true := by simp; omega
                  clear hn3
                  have HX2 : Hid (xs ++ segL (b) (b) ++ restR f (b + 1) = pr f 0) := by rw [Hid, List.append_assoc, ← HX.out, HN.out, show last f (b) = b from HLL]
                  obtain ⟨a, hA⟩ : ∃ a, txt (spellL (b)) = a := ⟨_, rfl⟩
                  have hs1 : a.size ≤ 3 := by rw [← hA, txt_size]; exact spellL_length _
                  have HS1 := fun w0 : World => hidd (spelt_any (b) w0 h)
                  rw [hA] at HS1
                  have HA := hidd hA
                  clear hA
                  have HSg : Hid (xs ++ segL (b) (b) = xs ++ spellL (b)) := by rw [Hid]; unfold segL; rw [if_neg (by omega), if_neg (by omega)]; simp
                  rw [HSg.out] at HX2
                  have HST : Hid (s ++ a = txt (xs ++ spellL (b))) := by rw [Hid, HSX.out, ← HA.out, txt_append]
                  go_wp2_with fail
                  refine (HS1 _).out.mono ?_; rintro e w3 ⟨rfl, G3⟩
                  have GG := hidd G3
                  clear G3
                  go_wp2_with fail
                  exact ⟨⟨b + 1, xs ++ spellL (b), s ++ a, (by simp), rfl, HST, (by omega), HX2, KX.out.kept GG.out, KW.out.trans GG.out⟩, (by simp [intOf]; omega)⟩
                · have HLL : last f (b) = b + 1 := by rw [HLL]; omega
                  have hn1 : ((n : Int) == 1) = false := by simp; omega
                  have hn2 : ((n : Int) == 2) = true := by simp; omega
                  have eL : (((b + 1 : Nat)) : Int) = (b : Int) + 1 := by omega
                  have hb1 : b + 1 < 256 := by omega
                  clear hn3
                  have HX2 : Hid (xs ++ segL (b) (b + 1) ++ restR f (b + 1) = pr f 0) := by rw [Hid, List.append_assoc, ← HX.out, HN.out, show last f (b) = b + 1 from HLL]
                  obtain ⟨a, hA⟩ : ∃ a, txt (spellL (b)) = a := ⟨_, rfl⟩
                  have hs1 : a.size ≤ 3 := by rw [← hA, txt_size]; exact spellL_length _
                  have HS1 := fun w0 : World => hidd (spelt_any (b) w0 h)
                  rw [hA] at HS1
                  have HA := hidd hA
                  clear hA
                  obtain ⟨d, hD⟩ : ∃ d, txt (spellL (b + 1)) = d := ⟨_, rfl⟩
                  have hs2 : d.size ≤ 3 := by rw [← hD, txt_size]; exact spellL_length _
                  have HS2 := fun w0 : World => hidd (spelt_any (b + 1) w0 (by omega))
                  rw [hD] at HS2
                  have HD := hidd hD
                  clear hD
                  have HSg : Hid (xs ++ segL (b) (b + 1) = (xs ++ spellL (b)) ++ spellL (b + 1)) := by rw [Hid]; unfold segL; rw [if_neg (by omega), if_pos (by omega)]; simp
                  rw [HSg.out] at HX2
                  have HST : Hid (s ++ a ++ d = txt ((xs ++ spellL (b)) ++ spellL (b + 1))) := by rw [Hid, HSX.out, ← HA.out, ← HD.out, txt_append, txt_append]
                  rw [eL] at HS2
                  have hs3 : (s ++ a).size ≤ 1800 := by rw [ByteArray.size_append]; omega
                  have hs4 : (s ++ a ++ ⟨#[45]⟩).size ≤ 1801 := by rw [ByteArray.size_append]; have : (⟨#[45]⟩ : ByteArray).size = 1 := rfl; omega
                  go_wp2_with fail
                  refine (HS1 _).out.mono ?_; rintro e w3 ⟨rfl, G3⟩
                  go_wp2_with fail
                  refine (HS2 _).out.mono ?_; rintro e w4 ⟨rfl, G4⟩
                  have GG := hidd (G3.trans G4)
                  clear G3 G4
                  go_wp2_with fail
                  exact ⟨⟨b + 1, (xs ++ spellL (b)) ++ spellL (b + 1), s ++ a ++ d, (by simp), rfl, HST, (by omega), HX2, KX.out.kept GG.out, KW.out.trans GG.out⟩, (by simp [intOf]; omega)⟩
                · have HX2 : Hid (xs ++ segL (b) (b + n - 1) ++ restR f (b + 1) = pr f 0) := by rw [Hid, List.append_assoc, ← HX.out, HN.out, show last f (b) = b + n - 1 from HLL]
                  obtain ⟨a, hA⟩ : ∃ a, txt (spellL (b)) = a := ⟨_, rfl⟩
                  have hs1 : a.size ≤ 3 := by rw [← hA, txt_size]; exact spellL_length _
                  have HS1 := fun w0 : World => hidd (spelt_any (b) w0 h)
                  rw [hA] at HS1
                  have HA := hidd hA
                  clear hA
                  obtain ⟨d, hD⟩ : ∃ d, txt (spellL (b + n - 1)) = d := ⟨_, rfl⟩
                  have hs2 : d.size ≤ 3 := by rw [← hD, txt_size]; exact spellL_length _
                  have HS2 := fun w0 : World => hidd (spelt_any (b + n - 1) w0 (by omega))
                  rw [hD] at HS2
                  have HD := hidd hD
                  clear hD
                  have HSg : Hid (xs ++ segL (b) (b + n - 1) = ((xs ++ spellL (b)) ++ [45]) ++ spellL (b + n - 1)) := by rw [Hid]; unfold segL; rw [if_pos (by omega), if_pos (by omega)]; simp
                  rw [HSg.out] at HX2
                  have HST : Hid (s ++ a ++ ⟨#[45]⟩ ++ d = txt (((xs ++ spellL (b)) ++ [45]) ++ spellL (b + n - 1))) := by rw [Hid, HSX.out, ← HA.out, ← HD.out, txt_append, txt_dash, txt_append]
                  have eL : (((b + n - 1 : Nat)) : Int) = (b : Int) + (n : Int) - 1 := by omega
                  rw [eL] at HS2
                  have hn1 : ((n : Int) == 1) = false := by simp; omega
                  have hn2 : ((n : Int) == 2) = false := by simp; omega
                  have hs3 : (s ++ a).size ≤ 1800 := by rw [ByteArray.size_append]; omega
                  have hs4 : (s ++ a ++ ⟨#[45]⟩).size ≤ 1801 := by rw [ByteArray.size_append]; have : (⟨#[45]⟩ : ByteArray).size = 1 := rfl; omega
                  go_wp2_with fail
                  refine (HS1 _).out.mono ?_; rintro e w3 ⟨rfl, G3⟩
                  go_wp2_with fail
                  refine (HS2 _).out.mono ?_; rintro e w4 ⟨rfl, G4⟩
                  have GG := hidd (G3.trans G4)
                  clear G3 G4
                  go_wp2_with fail
                  exact ⟨⟨b + 1, ((xs ++ spellL (b)) ++ [45]) ++ spellL (b + n - 1), s ++ a ++ ⟨#[45]⟩ ++ d, (by simp), rfl, HST, (by omega), HX2, KX.out.kept GG.out, KW.out.trans GG.out⟩, (by simp [intOf]; omega)⟩
            · have HST : last f (b + n - 1) = b + n - 1 := by rw [show b + n - 1 = 255 by omega]; exact last_top f
              have hdl : decide ((b : Int) + (n : Int) < 256) = false := decide_eq_false (by omega)
              have HLL : last f (b) = b + n - 1 := HL.out.trans HST
              rcases (show n = 1 ∨ n = 2 ∨ 3 ≤ n by omega) with hn3 | hn3 | hn3
              · have HLL : last f (b) = b := by rw [HLL]; omega
                have hn1 : ((n : Int) == 1) = true := by simp; omega
                clear hn3
                have HX2 : Hid (xs ++ segL (b) (b) ++ restR f (b + 1) = pr f 0) := by rw [Hid, List.append_assoc, ← HX.out, HN.out, show last f (b) = b from HLL]
                obtain ⟨a, hA⟩ : ∃ a, txt (spellL (b)) = a := ⟨_, rfl⟩
                have hs1 : a.size ≤ 3 := by rw [← hA, txt_size]; exact spellL_length _
                have HS1 := fun w0 : World => hidd (spelt_any (b) w0 h)
                rw [hA] at HS1
                have HA := hidd hA
                clear hA
                have HSg : Hid (xs ++ segL (b) (b) = xs ++ spellL (b)) := by rw [Hid]; unfold segL; rw [if_neg (by omega), if_neg (by omega)]; simp
                rw [HSg.out] at HX2
                have HST : Hid (s ++ a = txt (xs ++ spellL (b))) := by rw [Hid, HSX.out, ← HA.out, txt_append]
                go_wp2_with fail
                refine (HS1 _).out.mono ?_; rintro e w3 ⟨rfl, G3⟩
                have GG := hidd G3
                clear G3
                go_wp2_with fail
                exact ⟨⟨b + 1, xs ++ spellL (b), s ++ a, (by simp), rfl, HST, (by omega), HX2, KX.out.kept GG.out, KW.out.trans GG.out⟩, (by simp [intOf]; omega)⟩
              · have HLL : last f (b) = b + 1 := by rw [HLL]; omega
                have hn1 : ((n : Int) == 1) = false := by simp; omega
                have hn2 : ((n : Int) == 2) = true := by simp; omega
                have eL : (((b + 1 : Nat)) : Int) = (b : Int) + 1 := by omega
                have hb1 : b + 1 < 256 := by omega
                clear hn3
                have HX2 : Hid (xs ++ segL (b) (b + 1) ++ restR f (b + 1) = pr f 0) := by rw [Hid, List.append_assoc, ← HX.out, HN.out, show last f (b) = b + 1 from HLL]
                obtain ⟨a, hA⟩ : ∃ a, txt (spellL (b)) = a := ⟨_, rfl⟩
                have hs1 : a.size ≤ 3 := by rw [← hA, txt_size]; exact spellL_length _
                have HS1 := fun w0 : World => hidd (spelt_any (b) w0 h)
                rw [hA] at HS1
                have HA := hidd hA
                clear hA
                obtain ⟨d, hD⟩ : ∃ d, txt (spellL (b + 1)) = d := ⟨_, rfl⟩
                have hs2 : d.size ≤ 3 := by rw [← hD, txt_size]; exact spellL_length _
                have HS2 := fun w0 : World => hidd (spelt_any (b + 1) w0 (by omega))
                rw [hD] at HS2
                have HD := hidd hD
                clear hD
                have HSg : Hid (xs ++ segL (b) (b + 1) = (xs ++ spellL (b)) ++ spellL (b + 1)) := by rw [Hid]; unfold segL; rw [if_neg (by omega), if_pos (by omega)]; simp
                rw [HSg.out] at HX2
                have HST : Hid (s ++ a ++ d = txt ((xs ++ spellL (b)) ++ spellL (b + 1))) := by rw [Hid, HSX.out, ← HA.out, ← HD.out, txt_append, txt_append]
                rw [eL] at HS2
                have hs3 : (s ++ a).size ≤ 1800 := by rw [ByteArray.size_append]; omega
                have hs4 : (s ++ a ++ ⟨#[45]⟩).size ≤ 1801 := by rw [ByteArray.size_append]; have : (⟨#[45]⟩ : ByteArray).size = 1 := rfl; omega
                go_wp2_with fail
                refine (HS1 _).out.mono ?_; rintro e w3 ⟨rfl, G3⟩
                go_wp2_with fail
                refine (HS2 _).out.mono ?_; rintro e w4 ⟨rfl, G4⟩
                have GG := hidd (G3.trans G4)
                clear G3 G4
                go_wp2_with fail
                exact ⟨⟨b + 1, (xs ++ spellL (b)) ++ spellL (b + 1), s ++ a ++ d, (by simp), rfl, HST, (by omega), HX2, KX.out.kept GG.out, KW.out.trans GG.out⟩, (by simp [intOf]; omega)⟩
              · have HX2 : Hid (xs ++ segL (b) (b + n - 1) ++ restR f (b + 1) = pr f 0) := by rw [Hid, List.append_assoc, ← HX.out, HN.out, show last f (b) = b + n - 1 from HLL]
                obtain ⟨a, hA⟩ : ∃ a, txt (spellL (b)) = a := ⟨_, rfl⟩
                have hs1 : a.size ≤ 3 := by rw [← hA, txt_size]; exact spellL_length _
                have HS1 := fun w0 : World => hidd (spelt_any (b) w0 h)
                rw [hA] at HS1
                have HA := hidd hA
                clear hA
                obtain ⟨d, hD⟩ : ∃ d, txt (spellL (b + n - 1)) = d := ⟨_, rfl⟩
                have hs2 : d.size ≤ 3 := by rw [← hD, txt_size]; exact spellL_length _
                have HS2 := fun w0 : World => hidd (spelt_any (b + n - 1) w0 (by omega))
                rw [hD] at HS2
                have HD := hidd hD
                clear hD
                have HSg : Hid (xs ++ segL (b) (b + n - 1) = ((xs ++ spellL (b)) ++ [45]) ++ spellL (b + n - 1)) := by rw [Hid]; unfold segL; rw [if_pos (by omega), if_pos (by omega)]; simp
                rw [HSg.out] at HX2
                have HST : Hid (s ++ a ++ ⟨#[45]⟩ ++ d = txt (((xs ++ spellL (b)) ++ [45]) ++ spellL (b + n - 1))) := by rw [Hid, HSX.out, ← HA.out, ← HD.out, txt_append, txt_dash, txt_append]
                have eL : (((b + n - 1 : Nat)) : Int) = (b : Int) + (n : Int) - 1 := by omega
                rw [eL] at HS2
                have hn1 : ((n : Int) == 1) = false := by simp; omega
                have hn2 : ((n : Int) == 2) = false := by simp; omega
                have hs3 : (s ++ a).size ≤ 1800 := by rw [ByteArray.size_append]; omega
                have hs4 : (s ++ a ++ ⟨#[45]⟩).size ≤ 1801 := by rw [ByteArray.size_append]; have : (⟨#[45]⟩ : ByteArray).size = 1 := rfl; omega
                go_wp2_with fail
                refine (HS1 _).out.mono ?_; rintro e w3 ⟨rfl, G3⟩
                go_wp2_with fail
                refine (HS2 _).out.mono ?_; rintro e w4 ⟨rfl, G4⟩
                have GG := hidd (G3.trans G4)
                clear G3 G4
                go_wp2_with fail
                exact ⟨⟨b + 1, ((xs ++ spellL (b)) ++ [45]) ++ spellL (b + n - 1), s ++ a ++ ⟨#[45]⟩ ++ d, (by simp), rfl, HST, (by omega), HX2, KX.out.kept GG.out, KW.out.trans GG.out⟩, (by simp [intOf]; omega)⟩
        · have hd0 : decide ((0 : Int) < (b : Int)) = true := decide_eq_true (by omega)
          have hd1 : decide (0 < b) = true := decide_eq_true (by omega)
          have hbi : (b : Int) - 1 = (c : Int) := by omega
          have cc := KX.out.at0 c (by omega)
          cases hfc : f c with
          | true =>
            rw [hfc] at cc
            have HN : Hid (restR f b = restR f (b + 1)) := by subst hbc; exact restR_in h hf hfc
            clear hbc
            go_wp2_with fail
            exact ⟨⟨b + 1, xs, s, (by simp), rfl, HSX, (by omega), (by rw [Hid, ← HN.out]; exact HX.out), KX, KW⟩, (by simp [intOf]; omega)⟩
          | false =>
            rw [hfc] at cc
            have HN := hidd (restR_first h hf (Or.inr (by rw [hbc]; simpa using hfc)))
            clear hbc
            go_wp2_with fail
            clear hbi cc
            go_loopw [6] (fun u6 wr2 => ∃ n : Nat, u6 = .int .i64 n ∧ 1 ≤ n ∧ b + n ≤ 256 ∧ Hid (last f (b) = last f (b + n - 1)) ∧ wr2 = wr) (fun u6 _ => 256 - (intOf u6).toNat)
            case atStart => exact ⟨1, rfl, Nat.le_refl _, by omega, rfl, rfl⟩
            case round =>
              obtain ⟨n, rfl, hn, hbn, HL, rfl⟩ := hrel
              by_cases hlt : b + n < 256
              · have cn := KX.out.at0 (b + n) hlt
                have hdl : decide ((b : Int) + (n : Int) < 256) = true := decide_eq_true (by omega)
                cases hfn : f (b + n) with
                | true =>
                  rw [hfn] at cn
                  have HL2 : Hid (last f (b) = last f (b + (n + 1) - 1)) := by
                    rw [Hid, HL.out, last_step (b := b + n - 1) (by omega) (by rw [show b + n - 1 + 1 = b + n by omega]; exact hfn)]
                    congr 1; omega
                  go_wp2_with fail
                  exact ⟨⟨n + 1, (by simp), (by omega), (by omega), HL2, trivial⟩, (by simp [intOf]; omega)⟩
                | false =>
                  rw [hfn] at cn
                  have HST : last f (b + n - 1) = b + n - 1 := last_stop (by omega) (by rw [show b + n - 1 + 1 = b + n by omega]; exact hfn)
                  have HLL : last f (b) = b + n - 1 := HL.out.trans HST
                  rcases (show n = 1 ∨ n = 2 ∨ 3 ≤ n by omega) with hn3 | hn3 | hn3
                  · have HLL : last f (b) = b := by rw [HLL]; omega
                    have hn1 : ((n : Int) == 1) = true := by simp; omega
                    clear hn3
                    have HX2 : Hid (xs ++ segL (b) (b) ++ restR f (b + 1) = pr f 0) := by rw [Hid, List.append_assoc, ← HX.out, HN.out, show last f (b) = b from HLL]
                    obtain ⟨a, hA⟩ : ∃ a, txt (spellL (b)) = a := ⟨_, rfl⟩
                    have hs1 : a.size ≤ 3 := by rw [← hA, txt_size]; exact spellL_length _
                    have HS1 := fun w0 : World => hidd (spelt_any (b) w0 h)
                    rw [hA] at HS1
                    have HA := hidd hA
                    clear hA
                    have HSg : Hid (xs ++ segL (b) (b) = xs ++ spellL (b)) := by rw [Hid]; unfold segL; rw [if_neg (by omega), if_neg (by omega)]; simp
                    rw [HSg.out] at HX2
                    have HST : Hid (s ++ a = txt (xs ++ spellL (b))) := by rw [Hid, HSX.out, ← HA.out, txt_append]
                    go_wp2_with fail
                    refine (HS1 _).out.mono ?_; rintro e w3 ⟨rfl, G3⟩
                    have GG := hidd G3
                    clear G3
                    go_wp2_with fail
                    exact ⟨⟨b + 1, xs ++ spellL (b), s ++ a, (by simp), rfl, HST, (by omega), HX2, KX.out.kept GG.out, KW.out.trans GG.out⟩, (by simp [intOf]; omega)⟩
                  · have HLL : last f (b) = b + 1 := by rw [HLL]; omega
                    have hn1 : ((n : Int) == 1) = false := by simp; omega
                    have hn2 : ((n : Int) == 2) = true := by simp; omega
                    have eL : (((b + 1 : Nat)) : Int) = (b : Int) + 1 := by omega
                    have hb1 : b + 1 < 256 := by omega
                    clear hn3
                    have HX2 : Hid (xs ++ segL (b) (b + 1) ++ restR f (b + 1) = pr f 0) := by rw [Hid, List.append_assoc, ← HX.out, HN.out, show last f (b) = b + 1 from HLL]
                    obtain ⟨a, hA⟩ : ∃ a, txt (spellL (b)) = a := ⟨_, rfl⟩
                    have hs1 : a.size ≤ 3 := by rw [← hA, txt_size]; exact spellL_length _
                    have HS1 := fun w0 : World => hidd (spelt_any (b) w0 h)
                    rw [hA] at HS1
                    have HA := hidd hA
                    clear hA
                    obtain ⟨d, hD⟩ : ∃ d, txt (spellL (b + 1)) = d := ⟨_, rfl⟩
                    have hs2 : d.size ≤ 3 := by rw [← hD, txt_size]; exact spellL_length _
                    have HS2 := fun w0 : World => hidd (spelt_any (b + 1) w0 (by omega))
                    rw [hD] at HS2
                    have HD := hidd hD
                    clear hD
                    have HSg : Hid (xs ++ segL (b) (b + 1) = (xs ++ spellL (b)) ++ spellL (b + 1)) := by rw [Hid]; unfold segL; rw [if_neg (by omega), if_pos (by omega)]; simp
                    rw [HSg.out] at HX2
                    have HST : Hid (s ++ a ++ d = txt ((xs ++ spellL (b)) ++ spellL (b + 1))) := by rw [Hid, HSX.out, ← HA.out, ← HD.out, txt_append, txt_append]
                    rw [eL] at HS2
                    have hs3 : (s ++ a).size ≤ 1800 := by rw [ByteArray.size_append]; omega
                    have hs4 : (s ++ a ++ ⟨#[45]⟩).size ≤ 1801 := by rw [ByteArray.size_append]; have : (⟨#[45]⟩ : ByteArray).size = 1 := rfl; omega
                    go_wp2_with fail
                    refine (HS1 _).out.mono ?_; rintro e w3 ⟨rfl, G3⟩
                    go_wp2_with fail
                    refine (HS2 _).out.mono ?_; rintro e w4 ⟨rfl, G4⟩
                    have GG := hidd (G3.trans G4)
                    clear G3 G4
                    go_wp2_with fail
                    exact ⟨⟨b + 1, (xs ++ spellL (b)) ++ spellL (b + 1), s ++ a ++ d, (by simp), rfl, HST, (by omega), HX2, KX.out.kept GG.out, KW.out.trans GG.out⟩, (by simp [intOf]; omega)⟩
                  · have HX2 : Hid (xs ++ segL (b) (b + n - 1) ++ restR f (b + 1) = pr f 0) := by rw [Hid, List.append_assoc, ← HX.out, HN.out, show last f (b) = b + n - 1 from HLL]
                    obtain ⟨a, hA⟩ : ∃ a, txt (spellL (b)) = a := ⟨_, rfl⟩
                    have hs1 : a.size ≤ 3 := by rw [← hA, txt_size]; exact spellL_length _
                    have HS1 := fun w0 : World => hidd (spelt_any (b) w0 h)
                    rw [hA] at HS1
                    have HA := hidd hA
                    clear hA
                    obtain ⟨d, hD⟩ : ∃ d, txt (spellL (b + n - 1)) = d := ⟨_, rfl⟩
                    have hs2 : d.size ≤ 3 := by rw [← hD, txt_size]; exact spellL_length _
                    have HS2 := fun w0 : World => hidd (spelt_any (b + n - 1) w0 (by omega))
                    rw [hD] at HS2
                    have HD := hidd hD
                    clear hD
                    have HSg : Hid (xs ++ segL (b) (b + n - 1) = ((xs ++ spellL (b)) ++ [45]) ++ spellL (b + n - 1)) := by rw [Hid]; unfold segL; rw [if_pos (by omega), if_pos (by omega)]; simp
                    rw [HSg.out] at HX2
                    have HST : Hid (s ++ a ++ ⟨#[45]⟩ ++ d = txt (((xs ++ spellL (b)) ++ [45]) ++ spellL (b + n - 1))) := by rw [Hid, HSX.out, ← HA.out, ← HD.out, txt_append, txt_dash, txt_append]
                    have eL : (((b + n - 1 : Nat)) : Int) = (b : Int) + (n : Int) - 1 := by omega
                    rw [eL] at HS2
                    have hn1 : ((n : Int) == 1) = false := by simp; omega
                    have hn2 : ((n : Int) == 2) = false := by simp; omega
                    have hs3 : (s ++ a).size ≤ 1800 := by rw [ByteArray.size_append]; omega
                    have hs4 : (s ++ a ++ ⟨#[45]⟩).size ≤ 1801 := by rw [ByteArray.size_append]; have : (⟨#[45]⟩ : ByteArray).size = 1 := rfl; omega
                    go_wp2_with fail
                    refine (HS1 _).out.mono ?_; rintro e w3 ⟨rfl, G3⟩
                    go_wp2_with fail
                    refine (HS2 _).out.mono ?_; rintro e w4 ⟨rfl, G4⟩
                    have GG := hidd (G3.trans G4)
                    clear G3 G4
                    go_wp2_with fail
                    exact ⟨⟨b + 1, ((xs ++ spellL (b)) ++ [45]) ++ spellL (b + n - 1), s ++ a ++ ⟨#[45]⟩ ++ d, (by simp), rfl, HST, (by omega), HX2, KX.out.kept GG.out, KW.out.trans GG.out⟩, (by simp [intOf]; omega)⟩
              · have HST : last f (b + n - 1) = b + n - 1 := by rw [show b + n - 1 = 255 by omega]; exact last_top f
                have hdl : decide ((b : Int) + (n : Int) < 256) = false := decide_eq_false (by omega)
                have HLL : last f (b) = b + n - 1 := HL.out.trans HST
                rcases (show n = 1 ∨ n = 2 ∨ 3 ≤ n by omega) with hn3 | hn3 | hn3
                · have HLL : last f (b) = b := by rw [HLL]; omega
                  have hn1 : ((n : Int) == 1) = true := by simp; omega
                  clear hn3
                  have HX2 : Hid (xs ++ segL (b) (b) ++ restR f (b + 1) = pr f 0) := by rw [Hid, List.append_assoc, ← HX.out, HN.out, show last f (b) = b from HLL]
                  obtain ⟨a, hA⟩ : ∃ a, txt (spellL (b)) = a := ⟨_, rfl⟩
                  have hs1 : a.size ≤ 3 := by rw [← hA, txt_size]; exact spellL_length _
                  have HS1 := fun w0 : World => hidd (spelt_any (b) w0 h)
                  rw [hA] at HS1
                  have HA := hidd hA
                  clear hA
                  have HSg : Hid (xs ++ segL (b) (b) = xs ++ spellL (b)) := by rw [Hid]; unfold segL; rw [if_neg (by omega), if_neg (by omega)]; simp
                  rw [HSg.out] at HX2
                  have HST : Hid (s ++ a = txt (xs ++ spellL (b))) := by rw [Hid, HSX.out, ← HA.out, txt_append]
                  go_wp2_with fail
                  refine (HS1 _).out.mono ?_; rintro e w3 ⟨rfl, G3⟩
                  have GG := hidd G3
                  clear G3
                  go_wp2_with fail
                  exact ⟨⟨b + 1, xs ++ spellL (b), s ++ a, (by simp), rfl, HST, (by omega), HX2, KX.out.kept GG.out, KW.out.trans GG.out⟩, (by simp [intOf]; omega)⟩
                · have HLL : last f (b) = b + 1 := by rw [HLL]; omega
                  have hn1 : ((n : Int) == 1) = false := by simp; omega
                  have hn2 : ((n : Int) == 2) = true := by simp; omega
                  have eL : (((b + 1 : Nat)) : Int) = (b : Int) + 1 := by omega
                  have hb1 : b + 1 < 256 := by omega
                  clear hn3
                  have HX2 : Hid (xs ++ segL (b) (b + 1) ++ restR f (b + 1) = pr f 0) := by rw [Hid, List.append_assoc, ← HX.out, HN.out, show last f (b) = b + 1 from HLL]
                  obtain ⟨a, hA⟩ : ∃ a, txt (spellL (b)) = a := ⟨_, rfl⟩
                  have hs1 : a.size ≤ 3 := by rw [← hA, txt_size]; exact spellL_length _
                  have HS1 := fun w0 : World => hidd (spelt_any (b) w0 h)
                  rw [hA] at HS1
                  have HA := hidd hA
                  clear hA
                  obtain ⟨d, hD⟩ : ∃ d, txt (spellL (b + 1)) = d := ⟨_, rfl⟩
                  have hs2 : d.size ≤ 3 := by rw [← hD, txt_size]; exact spellL_length _
                  have HS2 := fun w0 : World => hidd (spelt_any (b + 1) w0 (by omega))
                  rw [hD] at HS2
                  have HD := hidd hD
                  clear hD
                  have HSg : Hid (xs ++ segL (b) (b + 1) = (xs ++ spellL (b)) ++ spellL (b + 1)) := by rw [Hid]; unfold segL; rw [if_neg (by omega), if_pos (by omega)]; simp
                  rw [HSg.out] at HX2
                  have HST : Hid (s ++ a ++ d = txt ((xs ++ spellL (b)) ++ spellL (b + 1))) := by rw [Hid, HSX.out, ← HA.out, ← HD.out, txt_append, txt_append]
                  rw [eL] at HS2
                  have hs3 : (s ++ a).size ≤ 1800 := by rw [ByteArray.size_append]; omega
                  have hs4 : (s ++ a ++ ⟨#[45]⟩).size ≤ 1801 := by rw [ByteArray.size_append]; have : (⟨#[45]⟩ : ByteArray).size = 1 := rfl; omega
                  go_wp2_with fail
                  refine (HS1 _).out.mono ?_; rintro e w3 ⟨rfl, G3⟩
                  go_wp2_with fail
                  refine (HS2 _).out.mono ?_; rintro e w4 ⟨rfl, G4⟩
                  have GG := hidd (G3.trans G4)
                  clear G3 G4
                  go_wp2_with fail
                  exact ⟨⟨b + 1, (xs ++ spellL (b)) ++ spellL (b + 1), s ++ a ++ d, (by simp), rfl, HST, (by omega), HX2, KX.out.kept GG.out, KW.out.trans GG.out⟩, (by simp [intOf]; omega)⟩
                · have HX2 : Hid (xs ++ segL (b) (b + n - 1) ++ restR f (b + 1) = pr f 0) := by rw [Hid, List.append_assoc, ← HX.out, HN.out, show last f (b) = b + n - 1 from HLL]
                  obtain ⟨a, hA⟩ : ∃ a, txt (spellL (b)) = a := ⟨_, rfl⟩
                  have hs1 : a.size ≤ 3 := by rw [← hA, txt_size]; exact spellL_length _
                  have HS1 := fun w0 : World => hidd (spelt_any (b) w0 h)
                  rw [hA] at HS1
                  have HA := hidd hA
                  clear hA
                  obtain ⟨d, hD⟩ : ∃ d, txt (spellL (b + n - 1)) = d := ⟨_, rfl⟩
                  have hs2 : d.size ≤ 3 := by rw [← hD, txt_size]; exact spellL_length _
                  have HS2 := fun w0 : World => hidd (spelt_any (b + n - 1) w0 (by omega))
                  rw [hD] at HS2
                  have HD := hidd hD
                  clear hD
                  have HSg : Hid (xs ++ segL (b) (b + n - 1) = ((xs ++ spellL (b)) ++ [45]) ++ spellL (b + n - 1)) := by rw [Hid]; unfold segL; rw [if_pos (by omega), if_pos (by omega)]; simp
                  rw [HSg.out] at HX2
                  have HST : Hid (s ++ a ++ ⟨#[45]⟩ ++ d = txt (((xs ++ spellL (b)) ++ [45]) ++ spellL (b + n - 1))) := by rw [Hid, HSX.out, ← HA.out, ← HD.out, txt_append, txt_dash, txt_append]
                  have eL : (((b + n - 1 : Nat)) : Int) = (b : Int) + (n : Int) - 1 := by omega
                  rw [eL] at HS2
                  have hn1 : ((n : Int) == 1) = false := by simp; omega
                  have hn2 : ((n : Int) == 2) = false := by simp; omega
                  have hs3 : (s ++ a).size ≤ 1800 := by rw [ByteArray.size_append]; omega
                  have hs4 : (s ++ a ++ ⟨#[45]⟩).size ≤ 1801 := by rw [ByteArray.size_append]; have : (⟨#[45]⟩ : ByteArray).size = 1 := rfl; omega
                  go_wp2_with fail
                  refine (HS1 _).out.mono ?_; rintro e w3 ⟨rfl, G3⟩
                  go_wp2_with fail
                  refine (HS2 _).out.mono ?_; rintro e w4 ⟨rfl, G4⟩
                  have GG := hidd (G3.trans G4)
                  clear G3 G4
                  go_wp2_with fail
                  exact ⟨⟨b + 1, ((xs ++ spellL (b)) ++ [45]) ++ spellL (b + n - 1), s ++ a ++ ⟨#[45]⟩ ++ d, (by simp), rfl, HST, (by omega), HX2, KX.out.kept GG.out, KW.out.trans GG.out⟩, (by simp [intOf]; omega)⟩
    · obtain rfl : b = 256 := by omega
      have HE : Hid (xs = pr f 0) := by have := HX.out; rw [restR_end, List.append_nil] at this; exact this
      go_wp2_with fail
      go_ret
      exact ⟨by rw [← HE.out, ← HSX.out]; rfl, KW.out⟩
end Go.Proofs.Ytolfdcbebjfjiaa

