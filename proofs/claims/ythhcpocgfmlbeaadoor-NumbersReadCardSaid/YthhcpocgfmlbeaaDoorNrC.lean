/- The document's Base: of any number in any base. -/
import Derived.Test.YthhcpocgfmlbeaaDoorNrB
import Derived.Test.YthhcpocgfmlbeaaDoorNrP
namespace Go.Proofs.YthhcpocgfmlbeaaDoor
open Go.RowKit
set_option linter.unusedVariables false
theorem bytes_ext {a b : ByteArray} (h : a.data.toList = b.data.toList) : a = b := by
  cases a with | mk x => cases b with | mk y => exact congrArg ByteArray.mk (by simpa using h)
theorem app_list (a b : ByteArray) : (a ++ b).data.toList = a.data.toList ++ b.data.toList := by simp [ByteArray.data_append]
set_option maxRecDepth 100000 in
theorem RBase_none (n b : Int) (h : b < 2 ∨ 36 < b) (w : World) :
    Calls Tryd.prog 21 #[.int .i64 n, .int .i64 b] w fun e w' => e = .returned (.tuple #[.string ⟨#[]⟩, .int .i64 3]) ∧ Grew w w' := by
  by_cases h2 : b < 2
  · have e2 : decide (b < 2) = true := decide_eq_true h2
    clear h
    go_enter Tryd.func21, Tryd.ntmps21
    go_wp2_with fail
    go_ret2
    exact ⟨rfl, Grew.refl _⟩
  · have e2 : decide (b < 2) = false := decide_eq_false h2
    have e3 : decide (36 < b) = true := decide_eq_true (by omega)
    clear h
    go_enter Tryd.func21, Tryd.ntmps21
    go_wp2_with fail
    go_ret2
    exact ⟨rfl, Grew.refl _⟩
theorem tdiv_nat (u b : Nat) : Int.tdiv (u : Int) (b : Int) = ((u / b : Nat) : Int) := by
  rw [Int.tdiv_eq_ediv_of_nonneg (by omega)]; exact (Int.natCast_ediv u b).symm
theorem tmod_nat (u b : Nat) : Int.tmod (u : Int) (b : Int) = ((u % b : Nat) : Int) := by
  rw [Int.tmod_eq_emod_of_nonneg (by omega)]; exact (Int.natCast_emod u b).symm
set_option maxRecDepth 100000 in
set_option maxHeartbeats 8000000 in
theorem RBase_any (n : Int) (hn : In64 n) (b : Nat) (hb : 2 ≤ b) (h36 : b ≤ 36) (w : World) :
    Calls Tryd.prog 21 #[.int .i64 n, .int .i64 (b : Nat)] w fun e w' => e = .returned (.tuple #[.string ⟨(fmN b n).toArray⟩, .int .i64 0]) ∧ Grew w w' := by
  have e2 : decide ((b : Int) < 2) = false := decide_eq_false (by omega)
  have e3 : decide ((36 : Int) < (b : Int)) = false := decide_eq_false (by omega)
  have HBn := hidd (Big_any n hn w)
  have HBb := hidd (fun w1 => Big_any (b : Int) (by unfold In64; omega) w1)
  have HS0 : Hid (∀ w1, IntAt w1 w.heap.size n → Calls Tryd.prog 35 #[.pointer (some ⟨w.heap.size, 0, none⟩)] w1 fun e w' => e = .returned (.int .i64 (if n < 0 then -1 else if n = 0 then 0 else 1)) ∧ w' = w1) := fun w1 h => Sign_any h
  have HA : Hid (∀ w1, Grew w w1 → IntAt w1 w.heap.size n → Calls Tryd.prog 36 #[.pointer (some ⟨w.heap.size, 0, none⟩), .pointer (some ⟨w.heap.size, 0, none⟩)] w1 fun e w' => e = .returned (.pointer (some ⟨w.heap.size, 0, none⟩)) ∧ Grew w w' ∧ IntAt w' w.heap.size ((n.natAbs : Nat) : Int)) := fun w1 g h =>
    (Abs_own h.obj h (nw_64 hn)).mono fun e w' ⟨he, b1, i1⟩ => ⟨he, b1.grew g (Nat.le_refl _), i1⟩
  obtain ⟨u0, hu0⟩ : ∃ u, n.natAbs = u := ⟨_, rfl⟩
  have hu64 : u0 < 18446744073709551616 := by obtain ⟨h0, h1⟩ := hn; omega
  have HF : Hid (∀ S : ByteArray, S.data.toList = radix b u0 → (⟨(fmN b n).toArray⟩ : ByteArray) = if n < 0 then (⟨#[45]⟩ : ByteArray) ++ S else S) := fun S hS => by
    apply bytes_ext
    rw [show ((⟨(fmN b n).toArray⟩ : ByteArray)).data.toList = fmN b n by simp]
    unfold fmN
    by_cases h : n < 0
    · rw [if_pos h, if_pos h, app_list, hS, hu0]; rfl
    · rw [if_neg h, if_neg h, hS, hu0]
  obtain ⟨F, hFF⟩ : ∃ F : ByteArray, (⟨(fmN b n).toArray⟩ : ByteArray) = F := ⟨_, rfl⟩
  rw [hFF] at HF ⊢
  rw [hu0] at HA
  obtain ⟨bl, hbl⟩ : ∃ bl, decide (n < 0) = bl := ⟨_, rfl⟩
  obtain ⟨sg, hsg⟩ : ∃ sg : Int, (if n < 0 then (-1 : Int) else if n = 0 then 0 else 1) = sg := ⟨_, rfl⟩
  have hlt : decide (sg < 0) = bl := by
    rw [← hbl, ← hsg]
    by_cases h : n < 0
    · rw [if_pos h]; simp [h]
    · rw [if_neg h]
      by_cases h0 : n = 0
      · rw [if_pos h0]; simp [h]
      · rw [if_neg h0]; simp [h]
  rw [hsg] at HS0
  have HF2 : Hid (∀ S : ByteArray, S.data.toList = radix b u0 → F = if bl = true then (⟨#[45]⟩ : ByteArray) ++ S else S) := fun S hS => by
    rw [HF.out S hS, ← hbl]
    by_cases h : n < 0 <;> simp [h]
  have HB2 := hidd hb
  have HB36 := hidd h36
  have HU := hidd hu64
  clear hFF hu0 hbl hsg HF hn hb h36 hu64
  go_enter Tryd.func21, Tryd.ntmps21
  go_wp2_with fail
  refine HBn.out.mono ?_; rintro e w1 ⟨rfl, g1, i1⟩
  have H1 := hidd (And.intro g1 i1)
  have HS1 := hidd (HS0.out w1 i1)
  clear g1 i1
  go_wp2_with fail
  refine HS1.out.mono ?_; rintro e w2 ⟨rfl, rfl⟩
  go_wp2_with fail
  refine (HA.out _ H1.out.1 H1.out.2).mono ?_; rintro e w3 ⟨rfl, g3, i3⟩
  have H3 := hidd (And.intro g3 i3)
  clear g3 i3
  go_wp2_with fail
  go_loopw [8, 9] (fun u8 u9 wr => ∃ (S : ByteArray) (u : Nat), u8 = .string S ∧ Hid (BsSt b u0 u S.data.toList) ∧ S.size ≤ 70 ∧ Hid (IntAt wr w.heap.size (u : Int)) ∧ Hid (Grew w wr)) (fun u8 _ _ => match u8 with | .string t => 80 - t.size | _ => 0)
  case atStart => exact ⟨_, u0, rfl, Or.inl ⟨FmSt.start b u0, Or.inl rfl⟩, by decide, H3.out.2, H3.out.1⟩
  case round =>
    obtain ⟨S, u, rfl, HS, hs70, HI, HG⟩ := hrel
    have hsz : w.heap.size ≤ wr.heap.size := HG.out.size
    have hltN : w.heap.size < wr.heap.size := by obtain ⟨p, c, hh, _⟩ := HI.out; exact (Array.getElem?_eq_some_iff.1 hh).1
    rcases HS.out with ⟨hF, hL⟩ | ⟨hu, hR⟩
    · have hlen : S.size ≤ 63 := by rw [size_data]; exact hF.short1 hL HU.out
      have hu64 : u < 18446744073709551616 := by
        have h1 := hF.len
        have h2 : u * 1 ≤ u * 2 ^ S.data.toList.length := Nat.mul_le_mul_left _ (Nat.pos_of_ne_zero (by simp))
        have := HU.out
        omega
      have HNx := hidd (BsSt.step HB2.out hF hL)
      have hq : Hid (∀ w2, Grew (wr.alloc (.cells #[.bool false, .slice none 0 0] 56)) w2 → IntAt w2 (wr.heap.size + 1) (b : Int) → Calls Tryd.prog 37 #[.pointer (some ⟨w.heap.size, 0, none⟩), .pointer (some ⟨w.heap.size, 0, none⟩), .pointer (some ⟨wr.heap.size + 1, 0, none⟩), .pointer (some ⟨wr.heap.size, 0, none⟩)] w2 fun e w' => e = .returned (.tuple #[.pointer (some ⟨w.heap.size, 0, none⟩), .pointer (some ⟨wr.heap.size, 0, none⟩)]) ∧ Grew w w' ∧ IntAt w' w.heap.size ((u / b : Nat) : Int) ∧ IntAt w' wr.heap.size ((u % b : Nat) : Int)) := fun w2 g2 i2 => by
        have hI2 := (HI.out.kept ((Grew.refl wr).alloc _)).kept g2
        have hr := (obj_new wr).kept g2
        refine (QuoRem_own hI2.obj hr hI2 i2 (by omega) (nw_64' hu64) (by have := HB2.out; omega) (Or.inr (by rw [Int.natAbs_natCast]; exact hu64))).mono ?_
        rintro e w' ⟨he, ⟨w3, b3, b4⟩, i5, i6⟩
        refine ⟨he, b4.grew (b3.grew ((HG.out.alloc _).trans g2) (Nat.le_refl _)) (by omega), ?_, ?_⟩
        · rw [← tdiv_nat]; exact i5
        · rw [← tmod_nat]; exact i6
      have hd : u % b < b := Nat.mod_lt _ (by have := HB2.out; omega)
      have hd36 : u % b < 36 := by have := HB36.out; omega
      obtain ⟨d, hd0⟩ : ∃ d, u % b = d := ⟨_, rfl⟩
      rw [hd0] at hq HNx hd hd36
      obtain ⟨q, hq0⟩ : ∃ q, u / b = q := ⟨_, rfl⟩
      rw [hq0] at hq HNx
      have hJ : Hid (∀ w3, IntAt w3 wr.heap.size ((d : Nat) : Int) → Calls Tryd.prog 38 #[.pointer (some ⟨wr.heap.size, 0, none⟩)] w3 fun e w' => e = .returned (.int .i64 ((d : Nat) : Int)) ∧ w' = w3) := fun w3 h => Int64_any h (by unfold In64; omega)
      have hx1 := fun W => idx_dig d hd36 W
      have hx2 : ∀ W, (convert 5 9 (.int .u8 ((digB d).toNat : Int))).run Tryd.prog W = .ok (.string ⟨#[digB d]⟩) W := fun W => by
        rw [run_convert_int_string W _ _ _ _ (by rw [Tryd.underlying5]; rfl) Tryd.underlying9, enc_dig d hd36]
      unfold digsT at hx1
      obtain ⟨c, hc⟩ : ∃ c, ((digB d).toNat : Int) = c := ⟨_, rfl⟩
      rw [hc] at hx1 hx2
      obtain ⟨E, hE⟩ : ∃ E : ByteArray, (⟨#[digB d]⟩ : ByteArray) = E := ⟨_, rfl⟩
      have HE : Hid ((E ++ S).data.toList = digB d :: S.data.toList) := by rw [Hid, app_list, ← hE]; rfl
      have HEs : Hid ((E ++ S).size = S.size + 1) := by
        rw [Hid, size_data, HE.out, List.length_cons, size_data]
      have hno : ¬ 9223372036854775807 < E.size + S.size := by
        have : E.size = 1 := by rw [← hE]; rfl
        omega
      rw [hE] at hx2
      have hSg := hidd (Sign_any HI.out)
      have hcond : (u = 0 ∧ S.size = 0) ∨ 1 ≤ u := by
        rcases hL with h | h
        · rcases Nat.eq_zero_or_pos u with e | e
          · exact Or.inl ⟨e, by rw [size_data, h]; rfl⟩
          · exact Or.inr e
        · exact Or.inr h
      clear hc hE hd0 hq0 hd hd36 hF hL hu64
      rcases hcond with ⟨hu, hS0⟩ | hu
      · have hv : (if ((u : Nat) : Int) < 0 then (-1 : Int) else if ((u : Nat) : Int) = 0 then 0 else 1) = 0 := by rw [if_neg (by omega), if_pos (by omega)]
        rw [hv] at hSg
        have hne : S.toList.isEmpty = true := by rw [nil_of_size hS0]; rfl
        clear hv hu hS0
        go_wp2_with fail
        refine hSg.out.mono ?_; rintro e w4 ⟨rfl, rfl⟩
        go_wp2_with fail
        refine (HBb.out _).mono ?_; rintro e w5 ⟨rfl, g5, i5⟩
        have H5 := hidd (hq.out w5 g5 (by simpa using i5))
        clear g5 i5
        go_wp2_with fail
        refine H5.out.mono ?_; rintro e w6 ⟨rfl, g6, i6, i7⟩
        have H6 := hidd (And.intro g6 i6)
        have H7 := hidd (hJ.out w6 i7)
        clear g6 i6 i7
        go_wp2_with fail
        refine H7.out.mono ?_; rintro e w7 ⟨rfl, rfl⟩
        go_wp2_with fail
        exact ⟨⟨E ++ S, q, rfl, by rw [Hid, HE.out]; exact HNx.out, by rw [HEs.out]; omega, H6.out.2, H6.out.1⟩, by show 80 - (E ++ S).size < 80 - S.size; rw [HEs.out]; omega⟩
      · have hv : (if ((u : Nat) : Int) < 0 then (-1 : Int) else if ((u : Nat) : Int) = 0 then 0 else 1) = 1 := by rw [if_neg (by omega), if_neg (by omega)]
        rw [hv] at hSg
        clear hv hu
        go_wp2_with fail
        refine hSg.out.mono ?_; rintro e w4 ⟨rfl, rfl⟩
        go_wp2_with fail
        refine (HBb.out _).mono ?_; rintro e w5 ⟨rfl, g5, i5⟩
        have H5 := hidd (hq.out w5 g5 (by simpa using i5))
        clear g5 i5
        go_wp2_with fail
        refine H5.out.mono ?_; rintro e w6 ⟨rfl, g6, i6, i7⟩
        have H6 := hidd (And.intro g6 i6)
        have H7 := hidd (hJ.out w6 i7)
        clear g6 i6 i7
        go_wp2_with fail
        refine H7.out.mono ?_; rintro e w7 ⟨rfl, rfl⟩
        go_wp2_with fail
        exact ⟨⟨E ++ S, q, rfl, by rw [Hid, HE.out]; exact HNx.out, by rw [HEs.out]; omega, H6.out.2, H6.out.1⟩, by show 80 - (E ++ S).size < 80 - S.size; rw [HEs.out]; omega⟩
    · have hSg := hidd (Sign_any HI.out)
      have hv : (if ((u : Nat) : Int) < 0 then (-1 : Int) else if ((u : Nat) : Int) = 0 then 0 else 1) = 0 := by rw [if_neg (by omega), if_pos (by omega)]
      rw [hv] at hSg
      have hpos : 0 < S.size := by
        rw [size_data, hR]; exact List.length_pos_iff.2 radix_ne
      have hne := isEmpty_of_size hpos
      have HFS := hidd (HF2.out S hR)
      clear hv hu hR hpos
      cases bl
      · have HFS2 : Hid (F = S) := HFS.out
        go_wp2_with fail
        refine hSg.out.mono ?_; rintro e w4 ⟨rfl, rfl⟩
        go_wp2_with fail
        go_ret2
        exact ⟨by rw [HFS2.out]; rfl, HG.out⟩
      · have HFS2 : Hid (F = (⟨#[45]⟩ : ByteArray) ++ S) := HFS.out
        go_wp2_with fail
        refine hSg.out.mono ?_; rintro e w4 ⟨rfl, rfl⟩
        go_wp2_with fail
        go_ret2
        exact ⟨by rw [HFS2.out]; rfl, HG.out⟩
end Go.Proofs.YthhcpocgfmlbeaaDoor
