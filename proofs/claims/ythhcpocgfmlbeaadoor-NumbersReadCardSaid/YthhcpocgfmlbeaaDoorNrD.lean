/- The document's Digits: of a text of any base. -/
import Derived.Test.YthhcpocgfmlbeaaDoorNrP
import Derived.Test.YthhcpocgfmlbeaaDoorBgY
import Derived.Test.YthhcpocgfmlbeaaDoorBgS
import Derived.Test.YthhcpocgfmlbeaaDoorBytes
namespace Go.Proofs.YthhcpocgfmlbeaaDoor
open Go.RowKit
set_option linter.unusedVariables false
theorem dig_cases (x : UInt8) : (48 ≤ x.toNat ∧ x.toNat ≤ 57 ∧ digV x = x.toNat - 48) ∨ (97 ≤ x.toNat ∧ x.toNat ≤ 122 ∧ digV x = x.toNat - 87) ∨ ((x.toNat < 48 ∨ 57 < x.toNat) ∧ (x.toNat < 97 ∨ 122 < x.toNat) ∧ digV x = 99) := by
  have key : ∀ c : Fin 256, (48 ≤ c.val ∧ c.val ≤ 57 ∧ digV (UInt8.ofNat c.val) = c.val - 48) ∨ (97 ≤ c.val ∧ c.val ≤ 122 ∧ digV (UInt8.ofNat c.val) = c.val - 87) ∨ ((c.val < 48 ∨ 57 < c.val) ∧ (c.val < 97 ∨ 122 < c.val) ∧ digV (UInt8.ofNat c.val) = 99) := by decide +kernel
  have := key ⟨x.toNat, x.toNat_lt⟩
  simpa only [UInt8.ofNat_toNat] using this
/-- The bytes of a text, as they lie in memory. -/
def ByAt (w : World) (b : Nat) (t : ByteArray) : Prop := ∀ j (h : j < t.size), w.cell? ⟨b, j, none⟩ = some (.int .u8 ((t[j]'h).toNat : Int))
theorem ByAt.kept {w w' : World} {b : Nat} {t : ByteArray} (h : ByAt w b t) (g : Grew w w') : ByAt w' b t := fun j hj => g.keeps (h j hj)
theorem ByAt.but {w w' : World} {a b : Nat} {t : ByteArray} (h : ByAt w b t) (g : But a w w') (hb : b ≠ a) : ByAt w' b t := fun j hj => g.cell hb (h j hj)
theorem ByAt.of {w : World} {b : Nat} {t : ByteArray} (h : BytesAt w b 0 t.data.toList) : ByAt w b t := fun j hj => by
  have := h.at0 j hj
  rw [this]; rfl
def DigEnd (t : ByteArray) (b : Nat) (w : World) (e : Ending) (w' : World) : Prop :=
  Grew w w' ∧ ((numV? b t.data.toList = none ∧ e = .returned (.tuple #[.pointer none, .bool false])) ∨ ∃ V, numV? b t.data.toList = some V ∧ e = .returned (.tuple #[.pointer (some ⟨w.heap.size, 0, none⟩), .bool (decide (0 < t.size))]) ∧ IntAt w' w.heap.size (V : Int))
theorem int_zero (w : World) : IntAt (w.alloc (.cells #[.bool false, .slice none 0 0] 56)) w.heap.size ((0 : Nat) : Int) := by
  refine ⟨none, 0, ?_, ?_⟩
  · rw [show ((0 : Nat) : Int).natAbs = 0 from rfl, nw_zero]; exact heap_alloc_new w _
  · rw [show ((0 : Nat) : Int).natAbs = 0 from rfl, nw_zero]; exact wordsAt_nil _ (by omega)
set_option maxRecDepth 100000 in
set_option maxHeartbeats 8000000 in
theorem RDigits_any (t : ByteArray) (b : Nat) (hb : 2 ≤ b) (h36 : b ≤ 36) (ht : t.size ≤ 65536) (w : World) :
    Calls Tryd.prog 30 #[.string t, .int .i64 (b : Nat)] w (DigEnd t b w) := by
  have HBk := hidd (fun (d : Nat) (hd : d ≤ 36) w1 => Big_any (d : Int) (by unfold In64; omega) w1)
  have hb1 := fun w0 : World => bytesOf w0 t
  have HX : ∀ c, Hid (ByAt ((w.alloc (.cells #[.bool false, .slice none 0 0] 56)).drew.alloc (.cells (bytesRow t c) 5 ((bytesRow t c).size, (bytesRow t c).size + 1))) (w.heap.size + 1) t) := fun c => by
    have := bytesAt_row (w.alloc (.cells #[.bool false, .slice none 0 0] 56)).drew t c 5
    rw [show (w.alloc (.cells #[.bool false, .slice none 0 0] 56)).drew.heap.size = w.heap.size + 1 by simp] at this
    exact ByAt.of this
  have HI0 : ∀ o, Hid (IntAt ((w.alloc (.cells #[.bool false, .slice none 0 0] 56)).drew.alloc o) w.heap.size ((0 : Nat) : Int)) := fun o => (int_zero w).kept (((Grew.refl _).drew).alloc _)
  have HG0 : ∀ o, Hid (Grew w ((w.alloc (.cells #[.bool false, .slice none 0 0] 56)).drew.alloc o)) := fun o => (((Grew.refl w).alloc _).drew).alloc _
  have HB2 := hidd hb
  have HB36 := hidd h36
  have HT := hidd ht
  go_enter Tryd.func30, Tryd.ntmps30
  go_wp2_with fail
  go_loopw [8, 9, 14] (fun u8 u9 u14 wr => ∃ (i V : Nat), u14 = .int .i64 i ∧ i ≤ t.size ∧ Hid (numV? b (t.data.toList.take i) = some V) ∧ Hid (IntAt wr w.heap.size (V : Int)) ∧ Hid (ByAt wr (w.heap.size + 1) t) ∧ Hid (Grew w wr)) (fun _ _ u14 _ => t.size - (intOf u14).toNat)
  case atStart => exact ⟨0, 0, rfl, Nat.zero_le _, rfl, (HI0 _).out, (HX _).out, (HG0 _).out⟩
  case round =>
    obtain ⟨i, V, rfl, hi, HN, HI, HY, HG⟩ := hrel
    by_cases h : i < t.size
    · have c1 : decide ((i : Int) < (t.size : Int)) = true := decide_eq_true (by omega)
      have c2 : decide (i < t.size) = true := decide_eq_true h
      have k0 := HY.out i h
      have hl : i < t.data.toList.length := h
      have HE : Hid (t.data.toList[i]'hl = t[i]'h) := rfl
      have HBad : Hid (¬ digV (t[i]'h) < b → numV? b t.data.toList = none) := fun hk => numV?_bad hl hk
      have HStep : Hid (digV (t[i]'h) < b → numV? b (t.data.toList.take (i + 1)) = some (V * b + digV (t[i]'h))) := fun hk => numV?_step hl HN.out hk
      have hdc := dig_cases (t[i]'h)
      obtain ⟨d, hd⟩ : ∃ d, digV (t[i]'h) = d := ⟨_, rfl⟩
      obtain ⟨c, hc⟩ : ∃ c, (t[i]'h).toNat = c := ⟨_, rfl⟩
      rw [hd] at hdc HBad HStep
      rw [hc] at hdc k0
      have hsz : w.heap.size ≤ wr.heap.size := HG.out.size
      have hli : Hid ((t.data.toList.take (i + 1)).length ≤ 65537) := by
        have := HT.out
        rw [Hid, List.length_take]; omega
      clear hd hc HE hl
      by_cases hk : d < b
      · have HNx := hidd (HStep.out hk)
        clear HStep HBad
        have hd36 : d ≤ 36 := by omega
        have HM : Hid (∀ w2, Grew wr w2 → IntAt w2 wr.heap.size (b : Int) → Calls Tryd.prog 52 #[.pointer (some ⟨w.heap.size, 0, none⟩), .pointer (some ⟨w.heap.size, 0, none⟩), .pointer (some ⟨wr.heap.size, 0, none⟩)] w2 fun e w' => e = .returned (.pointer (some ⟨w.heap.size, 0, none⟩)) ∧ Grew w w' ∧ IntAt w' w.heap.size ((V * b : Nat) : Int) ∧ ByAt w' (w.heap.size + 1) t) := fun w2 g2 i2 => by
          have hv : nw V ≤ 65537 := by
            have := numV?_fits HB36.out HN.out
            rw [List.length_take] at this; have := HT.out; omega
          have hm := Mul_self (HI.out.kept g2) i2 (by rw [Int.natAbs_natCast]; omega) (nw_64 (by unfold In64; have := HB36.out; omega))
          refine hm.mono fun e w' ⟨he, b3, i3⟩ => ⟨he, b3.grew (HG.out.trans g2) (Nat.le_refl _), ?_, (HY.out.kept g2).but b3 (by omega)⟩
          rw [Int.natCast_mul]; exact i3
        have HA : Hid (∀ w3 w4, Grew w w3 → IntAt w3 w.heap.size ((V * b : Nat) : Int) → ByAt w3 (w.heap.size + 1) t → Grew w3 w4 → IntAt w4 w3.heap.size (d : Int) → Calls Tryd.prog 53 #[.pointer (some ⟨w.heap.size, 0, none⟩), .pointer (some ⟨w.heap.size, 0, none⟩), .pointer (some ⟨w3.heap.size, 0, none⟩)] w4 fun e w' => e = .returned (.pointer (some ⟨w.heap.size, 0, none⟩)) ∧ Grew w w' ∧ IntAt w' w.heap.size ((V * b + d : Nat) : Int) ∧ ByAt w' (w.heap.size + 1) t) := fun w3 w4 g3 i3 y3 g4 i4 => by
          have hv : nw (V * b) ≤ 65537 := by
            have h1 := numV?_fits HB36.out HNx.out
            have h2 := nw_mono (show V * b ≤ V * b + d by omega)
            have := hli.out; omega
          have hm := Add_self (i3.kept g4) i4 (by rw [Int.natAbs_natCast]; omega) (nw_64 (by unfold In64; omega))
          refine hm.mono fun e w' ⟨he, b5, i5⟩ => ⟨he, b5.grew (g3.trans g4) (Nat.le_refl _), ?_, (y3.kept g4).but b5 (by omega)⟩
          rw [Int.natCast_add]; exact i5
        have hHBb := hidd (HBk.out b HB36.out)
        have hHBd := hidd (HBk.out d hd36)
        have q1 : decide ((d : Int) < 0) = false := decide_eq_false (by omega)
        have q2 : decide ((b : Int) ≤ (d : Int)) = false := decide_eq_false (by omega)
        have q3 : decide (b ≤ d) = false := decide_eq_false (by omega)
        have hdc2 : (48 ≤ c ∧ c ≤ 57 ∧ d = c - 48) ∨ (97 ≤ c ∧ c ≤ 122 ∧ d = c - 87) := by
          rcases hdc with h1 | h1 | h1
          · exact Or.inl h1
          · exact Or.inr h1
          · have := HB36.out; omega
        clear hdc hk hd36 hb h36
        rcases hdc2 with ⟨e1, e2, e3⟩ | ⟨e1, e2, e3⟩
        · have a1 : decide ((48 : Int) ≤ (c : Int)) = true := decide_eq_true (by omega)
          have a2 : decide ((c : Int) ≤ 57) = true := decide_eq_true (by omega)
          have a3 : decide ((97 : Int) ≤ (c : Int)) = false := decide_eq_false (by omega)
          have f1 : IntKind.u8.wrap ((c : Int) - 48) = (d : Int) := by simp [IntKind.wrap, IntKind.signed, IntKind.bits]; omega
          have g1 : wrap64 (d : Int) = (d : Int) := w64 (by omega) (by omega)
          clear e1 e2 e3
          go_wp2_with fail
          refine (hHBb.out _).mono ?_; rintro e w2 ⟨rfl, g2, i2⟩
          have H2 := hidd (HM.out w2 g2 i2)
          clear g2 i2
          go_wp2_with fail
          refine H2.out.mono ?_; rintro e w3 ⟨rfl, g3, i3, y3⟩
          have H3 := hidd (And.intro g3 (And.intro i3 y3))
          clear g3 i3 y3
          go_wp2_with fail
          refine (hHBd.out _).mono ?_; rintro e w4 ⟨rfl, g4, i4⟩
          have H4 := hidd (HA.out w3 w4 H3.out.1 H3.out.2.1 H3.out.2.2 g4 i4)
          clear g4 i4
          go_wp2_with fail
          refine H4.out.mono ?_; rintro e w5 ⟨rfl, g5, i5, y5⟩
          have H5 := hidd (And.intro g5 (And.intro i5 y5))
          clear g5 i5 y5
          go_wp2_with fail
          go_roundw
          case rel => exact ⟨i + 1, V * b + d, by go_num, by omega, HNx.out, H5.out.2.1, H5.out.2.2, H5.out.1⟩
          case measure => simp [intOf]; omega
        · have a1 : decide ((48 : Int) ≤ (c : Int)) = true := decide_eq_true (by omega)
          have a2 : decide ((c : Int) ≤ 57) = false := decide_eq_false (by omega)
          have a3 : decide ((97 : Int) ≤ (c : Int)) = true := decide_eq_true (by omega)
          have a4 : decide ((c : Int) ≤ 122) = true := decide_eq_true (by omega)
          obtain ⟨z, hz⟩ : ∃ z : Int, z = ((d - 10 : Nat) : Int) := ⟨_, rfl⟩
          obtain ⟨y, hy⟩ : ∃ y : Int, y = (d : Int) := ⟨_, rfl⟩
          have f1 : IntKind.u8.wrap ((c : Int) - 97) = z := by simp [IntKind.wrap, IntKind.signed, IntKind.bits]; omega
          have g1 : wrap64 z = z := w64 (by omega) (by omega)
          have g2 : wrap64 (z + 10) = y := by rw [w64 (by omega) (by omega)]; omega
          rw [← hy] at hHBd q1 q2
          have HYd := hidd hy
          clear q3 hy hz
          clear e1 e2 e3
          go_wp2_with fail
          refine (hHBb.out _).mono ?_; rintro e w2 ⟨rfl, g2, i2⟩
          have H2 := hidd (HM.out w2 g2 i2)
          clear g2 i2
          go_wp2_with fail
          refine H2.out.mono ?_; rintro e w3 ⟨rfl, g3, i3, y3⟩
          have H3 := hidd (And.intro g3 (And.intro i3 y3))
          clear g3 i3 y3
          go_wp2_with fail
          refine (hHBd.out _).mono ?_; rintro e w4 ⟨rfl, g4, i4⟩
          have H4 := hidd (HA.out w3 w4 H3.out.1 H3.out.2.1 H3.out.2.2 g4 (by rw [← HYd.out]; exact i4))
          clear g4 i4
          go_wp2_with fail
          refine H4.out.mono ?_; rintro e w5 ⟨rfl, g5, i5, y5⟩
          have H5 := hidd (And.intro g5 (And.intro i5 y5))
          clear g5 i5 y5
          go_wp2_with fail
          go_roundw
          case rel => exact ⟨i + 1, V * b + d, by go_num, by omega, HNx.out, H5.out.2.1, H5.out.2.2, H5.out.1⟩
          case measure => simp [intOf]; omega
      · have HNo := hidd (HBad.out hk)
        clear HStep HBad HBk
        have hdc3 : (48 ≤ c ∧ c ≤ 57 ∧ d = c - 48) ∨ (97 ≤ c ∧ c ≤ 122 ∧ d = c - 87) ∨ c < 48 ∨ (57 < c ∧ c < 97) ∨ 122 < c := by omega
        clear hdc
        rcases hdc3 with ⟨e1, e2, e3⟩ | ⟨e1, e2, e3⟩ | e1 | ⟨e1, e2⟩ | e1
        · have a1 : decide ((48 : Int) ≤ (c : Int)) = true := decide_eq_true (by omega)
          have a2 : decide ((c : Int) ≤ 57) = true := decide_eq_true (by omega)
          have a3 : decide ((97 : Int) ≤ (c : Int)) = false := decide_eq_false (by omega)
          have f1 : IntKind.u8.wrap ((c : Int) - 48) = (d : Int) := by simp [IntKind.wrap, IntKind.signed, IntKind.bits]; omega
          have g1 : wrap64 (d : Int) = (d : Int) := w64 (by omega) (by omega)
          have q1 : decide ((d : Int) < 0) = false := decide_eq_false (by omega)
          have q2 : decide ((b : Int) ≤ (d : Int)) = true := decide_eq_true (by omega)
          have q3 : decide (b ≤ d) = true := decide_eq_true (by omega)
          clear e1 e2 e3 hk
          go_wp2_with fail
          go_ret2
          exact ⟨HG.out, Or.inl ⟨HNo.out, rfl⟩⟩
        · have a1 : decide ((48 : Int) ≤ (c : Int)) = true := decide_eq_true (by omega)
          have a2 : decide ((c : Int) ≤ 57) = false := decide_eq_false (by omega)
          have a3 : decide ((97 : Int) ≤ (c : Int)) = true := decide_eq_true (by omega)
          have a4 : decide ((c : Int) ≤ 122) = true := decide_eq_true (by omega)
          obtain ⟨z, hz⟩ : ∃ z : Int, z = ((d - 10 : Nat) : Int) := ⟨_, rfl⟩
          obtain ⟨y, hy⟩ : ∃ y : Int, y = (d : Int) := ⟨_, rfl⟩
          have f1 : IntKind.u8.wrap ((c : Int) - 97) = z := by simp [IntKind.wrap, IntKind.signed, IntKind.bits]; omega
          have g1 : wrap64 z = z := w64 (by omega) (by omega)
          have g2 : wrap64 (z + 10) = y := by rw [w64 (by omega) (by omega)]; omega
          have q1 : decide (y < 0) = false := decide_eq_false (by omega)
          have q2 : decide ((b : Int) ≤ y) = true := decide_eq_true (by omega)
          clear e1 e2 e3 hk hz hy
          go_wp2_with fail
          go_ret2
          exact ⟨HG.out, Or.inl ⟨HNo.out, rfl⟩⟩
        · have a1 : decide ((48 : Int) ≤ (c : Int)) = false := decide_eq_false (by omega)
          have a3 : decide ((97 : Int) ≤ (c : Int)) = false := decide_eq_false (by omega)
          clear e1 hk
          go_wp2_with fail
          go_ret2
          exact ⟨HG.out, Or.inl ⟨HNo.out, rfl⟩⟩
        · have a1 : decide ((48 : Int) ≤ (c : Int)) = true := decide_eq_true (by omega)
          have a2 : decide ((c : Int) ≤ 57) = false := decide_eq_false (by omega)
          have a3 : decide ((97 : Int) ≤ (c : Int)) = false := decide_eq_false (by omega)
          clear e1 e2 hk
          go_wp2_with fail
          go_ret2
          exact ⟨HG.out, Or.inl ⟨HNo.out, rfl⟩⟩
        · have a1 : decide ((48 : Int) ≤ (c : Int)) = true := decide_eq_true (by omega)
          have a2 : decide ((c : Int) ≤ 57) = false := decide_eq_false (by omega)
          have a3 : decide ((97 : Int) ≤ (c : Int)) = true := decide_eq_true (by omega)
          have a4 : decide ((c : Int) ≤ 122) = false := decide_eq_false (by omega)
          clear e1 hk
          go_wp2_with fail
          go_ret2
          exact ⟨HG.out, Or.inl ⟨HNo.out, rfl⟩⟩
    · obtain rfl : i = t.size := by omega
      have HNf : Hid (numV? b t.data.toList = some V) := by
        have := HN.out
        rw [List.take_of_length_le (show t.data.toList.length ≤ t.size from Nat.le_refl _)] at this
        exact this
      clear HBk hb1 HX HI0 HG0
      go_wp2_with fail
      go_ret2
      exact ⟨HG.out, Or.inr ⟨V, HNf.out, rfl, HI.out⟩⟩
end Go.Proofs.YthhcpocgfmlbeaaDoor
