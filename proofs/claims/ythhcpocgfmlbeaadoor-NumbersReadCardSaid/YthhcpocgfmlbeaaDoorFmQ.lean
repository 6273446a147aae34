/- formatBits: the roads of 2, 4, 8, 16, 32. Printed. Condition: the library's table of de Bruijn. -/
import Derived.Test.YthhcpocgfmlbeaaDoorFmT
import Derived.Test.YthhcpocgfmlbeaaDoorFmZ
namespace Go.Proofs.YthhcpocgfmlbeaaDoor
open Go.RowKit
set_option linter.unusedVariables false
set_option maxRecDepth 100000 in
theorem isPow_2 (w : World) : Calls Tryd.prog 104 #[.int .i64 2] w fun e w' => e = .returned (.bool true) ∧ w' = w := by
  have hz : bits .and .i64 2 1 = 0 := by decide
  go_enter Tryd.func104, Tryd.ntmps104
  go_wp2_with fail
  go_ret
  exact ⟨rfl, rfl⟩
set_option maxRecDepth 100000 in
theorem tz_2 (w : World) (hz : TabZ w) : Calls Tryd.prog 105 #[.int .u64 2] w fun e w' => e = .returned (.int .i64 1) ∧ w' = w := by
  have H : Hid (Calls Tryd.prog 111 #[.int .u64 2] w fun e w' => e = .returned (.int .i64 1) ∧ w' = w) := zeros_any 2 w (by omega) (by omega) hz
  clear hz
  go_enter Tryd.func105, Tryd.ntmps105
  go_wp2_with fail
  refine H.out.mono ?_; rintro e w1 ⟨rfl, rfl⟩
  go_wp2_with fail
  go_ret
  exact ⟨rfl, rfl⟩
set_option maxRecDepth 100000 in
set_option maxHeartbeats 4000000 in
theorem fb_2 (U : Int) (u : Nat) (hu64 : u < 18446744073709551616) (hU : U = (u : Int)) (w : World) (hz : TabZ w) :
    Calls Tryd.prog 80 #[.slice none 0 0, .int .u64 U, .int .i64 2, .bool false, .bool false] w fun e w' => e = .returned (.tuple #[.slice none 0 0, .string ⟨(radix 2 u).toArray⟩]) ∧ Grew w w' := by
  have HZ := hidd (fun w1 (g : Grew w w1) => tz_2 w1 (hz.kept g))
  clear hz
  have HA := hidd ((Grew.refl w).alloc (.cells Tryd.zeroCells118 118))
  subst hU
  · go_enter Tryd.func80, Tryd.ntmps80
    go_wp2_with fail
    refine (isPow_2 _).mono ?_; rintro e w1 ⟨rfl, rfl⟩
    go_wp2_with fail
    refine (HZ.out _ HA.out).mono ?_; rintro e w1 ⟨rfl, rfl⟩
    go_wp2_with fail
    go_loopw [1, 13] (fun u1 u13  wr => ∃ (v i : Nat) (L : List UInt8), u1 = .int .u64 v ∧ u13 = .int .i64 i ∧ i ≤ 65 ∧ Hid (FmSt 2 u v L ∧ (L = [] ∨ 1 ≤ v) ∧ RowSt w wr i L) ∧ Hid (Grew w wr)) (fun u1 _  _ => (intOf u1).toNat)
    case atStart => exact ⟨u, 65, [], rfl, rfl, Nat.le_refl _, ⟨FmSt.start 2 u, Or.inl rfl, RowSt.start w⟩, (Grew.refl w).alloc _⟩
    case round =>
      obtain ⟨v, i, L, rfl, rfl, hi, HS, HG⟩ := hrel
      by_cases hv : 2 ≤ v
      · have c1 : decide ((2 : Int) ≤ (v : Int)) = true := decide_eq_true (by omega)
        have c2 : decide (2 ≤ v) = true := decide_eq_true hv
        have hl := HS.out.1.short (by omega) hu64
        have hil := HS.out.2.2.1
        obtain ⟨i, rfl⟩ : ∃ k, i = k + 1 := ⟨i - 1, by omega⟩
        have HN := hidd (HS.out.1.step (by omega) hv)
        have HQ1 : Hid (1 ≤ v / 2) := Nat.div_pos hv (by omega)
        have HQ2 := hidd (Nat.div_lt_self (show 0 < v by omega) (show 1 < 2 by omega))
        have HW : Hid (∀ c : UInt8, c = digB (v % 2) → RowSt w (wr.setCell ⟨w.heap.size, i, none⟩ (.int .u8 (c.toNat : Int))) i (digB (v % 2) :: L)) := fun c hc => by rw [hc]; exact HS.out.2.2.push _
        have HG2 : Hid (∀ v, Grew w (wr.setCell ⟨w.heap.size, i, none⟩ v)) := fun v => HG.out.setCell (Nat.le_refl _) v
        obtain ⟨v0, cc, cf⟩ := HS.out.2.2.cell
        have hrb := Nat.mod_lt v (show 0 < 2 by omega)
        have hdm := Nat.div_add_mod v 2
        have hv64 : v ≤ u := by
          have := HS.out.1.len
          have h2 : 0 < 2 ^ L.length := Nat.pow_pos (by decide)
          have := Nat.mul_le_mul_left v h2
          omega
        have g1 : (v : Int) / 2 = ((v / 2 : Nat) : Int) := rfl
        have g2 : bits .and .u64 (v : Int) 1 = ((v % 2 : Nat) : Int) := by
          have a1 := bits_and_u64_nat v 1 (by omega) (by omega)
          erw [a1]
          have h := Nat.and_two_pow_sub_one_eq_mod v 1
          rw [show (2 : Nat) ^ 1 - 1 = 1 by decide, show (2 : Nat) ^ 1 = 2 by decide] at h
          rw [h]
        obtain ⟨q, hq⟩ : ∃ q, v / 2 = q := ⟨_, rfl⟩
        obtain ⟨r, hr⟩ : ∃ r, v % 2 = r := ⟨_, rfl⟩
        rw [hq] at HN HQ1 HQ2 hdm g1
        rw [hr] at HN HW hrb hdm g2
        have g6 : IntKind.u64.wrap (r : Int) = (r : Int) := by rw [IntKind.wrap_u64]; omega
        have g5 : IntKind.u64.wrap (q : Int) = (q : Int) := by have := HQ2.out; rw [IntKind.wrap_u64]; omega
        have hr36 : r < 36 := by omega
        clear hv hq hr
        go_wp2_with fail
        go_roundw
        case rel => exact ⟨q, i, _, rfl, rfl, by omega, ⟨HN.out, Or.inr HQ1.out, HW.out _ (digsT_at r hr36)⟩, HG2.out _⟩
        case measure => simp [intOf]; exact HQ2.out
      · have c1 : decide ((2 : Int) ≤ (v : Int)) = false := decide_eq_false (by omega)
        have c2 : decide (2 ≤ v) = false := decide_eq_false hv
        have hl := HS.out.1.short1 HS.out.2.1 hu64
        have hil := HS.out.2.2.1
        obtain ⟨i, rfl⟩ : ∃ k, i = k + 1 := ⟨i - 1, by omega⟩
        have HLast := hidd (HS.out.1.last (show v < 2 by omega))
        have HW : Hid (∀ c : UInt8, c = digB v → RowSt w (wr.setCell ⟨w.heap.size, i, none⟩ (.int .u8 (c.toNat : Int))) i (digB v :: L)) := fun c hc => by rw [hc]; exact HS.out.2.2.push _
        have HG2 : Hid (∀ v, Grew w (wr.setCell ⟨w.heap.size, i, none⟩ v)) := fun v => HG.out.setCell (Nat.le_refl _) v
        obtain ⟨v0, cc, cf⟩ := HS.out.2.2.cell
        have hr36 : v < 36 := by omega
        have g6 : IntKind.u64.wrap (v : Int) = (v : Int) := by rw [IntKind.wrap_u64]; omega
        have hx : (convert 72 9 (.slice (some ⟨w.heap.size, i, none⟩) (65 - i) (65 - i))).run Tryd.prog (wr.setCell ⟨w.heap.size, i, none⟩ (.int .u8 (((⟨#[48, 49, 50, 51, 52, 53, 54, 55, 56, 57, 97, 98, 99, 100, 101, 102, 103, 104, 105, 106, 107, 108, 109, 110, 111, 112, 113, 114, 115, 116, 117, 118, 119, 120, 121, 122]⟩ : ByteArray)[v]'hr36).toNat : Int))) = .ok (.string ⟨(digB v :: L).toArray⟩) (wr.setCell ⟨w.heap.size, i, none⟩ (.int .u8 (((⟨#[48, 49, 50, 51, 52, 53, 54, 55, 56, 57, 97, 98, 99, 100, 101, 102, 103, 104, 105, 106, 107, 108, 109, 110, 111, 112, 113, 114, 115, 116, 117, 118, 119, 120, 121, 122]⟩ : ByteArray)[v]'hr36).toNat : Int))) := (HW.out _ (digsT_at v hr36)).text
        have hsl := fun W => slice_row w W i (by omega)
        clear hv
        go_wp2_with fail
        go_ret2
        refine ⟨?_, HG2.out _⟩
        rw [← HLast.out]; rfl
set_option maxRecDepth 100000 in
set_option maxHeartbeats 4000000 in
theorem fb_2_neg (U : Int) (u : Nat) (hu64 : u < 18446744073709551616) (hU : IntKind.u64.wrap (-U) = (u : Int)) (w : World) (hz : TabZ w) :
    Calls Tryd.prog 80 #[.slice none 0 0, .int .u64 U, .int .i64 2, .bool true, .bool false] w fun e w' => e = .returned (.tuple #[.slice none 0 0, .string ⟨(45 :: radix 2 u).toArray⟩]) ∧ Grew w w' := by
  have HZ := hidd (fun w1 (g : Grew w w1) => tz_2 w1 (hz.kept g))
  clear hz
  have HA := hidd ((Grew.refl w).alloc (.cells Tryd.zeroCells118 118))
  · go_enter Tryd.func80, Tryd.ntmps80
    go_wp2_with fail
    refine (isPow_2 _).mono ?_; rintro e w1 ⟨rfl, rfl⟩
    go_wp2_with fail
    refine (HZ.out _ HA.out).mono ?_; rintro e w1 ⟨rfl, rfl⟩
    go_wp2_with fail
    go_loopw [1, 13] (fun u1 u13  wr => ∃ (v i : Nat) (L : List UInt8), u1 = .int .u64 v ∧ u13 = .int .i64 i ∧ i ≤ 65 ∧ Hid (FmSt 2 u v L ∧ (L = [] ∨ 1 ≤ v) ∧ RowSt w wr i L) ∧ Hid (Grew w wr)) (fun u1 _  _ => (intOf u1).toNat)
    case atStart => exact ⟨u, 65, [], rfl, rfl, Nat.le_refl _, ⟨FmSt.start 2 u, Or.inl rfl, RowSt.start w⟩, (Grew.refl w).alloc _⟩
    case round =>
      obtain ⟨v, i, L, rfl, rfl, hi, HS, HG⟩ := hrel
      by_cases hv : 2 ≤ v
      · have c1 : decide ((2 : Int) ≤ (v : Int)) = true := decide_eq_true (by omega)
        have c2 : decide (2 ≤ v) = true := decide_eq_true hv
        have hl := HS.out.1.short (by omega) hu64
        have hil := HS.out.2.2.1
        obtain ⟨i, rfl⟩ : ∃ k, i = k + 1 := ⟨i - 1, by omega⟩
        have HN := hidd (HS.out.1.step (by omega) hv)
        have HQ1 : Hid (1 ≤ v / 2) := Nat.div_pos hv (by omega)
        have HQ2 := hidd (Nat.div_lt_self (show 0 < v by omega) (show 1 < 2 by omega))
        have HW : Hid (∀ c : UInt8, c = digB (v % 2) → RowSt w (wr.setCell ⟨w.heap.size, i, none⟩ (.int .u8 (c.toNat : Int))) i (digB (v % 2) :: L)) := fun c hc => by rw [hc]; exact HS.out.2.2.push _
        have HG2 : Hid (∀ v, Grew w (wr.setCell ⟨w.heap.size, i, none⟩ v)) := fun v => HG.out.setCell (Nat.le_refl _) v
        obtain ⟨v0, cc, cf⟩ := HS.out.2.2.cell
        have hrb := Nat.mod_lt v (show 0 < 2 by omega)
        have hdm := Nat.div_add_mod v 2
        have hv64 : v ≤ u := by
          have := HS.out.1.len
          have h2 : 0 < 2 ^ L.length := Nat.pow_pos (by decide)
          have := Nat.mul_le_mul_left v h2
          omega
        have g1 : (v : Int) / 2 = ((v / 2 : Nat) : Int) := rfl
        have g2 : bits .and .u64 (v : Int) 1 = ((v % 2 : Nat) : Int) := by
          have a1 := bits_and_u64_nat v 1 (by omega) (by omega)
          erw [a1]
          have h := Nat.and_two_pow_sub_one_eq_mod v 1
          rw [show (2 : Nat) ^ 1 - 1 = 1 by decide, show (2 : Nat) ^ 1 = 2 by decide] at h
          rw [h]
        obtain ⟨q, hq⟩ : ∃ q, v / 2 = q := ⟨_, rfl⟩
        obtain ⟨r, hr⟩ : ∃ r, v % 2 = r := ⟨_, rfl⟩
        rw [hq] at HN HQ1 HQ2 hdm g1
        rw [hr] at HN HW hrb hdm g2
        have g6 : IntKind.u64.wrap (r : Int) = (r : Int) := by rw [IntKind.wrap_u64]; omega
        have g5 : IntKind.u64.wrap (q : Int) = (q : Int) := by have := HQ2.out; rw [IntKind.wrap_u64]; omega
        have hr36 : r < 36 := by omega
        clear hv hq hr
        go_wp2_with fail
        go_roundw
        case rel => exact ⟨q, i, _, rfl, rfl, by omega, ⟨HN.out, Or.inr HQ1.out, HW.out _ (digsT_at r hr36)⟩, HG2.out _⟩
        case measure => simp [intOf]; exact HQ2.out
      · have c1 : decide ((2 : Int) ≤ (v : Int)) = false := decide_eq_false (by omega)
        have c2 : decide (2 ≤ v) = false := decide_eq_false hv
        have hl := HS.out.1.short1 HS.out.2.1 hu64
        have hil := HS.out.2.2.1
        obtain ⟨k, rfl⟩ : ∃ k, i = k + 1 + 1 := ⟨i - 2, by omega⟩
        obtain ⟨i, hik⟩ : ∃ i, k + 1 = i := ⟨_, rfl⟩
        have gk : (i : Int) - 1 = (k : Int) := by omega
        obtain ⟨v1, cc1, cf1⟩ := HS.out.2.2.cell0 k (by omega)
        rw [hik] at HS ⊢
        have HLast := hidd (HS.out.1.last (show v < 2 by omega))
        have HW : Hid (∀ c : UInt8, c = digB v → RowSt w (wr.setCell ⟨w.heap.size, i, none⟩ (.int .u8 (c.toNat : Int))) i (digB v :: L)) := fun c hc => by rw [hc]; exact HS.out.2.2.push _
        have HG2 : Hid (∀ v, Grew w (wr.setCell ⟨w.heap.size, i, none⟩ v)) := fun v => HG.out.setCell (Nat.le_refl _) v
        obtain ⟨v0, cc, cf⟩ := HS.out.2.2.cell
        have hr36 : v < 36 := by omega
        have g6 : IntKind.u64.wrap (v : Int) = (v : Int) := by rw [IntKind.wrap_u64]; omega
        have HW2 : Hid (∀ c : UInt8, c = digB v → RowSt w ((wr.setCell ⟨w.heap.size, i, none⟩ (.int .u8 (c.toNat : Int))).setCell ⟨w.heap.size, k, none⟩ (.int .u8 45)) k (45 :: digB v :: L)) := fun c hc => RowSt.push (i := k) (by rw [hik]; exact HW.out c hc) 45
        have hx : (convert 72 9 (.slice (some ⟨w.heap.size, k, none⟩) (65 - k) (65 - k))).run Tryd.prog ((wr.setCell ⟨w.heap.size, i, none⟩ (.int .u8 (((⟨#[48, 49, 50, 51, 52, 53, 54, 55, 56, 57, 97, 98, 99, 100, 101, 102, 103, 104, 105, 106, 107, 108, 109, 110, 111, 112, 113, 114, 115, 116, 117, 118, 119, 120, 121, 122]⟩ : ByteArray)[v]'hr36).toNat : Int))).setCell ⟨w.heap.size, k, none⟩ (.int .u8 45)) = .ok (.string ⟨(45 :: digB v :: L).toArray⟩) ((wr.setCell ⟨w.heap.size, i, none⟩ (.int .u8 (((⟨#[48, 49, 50, 51, 52, 53, 54, 55, 56, 57, 97, 98, 99, 100, 101, 102, 103, 104, 105, 106, 107, 108, 109, 110, 111, 112, 113, 114, 115, 116, 117, 118, 119, 120, 121, 122]⟩ : ByteArray)[v]'hr36).toNat : Int))).setCell ⟨w.heap.size, k, none⟩ (.int .u8 45)) := (HW2.out _ (digsT_at v hr36)).text
        have hsl := fun W => slice_row w W k (by omega)
        have HG3 : Hid (∀ v v2, Grew w ((wr.setCell ⟨w.heap.size, i, none⟩ v).setCell ⟨w.heap.size, k, none⟩ v2)) := fun v v2 => (HG2.out v).setCell (Nat.le_refl _) v2
        have hk64 : k ≤ 63 := by omega
        have hi64 : i ≤ 64 := by omega
        have hi1 : 1 ≤ i := by omega
        clear hv hik
        go_wp2_with fail
        go_ret2
        refine ⟨?_, HG3.out _ _⟩
        rw [← HLast.out]; rfl
set_option maxRecDepth 100000 in
theorem isPow_4 (w : World) : Calls Tryd.prog 104 #[.int .i64 4] w fun e w' => e = .returned (.bool true) ∧ w' = w := by
  have hz : bits .and .i64 4 3 = 0 := by decide
  go_enter Tryd.func104, Tryd.ntmps104
  go_wp2_with fail
  go_ret
  exact ⟨rfl, rfl⟩
set_option maxRecDepth 100000 in
theorem tz_4 (w : World) (hz : TabZ w) : Calls Tryd.prog 105 #[.int .u64 4] w fun e w' => e = .returned (.int .i64 2) ∧ w' = w := by
  have H : Hid (Calls Tryd.prog 111 #[.int .u64 4] w fun e w' => e = .returned (.int .i64 2) ∧ w' = w) := zeros_any 4 w (by omega) (by omega) hz
  clear hz
  go_enter Tryd.func105, Tryd.ntmps105
  go_wp2_with fail
  refine H.out.mono ?_; rintro e w1 ⟨rfl, rfl⟩
  go_wp2_with fail
  go_ret
  exact ⟨rfl, rfl⟩
set_option maxRecDepth 100000 in
set_option maxHeartbeats 4000000 in
theorem fb_4 (U : Int) (u : Nat) (hu64 : u < 18446744073709551616) (hU : U = (u : Int)) (w : World) (hz : TabZ w) :
    Calls Tryd.prog 80 #[.slice none 0 0, .int .u64 U, .int .i64 4, .bool false, .bool false] w fun e w' => e = .returned (.tuple #[.slice none 0 0, .string ⟨(radix 4 u).toArray⟩]) ∧ Grew w w' := by
  have HZ := hidd (fun w1 (g : Grew w w1) => tz_4 w1 (hz.kept g))
  clear hz
  have HA := hidd ((Grew.refl w).alloc (.cells Tryd.zeroCells118 118))
  subst hU
  · go_enter Tryd.func80, Tryd.ntmps80
    go_wp2_with fail
    refine (isPow_4 _).mono ?_; rintro e w1 ⟨rfl, rfl⟩
    go_wp2_with fail
    refine (HZ.out _ HA.out).mono ?_; rintro e w1 ⟨rfl, rfl⟩
    go_wp2_with fail
    go_loopw [1, 13] (fun u1 u13  wr => ∃ (v i : Nat) (L : List UInt8), u1 = .int .u64 v ∧ u13 = .int .i64 i ∧ i ≤ 65 ∧ Hid (FmSt 4 u v L ∧ (L = [] ∨ 1 ≤ v) ∧ RowSt w wr i L) ∧ Hid (Grew w wr)) (fun u1 _  _ => (intOf u1).toNat)
    case atStart => exact ⟨u, 65, [], rfl, rfl, Nat.le_refl _, ⟨FmSt.start 4 u, Or.inl rfl, RowSt.start w⟩, (Grew.refl w).alloc _⟩
    case round =>
      obtain ⟨v, i, L, rfl, rfl, hi, HS, HG⟩ := hrel
      by_cases hv : 4 ≤ v
      · have c1 : decide ((4 : Int) ≤ (v : Int)) = true := decide_eq_true (by omega)
        have c2 : decide (4 ≤ v) = true := decide_eq_true hv
        have hl := HS.out.1.short (by omega) hu64
        have hil := HS.out.2.2.1
        obtain ⟨i, rfl⟩ : ∃ k, i = k + 1 := ⟨i - 1, by omega⟩
        have HN := hidd (HS.out.1.step (by omega) hv)
        have HQ1 : Hid (1 ≤ v / 4) := Nat.div_pos hv (by omega)
        have HQ2 := hidd (Nat.div_lt_self (show 0 < v by omega) (show 1 < 4 by omega))
        have HW : Hid (∀ c : UInt8, c = digB (v % 4) → RowSt w (wr.setCell ⟨w.heap.size, i, none⟩ (.int .u8 (c.toNat : Int))) i (digB (v % 4) :: L)) := fun c hc => by rw [hc]; exact HS.out.2.2.push _
        have HG2 : Hid (∀ v, Grew w (wr.setCell ⟨w.heap.size, i, none⟩ v)) := fun v => HG.out.setCell (Nat.le_refl _) v
        obtain ⟨v0, cc, cf⟩ := HS.out.2.2.cell
        have hrb := Nat.mod_lt v (show 0 < 4 by omega)
        have hdm := Nat.div_add_mod v 4
        have hv64 : v ≤ u := by
          have := HS.out.1.len
          have h2 : 0 < 2 ^ L.length := Nat.pow_pos (by decide)
          have := Nat.mul_le_mul_left v h2
          omega
        have g1 : (v : Int) / 4 = ((v / 4 : Nat) : Int) := rfl
        have g2 : bits .and .u64 (v : Int) 3 = ((v % 4 : Nat) : Int) := by
          have a1 := bits_and_u64_nat v 3 (by omega) (by omega)
          erw [a1]
          have h := Nat.and_two_pow_sub_one_eq_mod v 2
          rw [show (2 : Nat) ^ 2 - 1 = 3 by decide, show (2 : Nat) ^ 2 = 4 by decide] at h
          rw [h]
        obtain ⟨q, hq⟩ : ∃ q, v / 4 = q := ⟨_, rfl⟩
        obtain ⟨r, hr⟩ : ∃ r, v % 4 = r := ⟨_, rfl⟩
        rw [hq] at HN HQ1 HQ2 hdm g1
        rw [hr] at HN HW hrb hdm g2
        have g6 : IntKind.u64.wrap (r : Int) = (r : Int) := by rw [IntKind.wrap_u64]; omega
        have g5 : IntKind.u64.wrap (q : Int) = (q : Int) := by have := HQ2.out; rw [IntKind.wrap_u64]; omega
        have hr36 : r < 36 := by omega
        clear hv hq hr
        go_wp2_with fail
        go_roundw
        case rel => exact ⟨q, i, _, rfl, rfl, by omega, ⟨HN.out, Or.inr HQ1.out, HW.out _ (digsT_at r hr36)⟩, HG2.out _⟩
        case measure => simp [intOf]; exact HQ2.out
      · have c1 : decide ((4 : Int) ≤ (v : Int)) = false := decide_eq_false (by omega)
        have c2 : decide (4 ≤ v) = false := decide_eq_false hv
        have hl := HS.out.1.short1 HS.out.2.1 hu64
        have hil := HS.out.2.2.1
        obtain ⟨i, rfl⟩ : ∃ k, i = k + 1 := ⟨i - 1, by omega⟩
        have HLast := hidd (HS.out.1.last (show v < 4 by omega))
        have HW : Hid (∀ c : UInt8, c = digB v → RowSt w (wr.setCell ⟨w.heap.size, i, none⟩ (.int .u8 (c.toNat : Int))) i (digB v :: L)) := fun c hc => by rw [hc]; exact HS.out.2.2.push _
        have HG2 : Hid (∀ v, Grew w (wr.setCell ⟨w.heap.size, i, none⟩ v)) := fun v => HG.out.setCell (Nat.le_refl _) v
        obtain ⟨v0, cc, cf⟩ := HS.out.2.2.cell
        have hr36 : v < 36 := by omega
        have g6 : IntKind.u64.wrap (v : Int) = (v : Int) := by rw [IntKind.wrap_u64]; omega
        have hx : (convert 72 9 (.slice (some ⟨w.heap.size, i, none⟩) (65 - i) (65 - i))).run Tryd.prog (wr.setCell ⟨w.heap.size, i, none⟩ (.int .u8 (((⟨#[48, 49, 50, 51, 52, 53, 54, 55, 56, 57, 97, 98, 99, 100, 101, 102, 103, 104, 105, 106, 107, 108, 109, 110, 111, 112, 113, 114, 115, 116, 117, 118, 119, 120, 121, 122]⟩ : ByteArray)[v]'hr36).toNat : Int))) = .ok (.string ⟨(digB v :: L).toArray⟩) (wr.setCell ⟨w.heap.size, i, none⟩ (.int .u8 (((⟨#[48, 49, 50, 51, 52, 53, 54, 55, 56, 57, 97, 98, 99, 100, 101, 102, 103, 104, 105, 106, 107, 108, 109, 110, 111, 112, 113, 114, 115, 116, 117, 118, 119, 120, 121, 122]⟩ : ByteArray)[v]'hr36).toNat : Int))) := (HW.out _ (digsT_at v hr36)).text
        have hsl := fun W => slice_row w W i (by omega)
        clear hv
        go_wp2_with fail
        go_ret2
        refine ⟨?_, HG2.out _⟩
        rw [← HLast.out]; rfl
set_option maxRecDepth 100000 in
set_option maxHeartbeats 4000000 in
theorem fb_4_neg (U : Int) (u : Nat) (hu64 : u < 18446744073709551616) (hU : IntKind.u64.wrap (-U) = (u : Int)) (w : World) (hz : TabZ w) :
    Calls Tryd.prog 80 #[.slice none 0 0, .int .u64 U, .int .i64 4, .bool true, .bool false] w fun e w' => e = .returned (.tuple #[.slice none 0 0, .string ⟨(45 :: radix 4 u).toArray⟩]) ∧ Grew w w' := by
  have HZ := hidd (fun w1 (g : Grew w w1) => tz_4 w1 (hz.kept g))
  clear hz
  have HA := hidd ((Grew.refl w).alloc (.cells Tryd.zeroCells118 118))
  · go_enter Tryd.func80, Tryd.ntmps80
    go_wp2_with fail
    refine (isPow_4 _).mono ?_; rintro e w1 ⟨rfl, rfl⟩
    go_wp2_with fail
    refine (HZ.out _ HA.out).mono ?_; rintro e w1 ⟨rfl, rfl⟩
    go_wp2_with fail
    go_loopw [1, 13] (fun u1 u13  wr => ∃ (v i : Nat) (L : List UInt8), u1 = .int .u64 v ∧ u13 = .int .i64 i ∧ i ≤ 65 ∧ Hid (FmSt 4 u v L ∧ (L = [] ∨ 1 ≤ v) ∧ RowSt w wr i L) ∧ Hid (Grew w wr)) (fun u1 _  _ => (intOf u1).toNat)
    case atStart => exact ⟨u, 65, [], rfl, rfl, Nat.le_refl _, ⟨FmSt.start 4 u, Or.inl rfl, RowSt.start w⟩, (Grew.refl w).alloc _⟩
    case round =>
      obtain ⟨v, i, L, rfl, rfl, hi, HS, HG⟩ := hrel
      by_cases hv : 4 ≤ v
      · have c1 : decide ((4 : Int) ≤ (v : Int)) = true := decide_eq_true (by omega)
        have c2 : decide (4 ≤ v) = true := decide_eq_true hv
        have hl := HS.out.1.short (by omega) hu64
        have hil := HS.out.2.2.1
        obtain ⟨i, rfl⟩ : ∃ k, i = k + 1 := ⟨i - 1, by omega⟩
        have HN := hidd (HS.out.1.step (by omega) hv)
        have HQ1 : Hid (1 ≤ v / 4) := Nat.div_pos hv (by omega)
        have HQ2 := hidd (Nat.div_lt_self (show 0 < v by omega) (show 1 < 4 by omega))
        have HW : Hid (∀ c : UInt8, c = digB (v % 4) → RowSt w (wr.setCell ⟨w.heap.size, i, none⟩ (.int .u8 (c.toNat : Int))) i (digB (v % 4) :: L)) := fun c hc => by rw [hc]; exact HS.out.2.2.push _
        have HG2 : Hid (∀ v, Grew w (wr.setCell ⟨w.heap.size, i, none⟩ v)) := fun v => HG.out.setCell (Nat.le_refl _) v
        obtain ⟨v0, cc, cf⟩ := HS.out.2.2.cell
        have hrb := Nat.mod_lt v (show 0 < 4 by omega)
        have hdm := Nat.div_add_mod v 4
        have hv64 : v ≤ u := by
          have := HS.out.1.len
          have h2 : 0 < 2 ^ L.length := Nat.pow_pos (by decide)
          have := Nat.mul_le_mul_left v h2
          omega
        have g1 : (v : Int) / 4 = ((v / 4 : Nat) : Int) := rfl
        have g2 : bits .and .u64 (v : Int) 3 = ((v % 4 : Nat) : Int) := by
          have a1 := bits_and_u64_nat v 3 (by omega) (by omega)
          erw [a1]
          have h := Nat.and_two_pow_sub_one_eq_mod v 2
          rw [show (2 : Nat) ^ 2 - 1 = 3 by decide, show (2 : Nat) ^ 2 = 4 by decide] at h
          rw [h]
        obtain ⟨q, hq⟩ : ∃ q, v / 4 = q := ⟨_, rfl⟩
        obtain ⟨r, hr⟩ : ∃ r, v % 4 = r := ⟨_, rfl⟩
        rw [hq] at HN HQ1 HQ2 hdm g1
        rw [hr] at HN HW hrb hdm g2
        have g6 : IntKind.u64.wrap (r : Int) = (r : Int) := by rw [IntKind.wrap_u64]; omega
        have g5 : IntKind.u64.wrap (q : Int) = (q : Int) := by have := HQ2.out; rw [IntKind.wrap_u64]; omega
        have hr36 : r < 36 := by omega
        clear hv hq hr
        go_wp2_with fail
        go_roundw
        case rel => exact ⟨q, i, _, rfl, rfl, by omega, ⟨HN.out, Or.inr HQ1.out, HW.out _ (digsT_at r hr36)⟩, HG2.out _⟩
        case measure => simp [intOf]; exact HQ2.out
      · have c1 : decide ((4 : Int) ≤ (v : Int)) = false := decide_eq_false (by omega)
        have c2 : decide (4 ≤ v) = false := decide_eq_false hv
        have hl := HS.out.1.short1 HS.out.2.1 hu64
        have hil := HS.out.2.2.1
        obtain ⟨k, rfl⟩ : ∃ k, i = k + 1 + 1 := ⟨i - 2, by omega⟩
        obtain ⟨i, hik⟩ : ∃ i, k + 1 = i := ⟨_, rfl⟩
        have gk : (i : Int) - 1 = (k : Int) := by omega
        obtain ⟨v1, cc1, cf1⟩ := HS.out.2.2.cell0 k (by omega)
        rw [hik] at HS ⊢
        have HLast := hidd (HS.out.1.last (show v < 4 by omega))
        have HW : Hid (∀ c : UInt8, c = digB v → RowSt w (wr.setCell ⟨w.heap.size, i, none⟩ (.int .u8 (c.toNat : Int))) i (digB v :: L)) := fun c hc => by rw [hc]; exact HS.out.2.2.push _
        have HG2 : Hid (∀ v, Grew w (wr.setCell ⟨w.heap.size, i, none⟩ v)) := fun v => HG.out.setCell (Nat.le_refl _) v
        obtain ⟨v0, cc, cf⟩ := HS.out.2.2.cell
        have hr36 : v < 36 := by omega
        have g6 : IntKind.u64.wrap (v : Int) = (v : Int) := by rw [IntKind.wrap_u64]; omega
        have HW2 : Hid (∀ c : UInt8, c = digB v → RowSt w ((wr.setCell ⟨w.heap.size, i, none⟩ (.int .u8 (c.toNat : Int))).setCell ⟨w.heap.size, k, none⟩ (.int .u8 45)) k (45 :: digB v :: L)) := fun c hc => RowSt.push (i := k) (by rw [hik]; exact HW.out c hc) 45
        have hx : (convert 72 9 (.slice (some ⟨w.heap.size, k, none⟩) (65 - k) (65 - k))).run Tryd.prog ((wr.setCell ⟨w.heap.size, i, none⟩ (.int .u8 (((⟨#[48, 49, 50, 51, 52, 53, 54, 55, 56, 57, 97, 98, 99, 100, 101, 102, 103, 104, 105, 106, 107, 108, 109, 110, 111, 112, 113, 114, 115, 116, 117, 118, 119, 120, 121, 122]⟩ : ByteArray)[v]'hr36).toNat : Int))).setCell ⟨w.heap.size, k, none⟩ (.int .u8 45)) = .ok (.string ⟨(45 :: digB v :: L).toArray⟩) ((wr.setCell ⟨w.heap.size, i, none⟩ (.int .u8 (((⟨#[48, 49, 50, 51, 52, 53, 54, 55, 56, 57, 97, 98, 99, 100, 101, 102, 103, 104, 105, 106, 107, 108, 109, 110, 111, 112, 113, 114, 115, 116, 117, 118, 119, 120, 121, 122]⟩ : ByteArray)[v]'hr36).toNat : Int))).setCell ⟨w.heap.size, k, none⟩ (.int .u8 45)) := (HW2.out _ (digsT_at v hr36)).text
        have hsl := fun W => slice_row w W k (by omega)
        have HG3 : Hid (∀ v v2, Grew w ((wr.setCell ⟨w.heap.size, i, none⟩ v).setCell ⟨w.heap.size, k, none⟩ v2)) := fun v v2 => (HG2.out v).setCell (Nat.le_refl _) v2
        have hk64 : k ≤ 63 := by omega
        have hi64 : i ≤ 64 := by omega
        have hi1 : 1 ≤ i := by omega
        clear hv hik
        go_wp2_with fail
        go_ret2
        refine ⟨?_, HG3.out _ _⟩
        rw [← HLast.out]; rfl
set_option maxRecDepth 100000 in
theorem isPow_8 (w : World) : Calls Tryd.prog 104 #[.int .i64 8] w fun e w' => e = .returned (.bool true) ∧ w' = w := by
  have hz : bits .and .i64 8 7 = 0 := by decide
  go_enter Tryd.func104, Tryd.ntmps104
  go_wp2_with fail
  go_ret
  exact ⟨rfl, rfl⟩
set_option maxRecDepth 100000 in
theorem tz_8 (w : World) (hz : TabZ w) : Calls Tryd.prog 105 #[.int .u64 8] w fun e w' => e = .returned (.int .i64 3) ∧ w' = w := by
  have H : Hid (Calls Tryd.prog 111 #[.int .u64 8] w fun e w' => e = .returned (.int .i64 3) ∧ w' = w) := zeros_any 8 w (by omega) (by omega) hz
  clear hz
  go_enter Tryd.func105, Tryd.ntmps105
  go_wp2_with fail
  refine H.out.mono ?_; rintro e w1 ⟨rfl, rfl⟩
  go_wp2_with fail
  go_ret
  exact ⟨rfl, rfl⟩
set_option maxRecDepth 100000 in
set_option maxHeartbeats 4000000 in
theorem fb_8 (U : Int) (u : Nat) (hu64 : u < 18446744073709551616) (hU : U = (u : Int)) (w : World) (hz : TabZ w) :
    Calls Tryd.prog 80 #[.slice none 0 0, .int .u64 U, .int .i64 8, .bool false, .bool false] w fun e w' => e = .returned (.tuple #[.slice none 0 0, .string ⟨(radix 8 u).toArray⟩]) ∧ Grew w w' := by
  have HZ := hidd (fun w1 (g : Grew w w1) => tz_8 w1 (hz.kept g))
  clear hz
  have HA := hidd ((Grew.refl w).alloc (.cells Tryd.zeroCells118 118))
  subst hU
  · go_enter Tryd.func80, Tryd.ntmps80
    go_wp2_with fail
    refine (isPow_8 _).mono ?_; rintro e w1 ⟨rfl, rfl⟩
    go_wp2_with fail
    refine (HZ.out _ HA.out).mono ?_; rintro e w1 ⟨rfl, rfl⟩
    go_wp2_with fail
    go_loopw [1, 13] (fun u1 u13  wr => ∃ (v i : Nat) (L : List UInt8), u1 = .int .u64 v ∧ u13 = .int .i64 i ∧ i ≤ 65 ∧ Hid (FmSt 8 u v L ∧ (L = [] ∨ 1 ≤ v) ∧ RowSt w wr i L) ∧ Hid (Grew w wr)) (fun u1 _  _ => (intOf u1).toNat)
    case atStart => exact ⟨u, 65, [], rfl, rfl, Nat.le_refl _, ⟨FmSt.start 8 u, Or.inl rfl, RowSt.start w⟩, (Grew.refl w).alloc _⟩
    case round =>
      obtain ⟨v, i, L, rfl, rfl, hi, HS, HG⟩ := hrel
      by_cases hv : 8 ≤ v
      · have c1 : decide ((8 : Int) ≤ (v : Int)) = true := decide_eq_true (by omega)
        have c2 : decide (8 ≤ v) = true := decide_eq_true hv
        have hl := HS.out.1.short (by omega) hu64
        have hil := HS.out.2.2.1
        obtain ⟨i, rfl⟩ : ∃ k, i = k + 1 := ⟨i - 1, by omega⟩
        have HN := hidd (HS.out.1.step (by omega) hv)
        have HQ1 : Hid (1 ≤ v / 8) := Nat.div_pos hv (by omega)
        have HQ2 := hidd (Nat.div_lt_self (show 0 < v by omega) (show 1 < 8 by omega))
        have HW : Hid (∀ c : UInt8, c = digB (v % 8) → RowSt w (wr.setCell ⟨w.heap.size, i, none⟩ (.int .u8 (c.toNat : Int))) i (digB (v % 8) :: L)) := fun c hc => by rw [hc]; exact HS.out.2.2.push _
        have HG2 : Hid (∀ v, Grew w (wr.setCell ⟨w.heap.size, i, none⟩ v)) := fun v => HG.out.setCell (Nat.le_refl _) v
        obtain ⟨v0, cc, cf⟩ := HS.out.2.2.cell
        have hrb := Nat.mod_lt v (show 0 < 8 by omega)
        have hdm := Nat.div_add_mod v 8
        have hv64 : v ≤ u := by
          have := HS.out.1.len
          have h2 : 0 < 2 ^ L.length := Nat.pow_pos (by decide)
          have := Nat.mul_le_mul_left v h2
          omega
        have g1 : (v : Int) / 8 = ((v / 8 : Nat) : Int) := rfl
        have g2 : bits .and .u64 (v : Int) 7 = ((v % 8 : Nat) : Int) := by
          have a1 := bits_and_u64_nat v 7 (by omega) (by omega)
          erw [a1]
          have h := Nat.and_two_pow_sub_one_eq_mod v 3
          rw [show (2 : Nat) ^ 3 - 1 = 7 by decide, show (2 : Nat) ^ 3 = 8 by decide] at h
          rw [h]
        obtain ⟨q, hq⟩ : ∃ q, v / 8 = q := ⟨_, rfl⟩
        obtain ⟨r, hr⟩ : ∃ r, v % 8 = r := ⟨_, rfl⟩
        rw [hq] at HN HQ1 HQ2 hdm g1
        rw [hr] at HN HW hrb hdm g2
        have g6 : IntKind.u64.wrap (r : Int) = (r : Int) := by rw [IntKind.wrap_u64]; omega
        have g5 : IntKind.u64.wrap (q : Int) = (q : Int) := by have := HQ2.out; rw [IntKind.wrap_u64]; omega
        have hr36 : r < 36 := by omega
        clear hv hq hr
        go_wp2_with fail
        go_roundw
        case rel => exact ⟨q, i, _, rfl, rfl, by omega, ⟨HN.out, Or.inr HQ1.out, HW.out _ (digsT_at r hr36)⟩, HG2.out _⟩
        case measure => simp [intOf]; exact HQ2.out
      · have c1 : decide ((8 : Int) ≤ (v : Int)) = false := decide_eq_false (by omega)
        have c2 : decide (8 ≤ v) = false := decide_eq_false hv
        have hl := HS.out.1.short1 HS.out.2.1 hu64
        have hil := HS.out.2.2.1
        obtain ⟨i, rfl⟩ : ∃ k, i = k + 1 := ⟨i - 1, by omega⟩
        have HLast := hidd (HS.out.1.last (show v < 8 by omega))
        have HW : Hid (∀ c : UInt8, c = digB v → RowSt w (wr.setCell ⟨w.heap.size, i, none⟩ (.int .u8 (c.toNat : Int))) i (digB v :: L)) := fun c hc => by rw [hc]; exact HS.out.2.2.push _
        have HG2 : Hid (∀ v, Grew w (wr.setCell ⟨w.heap.size, i, none⟩ v)) := fun v => HG.out.setCell (Nat.le_refl _) v
        obtain ⟨v0, cc, cf⟩ := HS.out.2.2.cell
        have hr36 : v < 36 := by omega
        have g6 : IntKind.u64.wrap (v : Int) = (v : Int) := by rw [IntKind.wrap_u64]; omega
        have hx : (convert 72 9 (.slice (some ⟨w.heap.size, i, none⟩) (65 - i) (65 - i))).run Tryd.prog (wr.setCell ⟨w.heap.size, i, none⟩ (.int .u8 (((⟨#[48, 49, 50, 51, 52, 53, 54, 55, 56, 57, 97, 98, 99, 100, 101, 102, 103, 104, 105, 106, 107, 108, 109, 110, 111, 112, 113, 114, 115, 116, 117, 118, 119, 120, 121, 122]⟩ : ByteArray)[v]'hr36).toNat : Int))) = .ok (.string ⟨(digB v :: L).toArray⟩) (wr.setCell ⟨w.heap.size, i, none⟩ (.int .u8 (((⟨#[48, 49, 50, 51, 52, 53, 54, 55, 56, 57, 97, 98, 99, 100, 101, 102, 103, 104, 105, 106, 107, 108, 109, 110, 111, 112, 113, 114, 115, 116, 117, 118, 119, 120, 121, 122]⟩ : ByteArray)[v]'hr36).toNat : Int))) := (HW.out _ (digsT_at v hr36)).text
        have hsl := fun W => slice_row w W i (by omega)
        clear hv
        go_wp2_with fail
        go_ret2
        refine ⟨?_, HG2.out _⟩
        rw [← HLast.out]; rfl
set_option maxRecDepth 100000 in
set_option maxHeartbeats 4000000 in
theorem fb_8_neg (U : Int) (u : Nat) (hu64 : u < 18446744073709551616) (hU : IntKind.u64.wrap (-U) = (u : Int)) (w : World) (hz : TabZ w) :
    Calls Tryd.prog 80 #[.slice none 0 0, .int .u64 U, .int .i64 8, .bool true, .bool false] w fun e w' => e = .returned (.tuple #[.slice none 0 0, .string ⟨(45 :: radix 8 u).toArray⟩]) ∧ Grew w w' := by
  have HZ := hidd (fun w1 (g : Grew w w1) => tz_8 w1 (hz.kept g))
  clear hz
  have HA := hidd ((Grew.refl w).alloc (.cells Tryd.zeroCells118 118))
  · go_enter Tryd.func80, Tryd.ntmps80
    go_wp2_with fail
    refine (isPow_8 _).mono ?_; rintro e w1 ⟨rfl, rfl⟩
    go_wp2_with fail
    refine (HZ.out _ HA.out).mono ?_; rintro e w1 ⟨rfl, rfl⟩
    go_wp2_with fail
    go_loopw [1, 13] (fun u1 u13  wr => ∃ (v i : Nat) (L : List UInt8), u1 = .int .u64 v ∧ u13 = .int .i64 i ∧ i ≤ 65 ∧ Hid (FmSt 8 u v L ∧ (L = [] ∨ 1 ≤ v) ∧ RowSt w wr i L) ∧ Hid (Grew w wr)) (fun u1 _  _ => (intOf u1).toNat)
    case atStart => exact ⟨u, 65, [], rfl, rfl, Nat.le_refl _, ⟨FmSt.start 8 u, Or.inl rfl, RowSt.start w⟩, (Grew.refl w).alloc _⟩
    case round =>
      obtain ⟨v, i, L, rfl, rfl, hi, HS, HG⟩ := hrel
      by_cases hv : 8 ≤ v
      · have c1 : decide ((8 : Int) ≤ (v : Int)) = true := decide_eq_true (by omega)
        have c2 : decide (8 ≤ v) = true := decide_eq_true hv
        have hl := HS.out.1.short (by omega) hu64
        have hil := HS.out.2.2.1
        obtain ⟨i, rfl⟩ : ∃ k, i = k + 1 := ⟨i - 1, by omega⟩
        have HN := hidd (HS.out.1.step (by omega) hv)
        have HQ1 : Hid (1 ≤ v / 8) := Nat.div_pos hv (by omega)
        have HQ2 := hidd (Nat.div_lt_self (show 0 < v by omega) (show 1 < 8 by omega))
        have HW : Hid (∀ c : UInt8, c = digB (v % 8) → RowSt w (wr.setCell ⟨w.heap.size, i, none⟩ (.int .u8 (c.toNat : Int))) i (digB (v % 8) :: L)) := fun c hc => by rw [hc]; exact HS.out.2.2.push _
        have HG2 : Hid (∀ v, Grew w (wr.setCell ⟨w.heap.size, i, none⟩ v)) := fun v => HG.out.setCell (Nat.le_refl _) v
        obtain ⟨v0, cc, cf⟩ := HS.out.2.2.cell
        have hrb := Nat.mod_lt v (show 0 < 8 by omega)
        have hdm := Nat.div_add_mod v 8
        have hv64 : v ≤ u := by
          have := HS.out.1.len
          have h2 : 0 < 2 ^ L.length := Nat.pow_pos (by decide)
          have := Nat.mul_le_mul_left v h2
          omega
        have g1 : (v : Int) / 8 = ((v / 8 : Nat) : Int) := rfl
        have g2 : bits .and .u64 (v : Int) 7 = ((v % 8 : Nat) : Int) := by
          have a1 := bits_and_u64_nat v 7 (by omega) (by omega)
          erw [a1]
          have h := Nat.and_two_pow_sub_one_eq_mod v 3
          rw [show (2 : Nat) ^ 3 - 1 = 7 by decide, show (2 : Nat) ^ 3 = 8 by decide] at h
          rw [h]
        obtain ⟨q, hq⟩ : ∃ q, v / 8 = q := ⟨_, rfl⟩
        obtain ⟨r, hr⟩ : ∃ r, v % 8 = r := ⟨_, rfl⟩
        rw [hq] at HN HQ1 HQ2 hdm g1
        rw [hr] at HN HW hrb hdm g2
        have g6 : IntKind.u64.wrap (r : Int) = (r : Int) := by rw [IntKind.wrap_u64]; omega
        have g5 : IntKind.u64.wrap (q : Int) = (q : Int) := by have := HQ2.out; rw [IntKind.wrap_u64]; omega
        have hr36 : r < 36 := by omega
        clear hv hq hr
        go_wp2_with fail
        go_roundw
        case rel => exact ⟨q, i, _, rfl, rfl, by omega, ⟨HN.out, Or.inr HQ1.out, HW.out _ (digsT_at r hr36)⟩, HG2.out _⟩
        case measure => simp [intOf]; exact HQ2.out
      · have c1 : decide ((8 : Int) ≤ (v : Int)) = false := decide_eq_false (by omega)
        have c2 : decide (8 ≤ v) = false := decide_eq_false hv
        have hl := HS.out.1.short1 HS.out.2.1 hu64
        have hil := HS.out.2.2.1
        obtain ⟨k, rfl⟩ : ∃ k, i = k + 1 + 1 := ⟨i - 2, by omega⟩
        obtain ⟨i, hik⟩ : ∃ i, k + 1 = i := ⟨_, rfl⟩
        have gk : (i : Int) - 1 = (k : Int) := by omega
        obtain ⟨v1, cc1, cf1⟩ := HS.out.2.2.cell0 k (by omega)
        rw [hik] at HS ⊢
        have HLast := hidd (HS.out.1.last (show v < 8 by omega))
        have HW : Hid (∀ c : UInt8, c = digB v → RowSt w (wr.setCell ⟨w.heap.size, i, none⟩ (.int .u8 (c.toNat : Int))) i (digB v :: L)) := fun c hc => by rw [hc]; exact HS.out.2.2.push _
        have HG2 : Hid (∀ v, Grew w (wr.setCell ⟨w.heap.size, i, none⟩ v)) := fun v => HG.out.setCell (Nat.le_refl _) v
        obtain ⟨v0, cc, cf⟩ := HS.out.2.2.cell
        have hr36 : v < 36 := by omega
        have g6 : IntKind.u64.wrap (v : Int) = (v : Int) := by rw [IntKind.wrap_u64]; omega
        have HW2 : Hid (∀ c : UInt8, c = digB v → RowSt w ((wr.setCell ⟨w.heap.size, i, none⟩ (.int .u8 (c.toNat : Int))).setCell ⟨w.heap.size, k, none⟩ (.int .u8 45)) k (45 :: digB v :: L)) := fun c hc => RowSt.push (i := k) (by rw [hik]; exact HW.out c hc) 45
        have hx : (convert 72 9 (.slice (some ⟨w.heap.size, k, none⟩) (65 - k) (65 - k))).run Tryd.prog ((wr.setCell ⟨w.heap.size, i, none⟩ (.int .u8 (((⟨#[48, 49, 50, 51, 52, 53, 54, 55, 56, 57, 97, 98, 99, 100, 101, 102, 103, 104, 105, 106, 107, 108, 109, 110, 111, 112, 113, 114, 115, 116, 117, 118, 119, 120, 121, 122]⟩ : ByteArray)[v]'hr36).toNat : Int))).setCell ⟨w.heap.size, k, none⟩ (.int .u8 45)) = .ok (.string ⟨(45 :: digB v :: L).toArray⟩) ((wr.setCell ⟨w.heap.size, i, none⟩ (.int .u8 (((⟨#[48, 49, 50, 51, 52, 53, 54, 55, 56, 57, 97, 98, 99, 100, 101, 102, 103, 104, 105, 106, 107, 108, 109, 110, 111, 112, 113, 114, 115, 116, 117, 118, 119, 120, 121, 122]⟩ : ByteArray)[v]'hr36).toNat : Int))).setCell ⟨w.heap.size, k, none⟩ (.int .u8 45)) := (HW2.out _ (digsT_at v hr36)).text
        have hsl := fun W => slice_row w W k (by omega)
        have HG3 : Hid (∀ v v2, Grew w ((wr.setCell ⟨w.heap.size, i, none⟩ v).setCell ⟨w.heap.size, k, none⟩ v2)) := fun v v2 => (HG2.out v).setCell (Nat.le_refl _) v2
        have hk64 : k ≤ 63 := by omega
        have hi64 : i ≤ 64 := by omega
        have hi1 : 1 ≤ i := by omega
        clear hv hik
        go_wp2_with fail
        go_ret2
        refine ⟨?_, HG3.out _ _⟩
        rw [← HLast.out]; rfl
set_option maxRecDepth 100000 in
theorem isPow_16 (w : World) : Calls Tryd.prog 104 #[.int .i64 16] w fun e w' => e = .returned (.bool true) ∧ w' = w := by
  have hz : bits .and .i64 16 15 = 0 := by decide
  go_enter Tryd.func104, Tryd.ntmps104
  go_wp2_with fail
  go_ret
  exact ⟨rfl, rfl⟩
set_option maxRecDepth 100000 in
theorem tz_16 (w : World) (hz : TabZ w) : Calls Tryd.prog 105 #[.int .u64 16] w fun e w' => e = .returned (.int .i64 4) ∧ w' = w := by
  have H : Hid (Calls Tryd.prog 111 #[.int .u64 16] w fun e w' => e = .returned (.int .i64 4) ∧ w' = w) := zeros_any 16 w (by omega) (by omega) hz
  clear hz
  go_enter Tryd.func105, Tryd.ntmps105
  go_wp2_with fail
  refine H.out.mono ?_; rintro e w1 ⟨rfl, rfl⟩
  go_wp2_with fail
  go_ret
  exact ⟨rfl, rfl⟩
set_option maxRecDepth 100000 in
set_option maxHeartbeats 4000000 in
theorem fb_16 (U : Int) (u : Nat) (hu64 : u < 18446744073709551616) (hU : U = (u : Int)) (w : World) (hz : TabZ w) :
    Calls Tryd.prog 80 #[.slice none 0 0, .int .u64 U, .int .i64 16, .bool false, .bool false] w fun e w' => e = .returned (.tuple #[.slice none 0 0, .string ⟨(radix 16 u).toArray⟩]) ∧ Grew w w' := by
  have HZ := hidd (fun w1 (g : Grew w w1) => tz_16 w1 (hz.kept g))
  clear hz
  have HA := hidd ((Grew.refl w).alloc (.cells Tryd.zeroCells118 118))
  subst hU
  · go_enter Tryd.func80, Tryd.ntmps80
    go_wp2_with fail
    refine (isPow_16 _).mono ?_; rintro e w1 ⟨rfl, rfl⟩
    go_wp2_with fail
    refine (HZ.out _ HA.out).mono ?_; rintro e w1 ⟨rfl, rfl⟩
    go_wp2_with fail
    go_loopw [1, 13] (fun u1 u13  wr => ∃ (v i : Nat) (L : List UInt8), u1 = .int .u64 v ∧ u13 = .int .i64 i ∧ i ≤ 65 ∧ Hid (FmSt 16 u v L ∧ (L = [] ∨ 1 ≤ v) ∧ RowSt w wr i L) ∧ Hid (Grew w wr)) (fun u1 _  _ => (intOf u1).toNat)
    case atStart => exact ⟨u, 65, [], rfl, rfl, Nat.le_refl _, ⟨FmSt.start 16 u, Or.inl rfl, RowSt.start w⟩, (Grew.refl w).alloc _⟩
    case round =>
      obtain ⟨v, i, L, rfl, rfl, hi, HS, HG⟩ := hrel
      by_cases hv : 16 ≤ v
      · have c1 : decide ((16 : Int) ≤ (v : Int)) = true := decide_eq_true (by omega)
        have c2 : decide (16 ≤ v) = true := decide_eq_true hv
        have hl := HS.out.1.short (by omega) hu64
        have hil := HS.out.2.2.1
        obtain ⟨i, rfl⟩ : ∃ k, i = k + 1 := ⟨i - 1, by omega⟩
        have HN := hidd (HS.out.1.step (by omega) hv)
        have HQ1 : Hid (1 ≤ v / 16) := Nat.div_pos hv (by omega)
        have HQ2 := hidd (Nat.div_lt_self (show 0 < v by omega) (show 1 < 16 by omega))
        have HW : Hid (∀ c : UInt8, c = digB (v % 16) → RowSt w (wr.setCell ⟨w.heap.size, i, none⟩ (.int .u8 (c.toNat : Int))) i (digB (v % 16) :: L)) := fun c hc => by rw [hc]; exact HS.out.2.2.push _
        have HG2 : Hid (∀ v, Grew w (wr.setCell ⟨w.heap.size, i, none⟩ v)) := fun v => HG.out.setCell (Nat.le_refl _) v
        obtain ⟨v0, cc, cf⟩ := HS.out.2.2.cell
        have hrb := Nat.mod_lt v (show 0 < 16 by omega)
        have hdm := Nat.div_add_mod v 16
        have hv64 : v ≤ u := by
          have := HS.out.1.len
          have h2 : 0 < 2 ^ L.length := Nat.pow_pos (by decide)
          have := Nat.mul_le_mul_left v h2
          omega
        have g1 : (v : Int) / 16 = ((v / 16 : Nat) : Int) := rfl
        have g2 : bits .and .u64 (v : Int) 15 = ((v % 16 : Nat) : Int) := by
          have a1 := bits_and_u64_nat v 15 (by omega) (by omega)
          erw [a1]
          have h := Nat.and_two_pow_sub_one_eq_mod v 4
          rw [show (2 : Nat) ^ 4 - 1 = 15 by decide, show (2 : Nat) ^ 4 = 16 by decide] at h
          rw [h]
        obtain ⟨q, hq⟩ : ∃ q, v / 16 = q := ⟨_, rfl⟩
        obtain ⟨r, hr⟩ : ∃ r, v % 16 = r := ⟨_, rfl⟩
        rw [hq] at HN HQ1 HQ2 hdm g1
        rw [hr] at HN HW hrb hdm g2
        have g6 : IntKind.u64.wrap (r : Int) = (r : Int) := by rw [IntKind.wrap_u64]; omega
        have g5 : IntKind.u64.wrap (q : Int) = (q : Int) := by have := HQ2.out; rw [IntKind.wrap_u64]; omega
        have hr36 : r < 36 := by omega
        clear hv hq hr
        go_wp2_with fail
        go_roundw
        case rel => exact ⟨q, i, _, rfl, rfl, by omega, ⟨HN.out, Or.inr HQ1.out, HW.out _ (digsT_at r hr36)⟩, HG2.out _⟩
        case measure => simp [intOf]; exact HQ2.out
      · have c1 : decide ((16 : Int) ≤ (v : Int)) = false := decide_eq_false (by omega)
        have c2 : decide (16 ≤ v) = false := decide_eq_false hv
        have hl := HS.out.1.short1 HS.out.2.1 hu64
        have hil := HS.out.2.2.1
        obtain ⟨i, rfl⟩ : ∃ k, i = k + 1 := ⟨i - 1, by omega⟩
        have HLast := hidd (HS.out.1.last (show v < 16 by omega))
        have HW : Hid (∀ c : UInt8, c = digB v → RowSt w (wr.setCell ⟨w.heap.size, i, none⟩ (.int .u8 (c.toNat : Int))) i (digB v :: L)) := fun c hc => by rw [hc]; exact HS.out.2.2.push _
        have HG2 : Hid (∀ v, Grew w (wr.setCell ⟨w.heap.size, i, none⟩ v)) := fun v => HG.out.setCell (Nat.le_refl _) v
        obtain ⟨v0, cc, cf⟩ := HS.out.2.2.cell
        have hr36 : v < 36 := by omega
        have g6 : IntKind.u64.wrap (v : Int) = (v : Int) := by rw [IntKind.wrap_u64]; omega
        have hx : (convert 72 9 (.slice (some ⟨w.heap.size, i, none⟩) (65 - i) (65 - i))).run Tryd.prog (wr.setCell ⟨w.heap.size, i, none⟩ (.int .u8 (((⟨#[48, 49, 50, 51, 52, 53, 54, 55, 56, 57, 97, 98, 99, 100, 101, 102, 103, 104, 105, 106, 107, 108, 109, 110, 111, 112, 113, 114, 115, 116, 117, 118, 119, 120, 121, 122]⟩ : ByteArray)[v]'hr36).toNat : Int))) = .ok (.string ⟨(digB v :: L).toArray⟩) (wr.setCell ⟨w.heap.size, i, none⟩ (.int .u8 (((⟨#[48, 49, 50, 51, 52, 53, 54, 55, 56, 57, 97, 98, 99, 100, 101, 102, 103, 104, 105, 106, 107, 108, 109, 110, 111, 112, 113, 114, 115, 116, 117, 118, 119, 120, 121, 122]⟩ : ByteArray)[v]'hr36).toNat : Int))) := (HW.out _ (digsT_at v hr36)).text
        have hsl := fun W => slice_row w W i (by omega)
        clear hv
        go_wp2_with fail
        go_ret2
        refine ⟨?_, HG2.out _⟩
        rw [← HLast.out]; rfl
set_option maxRecDepth 100000 in
set_option maxHeartbeats 4000000 in
theorem fb_16_neg (U : Int) (u : Nat) (hu64 : u < 18446744073709551616) (hU : IntKind.u64.wrap (-U) = (u : Int)) (w : World) (hz : TabZ w) :
    Calls Tryd.prog 80 #[.slice none 0 0, .int .u64 U, .int .i64 16, .bool true, .bool false] w fun e w' => e = .returned (.tuple #[.slice none 0 0, .string ⟨(45 :: radix 16 u).toArray⟩]) ∧ Grew w w' := by
  have HZ := hidd (fun w1 (g : Grew w w1) => tz_16 w1 (hz.kept g))
  clear hz
  have HA := hidd ((Grew.refl w).alloc (.cells Tryd.zeroCells118 118))
  · go_enter Tryd.func80, Tryd.ntmps80
    go_wp2_with fail
    refine (isPow_16 _).mono ?_; rintro e w1 ⟨rfl, rfl⟩
    go_wp2_with fail
    refine (HZ.out _ HA.out).mono ?_; rintro e w1 ⟨rfl, rfl⟩
    go_wp2_with fail
    go_loopw [1, 13] (fun u1 u13  wr => ∃ (v i : Nat) (L : List UInt8), u1 = .int .u64 v ∧ u13 = .int .i64 i ∧ i ≤ 65 ∧ Hid (FmSt 16 u v L ∧ (L = [] ∨ 1 ≤ v) ∧ RowSt w wr i L) ∧ Hid (Grew w wr)) (fun u1 _  _ => (intOf u1).toNat)
    case atStart => exact ⟨u, 65, [], rfl, rfl, Nat.le_refl _, ⟨FmSt.start 16 u, Or.inl rfl, RowSt.start w⟩, (Grew.refl w).alloc _⟩
    case round =>
      obtain ⟨v, i, L, rfl, rfl, hi, HS, HG⟩ := hrel
      by_cases hv : 16 ≤ v
      · have c1 : decide ((16 : Int) ≤ (v : Int)) = true := decide_eq_true (by omega)
        have c2 : decide (16 ≤ v) = true := decide_eq_true hv
        have hl := HS.out.1.short (by omega) hu64
        have hil := HS.out.2.2.1
        obtain ⟨i, rfl⟩ : ∃ k, i = k + 1 := ⟨i - 1, by omega⟩
        have HN := hidd (HS.out.1.step (by omega) hv)
        have HQ1 : Hid (1 ≤ v / 16) := Nat.div_pos hv (by omega)
        have HQ2 := hidd (Nat.div_lt_self (show 0 < v by omega) (show 1 < 16 by omega))
        have HW : Hid (∀ c : UInt8, c = digB (v % 16) → RowSt w (wr.setCell ⟨w.heap.size, i, none⟩ (.int .u8 (c.toNat : Int))) i (digB (v % 16) :: L)) := fun c hc => by rw [hc]; exact HS.out.2.2.push _
        have HG2 : Hid (∀ v, Grew w (wr.setCell ⟨w.heap.size, i, none⟩ v)) := fun v => HG.out.setCell (Nat.le_refl _) v
        obtain ⟨v0, cc, cf⟩ := HS.out.2.2.cell
        have hrb := Nat.mod_lt v (show 0 < 16 by omega)
        have hdm := Nat.div_add_mod v 16
        have hv64 : v ≤ u := by
          have := HS.out.1.len
          have h2 : 0 < 2 ^ L.length := Nat.pow_pos (by decide)
          have := Nat.mul_le_mul_left v h2
          omega
        have g1 : (v : Int) / 16 = ((v / 16 : Nat) : Int) := rfl
        have g2 : bits .and .u64 (v : Int) 15 = ((v % 16 : Nat) : Int) := by
          have a1 := bits_and_u64_nat v 15 (by omega) (by omega)
          erw [a1]
          have h := Nat.and_two_pow_sub_one_eq_mod v 4
          rw [show (2 : Nat) ^ 4 - 1 = 15 by decide, show (2 : Nat) ^ 4 = 16 by decide] at h
          rw [h]
        obtain ⟨q, hq⟩ : ∃ q, v / 16 = q := ⟨_, rfl⟩
        obtain ⟨r, hr⟩ : ∃ r, v % 16 = r := ⟨_, rfl⟩
        rw [hq] at HN HQ1 HQ2 hdm g1
        rw [hr] at HN HW hrb hdm g2
        have g6 : IntKind.u64.wrap (r : Int) = (r : Int) := by rw [IntKind.wrap_u64]; omega
        have g5 : IntKind.u64.wrap (q : Int) = (q : Int) := by have := HQ2.out; rw [IntKind.wrap_u64]; omega
        have hr36 : r < 36 := by omega
        clear hv hq hr
        go_wp2_with fail
        go_roundw
        case rel => exact ⟨q, i, _, rfl, rfl, by omega, ⟨HN.out, Or.inr HQ1.out, HW.out _ (digsT_at r hr36)⟩, HG2.out _⟩
        case measure => simp [intOf]; exact HQ2.out
      · have c1 : decide ((16 : Int) ≤ (v : Int)) = false := decide_eq_false (by omega)
        have c2 : decide (16 ≤ v) = false := decide_eq_false hv
        have hl := HS.out.1.short1 HS.out.2.1 hu64
        have hil := HS.out.2.2.1
        obtain ⟨k, rfl⟩ : ∃ k, i = k + 1 + 1 := ⟨i - 2, by omega⟩
        obtain ⟨i, hik⟩ : ∃ i, k + 1 = i := ⟨_, rfl⟩
        have gk : (i : Int) - 1 = (k : Int) := by omega
        obtain ⟨v1, cc1, cf1⟩ := HS.out.2.2.cell0 k (by omega)
        rw [hik] at HS ⊢
        have HLast := hidd (HS.out.1.last (show v < 16 by omega))
        have HW : Hid (∀ c : UInt8, c = digB v → RowSt w (wr.setCell ⟨w.heap.size, i, none⟩ (.int .u8 (c.toNat : Int))) i (digB v :: L)) := fun c hc => by rw [hc]; exact HS.out.2.2.push _
        have HG2 : Hid (∀ v, Grew w (wr.setCell ⟨w.heap.size, i, none⟩ v)) := fun v => HG.out.setCell (Nat.le_refl _) v
        obtain ⟨v0, cc, cf⟩ := HS.out.2.2.cell
        have hr36 : v < 36 := by omega
        have g6 : IntKind.u64.wrap (v : Int) = (v : Int) := by rw [IntKind.wrap_u64]; omega
        have HW2 : Hid (∀ c : UInt8, c = digB v → RowSt w ((wr.setCell ⟨w.heap.size, i, none⟩ (.int .u8 (c.toNat : Int))).setCell ⟨w.heap.size, k, none⟩ (.int .u8 45)) k (45 :: digB v :: L)) := fun c hc => RowSt.push (i := k) (by rw [hik]; exact HW.out c hc) 45
        have hx : (convert 72 9 (.slice (some ⟨w.heap.size, k, none⟩) (65 - k) (65 - k))).run Tryd.prog ((wr.setCell ⟨w.heap.size, i, none⟩ (.int .u8 (((⟨#[48, 49, 50, 51, 52, 53, 54, 55, 56, 57, 97, 98, 99, 100, 101, 102, 103, 104, 105, 106, 107, 108, 109, 110, 111, 112, 113, 114, 115, 116, 117, 118, 119, 120, 121, 122]⟩ : ByteArray)[v]'hr36).toNat : Int))).setCell ⟨w.heap.size, k, none⟩ (.int .u8 45)) = .ok (.string ⟨(45 :: digB v :: L).toArray⟩) ((wr.setCell ⟨w.heap.size, i, none⟩ (.int .u8 (((⟨#[48, 49, 50, 51, 52, 53, 54, 55, 56, 57, 97, 98, 99, 100, 101, 102, 103, 104, 105, 106, 107, 108, 109, 110, 111, 112, 113, 114, 115, 116, 117, 118, 119, 120, 121, 122]⟩ : ByteArray)[v]'hr36).toNat : Int))).setCell ⟨w.heap.size, k, none⟩ (.int .u8 45)) := (HW2.out _ (digsT_at v hr36)).text
        have hsl := fun W => slice_row w W k (by omega)
        have HG3 : Hid (∀ v v2, Grew w ((wr.setCell ⟨w.heap.size, i, none⟩ v).setCell ⟨w.heap.size, k, none⟩ v2)) := fun v v2 => (HG2.out v).setCell (Nat.le_refl _) v2
        have hk64 : k ≤ 63 := by omega
        have hi64 : i ≤ 64 := by omega
        have hi1 : 1 ≤ i := by omega
        clear hv hik
        go_wp2_with fail
        go_ret2
        refine ⟨?_, HG3.out _ _⟩
        rw [← HLast.out]; rfl
set_option maxRecDepth 100000 in
theorem isPow_32 (w : World) : Calls Tryd.prog 104 #[.int .i64 32] w fun e w' => e = .returned (.bool true) ∧ w' = w := by
  have hz : bits .and .i64 32 31 = 0 := by decide
  go_enter Tryd.func104, Tryd.ntmps104
  go_wp2_with fail
  go_ret
  exact ⟨rfl, rfl⟩
set_option maxRecDepth 100000 in
theorem tz_32 (w : World) (hz : TabZ w) : Calls Tryd.prog 105 #[.int .u64 32] w fun e w' => e = .returned (.int .i64 5) ∧ w' = w := by
  have H : Hid (Calls Tryd.prog 111 #[.int .u64 32] w fun e w' => e = .returned (.int .i64 5) ∧ w' = w) := zeros_any 32 w (by omega) (by omega) hz
  clear hz
  go_enter Tryd.func105, Tryd.ntmps105
  go_wp2_with fail
  refine H.out.mono ?_; rintro e w1 ⟨rfl, rfl⟩
  go_wp2_with fail
  go_ret
  exact ⟨rfl, rfl⟩
set_option maxRecDepth 100000 in
set_option maxHeartbeats 4000000 in
theorem fb_32 (U : Int) (u : Nat) (hu64 : u < 18446744073709551616) (hU : U = (u : Int)) (w : World) (hz : TabZ w) :
    Calls Tryd.prog 80 #[.slice none 0 0, .int .u64 U, .int .i64 32, .bool false, .bool false] w fun e w' => e = .returned (.tuple #[.slice none 0 0, .string ⟨(radix 32 u).toArray⟩]) ∧ Grew w w' := by
  have HZ := hidd (fun w1 (g : Grew w w1) => tz_32 w1 (hz.kept g))
  clear hz
  have HA := hidd ((Grew.refl w).alloc (.cells Tryd.zeroCells118 118))
  subst hU
  · go_enter Tryd.func80, Tryd.ntmps80
    go_wp2_with fail
    refine (isPow_32 _).mono ?_; rintro e w1 ⟨rfl, rfl⟩
    go_wp2_with fail
    refine (HZ.out _ HA.out).mono ?_; rintro e w1 ⟨rfl, rfl⟩
    go_wp2_with fail
    go_loopw [1, 13] (fun u1 u13  wr => ∃ (v i : Nat) (L : List UInt8), u1 = .int .u64 v ∧ u13 = .int .i64 i ∧ i ≤ 65 ∧ Hid (FmSt 32 u v L ∧ (L = [] ∨ 1 ≤ v) ∧ RowSt w wr i L) ∧ Hid (Grew w wr)) (fun u1 _  _ => (intOf u1).toNat)
    case atStart => exact ⟨u, 65, [], rfl, rfl, Nat.le_refl _, ⟨FmSt.start 32 u, Or.inl rfl, RowSt.start w⟩, (Grew.refl w).alloc _⟩
    case round =>
      obtain ⟨v, i, L, rfl, rfl, hi, HS, HG⟩ := hrel
      by_cases hv : 32 ≤ v
      · have c1 : decide ((32 : Int) ≤ (v : Int)) = true := decide_eq_true (by omega)
        have c2 : decide (32 ≤ v) = true := decide_eq_true hv
        have hl := HS.out.1.short (by omega) hu64
        have hil := HS.out.2.2.1
        obtain ⟨i, rfl⟩ : ∃ k, i = k + 1 := ⟨i - 1, by omega⟩
        have HN := hidd (HS.out.1.step (by omega) hv)
        have HQ1 : Hid (1 ≤ v / 32) := Nat.div_pos hv (by omega)
        have HQ2 := hidd (Nat.div_lt_self (show 0 < v by omega) (show 1 < 32 by omega))
        have HW : Hid (∀ c : UInt8, c = digB (v % 32) → RowSt w (wr.setCell ⟨w.heap.size, i, none⟩ (.int .u8 (c.toNat : Int))) i (digB (v % 32) :: L)) := fun c hc => by rw [hc]; exact HS.out.2.2.push _
        have HG2 : Hid (∀ v, Grew w (wr.setCell ⟨w.heap.size, i, none⟩ v)) := fun v => HG.out.setCell (Nat.le_refl _) v
        obtain ⟨v0, cc, cf⟩ := HS.out.2.2.cell
        have hrb := Nat.mod_lt v (show 0 < 32 by omega)
        have hdm := Nat.div_add_mod v 32
        have hv64 : v ≤ u := by
          have := HS.out.1.len
          have h2 : 0 < 2 ^ L.length := Nat.pow_pos (by decide)
          have := Nat.mul_le_mul_left v h2
          omega
        have g1 : (v : Int) / 32 = ((v / 32 : Nat) : Int) := rfl
        have g2 : bits .and .u64 (v : Int) 31 = ((v % 32 : Nat) : Int) := by
          have a1 := bits_and_u64_nat v 31 (by omega) (by omega)
          erw [a1]
          have h := Nat.and_two_pow_sub_one_eq_mod v 5
          rw [show (2 : Nat) ^ 5 - 1 = 31 by decide, show (2 : Nat) ^ 5 = 32 by decide] at h
          rw [h]
        obtain ⟨q, hq⟩ : ∃ q, v / 32 = q := ⟨_, rfl⟩
        obtain ⟨r, hr⟩ : ∃ r, v % 32 = r := ⟨_, rfl⟩
        rw [hq] at HN HQ1 HQ2 hdm g1
        rw [hr] at HN HW hrb hdm g2
        have g6 : IntKind.u64.wrap (r : Int) = (r : Int) := by rw [IntKind.wrap_u64]; omega
        have g5 : IntKind.u64.wrap (q : Int) = (q : Int) := by have := HQ2.out; rw [IntKind.wrap_u64]; omega
        have hr36 : r < 36 := by omega
        clear hv hq hr
        go_wp2_with fail
        go_roundw
        case rel => exact ⟨q, i, _, rfl, rfl, by omega, ⟨HN.out, Or.inr HQ1.out, HW.out _ (digsT_at r hr36)⟩, HG2.out _⟩
        case measure => simp [intOf]; exact HQ2.out
      · have c1 : decide ((32 : Int) ≤ (v : Int)) = false := decide_eq_false (by omega)
        have c2 : decide (32 ≤ v) = false := decide_eq_false hv
        have hl := HS.out.1.short1 HS.out.2.1 hu64
        have hil := HS.out.2.2.1
        obtain ⟨i, rfl⟩ : ∃ k, i = k + 1 := ⟨i - 1, by omega⟩
        have HLast := hidd (HS.out.1.last (show v < 32 by omega))
        have HW : Hid (∀ c : UInt8, c = digB v → RowSt w (wr.setCell ⟨w.heap.size, i, none⟩ (.int .u8 (c.toNat : Int))) i (digB v :: L)) := fun c hc => by rw [hc]; exact HS.out.2.2.push _
        have HG2 : Hid (∀ v, Grew w (wr.setCell ⟨w.heap.size, i, none⟩ v)) := fun v => HG.out.setCell (Nat.le_refl _) v
        obtain ⟨v0, cc, cf⟩ := HS.out.2.2.cell
        have hr36 : v < 36 := by omega
        have g6 : IntKind.u64.wrap (v : Int) = (v : Int) := by rw [IntKind.wrap_u64]; omega
        have hx : (convert 72 9 (.slice (some ⟨w.heap.size, i, none⟩) (65 - i) (65 - i))).run Tryd.prog (wr.setCell ⟨w.heap.size, i, none⟩ (.int .u8 (((⟨#[48, 49, 50, 51, 52, 53, 54, 55, 56, 57, 97, 98, 99, 100, 101, 102, 103, 104, 105, 106, 107, 108, 109, 110, 111, 112, 113, 114, 115, 116, 117, 118, 119, 120, 121, 122]⟩ : ByteArray)[v]'hr36).toNat : Int))) = .ok (.string ⟨(digB v :: L).toArray⟩) (wr.setCell ⟨w.heap.size, i, none⟩ (.int .u8 (((⟨#[48, 49, 50, 51, 52, 53, 54, 55, 56, 57, 97, 98, 99, 100, 101, 102, 103, 104, 105, 106, 107, 108, 109, 110, 111, 112, 113, 114, 115, 116, 117, 118, 119, 120, 121, 122]⟩ : ByteArray)[v]'hr36).toNat : Int))) := (HW.out _ (digsT_at v hr36)).text
        have hsl := fun W => slice_row w W i (by omega)
        clear hv
        go_wp2_with fail
        go_ret2
        refine ⟨?_, HG2.out _⟩
        rw [← HLast.out]; rfl
set_option maxRecDepth 100000 in
set_option maxHeartbeats 4000000 in
theorem fb_32_neg (U : Int) (u : Nat) (hu64 : u < 18446744073709551616) (hU : IntKind.u64.wrap (-U) = (u : Int)) (w : World) (hz : TabZ w) :
    Calls Tryd.prog 80 #[.slice none 0 0, .int .u64 U, .int .i64 32, .bool true, .bool false] w fun e w' => e = .returned (.tuple #[.slice none 0 0, .string ⟨(45 :: radix 32 u).toArray⟩]) ∧ Grew w w' := by
  have HZ := hidd (fun w1 (g : Grew w w1) => tz_32 w1 (hz.kept g))
  clear hz
  have HA := hidd ((Grew.refl w).alloc (.cells Tryd.zeroCells118 118))
  · go_enter Tryd.func80, Tryd.ntmps80
    go_wp2_with fail
    refine (isPow_32 _).mono ?_; rintro e w1 ⟨rfl, rfl⟩
    go_wp2_with fail
    refine (HZ.out _ HA.out).mono ?_; rintro e w1 ⟨rfl, rfl⟩
    go_wp2_with fail
    go_loopw [1, 13] (fun u1 u13  wr => ∃ (v i : Nat) (L : List UInt8), u1 = .int .u64 v ∧ u13 = .int .i64 i ∧ i ≤ 65 ∧ Hid (FmSt 32 u v L ∧ (L = [] ∨ 1 ≤ v) ∧ RowSt w wr i L) ∧ Hid (Grew w wr)) (fun u1 _  _ => (intOf u1).toNat)
    case atStart => exact ⟨u, 65, [], rfl, rfl, Nat.le_refl _, ⟨FmSt.start 32 u, Or.inl rfl, RowSt.start w⟩, (Grew.refl w).alloc _⟩
    case round =>
      obtain ⟨v, i, L, rfl, rfl, hi, HS, HG⟩ := hrel
      by_cases hv : 32 ≤ v
      · have c1 : decide ((32 : Int) ≤ (v : Int)) = true := decide_eq_true (by omega)
        have c2 : decide (32 ≤ v) = true := decide_eq_true hv
        have hl := HS.out.1.short (by omega) hu64
        have hil := HS.out.2.2.1
        obtain ⟨i, rfl⟩ : ∃ k, i = k + 1 := ⟨i - 1, by omega⟩
        have HN := hidd (HS.out.1.step (by omega) hv)
        have HQ1 : Hid (1 ≤ v / 32) := Nat.div_pos hv (by omega)
        have HQ2 := hidd (Nat.div_lt_self (show 0 < v by omega) (show 1 < 32 by omega))
        have HW : Hid (∀ c : UInt8, c = digB (v % 32) → RowSt w (wr.setCell ⟨w.heap.size, i, none⟩ (.int .u8 (c.toNat : Int))) i (digB (v % 32) :: L)) := fun c hc => by rw [hc]; exact HS.out.2.2.push _
        have HG2 : Hid (∀ v, Grew w (wr.setCell ⟨w.heap.size, i, none⟩ v)) := fun v => HG.out.setCell (Nat.le_refl _) v
        obtain ⟨v0, cc, cf⟩ := HS.out.2.2.cell
        have hrb := Nat.mod_lt v (show 0 < 32 by omega)
        have hdm := Nat.div_add_mod v 32
        have hv64 : v ≤ u := by
          have := HS.out.1.len
          have h2 : 0 < 2 ^ L.length := Nat.pow_pos (by decide)
          have := Nat.mul_le_mul_left v h2
          omega
        have g1 : (v : Int) / 32 = ((v / 32 : Nat) : Int) := rfl
        have g2 : bits .and .u64 (v : Int) 31 = ((v % 32 : Nat) : Int) := by
          have a1 := bits_and_u64_nat v 31 (by omega) (by omega)
          erw [a1]
          have h := Nat.and_two_pow_sub_one_eq_mod v 5
          rw [show (2 : Nat) ^ 5 - 1 = 31 by decide, show (2 : Nat) ^ 5 = 32 by decide] at h
          rw [h]
        obtain ⟨q, hq⟩ : ∃ q, v / 32 = q := ⟨_, rfl⟩
        obtain ⟨r, hr⟩ : ∃ r, v % 32 = r := ⟨_, rfl⟩
        rw [hq] at HN HQ1 HQ2 hdm g1
        rw [hr] at HN HW hrb hdm g2
        have g6 : IntKind.u64.wrap (r : Int) = (r : Int) := by rw [IntKind.wrap_u64]; omega
        have g5 : IntKind.u64.wrap (q : Int) = (q : Int) := by have := HQ2.out; rw [IntKind.wrap_u64]; omega
        have hr36 : r < 36 := by omega
        clear hv hq hr
        go_wp2_with fail
        go_roundw
        case rel => exact ⟨q, i, _, rfl, rfl, by omega, ⟨HN.out, Or.inr HQ1.out, HW.out _ (digsT_at r hr36)⟩, HG2.out _⟩
        case measure => simp [intOf]; exact HQ2.out
      · have c1 : decide ((32 : Int) ≤ (v : Int)) = false := decide_eq_false (by omega)
        have c2 : decide (32 ≤ v) = false := decide_eq_false hv
        have hl := HS.out.1.short1 HS.out.2.1 hu64
        have hil := HS.out.2.2.1
        obtain ⟨k, rfl⟩ : ∃ k, i = k + 1 + 1 := ⟨i - 2, by omega⟩
        obtain ⟨i, hik⟩ : ∃ i, k + 1 = i := ⟨_, rfl⟩
        have gk : (i : Int) - 1 = (k : Int) := by omega
        obtain ⟨v1, cc1, cf1⟩ := HS.out.2.2.cell0 k (by omega)
        rw [hik] at HS ⊢
        have HLast := hidd (HS.out.1.last (show v < 32 by omega))
        have HW : Hid (∀ c : UInt8, c = digB v → RowSt w (wr.setCell ⟨w.heap.size, i, none⟩ (.int .u8 (c.toNat : Int))) i (digB v :: L)) := fun c hc => by rw [hc]; exact HS.out.2.2.push _
        have HG2 : Hid (∀ v, Grew w (wr.setCell ⟨w.heap.size, i, none⟩ v)) := fun v => HG.out.setCell (Nat.le_refl _) v
        obtain ⟨v0, cc, cf⟩ := HS.out.2.2.cell
        have hr36 : v < 36 := by omega
        have g6 : IntKind.u64.wrap (v : Int) = (v : Int) := by rw [IntKind.wrap_u64]; omega
        have HW2 : Hid (∀ c : UInt8, c = digB v → RowSt w ((wr.setCell ⟨w.heap.size, i, none⟩ (.int .u8 (c.toNat : Int))).setCell ⟨w.heap.size, k, none⟩ (.int .u8 45)) k (45 :: digB v :: L)) := fun c hc => RowSt.push (i := k) (by rw [hik]; exact HW.out c hc) 45
        have hx : (convert 72 9 (.slice (some ⟨w.heap.size, k, none⟩) (65 - k) (65 - k))).run Tryd.prog ((wr.setCell ⟨w.heap.size, i, none⟩ (.int .u8 (((⟨#[48, 49, 50, 51, 52, 53, 54, 55, 56, 57, 97, 98, 99, 100, 101, 102, 103, 104, 105, 106, 107, 108, 109, 110, 111, 112, 113, 114, 115, 116, 117, 118, 119, 120, 121, 122]⟩ : ByteArray)[v]'hr36).toNat : Int))).setCell ⟨w.heap.size, k, none⟩ (.int .u8 45)) = .ok (.string ⟨(45 :: digB v :: L).toArray⟩) ((wr.setCell ⟨w.heap.size, i, none⟩ (.int .u8 (((⟨#[48, 49, 50, 51, 52, 53, 54, 55, 56, 57, 97, 98, 99, 100, 101, 102, 103, 104, 105, 106, 107, 108, 109, 110, 111, 112, 113, 114, 115, 116, 117, 118, 119, 120, 121, 122]⟩ : ByteArray)[v]'hr36).toNat : Int))).setCell ⟨w.heap.size, k, none⟩ (.int .u8 45)) := (HW2.out _ (digsT_at v hr36)).text
        have hsl := fun W => slice_row w W k (by omega)
        have HG3 : Hid (∀ v v2, Grew w ((wr.setCell ⟨w.heap.size, i, none⟩ v).setCell ⟨w.heap.size, k, none⟩ v2)) := fun v v2 => (HG2.out v).setCell (Nat.le_refl _) v2
        have hk64 : k ≤ 63 := by omega
        have hi64 : i ≤ 64 := by omega
        have hi1 : 1 ≤ i := by omega
        clear hv hik
        go_wp2_with fail
        go_ret2
        refine ⟨?_, HG3.out _ _⟩
        rw [← HLast.out]; rfl
end Go.Proofs.YthhcpocgfmlbeaaDoor
