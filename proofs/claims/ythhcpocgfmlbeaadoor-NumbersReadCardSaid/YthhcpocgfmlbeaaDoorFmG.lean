/- formatBits: the general road. Printed. -/
import Derived.Test.YthhcpocgfmlbeaaDoorFmT
namespace Go.Proofs.YthhcpocgfmlbeaaDoor
open Go.RowKit
set_option linter.unusedVariables false
theorem and_zero : ∀ b : Fin 37, b.val ≠ 2 → b.val ≠ 4 → b.val ≠ 8 → b.val ≠ 16 → b.val ≠ 32 → 2 ≤ b.val → (bits .and .i64 (b.val : Int) ((b.val : Int) - 1) == 0) = false := by decide +kernel
set_option maxRecDepth 100000 in
set_option maxHeartbeats 2000000 in
theorem isPow_no (b : Nat) (hb : 2 ≤ b) (h36 : b ≤ 36) (h : b ≠ 2 ∧ b ≠ 4 ∧ b ≠ 8 ∧ b ≠ 16 ∧ b ≠ 32) (w : World) :
    Calls Tryd.prog 104 #[.int .i64 (b : Nat)] w fun e w' => e = .returned (.bool false) ∧ w' = w := by
  have hz := and_zero ⟨b, by omega⟩ h.1 h.2.1 h.2.2.1 h.2.2.2.1 h.2.2.2.2 hb
  clear h
  go_enter Tryd.func104, Tryd.ntmps104
  go_wp2_with fail
  go_ret
  exact ⟨rfl, rfl⟩
set_option maxRecDepth 100000 in
set_option maxHeartbeats 4000000 in
theorem fb_gen (U : Int) (u : Nat) (hu64 : u < 18446744073709551616) (hU : U = (u : Int)) (b : Nat) (hb : 2 ≤ b) (h36 : b ≤ 36) (hp : b ≠ 2 ∧ b ≠ 4 ∧ b ≠ 8 ∧ b ≠ 16 ∧ b ≠ 32) (h10 : b ≠ 10) (w : World) :
    Calls Tryd.prog 80 #[.slice none 0 0, .int .u64 U, .int .i64 (b : Nat), .bool false, .bool false] w fun e w' => e = .returned (.tuple #[.slice none 0 0, .string ⟨(radix b u).toArray⟩]) ∧ Grew w w' := by
  have HP := hidd (fun w1 => isPow_no b hb h36 hp w1)
  have e1 : ((b : Int) == 10) = false := by rw [beq_eq_false_iff_ne]; omega
  have e2 : decide ((b : Int) < 2) = false := decide_eq_false (by omega)
  have e3 : decide ((36 : Int) < (b : Int)) = false := decide_eq_false (by omega)
  clear hp h10
  subst hU
  · go_enter Tryd.func80, Tryd.ntmps80
    go_wp2_with fail
    refine (HP.out _).mono ?_; rintro e w1 ⟨rfl, rfl⟩
    go_wp2_with fail
    go_loopw [1, 13, 18] (fun u1 u13 _ wr => ∃ (v i : Nat) (L : List UInt8), u1 = .int .u64 v ∧ u13 = .int .i64 i ∧ i ≤ 65 ∧ Hid (FmSt b u v L ∧ (L = [] ∨ 1 ≤ v) ∧ RowSt w wr i L) ∧ Hid (Grew w wr)) (fun u1 _ _ _ => (intOf u1).toNat)
    case atStart => exact ⟨u, 65, [], rfl, rfl, Nat.le_refl _, ⟨FmSt.start b u, Or.inl rfl, RowSt.start w⟩, (Grew.refl w).alloc _⟩
    case round =>
      obtain ⟨v, i, L, rfl, rfl, hi, HS, HG⟩ := hrel
      by_cases hv : b ≤ v
      · have c1 : decide ((b : Int) ≤ (v : Int)) = true := decide_eq_true (by omega)
        have c2 : decide (b ≤ v) = true := decide_eq_true hv
        have hl := HS.out.1.short (by omega) hu64
        have hil := HS.out.2.2.1
        obtain ⟨i, rfl⟩ : ∃ k, i = k + 1 := ⟨i - 1, by omega⟩
        have HN := hidd (HS.out.1.step (by omega) hv)
        have HQ1 : Hid (1 ≤ v / b) := Nat.div_pos hv (by omega)
        have HQ2 := hidd (Nat.div_lt_self (show 0 < v by omega) (show 1 < b by omega))
        have HW : Hid (∀ c : UInt8, c = digB (v % b) → RowSt w (wr.setCell ⟨w.heap.size, i, none⟩ (.int .u8 (c.toNat : Int))) i (digB (v % b) :: L)) := fun c hc => by rw [hc]; exact HS.out.2.2.push _
        have HG2 : Hid (∀ v, Grew w (wr.setCell ⟨w.heap.size, i, none⟩ v)) := fun v => HG.out.setCell (Nat.le_refl _) v
        obtain ⟨v0, cc, cf⟩ := HS.out.2.2.cell
        have hrb := Nat.mod_lt v (show 0 < b by omega)
        have hdm := Nat.div_add_mod v b
        have hv64 : v ≤ u := by
          have := HS.out.1.len
          have h2 : 0 < 2 ^ L.length := Nat.pow_pos (by decide)
          have := Nat.mul_le_mul_left v h2
          omega
        have g1 : (v : Int) / (b : Int) = ((v / b : Nat) : Int) := rfl
        obtain ⟨q, hq⟩ : ∃ q, v / b = q := ⟨_, rfl⟩
        obtain ⟨r, hr⟩ : ∃ r, v % b = r := ⟨_, rfl⟩
        rw [hq] at HN HQ1 HQ2 hdm g1
        rw [hr] at HN HW hrb hdm
        obtain ⟨P, hP⟩ : ∃ P, b * q = P := ⟨_, rfl⟩
        rw [hP] at hdm
        have g2 : (q : Int) * (b : Int) = (P : Int) := by rw [← hP, Nat.mul_comm]; rfl
        have g3 : IntKind.u64.wrap (P : Int) = (P : Int) := by rw [IntKind.wrap_u64]; omega
        have g4 : IntKind.u64.wrap ((v : Int) - (P : Int)) = (r : Int) := by rw [IntKind.wrap_u64]; omega
        have g6 : IntKind.u64.wrap (r : Int) = (r : Int) := by rw [IntKind.wrap_u64]; omega
        have g5 : IntKind.u64.wrap (q : Int) = (q : Int) := by have := HQ2.out; rw [IntKind.wrap_u64]; omega
        have hr36 : r < 36 := by omega
        clear hv hq hr hP
        go_wp2_with fail
        go_roundw
        case rel => exact ⟨q, i, _, rfl, rfl, by omega, ⟨HN.out, Or.inr HQ1.out, HW.out _ (digsT_at r hr36)⟩, HG2.out _⟩
        case measure => simp [intOf]; exact HQ2.out
      · have c1 : decide ((b : Int) ≤ (v : Int)) = false := decide_eq_false (by omega)
        have c2 : decide (b ≤ v) = false := decide_eq_false hv
        have hl := HS.out.1.short1 HS.out.2.1 hu64
        have hil := HS.out.2.2.1
        obtain ⟨i, rfl⟩ : ∃ k, i = k + 1 := ⟨i - 1, by omega⟩
        have HLast := hidd (HS.out.1.last (show v < b by omega))
        have HW : Hid (∀ c : UInt8, c = digB v → RowSt w (wr.setCell ⟨w.heap.size, i, none⟩ (.int .u8 (c.toNat : Int))) i (digB v :: L)) := fun c hc => by rw [hc]; exact HS.out.2.2.push _
        have HG2 : Hid (∀ v, Grew w (wr.setCell ⟨w.heap.size, i, none⟩ v)) := fun v => HG.out.setCell (Nat.le_refl _) v
        obtain ⟨v0, cc, cf⟩ := HS.out.2.2.cell
        have hr36 : v < 36 := by omega
        have g6 : IntKind.u64.wrap (v : Int) = (v : Int) := by rw [IntKind.wrap_u64]; omega
        have hx : (convert 72 9 (.slice (some ⟨w.heap.size, i, none⟩) (65 - i) (65 - i))).run Tryd.prog (wr.setCell ⟨w.heap.size, i, none⟩ (.int .u8 (((⟨#[48, 49, 50, 51, 52, 53, 54, 55, 56, 57, 97, 98, 99, 100, 101, 102, 103, 104, 105, 106, 107, 108, 109, 110, 111, 112, 113, 114, 115, 116, 117, 118, 119, 120, 121, 122]⟩ : ByteArray)[v]'hr36).toNat : Int))) = .ok (.string ⟨(digB v :: L).toArray⟩) (wr.setCell ⟨w.heap.size, i, none⟩ (.int .u8 (((⟨#[48, 49, 50, 51, 52, 53, 54, 55, 56, 57, 97, 98, 99, 100, 101, 102, 103, 104, 105, 106, 107, 108, 109, 110, 111, 112, 113, 114, 115, 116, 117, 118, 119, 120, 121, 122]⟩ : ByteArray)[v]'hr36).toNat : Int))) := (HW.out _ (digsT_at v hr36)).text
        have hsl := fun W => slice_row w W i (by omega)
        clear hv
        go_wp2_with fail
        go_ret2
        refine ⟨?_, HG2.out _⟩
        rw [← HLast.out]; rfl
set_option maxRecDepth 100000 in
set_option maxHeartbeats 4000000 in
theorem fb_gen_neg (U : Int) (u : Nat) (hu64 : u < 18446744073709551616) (hU : IntKind.u64.wrap (-U) = (u : Int)) (b : Nat) (hb : 2 ≤ b) (h36 : b ≤ 36) (hp : b ≠ 2 ∧ b ≠ 4 ∧ b ≠ 8 ∧ b ≠ 16 ∧ b ≠ 32) (h10 : b ≠ 10) (w : World) :
    Calls Tryd.prog 80 #[.slice none 0 0, .int .u64 U, .int .i64 (b : Nat), .bool true, .bool false] w fun e w' => e = .returned (.tuple #[.slice none 0 0, .string ⟨(45 :: radix b u).toArray⟩]) ∧ Grew w w' := by
  have HP := hidd (fun w1 => isPow_no b hb h36 hp w1)
  have e1 : ((b : Int) == 10) = false := by rw [beq_eq_false_iff_ne]; omega
  have e2 : decide ((b : Int) < 2) = false := decide_eq_false (by omega)
  have e3 : decide ((36 : Int) < (b : Int)) = false := decide_eq_false (by omega)
  clear hp h10
  · go_enter Tryd.func80, Tryd.ntmps80
    go_wp2_with fail
    refine (HP.out _).mono ?_; rintro e w1 ⟨rfl, rfl⟩
    go_wp2_with fail
    go_loopw [1, 13, 18] (fun u1 u13 _ wr => ∃ (v i : Nat) (L : List UInt8), u1 = .int .u64 v ∧ u13 = .int .i64 i ∧ i ≤ 65 ∧ Hid (FmSt b u v L ∧ (L = [] ∨ 1 ≤ v) ∧ RowSt w wr i L) ∧ Hid (Grew w wr)) (fun u1 _ _ _ => (intOf u1).toNat)
    case atStart => exact ⟨u, 65, [], rfl, rfl, Nat.le_refl _, ⟨FmSt.start b u, Or.inl rfl, RowSt.start w⟩, (Grew.refl w).alloc _⟩
    case round =>
      obtain ⟨v, i, L, rfl, rfl, hi, HS, HG⟩ := hrel
      by_cases hv : b ≤ v
      · have c1 : decide ((b : Int) ≤ (v : Int)) = true := decide_eq_true (by omega)
        have c2 : decide (b ≤ v) = true := decide_eq_true hv
        have hl := HS.out.1.short (by omega) hu64
        have hil := HS.out.2.2.1
        obtain ⟨i, rfl⟩ : ∃ k, i = k + 1 := ⟨i - 1, by omega⟩
        have HN := hidd (HS.out.1.step (by omega) hv)
        have HQ1 : Hid (1 ≤ v / b) := Nat.div_pos hv (by omega)
        have HQ2 := hidd (Nat.div_lt_self (show 0 < v by omega) (show 1 < b by omega))
        have HW : Hid (∀ c : UInt8, c = digB (v % b) → RowSt w (wr.setCell ⟨w.heap.size, i, none⟩ (.int .u8 (c.toNat : Int))) i (digB (v % b) :: L)) := fun c hc => by rw [hc]; exact HS.out.2.2.push _
        have HG2 : Hid (∀ v, Grew w (wr.setCell ⟨w.heap.size, i, none⟩ v)) := fun v => HG.out.setCell (Nat.le_refl _) v
        obtain ⟨v0, cc, cf⟩ := HS.out.2.2.cell
        have hrb := Nat.mod_lt v (show 0 < b by omega)
        have hdm := Nat.div_add_mod v b
        have hv64 : v ≤ u := by
          have := HS.out.1.len
          have h2 : 0 < 2 ^ L.length := Nat.pow_pos (by decide)
          have := Nat.mul_le_mul_left v h2
          omega
        have g1 : (v : Int) / (b : Int) = ((v / b : Nat) : Int) := rfl
        obtain ⟨q, hq⟩ : ∃ q, v / b = q := ⟨_, rfl⟩
        obtain ⟨r, hr⟩ : ∃ r, v % b = r := ⟨_, rfl⟩
        rw [hq] at HN HQ1 HQ2 hdm g1
        rw [hr] at HN HW hrb hdm
        obtain ⟨P, hP⟩ : ∃ P, b * q = P := ⟨_, rfl⟩
        rw [hP] at hdm
        have g2 : (q : Int) * (b : Int) = (P : Int) := by rw [← hP, Nat.mul_comm]; rfl
        have g3 : IntKind.u64.wrap (P : Int) = (P : Int) := by rw [IntKind.wrap_u64]; omega
        have g4 : IntKind.u64.wrap ((v : Int) - (P : Int)) = (r : Int) := by rw [IntKind.wrap_u64]; omega
        have g6 : IntKind.u64.wrap (r : Int) = (r : Int) := by rw [IntKind.wrap_u64]; omega
        have g5 : IntKind.u64.wrap (q : Int) = (q : Int) := by have := HQ2.out; rw [IntKind.wrap_u64]; omega
        have hr36 : r < 36 := by omega
        clear hv hq hr hP
        go_wp2_with fail
        go_roundw
        case rel => exact ⟨q, i, _, rfl, rfl, by omega, ⟨HN.out, Or.inr HQ1.out, HW.out _ (digsT_at r hr36)⟩, HG2.out _⟩
        case measure => simp [intOf]; exact HQ2.out
      · have c1 : decide ((b : Int) ≤ (v : Int)) = false := decide_eq_false (by omega)
        have c2 : decide (b ≤ v) = false := decide_eq_false hv
        have hl := HS.out.1.short1 HS.out.2.1 hu64
        have hil := HS.out.2.2.1
        obtain ⟨k, rfl⟩ : ∃ k, i = k + 1 + 1 := ⟨i - 2, by omega⟩
        obtain ⟨i, hik⟩ : ∃ i, k + 1 = i := ⟨_, rfl⟩
        have gk : (i : Int) - 1 = (k : Int) := by omega
        obtain ⟨v1, cc1, cf1⟩ := HS.out.2.2.cell0 k (by omega)
        rw [hik] at HS ⊢
        have HLast := hidd (HS.out.1.last (show v < b by omega))
        have HW : Hid (∀ c : UInt8, c = digB v → RowSt w (wr.setCell ⟨w.heap.size, i, none⟩ (.int .u8 (c.toNat : Int))) i (digB v :: L)) := fun c hc => by rw [hc]; exact HS.out.2.2.push _
        have HG2 : Hid (∀ v, Grew w (wr.setCell ⟨w.heap.size, i, none⟩ v)) := fun v => HG.out.setCell (Nat.le_refl _) v
        obtain ⟨v0, cc, cf⟩ := HS.out.2.2.cell
        have hr36 : v < 36 := by omega
        have g6 : IntKind.u64.wrap (v : Int) = (v : Int) := by rw [IntKind.wrap_u64]; omega
        have HW2 : Hid (∀ c : UInt8, c = digB v → RowSt w ((wr.setCell ⟨w.heap.size, i, none⟩ (.int .u8 (c.toNat : Int))).setCell ⟨w.heap.size, k, none⟩ (.int .u8 45)) k (45 :: digB v :: L)) := fun c hc => RowSt.push (i := k) (by rw [hik]; exact HW.out c hc) 45
        have hx : (convert 72 9 (.slice (some ⟨w.heap.size, k, none⟩) (65 - k) (65 - k))).run Tryd.prog ((wr.setCell ⟨w.heap.size, i, none⟩ (.int .u8 (((⟨#[48, 49, 50, 51, 52, 53, 54, 55, 56, 57, 97, 98, 99, 100, 101, 102, 103, 104, 105, 106, 107, 108, 109, 110, 111, 112, 113, 114, 115, 116, 117, 118, 119, 120, 121, 122]⟩ : ByteArray)[v]'hr36).toNat : Int))).setCell ⟨w.heap.size, k, none⟩ (.int .u8 45)) = .ok (.string ⟨(45 :: digB v :: L).toArray⟩) ((wr.setCell ⟨w.heap.size, i, none⟩ (.int .u8 (((⟨#[48, 49, 50, 51, 52, 53, 54, 55, 56, 57, 97, 98, 99, 100, 101, 102, 103, 104, 105, 106, 107, 108, 109, 110, 111, 112, 113, 114, 115, 116, 117, 118, 119, 120, 121, 122]⟩ : ByteArray)[v]'hr36).toNat : Int))).setCell ⟨w.heap.size, k, none⟩ (.int .u8 45)) := (HW2.out _ (digsT_at v hr36)).text
        have hsl := fun W => slice_row w W k (by omega)
        have HG3 : Hid (∀ v v2, Grew w ((wr.setCell ⟨w.heap.size, i, none⟩ v).setCell ⟨w.heap.size, k, none⟩ v2)) := fun v v2 => (HG2.out v).setCell (Nat.le_refl _) v2
        have hk64 : k ≤ 63 := by omega
        have hi64 : i ≤ 64 := by omega
        have hi1 : 1 ≤ i := by omega
        clear hv hik
        go_wp2_with fail
        go_ret2
        refine ⟨?_, HG3.out _ _⟩
        rw [← HLast.out]; rfl
end Go.Proofs.YthhcpocgfmlbeaaDoor
