/- sets.Read: at every text. No condition but the texts' own bound. -/
import Derived.Test.YtolfdcbebjfjiaaDoorStRead
namespace Go.Proofs.YtolfdcbebjfjiaaDoor
open Go.RowKit
set_option linter.unusedVariables false
theorem isEmptyT {s : ByteArray} (h : 0 < s.size) : s.toList.isEmpty = false := by
  rw [Lib.toList_data, ← Bool.not_eq_true, List.isEmpty_iff]
  intro e; have := size_data s; rw [e, List.length_nil] at this; omega
theorem nilT {s : ByteArray} (h : s.size = 0) : s.toList = [] := by
  rw [Lib.toList_data]; exact List.eq_nil_of_length_eq_zero (by rw [← size_data]; exact h)
theorem RS.step {w wr : World} {t : ByteArray} {i : Nat} {f : Nat → Bool} (h : RS w t wr i f) (j : Nat) : RS w t (wr.setCell ⟨w.heap.size + 1 + 1 + 1, 0, none⟩ (.int .i64 j)) j f :=
  h.beside ((Beside.refl _ _).set _) h.text.set
theorem RS.more {w wr : World} {t : ByteArray} {i q r : Nat} {f : Nat → Bool} {v : Value} (h : RS w t wr i f) (hq : q < 4) (hr : r < 64) (hv : v = .int .u64 ((word f (64 * q) 64 ||| 2 ^ r : Nat) : Int)) : RS w t (wr.setCell ⟨w.heap.size + 1, q, none⟩ v).drew i (upd f (64 * q + r)) := by
  have B : Beside (w.heap.size + 1) wr (wr.setCell ⟨w.heap.size + 1, q, none⟩ v) := (Beside.refl _ _).setAny v
  refine ⟨⟨?_, ?_, ?_, h.text.ne⟩, ?_, ?_, ?_⟩
  · exact (B.cell (p := ⟨w.heap.size + 1 + 1 + 1, 0, none⟩) (show w.heap.size + 1 + 1 + 1 ≠ w.heap.size + 1 by omega)).trans h.text.at_
  · exact (B.frozen (p := ⟨w.heap.size + 1 + 1 + 1, 0, none⟩) (show w.heap.size + 1 + 1 + 1 ≠ w.heap.size + 1 by omega)).trans h.text.free
  · exact (B.cell (p := ⟨w.heap.size, 0, none⟩) (show w.heap.size ≠ w.heap.size + 1 by omega)).trans h.text.text
  · exact ((h.set.set0 q hq v).drew).congr fun j hj => by rw [hv]; exact upd_row f q r hr j
  · exact (B.arr (b := w.heap.size + 1 + 1) (by simp) h.fault).drew
  · exact (h.grew.below B.below (by omega)).drew
theorem RS.eq {w wr : World} {t : ByteArray} {i : Nat} {f g : Nat → Bool} (h : RS w t wr i f) (e : ∀ b, f b = g b) : RS w t wr i g := by rwa [funext e] at h
/-- What Read comes to, by what its loop comes to. -/
theorem readR_fail {t : ByteArray} {e p : Nat} (ht : t.size ≤ 65536) (he : e ≠ 0) (h : loopR (byteAt t) t.size t.size (notR t).toNat emptyS = (e, p, emptyS)) : readR t = (e, p, emptyS) := by
  unfold readR
  rw [if_neg (by omega), h]
  simp [he]
theorem readR_good {t : ByteArray} {f : Nat → Bool} (ht : t.size ≤ 65536) (h : loopR (byteAt t) t.size t.size (notR t).toNat emptyS = (0, 0, f)) : readR t = (0, 0, fun c => f c != notR t) := by
  unfold readR
  rw [if_neg (by omega), h]
  simp
theorem loopR_end {B : Nat → Nat} {n k a : Nat} {f : Nat → Bool} (h : n ≤ a) : loopR B n k a f = (0, 0, f) := by
  cases k with
  | zero => rfl
  | succ k => rw [loopR, if_pos h]
theorem loopR_none {B : Nat → Nat} {n k a p : Nat} {f : Nat → Bool} (h : a < n) (ho : oneR B n a = (none, p)) : loopR B n (k + 1) a f = (2, p, emptyS) := by
  rw [loopR, if_neg (by omega), ho]
theorem loopR_lone {B : Nat → Nat} {n k a p x : Nat} {f : Nat → Bool} (h : a < n) (ho : oneR B n a = (some x, p)) (hd : ¬ (p < n ∧ B p = 45)) : loopR B n (k + 1) a f = loopR B n k p (rng f x x) := by
  rw [loopR, if_neg (by omega), ho]
  dsimp only
  rw [if_neg hd]
theorem loopR_none2 {B : Nat → Nat} {n k a p x p2 : Nat} {f : Nat → Bool} (h : a < n) (ho : oneR B n a = (some x, p)) (hd : p < n ∧ B p = 45) (ho2 : oneR B n (p + 1) = (none, p2)) : loopR B n (k + 1) a f = (2, p2, emptyS) := by
  rw [loopR, if_neg (by omega), ho]
  dsimp only
  rw [if_pos hd, ho2]
theorem loopR_range {B : Nat → Nat} {n k a p x p2 y : Nat} {f : Nat → Bool} (h : a < n) (ho : oneR B n a = (some x, p)) (hd : p < n ∧ B p = 45) (ho2 : oneR B n (p + 1) = (some y, p2)) (hy : y < x) : loopR B n (k + 1) a f = (3, p + 1, emptyS) := by
  rw [loopR, if_neg (by omega), ho]
  dsimp only
  rw [if_pos hd, ho2]
  dsimp only
  rw [if_pos hy]
theorem loopR_run {B : Nat → Nat} {n k a p x p2 y : Nat} {f : Nat → Bool} (h : a < n) (ho : oneR B n a = (some x, p)) (hd : p < n ∧ B p = 45) (ho2 : oneR B n (p + 1) = (some y, p2)) (hy : ¬ y < x) : loopR B n (k + 1) a f = loopR B n k p2 (rng f x y) := by
  rw [loopR, if_neg (by omega), ho]
  dsimp only
  rw [if_pos hd, ho2]
  dsimp only
  rw [if_neg hy]
/-- A part of a run. -/
def rngTo (f : Nat → Bool) (x c : Nat) : Nat → Bool := fun j => f j || (decide (x ≤ j) && decide (j < c))
theorem rngTo_none (f : Nat → Bool) (x : Nat) (b : Nat) : f b = rngTo f x x b := by
  unfold rngTo
  have : (decide (x ≤ b) && decide (b < x)) = false := by simp
  rw [this]; simp
theorem rngTo_all (f : Nat → Bool) (x y : Nat) (b : Nat) : rngTo f x (y + 1) b = rng f x y b := by
  unfold rngTo rng
  congr 2
  exact decide_eq_decide.2 (by omega)
theorem rngTo_next (f : Nat → Bool) (x c : Nat) (h : x ≤ c) (b : Nat) : upd (rngTo f x c) c b = rngTo f x (c + 1) b := by
  unfold upd rngTo
  rw [Bool.or_assoc]
  congr 1
  rw [Bool.eq_iff_iff]
  simp <;> omega
set_option maxRecDepth 20000 in
set_option maxHeartbeats 4000000 in
theorem Read_plain (t : ByteArray) (w : World) (ht : t.size ≤ 65536) (h0 : 0 < t.size) (h9 : byteAt t 0 ≠ 94) : Calls Tryd.prog 24 #[.string t] w fun v w' => v = .returned (.tuple #[setV (readR t).2.2, faultV (readR t).1 (readR t).2.1]) ∧ Grew w w' := by
  have HR := hidd (RS.start w t)
  unfold wordsB at HR
  have HNB : Hid (notR t = false) := by simp [Hid, notR, h9]
  have h6 := isEmptyT h0
  have hb0 := byteAt_eq (t := t) (i := 0) h0
  have h94 : (((t[0]'h0).toNat : Int) == 94) = false := by simp; omega
  have ht1 := hidd ht
  go_enter Tryd.func24, Tryd.ntmps24
  go_wp2_with fail
  go_loopw [8, 9, 10, 11, 12] (fun u8 u9 u10 u11 u12 wr => ∃ (i k : Nat) (f : Nat → Bool), Hid (RS w t wr i f) ∧ i ≤ t.size ∧ t.size - i ≤ k ∧ Hid (loopR (byteAt t) t.size k i f = loopR (byteAt t) t.size t.size (notR t).toNat emptyS)) (fun _ _ _ _ _ wr => t.size - (intOf ((wr.cell? ⟨w.heap.size + 1 + 1 + 1, 0, none⟩).getD undef)).toNat)
  case atStart => exact ⟨0, t.size, emptyS, HR, by omega, by omega, (by rw [Hid, HNB.out]; rfl)⟩
  case round =>
    obtain ⟨i, k, f, KR, hi, hk, HL⟩ := hrel
    clear HR
    have c0 := KR.out.text.at_
    have c1 := KR.out.text.text
    have cf := KR.out.text.free
    have hci := c0
    by_cases hin : i < t.size
    · obtain ⟨k, rfl⟩ : ∃ k', k = k' + 1 := ⟨k - 1, by omega⟩
      obtain ⟨⟨o, p⟩, ho⟩ : ∃ r, oneR (byteAt t) t.size i = r := ⟨_, rfl⟩
      go_wp2_with fail
      refine (one_any _ _ i t wr KR.out.text hi ht1.out o p ho).mono ?_; rintro e w2 ⟨rfl, T2, B2⟩
      have K2 := hidd (KR.out.beside B2 T2)
      clear c0 c1 cf T2 B2
      cases o with
      | none =>
        have HRR := hidd (HL.out.symm.trans (loopR_none hin ho))
        have c0 := K2.out.text.at_
        have c1 := K2.out.text.text
        unfold oneV
        go_wp2_with fail
        refine (bad_any 2 (p) _).mono ?_; rintro v wb ⟨rfl, G⟩
        have KB := hidd (K2.out.kept G)
        unfold setW faultV
        go_wp2_with (first | (refine wpList_store_bes (f := fun _ => .int .u64 ((0 : Nat) : Int)) rfl rfl rfl rfl KB.out.set info_set (fun j _ => rfl) ?_; intro w5 hS hb5) | (refine wpList_store_bes (f := twoF (.int .i64 (2 : Nat)) (.int .i64 (p : Nat))) rfl rfl rfl rfl (hb5.arr (by omega) KB.out.fault) info_fault (fun j _ => twoF_one _ _ rfl rfl j) ?_; intro w6 hF hb6))
        have HQ := readR_fail (e := 2) (p := p) ht1.out (by omega) HRR.out
        exact bodyPost_arr2 rfl rfl rfl (hb6.arr (by omega) hS) hF Tryd.underlying24 rfl info_set Tryd.underlying40 rfl info_fault rfl ⟨by rw [HQ, setV_empty]; rfl, (KB.out.grew.below hb5.below (by omega)).below hb6.below (by omega)⟩
      | some x =>
        obtain ⟨hx, hip, hps⟩ := oneR_some ho
        have c0 := K2.out.text.at_
        have c1 := K2.out.text.text
        have cf := K2.out.text.free
        unfold oneV
        by_cases hd1 : p < t.size
        · have hix := index_text (t := t) (i := p) hd1
          have hdd1 : decide ((p : Int) < (t.size : Int)) = true := decide_eq_true (by omega)
          by_cases hd2 : byteAt t p = 45
          · have h45 : ((byteAt t p : Int) == 45) = true := by simp [hd2]
            have hbt := byteAt_eq hd1
            have K3 := hidd (K2.out.step (p + 1))
            have e1 : (((p + 1 : Nat) : Int)) = (p : Int) + 1 := by omega
            rw [e1] at K3
            obtain ⟨⟨o2, p2⟩, ho2⟩ : ∃ r, oneR (byteAt t) t.size (p + 1) = r := ⟨_, rfl⟩
            have HO1 := hidd ho
            have HO2 := hidd ho2
            clear ho ho2
            go_wp2_with fail
            refine (one_any _ _ (p + 1) t _ K3.out.text (by omega) ht1.out o2 p2 HO2.out).mono ?_; rintro e w4 ⟨rfl, T4, B4⟩
            have K4 := hidd (K3.out.beside B4 T4)
            clear c0 c1 cf T4 B4
            have c0 := K4.out.text.at_
            have c1 := K4.out.text.text
            have cf := K4.out.text.free
            have HHD := hidd (And.intro hd1 hd2)
            cases o2 with
            | none =>
              have HRR := hidd (HL.out.symm.trans (loopR_none2 hin HO1.out HHD.out HO2.out))
              unfold oneV
              go_wp2_with fail
              refine (bad_any 2 (p2) _).mono ?_; rintro v wb ⟨rfl, G⟩
              have KB := hidd (K4.out.kept G)
              unfold setW faultV
              go_wp2_with (first | (refine wpList_store_bes (f := fun _ => .int .u64 ((0 : Nat) : Int)) rfl rfl rfl rfl KB.out.set info_set (fun j _ => rfl) ?_; intro w5 hS hb5) | (refine wpList_store_bes (f := twoF (.int .i64 (2 : Nat)) (.int .i64 (p2 : Nat))) rfl rfl rfl rfl (hb5.arr (by omega) KB.out.fault) info_fault (fun j _ => twoF_one _ _ rfl rfl j) ?_; intro w6 hF hb6))
              have HQ := readR_fail (e := 2) (p := p2) ht1.out (by omega) HRR.out
              exact bodyPost_arr2 rfl rfl rfl (hb6.arr (by omega) hS) hF Tryd.underlying24 rfl info_set Tryd.underlying40 rfl info_fault rfl ⟨by rw [HQ, setV_empty]; rfl, (KB.out.grew.below hb5.below (by omega)).below hb6.below (by omega)⟩
            | some y =>
              obtain ⟨hy, hip2, hps2⟩ := oneR_some HO2.out
              unfold oneV
              by_cases hyx : y < x
              · have HRR := hidd (HL.out.symm.trans (loopR_range hin HO1.out HHD.out HO2.out hyx))
                have hdy : decide ((y : Int) < (x : Int)) = true := decide_eq_true (by omega)
                go_wp2_with fail
                refine (bad_any 3 (p + 1) _).mono ?_; rintro v wb ⟨rfl, G⟩
                have KB := hidd (K4.out.kept G)
                unfold setW faultV
                go_wp2_with (first | (refine wpList_store_bes (f := fun _ => .int .u64 ((0 : Nat) : Int)) rfl rfl rfl rfl KB.out.set info_set (fun j _ => rfl) ?_; intro w5 hS hb5) | (refine wpList_store_bes (f := twoF (.int .i64 (3 : Nat)) (.int .i64 ((p + 1) : Nat))) rfl rfl rfl rfl (hb5.arr (by omega) KB.out.fault) info_fault (fun j _ => twoF_one _ _ rfl rfl j) ?_; intro w6 hF hb6))
                have HQ := readR_fail (e := 3) (p := (p + 1)) ht1.out (by omega) HRR.out
                exact bodyPost_arr2 rfl rfl rfl (hb6.arr (by omega) hS) hF Tryd.underlying24 rfl info_set Tryd.underlying40 rfl info_fault rfl ⟨by rw [HQ, setV_empty]; rfl, (KB.out.grew.below hb5.below (by omega)).below hb6.below (by omega)⟩
              · have hdy : decide ((y : Int) < (x : Int)) = false := decide_eq_false (by omega)
                have hwy : (y : Int) ≤ 255 := by omega
                have HLE := fun f => hidd (loopR_run (k := k) (f := f) hin HO1.out HHD.out HO2.out hyx)
                have hwx : (x : Int) ≤ 255 := by omega
                go_wp2_with fail
                go_loopw [12] (fun u12 wi => ∃ c : Nat, u12 = .int .i64 c ∧ x ≤ c ∧ c ≤ y + 1 ∧ Hid (RS w t wi (p2) (rngTo f x c))) (fun u12 _ => y + 1 - (intOf u12).toNat)
                case atStart => exact ⟨x, rfl, Nat.le_refl _, by omega, K4.out.eq (rngTo_none f x)⟩
                case round =>
                  obtain ⟨c, rfl, hxc, hcy, KI⟩ := hrel
                  by_cases hc : c ≤ y
                  · obtain ⟨q, hq0⟩ : ∃ q, q = c / 64 := ⟨_, rfl⟩
                    obtain ⟨r, hr0⟩ : ∃ r, r = c % 64 := ⟨_, rfl⟩
                    have hq : ((c : Int) / 64) = (q : Int) := by omega
                    have hr : ((c : Int) % 64) = (r : Int) := by omega
                    have hlt : q < 4 := by omega
                    have hrl : r < 64 := by omega
                    have HI : Hid (64 * q + r = c) := by rw [Hid]; omega
                    have cw := KI.out.set.at0 q hlt
                    have cq := KI.out.set.free0 q hlt
                    have HV := hidd (or_bit (word (rngTo f x c) (64 * q) 64) r (word_lt64 _ _) hrl)
                    have hcd : decide ((c : Int) ≤ (y : Int)) = true := decide_eq_true (by omega)
                    clear hq0 hr0
                    go_wp2_with fail
                    go_region
                    have KN := hidd ((KI.out.more hlt hrl (congrArg (Value.int .u64) HV.out)).eq (g := rngTo f x (c + 1)) fun b => by rw [HI.out]; exact rngTo_next f x c hxc b)
                    go_wp2_with fail
                    exact ⟨⟨c + 1, (by simp), (by omega), (by omega), KN⟩, (by simp [intOf]; omega)⟩
                  · obtain rfl : c = y + 1 := by omega
                    have KN := hidd (KI.out.eq (rngTo_all f x y))
                    have HN := hidd ((HLE f).out)
                    have hcd : decide (((y : Int) + 1) ≤ (y : Int)) = false := decide_eq_false (by omega)
                    have ca := KN.out.text.at_
                    go_wp2_with fail
                    exact ⟨⟨p2, k, rng f x y, KN, (by omega), (by omega), (by rw [Hid, ← HN.out]; exact HL.out)⟩, (by rw [ca, hci]; simp [intOf]; omega)⟩
          · have h45 : ((byteAt t p : Int) == 45) = false := by simp; omega
            go_wp2_with fail
            have hwx : (x : Int) ≤ 255 := by omega
            go_wp2_with fail
            go_loopw [12] (fun u12 wi => ∃ c : Nat, u12 = .int .i64 c ∧ x ≤ c ∧ c ≤ x + 1 ∧ Hid (RS w t wi (p) (rngTo f x c))) (fun u12 _ => x + 1 - (intOf u12).toNat)
            case atStart => exact ⟨x, rfl, Nat.le_refl _, by omega, K2.out.eq (rngTo_none f x)⟩
            case round =>
              obtain ⟨c, rfl, hxc, hcy, KI⟩ := hrel
              by_cases hc : c ≤ x
              · obtain ⟨q, hq0⟩ : ∃ q, q = c / 64 := ⟨_, rfl⟩
                obtain ⟨r, hr0⟩ : ∃ r, r = c % 64 := ⟨_, rfl⟩
                have hq : ((c : Int) / 64) = (q : Int) := by omega
                have hr : ((c : Int) % 64) = (r : Int) := by omega
                have hlt : q < 4 := by omega
                have hrl : r < 64 := by omega
                have HI : Hid (64 * q + r = c) := by rw [Hid]; omega
                have cw := KI.out.set.at0 q hlt
                have cq := KI.out.set.free0 q hlt
                have HV := hidd (or_bit (word (rngTo f x c) (64 * q) 64) r (word_lt64 _ _) hrl)
                have hcd : decide ((c : Int) ≤ (x : Int)) = true := decide_eq_true (by omega)
                clear hq0 hr0
                go_wp2_with fail
                go_region
                have KN := hidd ((KI.out.more hlt hrl (congrArg (Value.int .u64) HV.out)).eq (g := rngTo f x (c + 1)) fun b => by rw [HI.out]; exact rngTo_next f x c hxc b)
                go_wp2_with fail
                exact ⟨⟨c + 1, (by simp), (by omega), (by omega), KN⟩, (by simp [intOf]; omega)⟩
              · obtain rfl : c = x + 1 := by omega
                have KN := hidd (KI.out.eq (rngTo_all f x x))
                have HN := hidd (loopR_lone (k := k) (f := f) hin ho (fun h => hd2 h.2))
                have hcd : decide (((x : Int) + 1) ≤ (x : Int)) = false := decide_eq_false (by omega)
                have ca := KN.out.text.at_
                go_wp2_with fail
                exact ⟨⟨p, k, rng f x x, KN, (by omega), (by omega), (by rw [Hid, ← HN.out]; exact HL.out)⟩, (by rw [ca, hci]; simp [intOf]; omega)⟩
        · have hdd1 : decide ((p : Int) < (t.size : Int)) = false := decide_eq_false (by omega)
          have hwx : (x : Int) ≤ 255 := by omega
          go_wp2_with fail
          go_loopw [12] (fun u12 wi => ∃ c : Nat, u12 = .int .i64 c ∧ x ≤ c ∧ c ≤ x + 1 ∧ Hid (RS w t wi (p) (rngTo f x c))) (fun u12 _ => x + 1 - (intOf u12).toNat)
          case atStart => exact ⟨x, rfl, Nat.le_refl _, by omega, K2.out.eq (rngTo_none f x)⟩
          case round =>
            obtain ⟨c, rfl, hxc, hcy, KI⟩ := hrel
            by_cases hc : c ≤ x
            · obtain ⟨q, hq0⟩ : ∃ q, q = c / 64 := ⟨_, rfl⟩
              obtain ⟨r, hr0⟩ : ∃ r, r = c % 64 := ⟨_, rfl⟩
              have hq : ((c : Int) / 64) = (q : Int) := by omega
              have hr : ((c : Int) % 64) = (r : Int) := by omega
              have hlt : q < 4 := by omega
              have hrl : r < 64 := by omega
              have HI : Hid (64 * q + r = c) := by rw [Hid]; omega
              have cw := KI.out.set.at0 q hlt
              have cq := KI.out.set.free0 q hlt
              have HV := hidd (or_bit (word (rngTo f x c) (64 * q) 64) r (word_lt64 _ _) hrl)
              have hcd : decide ((c : Int) ≤ (x : Int)) = true := decide_eq_true (by omega)
              clear hq0 hr0
              go_wp2_with fail
              go_region
              have KN := hidd ((KI.out.more hlt hrl (congrArg (Value.int .u64) HV.out)).eq (g := rngTo f x (c + 1)) fun b => by rw [HI.out]; exact rngTo_next f x c hxc b)
              go_wp2_with fail
              exact ⟨⟨c + 1, (by simp), (by omega), (by omega), KN⟩, (by simp [intOf]; omega)⟩
            · obtain rfl : c = x + 1 := by omega
              have KN := hidd (KI.out.eq (rngTo_all f x x))
              have HN := hidd (loopR_lone (k := k) (f := f) hin ho (fun h => hd1 h.1))
              have hcd : decide (((x : Int) + 1) ≤ (x : Int)) = false := decide_eq_false (by omega)
              have ca := KN.out.text.at_
              go_wp2_with fail
              exact ⟨⟨p, k, rng f x x, KN, (by omega), (by omega), (by rw [Hid, ← HN.out]; exact HL.out)⟩, (by rw [ca, hci]; simp [intOf]; omega)⟩
    · have HRR := hidd (HL.out.symm.trans (loopR_end (by omega)))
      obtain rfl : i = t.size := by omega
      have HQ := readR_good (f := f) ht1.out HRR.out
      go_wp2_with (first | (refine wpList_load_arr rfl rfl rfl KR.out.set Tryd.underlying24 rfl info_set ?_) | (refine wpList_store_bes (f := fun j => .int .u64 (word f (64 * j) 64)) rfl rfl rfl rfl KR.out.set info_set (fun j _ => rfl) ?_; intro w5 hS hb5) | (refine wpList_store_bes (f := twoF (.int .i64 0) (.int .i64 0)) rfl rfl rfl rfl (hb5.arr (by omega) KR.out.fault) info_fault (fun j _ => twoF_one _ _ rfl rfl j) ?_; intro w6 hF hb6))
      refine bodyPost_arr2 rfl rfl rfl (hb6.arr (by omega) hS) hF Tryd.underlying24 rfl info_set Tryd.underlying40 rfl info_fault rfl ⟨?_, (KR.out.grew.below hb5.below (by omega)).below hb6.below (by omega)⟩
      rw [HQ, HNB.out, setV_congr (g := f) (fun b _ => by simp)]
      rfl
end Go.Proofs.YtolfdcbebjfjiaaDoor
