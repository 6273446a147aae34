/- sets.Read: at a text with a sign ahead. No condition but the texts' own bound. -/
import Derived.Test.YtolfdcbebjfjiaaDoorStReadW
namespace Go.Proofs.YtolfdcbebjfjiaaDoor
open Go.RowKit
set_option linter.unusedVariables false
theorem RS.one {w wr : World} {t : ByteArray} (x : Int) (i : Nat) (hx : x = i) (h : wr = (((w.alloc (.cells #[.string t] 9)).alloc (.cells (wordsB fun _ => 0) 24)).alloc (.cells #[.int .i64 0, .int .i64 0] 40)).alloc (.cells #[.int .i64 x] 3)) : RS w t wr i emptyS := by
  subst hx
  subst h
  refine ⟨⟨?_, ?_, ?_, by omega⟩, ?_, ?_, ((((Grew.refl w).alloc _).alloc _).alloc _).alloc _⟩
  · have := World.cell?_alloc_mark ((((w.alloc (.cells #[.string t] 9)).alloc (.cells (wordsB fun _ => 0) 24)).alloc (.cells #[.int .i64 0, .int .i64 0] 40))) #[.int .i64 i] 3 (0, 0) 0
    rw [World.size_alloc, World.size_alloc, World.size_alloc] at this
    exact this
  · have := World.frozen?_alloc_mark ((((w.alloc (.cells #[.string t] 9)).alloc (.cells (wordsB fun _ => 0) 24)).alloc (.cells #[.int .i64 0, .int .i64 0] 40))) #[.int .i64 i] 3 0 0 0
    rw [World.size_alloc, World.size_alloc, World.size_alloc] at this
    rw [this]; rfl
  · have h : (w.alloc (.cells #[.string t] 9)).cell? ⟨w.heap.size, 0, none⟩ = some (.string t) := by rw [World.cell?_alloc_mark]; rfl
    exact ((((Grew.refl _).alloc _).alloc _).alloc _).keeps h
  · have := zeros_at (w.alloc (.cells #[.string t] 9))
    rw [World.size_alloc] at this
    exact (this.alloc _).alloc _
  · have := two_at ((w.alloc (.cells #[.string t] 9)).alloc (.cells (wordsB fun _ => 0) 24)) (.int .i64 0) (.int .i64 0) 40
    rw [World.size_alloc, World.size_alloc] at this
    exact this.alloc _
set_option maxRecDepth 20000 in
set_option maxHeartbeats 4000000 in
theorem Read_not (t : ByteArray) (w : World) (ht : t.size ≤ 65536) (h0 : 0 < t.size) (h9 : byteAt t 0 = 94) : Calls Tryd.prog 24 #[.string t] w fun v w' => v = .returned (.tuple #[setV (readR t).2.2, faultV (readR t).1 (readR t).2.1]) ∧ Grew w w' := by
  have HR := hidd (RS.start w t)
  unfold wordsB at HR
  have HR1 := hidd (RS.one (w := w) (t := t) 1 1 rfl rfl)
  unfold wordsB at HR1
  have HNB : Hid (notR t = true) := by simp [Hid, notR, h9, h0]
  have h6 := isEmptyT h0
  have hb0 := byteAt_eq (t := t) (i := 0) h0
  have h94 : (((t[0]'h0).toNat : Int) == 94) = true := by simp; omega
  have ht1 := hidd ht
  go_enter Tryd.func24, Tryd.ntmps24
  go_wp2_with fail
  go_loopw [8, 9, 10, 11, 12] (fun u8 u9 u10 u11 u12 wr => ∃ (i k : Nat) (f : Nat → Bool), Hid (RS w t wr i f) ∧ i ≤ t.size ∧ t.size - i ≤ k ∧ Hid (loopR (byteAt t) t.size k i f = loopR (byteAt t) t.size t.size (notR t).toNat emptyS)) (fun _ _ _ _ _ wr => t.size - (intOf ((wr.cell? ⟨w.heap.size + 1 + 1 + 1, 0, none⟩).getD undef)).toNat)
  case atStart => exact ⟨1, t.size, emptyS, HR1, by omega, by omega, (by rw [Hid, HNB.out]; rfl)⟩
  case round =>
    obtain ⟨i, k, f, KR, hi, hk, HL⟩ := hrel
    clear HR HR1
    have c0 := KR.out.text.at_
    have c1 := KR.out.text.text
    have cf := KR.out.text.free
    have hci := c0
    by_cases hin : i < t.size
    · obtain ⟨k, rfl⟩ : ∃ k', k = k' + 1 := ⟨k - 1, by omega⟩
      obtain ⟨⟨o, p⟩, ho⟩ : ∃ r, oneR (byteAt t) t.size i = r := ⟨_, rfl⟩
      go_wp2_with fail
      refine (one_any _ _ i t wr KR.out.text hi ht1.out o p ho).mono ?_; rintro e w2 ⟨rfl, T2, B2⟩
      have K2 := hidd (KR.out.beside B2 T2)
      clear c0 c1 cf T2 B2
      cases o with
      | none =>
        have HRR := hidd (HL.out.symm.trans (loopR_none hin ho))
        have c0 := K2.out.text.at_
        have c1 := K2.out.text.text
        unfold oneV
        go_wp2_with fail
        refine (bad_any 2 (p) _).mono ?_; rintro v wb ⟨rfl, G⟩
        have KB := hidd (K2.out.kept G)
        unfold setW faultV
        go_wp2_with (first | (refine wpList_store_bes (f := fun _ => .int .u64 ((0 : Nat) : Int)) rfl rfl rfl rfl KB.out.set info_set (fun j _ => rfl) ?_; intro w5 hS hb5) | (refine wpList_store_bes (f := twoF (.int .i64 (2 : Nat)) (.int .i64 (p : Nat))) rfl rfl rfl rfl (hb5.arr (by omega) KB.out.fault) info_fault (fun j _ => twoF_one _ _ rfl rfl j) ?_; intro w6 hF hb6))
        have HQ := readR_fail (e := 2) (p := p) ht1.out (by omega) HRR.out
        exact bodyPost_arr2 rfl rfl rfl (hb6.arr (by omega) hS) hF Tryd.underlying24 rfl info_set Tryd.underlying40 rfl info_fault rfl ⟨by rw [HQ, setV_empty]; rfl, (KB.out.grew.below hb5.below (by omega)).below hb6.below (by omega)⟩
      | some x =>
        obtain ⟨hx, hip, hps⟩ := oneR_some ho
        have c0 := K2.out.text.at_
        have c1 := K2.out.text.text
        have cf := K2.out.text.free
        unfold oneV
        by_cases hd1 : p < t.size
        · have hix := index_text (t := t) (i := p) hd1
          have hdd1 : decide ((p : Int) < (t.size : Int)) = true := decide_eq_true (by omega)
          by_cases hd2 : byteAt t p = 45
          · have h45 : ((byteAt t p : Int) == 45) = true := by simp [hd2]
            have hbt := byteAt_eq hd1
            have K3 := hidd (K2.out.step (p + 1))
            have e1 : (((p + 1 : Nat) : Int)) = (p : Int) + 1 := by omega
            rw [e1] at K3
            obtain ⟨⟨o2, p2⟩, ho2⟩ : ∃ r, oneR (byteAt t) t.size (p + 1) = r := ⟨_, rfl⟩
            have HO1 := hidd ho
            have HO2 := hidd ho2
            clear ho ho2
            go_wp2_with fail
            refine (one_any _ _ (p + 1) t _ K3.out.text (by omega) ht1.out o2 p2 HO2.out).mono ?_; rintro e w4 ⟨rfl, T4, B4⟩
            have K4 := hidd (K3.out.beside B4 T4)
            clear c0 c1 cf T4 B4
            have c0 := K4.out.text.at_
            have c1 := K4.out.text.text
            have cf := K4.out.text.free
            have HHD := hidd (And.intro hd1 hd2)
            cases o2 with
            | none =>
              have HRR := hidd (HL.out.symm.trans (loopR_none2 hin HO1.out HHD.out HO2.out))
              unfold oneV
              go_wp2_with fail
              refine (bad_any 2 (p2) _).mono ?_; rintro v wb ⟨rfl, G⟩
              have KB := hidd (K4.out.kept G)
              unfold setW faultV
              go_wp2_with (first | (refine wpList_store_bes (f := fun _ => .int .u64 ((0 : Nat) : Int)) rfl rfl rfl rfl KB.out.set info_set (fun j _ => rfl) ?_; intro w5 hS hb5) | (refine wpList_store_bes (f := twoF (.int .i64 (2 : Nat)) (.int .i64 (p2 : Nat))) rfl rfl rfl rfl (hb5.arr (by omega) KB.out.fault) info_fault (fun j _ => twoF_one _ _ rfl rfl j) ?_; intro w6 hF hb6))
              have HQ := readR_fail (e := 2) (p := p2) ht1.out (by omega) HRR.out
              exact bodyPost_arr2 rfl rfl rfl (hb6.arr (by omega) hS) hF Tryd.underlying24 rfl info_set Tryd.underlying40 rfl info_fault rfl ⟨by rw [HQ, setV_empty]; rfl, (KB.out.grew.below hb5.below (by omega)).below hb6.below (by omega)⟩
            | some y =>
              obtain ⟨hy, hip2, hps2⟩ := oneR_some HO2.out
              unfold oneV
              by_cases hyx : y < x
              · have HRR := hidd (HL.out.symm.trans (loopR_range hin HO1.out HHD.out HO2.out hyx))
                have hdy : decide ((y : Int) < (x : Int)) = true := decide_eq_true (by omega)
                go_wp2_with fail
                refine (bad_any 3 (p + 1) _).mono ?_; rintro v wb ⟨rfl, G⟩
                have KB := hidd (K4.out.kept G)
                unfold setW faultV
                go_wp2_with (first | (refine wpList_store_bes (f := fun _ => .int .u64 ((0 : Nat) : Int)) rfl rfl rfl rfl KB.out.set info_set (fun j _ => rfl) ?_; intro w5 hS hb5) | (refine wpList_store_bes (f := twoF (.int .i64 (3 : Nat)) (.int .i64 ((p + 1) : Nat))) rfl rfl rfl rfl (hb5.arr (by omega) KB.out.fault) info_fault (fun j _ => twoF_one _ _ rfl rfl j) ?_; intro w6 hF hb6))
                have HQ := readR_fail (e := 3) (p := (p + 1)) ht1.out (by omega) HRR.out
                exact bodyPost_arr2 rfl rfl rfl (hb6.arr (by omega) hS) hF Tryd.underlying24 rfl info_set Tryd.underlying40 rfl info_fault rfl ⟨by rw [HQ, setV_empty]; rfl, (KB.out.grew.below hb5.below (by omega)).below hb6.below (by omega)⟩
              · have hdy : decide ((y : Int) < (x : Int)) = false := decide_eq_false (by omega)
                have hwy : (y : Int) ≤ 255 := by omega
                have HLE := fun f => hidd (loopR_run (k := k) (f := f) hin HO1.out HHD.out HO2.out hyx)
                have hwx : (x : Int) ≤ 255 := by omega
                go_wp2_with fail
                go_loopw [12] (fun u12 wi => ∃ c : Nat, u12 = .int .i64 c ∧ x ≤ c ∧ c ≤ y + 1 ∧ Hid (RS w t wi (p2) (rngTo f x c))) (fun u12 _ => y + 1 - (intOf u12).toNat)
                case atStart => exact ⟨x, rfl, Nat.le_refl _, by omega, K4.out.eq (rngTo_none f x)⟩
                case round =>
                  obtain ⟨c, rfl, hxc, hcy, KI⟩ := hrel
                  by_cases hc : c ≤ y
                  · obtain ⟨q, hq0⟩ : ∃ q, q = c / 64 := ⟨_, rfl⟩
                    obtain ⟨r, hr0⟩ : ∃ r, r = c % 64 := ⟨_, rfl⟩
                    have hq : ((c : Int) / 64) = (q : Int) := by omega
                    have hr : ((c : Int) % 64) = (r : Int) := by omega
                    have hlt : q < 4 := by omega
                    have hrl : r < 64 := by omega
                    have HI : Hid (64 * q + r = c) := by rw [Hid]; omega
                    have cw := KI.out.set.at0 q hlt
                    have cq := KI.out.set.free0 q hlt
                    have HV := hidd (or_bit (word (rngTo f x c) (64 * q) 64) r (word_lt64 _ _) hrl)
                    have hcd : decide ((c : Int) ≤ (y : Int)) = true := decide_eq_true (by omega)
                    clear hq0 hr0
                    go_wp2_with fail
                    go_region
                    have KN := hidd ((KI.out.more hlt hrl (congrArg (Value.int .u64) HV.out)).eq (g := rngTo f x (c + 1)) fun b => by rw [HI.out]; exact rngTo_next f x c hxc b)
                    go_wp2_with fail
                    exact ⟨⟨c + 1, (by simp), (by omega), (by omega), KN⟩, (by simp [intOf]; omega)⟩
                  · obtain rfl : c = y + 1 := by omega
                    have KN := hidd (KI.out.eq (rngTo_all f x y))
                    have HN := hidd ((HLE f).out)
                    have hcd : decide (((y : Int) + 1) ≤ (y : Int)) = false := decide_eq_false (by omega)
                    have ca := KN.out.text.at_
                    go_wp2_with fail
                    exact ⟨⟨p2, k, rng f x y, KN, (by omega), (by omega), (by rw [Hid, ← HN.out]; exact HL.out)⟩, (by rw [ca, hci]; simp [intOf]; omega)⟩
          · have h45 : ((byteAt t p : Int) == 45) = false := by simp; omega
            go_wp2_with fail
            have hwx : (x : Int) ≤ 255 := by omega
            go_wp2_with fail
            go_loopw [12] (fun u12 wi => ∃ c : Nat, u12 = .int .i64 c ∧ x ≤ c ∧ c ≤ x + 1 ∧ Hid (RS w t wi (p) (rngTo f x c))) (fun u12 _ => x + 1 - (intOf u12).toNat)
            case atStart => exact ⟨x, rfl, Nat.le_refl _, by omega, K2.out.eq (rngTo_none f x)⟩
            case round =>
              obtain ⟨c, rfl, hxc, hcy, KI⟩ := hrel
              by_cases hc : c ≤ x
              · obtain ⟨q, hq0⟩ : ∃ q, q = c / 64 := ⟨_, rfl⟩
                obtain ⟨r, hr0⟩ : ∃ r, r = c % 64 := ⟨_, rfl⟩
                have hq : ((c : Int) / 64) = (q : Int) := by omega
                have hr : ((c : Int) % 64) = (r : Int) := by omega
                have hlt : q < 4 := by omega
                have hrl : r < 64 := by omega
                have HI : Hid (64 * q + r = c) := by rw [Hid]; omega
                have cw := KI.out.set.at0 q hlt
                have cq := KI.out.set.free0 q hlt
                have HV := hidd (or_bit (word (rngTo f x c) (64 * q) 64) r (word_lt64 _ _) hrl)
                have hcd : decide ((c : Int) ≤ (x : Int)) = true := decide_eq_true (by omega)
                clear hq0 hr0
                go_wp2_with fail
                go_region
                have KN := hidd ((KI.out.more hlt hrl (congrArg (Value.int .u64) HV.out)).eq (g := rngTo f x (c + 1)) fun b => by rw [HI.out]; exact rngTo_next f x c hxc b)
                go_wp2_with fail
                exact ⟨⟨c + 1, (by simp), (by omega), (by omega), KN⟩, (by simp [intOf]; omega)⟩
              · obtain rfl : c = x + 1 := by omega
                have KN := hidd (KI.out.eq (rngTo_all f x x))
                have HN := hidd (loopR_lone (k := k) (f := f) hin ho (fun h => hd2 h.2))
                have hcd : decide (((x : Int) + 1) ≤ (x : Int)) = false := decide_eq_false (by omega)
                have ca := KN.out.text.at_
                go_wp2_with fail
                exact ⟨⟨p, k, rng f x x, KN, (by omega), (by omega), (by rw [Hid, ← HN.out]; exact HL.out)⟩, (by rw [ca, hci]; simp [intOf]; omega)⟩
        · have hdd1 : decide ((p : Int) < (t.size : Int)) = false := decide_eq_false (by omega)
          have hwx : (x : Int) ≤ 255 := by omega
          go_wp2_with fail
          go_loopw [12] (fun u12 wi => ∃ c : Nat, u12 = .int .i64 c ∧ x ≤ c ∧ c ≤ x + 1 ∧ Hid (RS w t wi (p) (rngTo f x c))) (fun u12 _ => x + 1 - (intOf u12).toNat)
          case atStart => exact ⟨x, rfl, Nat.le_refl _, by omega, K2.out.eq (rngTo_none f x)⟩
          case round =>
            obtain ⟨c, rfl, hxc, hcy, KI⟩ := hrel
            by_cases hc : c ≤ x
            · obtain ⟨q, hq0⟩ : ∃ q, q = c / 64 := ⟨_, rfl⟩
              obtain ⟨r, hr0⟩ : ∃ r, r = c % 64 := ⟨_, rfl⟩
              have hq : ((c : Int) / 64) = (q : Int) := by omega
              have hr : ((c : Int) % 64) = (r : Int) := by omega
              have hlt : q < 4 := by omega
              have hrl : r < 64 := by omega
              have HI : Hid (64 * q + r = c) := by rw [Hid]; omega
              have cw := KI.out.set.at0 q hlt
              have cq := KI.out.set.free0 q hlt
              have HV := hidd (or_bit (word (rngTo f x c) (64 * q) 64) r (word_lt64 _ _) hrl)
              have hcd : decide ((c : Int) ≤ (x : Int)) = true := decide_eq_true (by omega)
              clear hq0 hr0
              go_wp2_with fail
              go_region
              have KN := hidd ((KI.out.more hlt hrl (congrArg (Value.int .u64) HV.out)).eq (g := rngTo f x (c + 1)) fun b => by rw [HI.out]; exact rngTo_next f x c hxc b)
              go_wp2_with fail
              exact ⟨⟨c + 1, (by simp), (by omega), (by omega), KN⟩, (by simp [intOf]; omega)⟩
            · obtain rfl : c = x + 1 := by omega
              have KN := hidd (KI.out.eq (rngTo_all f x x))
              have HN := hidd (loopR_lone (k := k) (f := f) hin ho (fun h => hd1 h.1))
              have hcd : decide (((x : Int) + 1) ≤ (x : Int)) = false := decide_eq_false (by omega)
              have ca := KN.out.text.at_
              go_wp2_with fail
              exact ⟨⟨p, k, rng f x x, KN, (by omega), (by omega), (by rw [Hid, ← HN.out]; exact HL.out)⟩, (by rw [ca, hci]; simp [intOf]; omega)⟩
    · have HRR := hidd (HL.out.symm.trans (loopR_end (by omega)))
      obtain rfl : i = t.size := by omega
      have HQ := readR_good (f := f) ht1.out HRR.out
      have KV := hidd KR.out.set
      have c0 := KV.out.at0 0 (by omega)
      have c1 := KV.out.at0 1 (by omega)
      have c2 := KV.out.at0 2 (by omega)
      have c3 := KV.out.at0 3 (by omega)
      simp only [Nat.mul_zero, Nat.mul_one, Nat.reduceMul] at c0 c1 c2 c3
      have HNA := fun w0 : World => hidd (Not_any f w0)
      unfold setV at HNA
      go_wp2_with fail
      refine (HNA _).out.mono ?_; rintro e wn ⟨rfl, G⟩
      have KB := hidd (KR.out.kept G)
      go_wp2_with (first | (refine wpList_store_bes (f := fun j => .int .u64 (word (fun i => !f i) (64 * j) 64)) rfl rfl rfl rfl hS info_set (fun j _ => rfl) ?_; intro w7 hS7 hb7) | (refine wpList_store_bes (f := fun j => .int .u64 (word (fun i => !f i) (64 * j) 64)) rfl rfl rfl rfl KB.out.set info_set (fun j _ => rfl) ?_; intro w5 hS hb5) | (refine wpList_load_arr rfl rfl rfl hS Tryd.underlying24 rfl info_set ?_) | (refine wpList_store_bes (f := twoF (.int .i64 0) (.int .i64 0)) rfl rfl rfl rfl (hb7.arr (by omega) (hb5.arr (by omega) KB.out.fault)) info_fault (fun j _ => twoF_one _ _ rfl rfl j) ?_; intro w6 hF hb6))
      refine bodyPost_arr2 rfl rfl rfl (hb6.arr (by omega) hS7) hF Tryd.underlying24 rfl info_set Tryd.underlying40 rfl info_fault rfl ⟨?_, ((KB.out.grew.below hb5.below (by omega)).below hb7.below (by omega)).below hb6.below (by omega)⟩
      rw [HQ, HNB.out, setV_congr (g := fun i => !f i) (fun b _ => by simp)]
      rfl
end Go.Proofs.YtolfdcbebjfjiaaDoor
