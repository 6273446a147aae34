/- The document's Read: at a text without a sign ahead. No condition but the texts' own bound. -/
import Derived.Test.YtolfdcbebjfjiaaStRPrint
namespace Go.Proofs.Ytolfdcbebjfjiaa
open Go.RowKit
set_option linter.unusedVariables false
/-- The three blocks of a call of the document's Read. -/
structure RT (w : World) (wr : World) (g : Nat → Bool) : Prop where
  set : ArrAt wr w.heap.size 0 4 (fun j => .int .u64 ((0 : Nat) : Int))
  fault : ArrAt wr (w.heap.size + 1) 0 2 (twoF (.int .i64 0) (.int .i64 0))
  row : ArrAt wr (w.heap.size + 1 + 1) 0 256 (fun j => .bool (g j))
  grew : Grew w wr
theorem RT.start (w : World) : RT w (((w.alloc (.cells (wordsB fun _ => 0) 24)).alloc (.cells #[.int .i64 0, .int .i64 0] 28)).alloc (.cells (rowB 256 fun _ => .bool false) 35)) emptyS := by
  refine ⟨((words_at w _).alloc _).alloc _, ?_, ?_, (((Grew.refl w).alloc _).alloc _).alloc _⟩
  · have := two_at (w.alloc (.cells (wordsB fun _ => 0) 24)) (.int .i64 0) (.int .i64 0) 28
    rw [World.size_alloc] at this
    exact this.alloc _
  · have := row_at ((w.alloc (.cells (wordsB fun _ => 0) 24)).alloc (.cells #[.int .i64 0, .int .i64 0] 28)) (fun _ => .bool false)
    rw [World.size_alloc, World.size_alloc] at this
    exact this
theorem RT.put {w wr : World} {g g' : Nat → Bool} (h : RT w wr g) {c : Nat} (hc : c < 256) (v : Bool) (e : ∀ j, g' j = if j = c then v else g j) : RT w (wr.setCell ⟨w.heap.size + 1 + 1, c, none⟩ (.bool v)) g' :=
  ⟨h.set.other _ (show w.heap.size + 1 + 1 ≠ w.heap.size by omega) _, h.fault.other _ (show w.heap.size + 1 + 1 ≠ w.heap.size + 1 by omega) _, (h.row.set0 c hc _).congr fun j hj => by
    rw [e]
    by_cases hj : j = c
    · rw [if_pos hj, if_pos hj]
    · rw [if_neg hj, if_neg hj], h.grew.setCell (p := ⟨w.heap.size + 1 + 1, c, none⟩) (show w.heap.size ≤ w.heap.size + 1 + 1 by omega) _⟩
theorem RT.eq {w wr : World} {f g : Nat → Bool} (h : RT w wr f) (e : ∀ b, f b = g b) : RT w wr g := by rwa [funext e] at h
theorem rngTo_put (f : Nat → Bool) (x c : Nat) (h : x ≤ c) (b : Nat) : rngTo f x (c + 1) b = if b = c then true else rngTo f x c b := by
  rw [← rngTo_next f x c h b]
  unfold upd
  by_cases e : b = c
  · rw [if_pos e]; simp [e]
  · rw [if_neg e]; simp [e]
/-- The first j of them turned. -/
def flip (g : Nat → Bool) (nb : Bool) (j : Nat) : Nat → Bool := fun c => if c < j then g c != nb else g c
theorem flip_next (g : Nat → Bool) (nb : Bool) (j : Nat) (c : Nat) : flip g nb (j + 1) c = if c = j then (g j != nb) else flip g nb j c := by
  unfold flip
  by_cases e : c = j
  · subst e; rw [if_pos (by omega), if_pos rfl]
  · rw [if_neg e]
    by_cases h : c < j
    · rw [if_pos (by omega), if_pos h]
    · rw [if_neg (by omega), if_neg h]
set_option maxRecDepth 20000 in
theorem rread_much (t : ByteArray) (w : World) (ht : t.size ≤ maxLen) (h : 65536 < t.size) : Calls Try.prog 7 #[.string t] w fun v w' => v = .returned (.tuple #[setW fun _ => 0, faultV 4 0]) ∧ Grew w w' := by
  have HS : Hid (ArrAt ((w.alloc (.cells (wordsB fun _ => 0) 24)).alloc (.cells #[.int .i64 0, .int .i64 0] 28)) w.heap.size 0 4 (fun j => .int .u64 ((0 : Nat) : Int))) := (words_at w _).alloc _
  have HF : Hid (ArrAt ((w.alloc (.cells (wordsB fun _ => 0) 24)).alloc (.cells #[.int .i64 0, .int .i64 0] 28)) (w.heap.size + 1) 0 2 (twoF (.int .i64 0) (.int .i64 0))) := by
    have := two_at (w.alloc (.cells (wordsB fun _ => 0) 24)) (.int .i64 0) (.int .i64 0) 28
    rw [World.size_alloc] at this
    exact this
  have HG : Hid (Grew w ((w.alloc (.cells (wordsB fun _ => 0) 24)).alloc (.cells #[.int .i64 0, .int .i64 0] 28))) := ((Grew.refl w).alloc _).alloc _
  unfold wordsB at HS HF HG
  have htt : t.size ≤ 9223372036854775807 := by unfold maxLen at ht; omega
  clear ht
  go_enter Try.func7, Try.ntmps7
  go_wp2_with (first | (refine wpList_store_bes (f := fun _ => .int .u64 ((0 : Nat) : Int)) rfl rfl rfl rfl HS.out info_set (fun j _ => rfl) ?_; intro w5 hS hb5) | (refine wpList_store_bes (f := twoF (.int .i64 ((4 : Nat) : Int)) (.int .i64 ((0 : Nat) : Int))) rfl rfl rfl rfl (hb5.arr (by omega) HF.out) info_fault (fun j _ => twoF_one _ _ rfl rfl j) ?_; intro w6 hF hb6))
  exact bodyPost_arr2 rfl rfl rfl (hb6.arr (by omega) hS) hF Try.underlying24 rfl info_set Try.underlying28 rfl info_fault rfl ⟨rfl, (HG.out.below hb5.below (by omega)).below hb6.below (by omega)⟩
set_option maxRecDepth 20000 in
set_option maxHeartbeats 4000000 in
theorem rread_plain (t : ByteArray) (w : World) (ht : t.size ≤ 65536) (h0 : 0 < t.size) (h9 : byteAt t 0 ≠ 94) : Calls Try.prog 7 #[.string t] w fun v w' => v = .returned (.tuple #[setV (readR t).2.2, faultV (readR t).1 (readR t).2.1]) ∧ Grew w w' := by
  have hz := run_zero_row
  have HR := hidd (RT.start w)
  unfold wordsB at HR
  have HNB : Hid (notR t = false) := by simp [Hid, notR, h9]
  have hp0 : decide ((0 : Int) < (t.size : Int)) = true := decide_eq_true (by omega)
  have hp1 : decide (0 < t.size) = true := decide_eq_true h0
  have hb0 := byteAt_eq (t := t) (i := 0) h0
  have h94 : (((t[0]'h0).toNat : Int) == 94) = false := by simp; omega
  have ht1 := hidd ht
  go_enter Try.func7, Try.ntmps7
  go_wp2_with fail
  go_loopw [5, 7, 8, 9, 10] (fun u5 u7 u8 u9 u10 wr => ∃ (i k : Nat) (f : Nat → Bool), u5 = .int .i64 i ∧ Hid (RT w wr f) ∧ i ≤ t.size ∧ t.size - i ≤ k ∧ Hid (loopR (byteAt t) t.size k i f = loopR (byteAt t) t.size t.size (notR t).toNat emptyS)) (fun u5 _ _ _ _ _ => t.size - (intOf u5).toNat)
  case atStart => exact ⟨0, t.size, emptyS, rfl, HR, by omega, by omega, (by rw [Hid, HNB.out]; rfl)⟩
  case round =>
    obtain ⟨i, k, f, rfl, KR, hi, hk, HL⟩ := hrel
    clear HR
    by_cases hin : i < t.size
    · obtain ⟨k, rfl⟩ : ∃ k', k = k' + 1 := ⟨k - 1, by omega⟩
      obtain ⟨⟨o, p⟩, ho⟩ : ∃ r, oneR (byteAt t) t.size i = r := ⟨_, rfl⟩
      have hil : decide ((i : Int) < (t.size : Int)) = true := decide_eq_true (by omega)
      have hil2 : decide (i < t.size) = true := decide_eq_true (by omega)
      have HO := hidd ho
      go_wp2_with fail
      refine (rone_any i t wr ht1.out (by omega) o p HO.out).mono ?_; rintro e w2 ⟨rfl, rfl⟩
      cases o with
      | none =>
        have HRR := hidd (HL.out.symm.trans (loopR_none hin ho))
        unfold oneI
        have HRQ := readR_fail (e := 2) (p := p) ht1.out (by omega) HRR.out
        go_wp2_with (first | (refine wpList_store_bes (f := fun _ => .int .u64 ((0 : Nat) : Int)) rfl rfl rfl rfl KR.out.set info_set (fun j _ => rfl) ?_; intro w5 hS hb5) | (refine wpList_store_bes (f := twoF (.int .i64 (2 : Nat)) (.int .i64 (p : Nat))) rfl rfl rfl rfl (hb5.arr (by omega) KR.out.fault) info_fault (fun j _ => twoF_one _ _ rfl rfl j) ?_; intro w6 hF hb6))
        exact bodyPost_arr2 rfl rfl rfl (hb6.arr (by omega) hS) hF Try.underlying24 rfl info_set Try.underlying28 rfl info_fault rfl ⟨by rw [HRQ, setV_empty]; rfl, (KR.out.grew.below hb5.below (by omega)).below hb6.below (by omega)⟩
      | some x =>
        obtain ⟨hx, hip, hps⟩ := oneR_some ho
        have hx0 : decide ((x : Int) < 0) = false := decide_eq_false (by omega)
        unfold oneI
        clear ho
        by_cases hd1 : p < t.size
        · have hdd1 : decide ((p : Int) < (t.size : Int)) = true := decide_eq_true (by omega)
          have hdd2 : decide (p < t.size) = true := decide_eq_true hd1
          obtain ⟨c0, hc0⟩ : ∃ c, (t[p]'hd1).toNat = c := ⟨_, rfl⟩
          have HC0 : Hid (byteAt t p = c0) := (byteAt_eq hd1).symm.trans hc0
          by_cases hd2 : c0 = 45
          · have h45 : ((c0 : Int) == 45) = true := by simp [hd2]
            have e1 : (((p + 1 : Nat) : Int)) = (p : Int) + 1 := by omega
            obtain ⟨⟨o2, p2⟩, ho2⟩ : ∃ r, oneR (byteAt t) t.size (p + 1) = r := ⟨_, rfl⟩
            have HO2 := hidd ho2
            have HOne := fun w0 : World => hidd (rone_any (p + 1) t w0 ht1.out (by omega) o2 p2 ho2)
            rw [e1] at HOne
            have HHD : Hid (p < t.size ∧ byteAt t p = 45) := ⟨hd1, HC0.out.trans hd2⟩
            clear ho2
            go_wp2_with fail
            refine (HOne _).out.mono ?_; rintro e w4 ⟨rfl, rfl⟩
            cases o2 with
            | none =>
              have HRR := hidd (HL.out.symm.trans (loopR_none2 hin HO.out HHD.out HO2.out))
              unfold oneI
              have HRQ := readR_fail (e := 2) (p := p2) ht1.out (by omega) HRR.out
              go_wp2_with (first | (refine wpList_store_bes (f := fun _ => .int .u64 ((0 : Nat) : Int)) rfl rfl rfl rfl KR.out.set info_set (fun j _ => rfl) ?_; intro w5 hS hb5) | (refine wpList_store_bes (f := twoF (.int .i64 (2 : Nat)) (.int .i64 (p2 : Nat))) rfl rfl rfl rfl (hb5.arr (by omega) KR.out.fault) info_fault (fun j _ => twoF_one _ _ rfl rfl j) ?_; intro w6 hF hb6))
              exact bodyPost_arr2 rfl rfl rfl (hb6.arr (by omega) hS) hF Try.underlying24 rfl info_set Try.underlying28 rfl info_fault rfl ⟨by rw [HRQ, setV_empty]; rfl, (KR.out.grew.below hb5.below (by omega)).below hb6.below (by omega)⟩
            | some y =>
              obtain ⟨hy, hip2, hps2⟩ := oneR_some HO2.out
              have hy0 : decide ((y : Int) < 0) = false := decide_eq_false (by omega)
              unfold oneI
              by_cases hyx : y < x
              · have HRR := hidd (HL.out.symm.trans (loopR_range hin HO.out HHD.out HO2.out hyx))
                have hdy : decide ((y : Int) < (x : Int)) = true := decide_eq_true (by omega)
                have hdy2 : decide (y < x) = true := decide_eq_true hyx
                have HRQ := readR_fail (e := 3) (p := (p + 1)) ht1.out (by omega) HRR.out
                go_wp2_with (first | (refine wpList_store_bes (f := fun _ => .int .u64 ((0 : Nat) : Int)) rfl rfl rfl rfl KR.out.set info_set (fun j _ => rfl) ?_; intro w5 hS hb5) | (refine wpList_store_bes (f := twoF (.int .i64 (3 : Nat)) (.int .i64 ((p + 1) : Nat))) rfl rfl rfl rfl (hb5.arr (by omega) KR.out.fault) info_fault (fun j _ => twoF_one _ _ rfl rfl j) ?_; intro w6 hF hb6))
                exact bodyPost_arr2 rfl rfl rfl (hb6.arr (by omega) hS) hF Try.underlying24 rfl info_set Try.underlying28 rfl info_fault rfl ⟨by rw [HRQ, setV_empty]; rfl, (KR.out.grew.below hb5.below (by omega)).below hb6.below (by omega)⟩
              · have hdy : decide ((y : Int) < (x : Int)) = false := decide_eq_false (by omega)
                have hdy2 : decide (y < x) = false := decide_eq_false hyx
                have HLE := hidd (loopR_run (k := k) (f := f) hin HO.out HHD.out HO2.out hyx)
                go_wp2_with fail
                go_loopw [10] (fun u10 wi => ∃ c : Nat, u10 = .int .i64 c ∧ x ≤ c ∧ c ≤ y + 1 ∧ Hid (RT w wi (rngTo f x c))) (fun u10 _ => y + 1 - (intOf u10).toNat)
                case atStart => exact ⟨x, rfl, Nat.le_refl _, by omega, KR.out.eq (rngTo_none f x)⟩
                case round =>
                  obtain ⟨c, rfl, hxc, hcy, KI⟩ := hrel
                  by_cases hc : c ≤ y
                  · have cw := KI.out.row.at0 c (by omega)
                    have cq := KI.out.row.free0 c (by omega)
                    have hcd : decide ((c : Int) ≤ (y : Int)) = true := decide_eq_true (by omega)
                    have hcd2 : decide (c ≤ y) = true := decide_eq_true (by omega)
                    have KN := hidd (KI.out.put (g' := rngTo f x (c + 1)) (c := c) (by omega) true (rngTo_put f x c hxc))
                    go_wp2_with fail
                    exact ⟨⟨c + 1, (by simp), (by omega), (by omega), KN⟩, (by simp [intOf]; omega)⟩
                  · have HC : Hid (c = y + 1) := by rw [Hid]; omega
                    have KN := hidd (KI.out.eq (g := rng f x y) fun b => by rw [HC.out]; exact rngTo_all f x y b)
                    have HN := hidd (HLE.out)
                    have hcd : decide ((c : Int) ≤ (y : Int)) = false := decide_eq_false (by omega)
                    have hcd2 : decide (c ≤ y) = false := decide_eq_false (by omega)
                    go_wp2_with fail
                    exact ⟨⟨p2, k, rng f x y, (by simp), KN, (by omega), (by omega), (by rw [Hid, ← HN.out]; exact HL.out)⟩, (by simp [intOf]; omega)⟩
          · have h45 : ((c0 : Int) == 45) = false := by simp; omega
            go_wp2_with fail
            go_loopw [10] (fun u10 wi => ∃ c : Nat, u10 = .int .i64 c ∧ x ≤ c ∧ c ≤ x + 1 ∧ Hid (RT w wi (rngTo f x c))) (fun u10 _ => x + 1 - (intOf u10).toNat)
            case atStart => exact ⟨x, rfl, Nat.le_refl _, by omega, KR.out.eq (rngTo_none f x)⟩
            case round =>
              obtain ⟨c, rfl, hxc, hcy, KI⟩ := hrel
              by_cases hc : c ≤ x
              · have cw := KI.out.row.at0 c (by omega)
                have cq := KI.out.row.free0 c (by omega)
                have hcd : decide ((c : Int) ≤ (x : Int)) = true := decide_eq_true (by omega)
                have hcd2 : decide (c ≤ x) = true := decide_eq_true (by omega)
                have KN := hidd (KI.out.put (g' := rngTo f x (c + 1)) (c := c) (by omega) true (rngTo_put f x c hxc))
                go_wp2_with fail
                exact ⟨⟨c + 1, (by simp), (by omega), (by omega), KN⟩, (by simp [intOf]; omega)⟩
              · have HC : Hid (c = x + 1) := by rw [Hid]; omega
                have KN := hidd (KI.out.eq (g := rng f x x) fun b => by rw [HC.out]; exact rngTo_all f x x b)
                have HN := hidd (loopR_lone (k := k) (f := f) hin HO.out (fun h => hd2 (HC0.out.symm.trans h.2)))
                have hcd : decide ((c : Int) ≤ (x : Int)) = false := decide_eq_false (by omega)
                have hcd2 : decide (c ≤ x) = false := decide_eq_false (by omega)
                go_wp2_with fail
                exact ⟨⟨p, k, rng f x x, (by simp), KN, (by omega), (by omega), (by rw [Hid, ← HN.out]; exact HL.out)⟩, (by simp [intOf]; omega)⟩
        · have hdd1 : decide ((p : Int) < (t.size : Int)) = false := decide_eq_false (by omega)
          have hdd2 : decide (p < t.size) = false := decide_eq_false hd1
          go_wp2_with fail
          go_loopw [10] (fun u10 wi => ∃ c : Nat, u10 = .int .i64 c ∧ x ≤ c ∧ c ≤ x + 1 ∧ Hid (RT w wi (rngTo f x c))) (fun u10 _ => x + 1 - (intOf u10).toNat)
          case atStart => exact ⟨x, rfl, Nat.le_refl _, by omega, KR.out.eq (rngTo_none f x)⟩
          case round =>
            obtain ⟨c, rfl, hxc, hcy, KI⟩ := hrel
            by_cases hc : c ≤ x
            · have cw := KI.out.row.at0 c (by omega)
              have cq := KI.out.row.free0 c (by omega)
              have hcd : decide ((c : Int) ≤ (x : Int)) = true := decide_eq_true (by omega)
              have hcd2 : decide (c ≤ x) = true := decide_eq_true (by omega)
              have KN := hidd (KI.out.put (g' := rngTo f x (c + 1)) (c := c) (by omega) true (rngTo_put f x c hxc))
              go_wp2_with fail
              exact ⟨⟨c + 1, (by simp), (by omega), (by omega), KN⟩, (by simp [intOf]; omega)⟩
            · have HC : Hid (c = x + 1) := by rw [Hid]; omega
              have KN := hidd (KI.out.eq (g := rng f x x) fun b => by rw [HC.out]; exact rngTo_all f x x b)
              have HN := hidd (loopR_lone (k := k) (f := f) hin HO.out (fun h => hd1 h.1))
              have hcd : decide ((c : Int) ≤ (x : Int)) = false := decide_eq_false (by omega)
              have hcd2 : decide (c ≤ x) = false := decide_eq_false (by omega)
              go_wp2_with fail
              exact ⟨⟨p, k, rng f x x, (by simp), KN, (by omega), (by omega), (by rw [Hid, ← HN.out]; exact HL.out)⟩, (by simp [intOf]; omega)⟩
    · have HRR := hidd (HL.out.symm.trans (loopR_end (by omega)))
      have hil : decide ((i : Int) < (t.size : Int)) = false := decide_eq_false (by omega)
      have hil2 : decide (i < t.size) = false := decide_eq_false hin
      have HRQ := hidd (readR_good (f := f) ht1.out HRR.out)
      have HBk := fun w0 : World => hidd (Back_any (flip f false 256) w0)
      clear HRR HL
      go_wp2_with fail
      go_loopw [11, 81] (fun u11 u81 wi => ∃ j : Nat, u81 = .int .i64 j ∧ j ≤ 256 ∧ Hid (RT w wi (flip f false j))) (fun _ u81 _ => 256 - (intOf u81).toNat)
      case atStart => exact ⟨0, rfl, Nat.zero_le _, KR.out.eq fun b => by simp [flip]⟩
      case round =>
        obtain ⟨j, rfl, hj, KI⟩ := hrel
        by_cases hj2 : j < 256
        · have cw := KI.out.row.at0 j hj2
          have cq := KI.out.row.free0 j hj2
          have hfl : flip f false j j = f j := by unfold flip; rw [if_neg (by omega)]
          rw [hfl] at cw
          have KN := hidd (KI.out.put (g' := flip f false (j + 1)) (c := j) hj2 (f j != false) (flip_next f false j))
          cases hfj : f j with
          | true =>
            rw [hfj] at cw KN
            go_wp2_with fail
            exact ⟨⟨j + 1, (by simp), (by omega), KN⟩, (by simp [intOf]; omega)⟩
          | false =>
            rw [hfj] at cw KN
            go_wp2_with fail
            exact ⟨⟨j + 1, (by simp), (by omega), KN⟩, (by simp [intOf]; omega)⟩
        · obtain rfl : j = 256 := by omega
          unfold rowF at HBk
          go_wp2_with (refine wpList_load_arr rfl rfl rfl KI.out.row Try.underlying35 rfl info_row ?_)
          refine (HBk _).out.mono ?_; rintro e w3 ⟨rfl, G3⟩
          have hS0 := hidd (KI.out.set.kept G3)
          have hF0 := hidd (KI.out.fault.kept G3)
          have HG := hidd (KI.out.grew.trans G3)
          unfold setV
          go_wp2_with (first | (refine wpList_store_bes (f := fun j => .int .u64 (word (flip f false 256) (64 * j) 64)) rfl rfl rfl rfl hS0.out info_set (fun j _ => rfl) ?_; intro w5 hS hb5) | (refine wpList_store_bes (f := twoF (.int .i64 0) (.int .i64 0)) rfl rfl rfl rfl (hb5.arr (by omega) hF0.out) info_fault (fun j _ => twoF_one _ _ rfl rfl j) ?_; intro w6 hF hb6))
          refine bodyPost_arr2 rfl rfl rfl (hb6.arr (by omega) hS) hF Try.underlying24 rfl info_set Try.underlying28 rfl info_fault rfl ⟨?_, (HG.out.below hb5.below (by omega)).below hb6.below (by omega)⟩
          rw [HRQ.out, HNB.out, setV_congr (g := flip f false 256) (fun b hb => by simp [flip, hb])]
          rfl
end Go.Proofs.Ytolfdcbebjfjiaa
