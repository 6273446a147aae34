/- The document's Read: at the empty text. No condition but the texts' own bound. -/
import Derived.Test.YtolfdcbebjfjiaaStRRead
namespace Go.Proofs.Ytolfdcbebjfjiaa
open Go.RowKit
set_option linter.unusedVariables false
set_option maxRecDepth 20000 in
set_option maxHeartbeats 4000000 in
theorem rread_empty (t : ByteArray) (w : World) (ht : t.size ≤ 65536) (h0 : t.size = 0) : Calls Try.prog 7 #[.string t] w fun v w' => v = .returned (.tuple #[setV (readR t).2.2, faultV (readR t).1 (readR t).2.1]) ∧ Grew w w' := by
  have hz := run_zero_row
  have HR := hidd (RT.start w)
  unfold wordsB at HR
  have HNB : Hid (notR t = false) := by simp [Hid, notR, h0]
  have ht1 := hidd ht
  go_enter Try.func7, Try.ntmps7
  go_wp2_with fail
  go_loopw [5, 7, 8, 9, 10] (fun u5 u7 u8 u9 u10 wr => ∃ (i k : Nat) (f : Nat → Bool), u5 = .int .i64 i ∧ Hid (RT w wr f) ∧ i ≤ t.size ∧ t.size - i ≤ k ∧ Hid (loopR (byteAt t) t.size k i f = loopR (byteAt t) t.size t.size (notR t).toNat emptyS)) (fun u5 _ _ _ _ _ => t.size - (intOf u5).toNat)
  case atStart => exact ⟨0, t.size, emptyS, rfl, HR, by omega, by omega, (by rw [Hid, HNB.out]; rfl)⟩
  case round =>
    obtain ⟨i, k, f, rfl, KR, hi, hk, HL⟩ := hrel
    clear HR
    by_cases hin : i < t.size
    · omega
    · have HRR := hidd (HL.out.symm.trans (loopR_end (by omega)))
      have hil : decide ((i : Int) < (t.size : Int)) = false := decide_eq_false (by omega)
      have hil2 : decide (i < t.size) = false := decide_eq_false hin
      have HRQ := hidd (readR_good (f := f) ht1.out HRR.out)
      have HBk := fun w0 : World => hidd (Back_any (flip f false 256) w0)
      clear HRR HL
      go_wp2_with fail
      go_loopw [11, 81] (fun u11 u81 wi => ∃ j : Nat, u81 = .int .i64 j ∧ j ≤ 256 ∧ Hid (RT w wi (flip f false j))) (fun _ u81 _ => 256 - (intOf u81).toNat)
      case atStart => exact ⟨0, rfl, Nat.zero_le _, KR.out.eq fun b => by simp [flip]⟩
      case round =>
        obtain ⟨j, rfl, hj, KI⟩ := hrel
        by_cases hj2 : j < 256
        · have cw := KI.out.row.at0 j hj2
          have cq := KI.out.row.free0 j hj2
          have hfl : flip f false j j = f j := by unfold flip; rw [if_neg (by omega)]
          rw [hfl] at cw
          have KN := hidd (KI.out.put (g' := flip f false (j + 1)) (c := j) hj2 (f j != false) (flip_next f false j))
          cases hfj : f j with
          | true =>
            rw [hfj] at cw KN
            go_wp2_with fail
            exact ⟨⟨j + 1, (by simp), (by omega), KN⟩, (by simp [intOf]; omega)⟩
          | false =>
            rw [hfj] at cw KN
            go_wp2_with fail
            exact ⟨⟨j + 1, (by simp), (by omega), KN⟩, (by simp [intOf]; omega)⟩
        · obtain rfl : j = 256 := by omega
          unfold rowF at HBk
          go_wp2_with (refine wpList_load_arr rfl rfl rfl KI.out.row Try.underlying35 rfl info_row ?_)
          refine (HBk _).out.mono ?_; rintro e w3 ⟨rfl, G3⟩
          have hS0 := hidd (KI.out.set.kept G3)
          have hF0 := hidd (KI.out.fault.kept G3)
          have HG := hidd (KI.out.grew.trans G3)
          unfold setV
          go_wp2_with (first | (refine wpList_store_bes (f := fun j => .int .u64 (word (flip f false 256) (64 * j) 64)) rfl rfl rfl rfl hS0.out info_set (fun j _ => rfl) ?_; intro w5 hS hb5) | (refine wpList_store_bes (f := twoF (.int .i64 0) (.int .i64 0)) rfl rfl rfl rfl (hb5.arr (by omega) hF0.out) info_fault (fun j _ => twoF_one _ _ rfl rfl j) ?_; intro w6 hF hb6))
          refine bodyPost_arr2 rfl rfl rfl (hb6.arr (by omega) hS) hF Try.underlying24 rfl info_set Try.underlying28 rfl info_fault rfl ⟨?_, (HG.out.below hb5.below (by omega)).below hb6.below (by omega)⟩
          rw [HRQ.out, HNB.out, setV_congr (g := flip f false 256) (fun b hb => by simp [flip, hb])]
          rfl
end Go.Proofs.Ytolfdcbebjfjiaa
