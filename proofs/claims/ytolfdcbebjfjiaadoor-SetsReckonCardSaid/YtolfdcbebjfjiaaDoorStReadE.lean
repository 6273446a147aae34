/- sets.Read: at the empty text. No condition but the texts' own bound. -/
import Derived.Test.YtolfdcbebjfjiaaDoorStReadW
namespace Go.Proofs.YtolfdcbebjfjiaaDoor
open Go.RowKit
set_option linter.unusedVariables false
set_option maxRecDepth 20000 in
set_option maxHeartbeats 4000000 in
theorem Read_empty (t : ByteArray) (w : World) (ht : t.size ≤ 65536) (h0 : t.size = 0) : Calls Tryd.prog 24 #[.string t] w fun v w' => v = .returned (.tuple #[setV (readR t).2.2, faultV (readR t).1 (readR t).2.1]) ∧ Grew w w' := by
  have HR := hidd (RS.start w t)
  unfold wordsB at HR
  have HNB : Hid (notR t = false) := by simp [Hid, notR, h0]
  have h6 := nilT h0
  have ht1 := hidd ht
  go_enter Tryd.func24, Tryd.ntmps24
  go_wp2_with fail
  go_loopw [8, 9, 10, 11, 12] (fun u8 u9 u10 u11 u12 wr => ∃ (i k : Nat) (f : Nat → Bool), Hid (RS w t wr i f) ∧ i ≤ t.size ∧ t.size - i ≤ k ∧ Hid (loopR (byteAt t) t.size k i f = loopR (byteAt t) t.size t.size (notR t).toNat emptyS)) (fun _ _ _ _ _ wr => t.size - (intOf ((wr.cell? ⟨w.heap.size + 1 + 1 + 1, 0, none⟩).getD undef)).toNat)
  case atStart => exact ⟨0, t.size, emptyS, HR, by omega, by omega, (by rw [Hid, HNB.out]; rfl)⟩
  case round =>
    obtain ⟨i, k, f, KR, hi, hk, HL⟩ := hrel
    clear HR
    have c0 := KR.out.text.at_
    have c1 := KR.out.text.text
    have cf := KR.out.text.free
    have hci := c0
    by_cases hin : i < t.size
    · omega
    · have HRR := hidd (HL.out.symm.trans (loopR_end (by omega)))
      obtain rfl : i = t.size := by omega
      have HQ := readR_good (f := f) ht1.out HRR.out
      go_wp2_with (first | (refine wpList_load_arr rfl rfl rfl KR.out.set Tryd.underlying24 rfl info_set ?_) | (refine wpList_store_bes (f := fun j => .int .u64 (word f (64 * j) 64)) rfl rfl rfl rfl KR.out.set info_set (fun j _ => rfl) ?_; intro w5 hS hb5) | (refine wpList_store_bes (f := twoF (.int .i64 0) (.int .i64 0)) rfl rfl rfl rfl (hb5.arr (by omega) KR.out.fault) info_fault (fun j _ => twoF_one _ _ rfl rfl j) ?_; intro w6 hF hb6))
      refine bodyPost_arr2 rfl rfl rfl (hb6.arr (by omega) hS) hF Tryd.underlying24 rfl info_set Tryd.underlying40 rfl info_fault rfl ⟨?_, (KR.out.grew.below hb5.below (by omega)).below hb6.below (by omega)⟩
      rw [HQ, HNB.out, setV_congr (g := f) (fun b _ => by simp)]
      rfl
end Go.Proofs.YtolfdcbebjfjiaaDoor
