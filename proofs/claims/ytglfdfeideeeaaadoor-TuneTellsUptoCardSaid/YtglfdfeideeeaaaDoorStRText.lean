/- The document's Of and Text. Condition: the text's own bound. -/
import Derived.Test.YtglfdfeideeeaaaDoorStRef
import Derived.Test.YtglfdfeideeeaaaDoorPScInv
import Derived.Test.YtglfdfeideeeaaaDoorStBits
namespace Go.Proofs.YtglfdfeideeeaaaDoor
open Go.RowKit
set_option linter.unusedVariables false
set_option maxRecDepth 20000 in
set_option maxHeartbeats 4000000 in
theorem RText_any (f : Nat → Bool) (w : World) : Calls Tryd.prog 67 #[setV f] w fun e w' => e = .returned (.string ⟨(bytesL (bl f 0 256)).toArray⟩) ∧ Grew w w' := by
  have HBy := fun w0 : World => hidd (Bytes_any f w0)
  have HG : Hid (Grew w (w.alloc (.cells #[.int .u64 (word f 0 64 : Nat), .int .u64 (word f 64 64 : Nat), .int .u64 (word f 128 64 : Nat), .int .u64 (word f 192 64 : Nat)] 33))) := (Grew.refl w).alloc _
  have HM : Hid (∀ x ∈ bl f 0 256, x < 256) := fun x hx => by have := (bl_mem (f := f) 256 0 x hx).2.1; omega
  unfold setV at HBy ⊢
  go_enter Tryd.func67, Tryd.ntmps67
  go_wp2_with fail
  refine (HBy _).out.mono ?_; rintro e w1 ⟨rfl, G1⟩
  have KW := hidd (HG.out.trans G1)
  have hsz : w.heap.size ≤ w1.heap.size := KW.out.lt
  clear G1 HG HBy
  unfold rowF
  go_wp2_with fail
  go_loopw [3, 4, 5, 8] (fun u3 u4 u5 u8 wr => ∃ (i : Nat), u8 = .int .i64 i ∧ i ≤ 256 ∧ Hid (Own 5 wr w1.heap.size u3 (cellsL (bl f 0 i))) ∧ Hid (Grew w wr) ∧ w1.heap.size ≤ wr.heap.size) (fun _ _ _ u8 _ => 256 - (intOf u8).toNat)
  case atStart => exact ⟨0, rfl, Nat.zero_le _, Own.nil _ _ _, KW, Nat.le_refl _⟩
  case round =>
    obtain ⟨i, rfl, hi, OR, KW, hsr⟩ := hrel
    by_cases h : i < 256
    · have hx := run_index_row (fun j => .bool (f j)) i h
      have HL := hidd (bl_last f 0 i)
      have hwb : IntKind.u8.wrap (i : Int) = (i : Int) := by simp [IntKind.wrap, IntKind.signed, IntKind.bits]; omega
      have hln : (cellsL (bl f 0 i)).length + 1 ≤ 257 := by rw [cellsL_length]; have := bl_length f i 0; omega
      obtain ⟨v', w', hap, HO', HB'⟩ := own_byte OR.out (B := w1.heap.size) hsr (i : Int) (by omega) 69 5
      have HO2 := hidd HO'
      have HB2 := hidd HB'
      clear HO' HB'
      cases hf : f i with
      | true =>
        have hx2 : ∀ w0, (Instr.index 46 (.agg (rowB 256 fun j => .bool (f j))) (.int .i64 i)).run Tryd.prog w0 = .ok (.bool true) w0 := fun w0 => by rw [← hf]; exact hx w0
        clear hx
        go_wp2_with (at_builtin; refine wpList_append_eq rfl rfl rfl rfl hap ?_)
        exact ⟨⟨i + 1, (by simp), (by omega), (by
          rw [HL.out, Nat.zero_add, hf, if_pos rfl, ← cellsL_snoc]; exact HO2), KW.out.below HB2.out hsz, Nat.le_trans hsr HB2.out.size⟩, (by simp [intOf]; omega)⟩
      | false =>
        have hx2 : ∀ w0, (Instr.index 46 (.agg (rowB 256 fun j => .bool (f j))) (.int .i64 i)).run Tryd.prog w0 = .ok (.bool false) w0 := fun w0 => by rw [← hf]; exact hx w0
        clear hx hap
        go_wp2_with fail
        exact ⟨⟨i + 1, (by simp), (by omega), (by
          rw [HL.out, Nat.zero_add, hf, if_neg (by simp), List.append_nil]; exact OR), KW, hsr⟩, (by simp [intOf]; omega)⟩
    · obtain rfl : i = 256 := by omega
      have hf := own_string (bytesL (bl f 0 256)) (by rw [← cellsL_eq _ HM.out]; exact OR.out)
      go_wp2_with fail
      go_ret
      exact ⟨rfl, KW.out⟩
set_option maxRecDepth 20000 in
set_option maxHeartbeats 4000000 in
theorem ROf_any (t : ByteArray) (w : World) (ht0 : t.size ≤ maxLen) : Calls Tryd.prog 68 #[.string t] w fun e w' => e = .returned (setV (setOf t.data.toList)) ∧ Grew w w' := by
  have ht : t.size ≤ 9223372036854775807 := by unfold maxLen at ht0; omega
  clear ht0
  have hz := run_zero_row
  have hb1 := fun w0 : World => bytesOf w0 t
  have HBk := fun w0 : World => hidd (Back_any (setOf t.data.toList) w0)
  have HN : Hid (∀ i (h : i < t.size), setOf (t.data.toList.take (i + 1)) = upd (setOf (t.data.toList.take i)) (t[i].toNat)) := fun i h => take_next t i h
  have HE : Hid (setOf (t.data.toList.take t.size) = setOf t.data.toList) := by
    rw [Hid, List.take_of_length_le (show t.data.toList.length ≤ t.size from Nat.le_refl _)]
  have LS := hidd (show t.data.toList.length = t.size from rfl)
  have HX : ∀ c, Hid (BytesAt (((w.alloc (.cells (wordsB fun _ => 0) 33)).alloc (.cells (rowB 256 fun _ => .bool false) 46)).alloc (.cells (bytesRow t c) 5 ((bytesRow t c).size, (bytesRow t c).size + 1))).drew (w.heap.size + 1 + 1) 0 t.data.toList) := fun c => by
    have := bytesAt_row ((w.alloc (.cells (wordsB fun _ => 0) 33)).alloc (.cells (rowB 256 fun _ => .bool false) 46)) t c 5
    rw [World.size_alloc, World.size_alloc] at this
    exact this.drew
  have HR : ∀ c, Hid (ArrAt (((w.alloc (.cells (wordsB fun _ => 0) 33)).alloc (.cells (rowB 256 fun _ => .bool false) 46)).alloc (.cells (bytesRow t c) 5 ((bytesRow t c).size, (bytesRow t c).size + 1))).drew (w.heap.size + 1) 0 256 (fun j => .bool (setOf (t.data.toList.take 0) j))) := fun c => by
    have := row_at (w.alloc (.cells (wordsB fun _ => 0) 33)) fun _ => .bool false
    rw [World.size_alloc] at this
    exact (this.alloc _).drew
  have HS : ∀ c, Hid (ArrAt (((w.alloc (.cells (wordsB fun _ => 0) 33)).alloc (.cells (rowB 256 fun _ => .bool false) 46)).alloc (.cells (bytesRow t c) 5 ((bytesRow t c).size, (bytesRow t c).size + 1))).drew w.heap.size 0 4 (fun j => .int .u64 ((0 : Nat) : Int))) := fun c => (((words_at w _).alloc _).alloc _).drew
  have HG : ∀ c, Hid (Grew w (((w.alloc (.cells (wordsB fun _ => 0) 33)).alloc (.cells (rowB 256 fun _ => .bool false) 46)).alloc (.cells (bytesRow t c) 5 ((bytesRow t c).size, (bytesRow t c).size + 1))).drew) := fun c => ((((Grew.refl w).alloc _).alloc _).alloc _).drew
  unfold wordsB at HX HR HS HG
  go_enter Tryd.func68, Tryd.ntmps68
  go_wp2_with fail
  go_loopw [5, 9] (fun u5 u9 wr => ∃ (i : Nat), u9 = .int .i64 i ∧ i ≤ t.size ∧ Hid (BytesAt wr (w.heap.size + 1 + 1) 0 t.data.toList) ∧ Hid (ArrAt wr (w.heap.size + 1) 0 256 (fun j => .bool (setOf (t.data.toList.take i) j))) ∧ Hid (ArrAt wr w.heap.size 0 4 (fun j => .int .u64 ((0 : Nat) : Int))) ∧ Hid (Grew w wr)) (fun _ u9 _ => t.size - (intOf u9).toNat)
  case atStart => exact ⟨0, rfl, Nat.zero_le _, HX _, HR _, HS _, HG _⟩
  case round =>
    obtain ⟨i, rfl, hi, KX, KR, KS, KW⟩ := hrel
    clear HX HR HS HG
    by_cases h : i < t.size
    · have h' : i < t.data.toList.length := h
      have cb := KX.out.at0 i h'
      obtain ⟨c, hc⟩ : ∃ c, (t.data.toList[i]'h').toNat = c := ⟨_, rfl⟩
      have hcl : c < 256 := by rw [← hc]; have := (t.data.toList[i]'h').toNat_lt; omega
      rw [hc] at cb
      have HNi : Hid (setOf (t.data.toList.take (i + 1)) = upd (setOf (t.data.toList.take i)) c) := by rw [Hid, HN.out i h, ← hc]; rfl
      have cr := KR.out.at0 c hcl
      have cf := KR.out.free0 c hcl
      clear hc
      go_wp2_with fail
      refine ⟨⟨i + 1, (by simp), (by omega), ?_, (KR.out.set0 c hcl (.bool true)).congr fun j hj => ?_, KS.out.other _ (by simp) _, KW.out.setCell (p := ⟨w.heap.size + 1, c, none⟩) (show w.heap.size ≤ w.heap.size + 1 by omega) _⟩, (by simp [intOf]; omega)⟩
      · intro j hj
        have := KX.out j hj
        exact ⟨by rw [setCell_cell_other _ _ _ _ (.inl (show w.heap.size + 1 ≠ w.heap.size + 1 + 1 by omega))]; exact this.1, by rw [setCell_frozen]; exact this.2⟩
      · rw [HNi.out]
        unfold upd
        by_cases e : j = c <;> simp [e]
    · obtain rfl : i = t.size := by omega
      have K9 := hidd (KR.out.congr (g := fun j => .bool (setOf t.data.toList j)) fun j hj => by rw [HE.out])
      unfold rowF at HBk
      go_wp2_with (refine wpList_load_arr rfl rfl rfl K9.out Tryd.underlying46 rfl info_row ?_)
      refine (HBk _).out.mono ?_; rintro e w3 ⟨rfl, G3⟩
      have S6 := hidd (KS.out.kept G3)
      have W3 := hidd (KW.out.trans G3)
      unfold setV
      go_wp2_with (refine wpList_store_bes (f := fun j => .int .u64 (word (setOf t.data.toList) (64 * j) 64)) rfl rfl rfl rfl S6.out info_set (fun j _ => rfl) ?_; intro w5 hS hb5)
      exact bodyPost_arr rfl rfl hS Tryd.underlying33 rfl info_set rfl ⟨rfl, W3.out.below hb5.below (by omega)⟩
end Go.Proofs.YtglfdfeideeeaaaDoor
