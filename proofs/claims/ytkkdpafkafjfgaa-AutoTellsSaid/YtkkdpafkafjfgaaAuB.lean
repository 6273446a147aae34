/- The document's Accepts. -/
import Derived.Test.YtkkdpafkafjfgaaAuA
import Derived.Test.YtkkdpafkafjfgaaBytes
namespace Go.Proofs.Ytkkdpafkafjfgaa
open Go.RowKit
set_option linter.unusedVariables false
theorem tabC_get (A : Aut) {s c : Nat} (hc : c < 256) : ∀ {i : Nat}, s < i → (tabC A i)[s * 256 + c]? = some (.int .i64 (stepI A s c))
  | 0, h => by omega
  | i + 1, h => by
    rw [tabC_succ]
    by_cases hs : s < i
    · rw [List.getElem?_append_left (by rw [tabC_length]; omega)]
      exact tabC_get A hc hs
    · obtain rfl : s = i := by omega
      rw [List.getElem?_append_right (by rw [tabC_length]; omega), tabC_length, Nat.add_sub_cancel_left, Array.getElem?_toList, rowI_get _ hc]
/-- A table's rows, in place. -/
def TabAt (w : World) (A : Aut) (b off : Nat) : Prop := ∀ s c, s < A.next.length → c < 256 → w.cell? ⟨b, off + s * 256 + c, none⟩ = some (.int .i64 (stepI A s c))
theorem TabAt.kept {w w' : World} {A : Aut} {b off : Nat} (h : TabAt w A b off) (g : Grew w w') : TabAt w' A b off := fun s c hs hc => g.keeps (h s c hs hc)
theorem tab_at {w : World} {base : Nat} {t : TypeId} {v : Value} {A : Aut} (h : QRow w base t 256 v A.next.length (tabC A A.next.length)) (hn : 0 < A.next.length) : ∃ b off cap, v = .slice (some ⟨b, off, none⟩) A.next.length cap ∧ base ≤ b ∧ TabAt w A b off := by
  obtain ⟨b, off, cap, rfl, h1, _, _, _, h2⟩ := h.at hn
  exact ⟨b, off, cap, rfl, h1, fun s c hs hc => by
    rw [Nat.add_assoc]
    exact h2 _ _ (by have : (s + 1) * 256 ≤ A.next.length * 256 := Nat.mul_le_mul_right _ hs; omega) (tabC_get A hc hs)⟩
theorem stepI_nat {A : Aut} (h : RightA A) (hc : A.cls.length = 256) {s c : Nat} (hs : s < A.next.length) (hb : c < 256) : stepI A s c = (stepA A s c : Nat) ∧ stepA A s c < A.next.length := by
  have := (h.to hc hs hb).2
  unfold stepA
  unfold stepI
  omega
set_option maxRecDepth 100000 in
set_option maxHeartbeats 4000000 in
theorem AcceptsR_any (A : Aut) (na ea : Option Addr) (nc ec : Nat) (t : ByteArray) (w : World) (h : AutAt w A na ea) (ht : t.size ≤ maxLen) : Calls Try.prog 8 #[.agg (autB A na nc ea ec), .string t] w fun e w' => e = .returned (accV A t.data.toList) ∧ Grew w w' := by
  have hB := box_new w A na nc ea ec 26
  have hG := (Grew.refl w).alloc (.cells (autB A na nc ea ec) 26)
  have HWr := hidd (WrongR_any A na ea nc ec _ (h.kept hG))
  have HOf : Hid (∀ w1, Grew w w1 → RightA A → Calls Try.prog 19 #[.agg (autB A na nc ea ec)] w1 _) := fun w1 g hr => Of_any A na ea nc ec w1 (h.kept g) hr
  have HSz := hidd (autB_size A na nc ea ec)
  have HH := hidd (heap_alloc_new w (.cells (autB A na nc ea ec) 26))
  have a1 := autB_next A na nc ea ec
  have a2 := autB_ends A na nc ea ec
  generalize autB A na nc ea ec = av at hB hG a1 a2 HWr HOf HSz HH ⊢
  have HG := hidd hG
  have HA := hidd h
  unfold maxLen at ht
  clear hB hG h
  by_cases h0 : wrongA A = 0
  · have HV : Hid (accV A t.data.toList = .tuple #[.bool (takesA A t.data.toList), .int .i64 0]) := by unfold accV; rw [if_pos h0]; rfl
    rw [h0] at HWr
    have HR := hidd (wrongA_zero.1 h0)
    have hb1 := fun w0 : World => bytesOf w0 t
    clear h0
    go_enter Try.func8, Try.ntmps8
    go_wp2_with (refine wpList_load_aut rfl rfl rfl HH.out HSz.out ?_)
    refine HWr.out.mono ?_; rintro e w1 ⟨rfl, g1⟩
    have HH1 := hidd (heap_kept g1 HH.out)
    have HG1 := hidd (HG.out.trans g1)
    have hgl : w.heap.size < w1.heap.size := (Array.getElem?_eq_some_iff.1 HH1.out).1
    clear HWr HH HG g1
    go_wp2_with (refine wpList_load_aut rfl rfl rfl HH1.out HSz.out ?_)
    refine (HOf.out _ HG1.out HR.out).mono ?_; rintro e w2 ⟨qv, rfl, hq, g2⟩
    obtain ⟨qb, qo, qc, rfl, _, hT⟩ := tab_at hq HR.out.n0
    have HT := hidd hT
    have HG2 := hidd (HG1.out.trans g2)
    have hgl2 : w.heap.size < w2.heap.size := Nat.lt_of_lt_of_le hgl g2.size
    clear hq hT HOf HH1 HSz HG1 g2
    obtain ⟨n, hn⟩ : ∃ n, A.next.length = n := ⟨_, rfl⟩
    have HN := hidd hn
    have h9 : n ≤ 8192 := by have := HR.out.n1; omega
    have hp : 0 < n := by have := HR.out.n0; omega
    have HLt : Hid (∀ l, runA A l < n) := fun l => by rw [← hn]; exact runA_lt HR.out HA.out.c256 l
    have hEl : A.ends.length = n := by rw [HR.out.ne, hn]
    have HEl := hidd hEl
    have HP : ∀ c, Hid (Grew w2 ((w2.alloc (.cells #[.slice (some ⟨qb, qo, none⟩) n qc, .slice ea n ec] 44)).alloc (.cells (bytesRow t c) 5 ((bytesRow t c).size, (bytesRow t c).size + 1))).drew ∧
        BytesAt ((w2.alloc (.cells #[.slice (some ⟨qb, qo, none⟩) n qc, .slice ea n ec] 44)).alloc (.cells (bytesRow t c) 5 ((bytesRow t c).size, (bytesRow t c).size + 1))).drew (w2.heap.size + 1) 0 t.data.toList ∧
        ((w2.alloc (.cells #[.slice (some ⟨qb, qo, none⟩) n qc, .slice ea n ec] 44)).alloc (.cells (bytesRow t c) 5 ((bytesRow t c).size, (bytesRow t c).size + 1))).drew.heap[w2.heap.size]? = some (.cells #[.slice (some ⟨qb, qo, none⟩) n qc, .slice ea n ec] 44 (0, 0))) := fun c => by
      have hb := bytesAt_row (w2.alloc (.cells #[.slice (some ⟨qb, qo, none⟩) n qc, .slice ea n ec] 44)) t c 5
      rw [World.size_alloc] at hb
      exact ⟨(((Grew.refl w2).alloc _).alloc _).drew, hb.drew, heap_more (heap_alloc_new w2 _)⟩
    rw [hn, hEl]
    clear hn hEl a1 a2
    go_wp2_with fail
    generalize grownCap (w2.alloc (.cells #[.slice (some ⟨qb, qo, none⟩) n qc, .slice ea n ec] 44)) t.size 0 5 = cap
    have HP1 := HP cap
    clear HP
    generalize ((w2.alloc (.cells #[.slice (some ⟨qb, qo, none⟩) n qc, .slice ea n ec] 44)).alloc (.cells (bytesRow t cap) 5 ((bytesRow t cap).size, (bytesRow t cap).size + 1))).drew = X at HP1 ⊢
    go_loopw [8, 21] (fun s8 s21 wr => ∃ i : Nat, s21 = .int .i64 i ∧ i ≤ t.size ∧ s8 = .int .i64 (runA A (t.data.toList.take i)) ∧ Hid (Grew X wr)) (fun _ s21 _ => t.size - (intOf s21).toNat)
    case atStart => exact ⟨0, rfl, by omega, rfl, Grew.refl X⟩
    case round =>
      obtain ⟨i, rfl, hi, rfl, KG⟩ := hrel
      have HGr := hidd (HP1.out.1.trans KG.out)
      obtain ⟨⟨t0, t1⟩, _⟩ := two_cells (heap_kept KG.out HP1.out.2.2)
      by_cases hlt : i < t.size
      · have kl : decide ((i : Int) < (t.size : Int)) = true := decide_eq_true (by omega)
        obtain ⟨x, hx⟩ : ∃ x, t.data.toList[i]'hlt = x := ⟨_, rfl⟩
        have HTk : Hid (runA A (t.data.toList.take (i + 1)) = stepA A (runA A (t.data.toList.take i)) x.toNat) := by
          rw [List.take_succ_eq_append_getElem (show i < t.data.toList.length from hlt), runA_snoc, hx]; rfl
        have hsn := HLt.out (t.data.toList.take i)
        generalize runA A (t.data.toList.take i) = s at HTk hsn ⊢
        have hxl : x.toNat < 256 := x.toNat_lt
        have cb := KG.out.keeps (HP1.out.2.1.at0 i hlt)
        rw [hx] at cb
        obtain ⟨q, hq⟩ : ∃ q, x.toNat = q := ⟨_, rfl⟩
        rw [hq] at cb HTk hxl
        have hst := stepI_nat HR.out HA.out.c256 (s := s) (c := q) (by rw [HN.out]; exact hsn) hxl
        have ct := HGr.out.keeps (HT.out s q (by rw [HN.out]; exact hsn) hxl)
        rw [hst.1] at ct
        generalize stepA A s q = m at HTk hst ct
        clear hst hx hq
        go_wp2_with fail
        exact ⟨⟨i + 1, by simp, by omega, by rw [HTk.out], KG.out⟩, by simp [intOf]; omega⟩
      · have hie : i = t.size := by omega
        have kl : decide ((i : Int) < (t.size : Int)) = false := decide_eq_false (by omega)
        obtain ⟨eb, eo, rfl, he⟩ := (HA.out.kept (HG2.out.trans HGr.out)).ends.get (by rw [HEl.out]; omega)
        have HX : Hid (accV A t.data.toList = .tuple #[.bool (A.ends.getD (runA A (t.data.toList.take i)) false), .int .i64 0]) := by
          rw [HV.out, hie, List.take_of_length_le (show t.data.toList.length ≤ t.size from Nat.le_refl _)]; rfl
        have hsn := HLt.out (t.data.toList.take i)
        generalize runA A (t.data.toList.take i) = s at HX hsn ⊢
        have c0 := he s (by rw [HEl.out]; exact hsn)
        clear he
        go_wp2_with fail
        exact bodyPost_ret (results_tmp2 rfl _ _ _) rfl ⟨by rw [HX.out]; rfl, HG2.out.trans HGr.out⟩
  · have HV : Hid (accV A t.data.toList = .tuple #[.bool false, .int .i64 (wrongA A)]) := by unfold accV; rw [if_neg h0]; rfl
    obtain ⟨W, hW⟩ : ∃ W, wrongA A = W := ⟨_, rfl⟩
    rw [hW] at h0 HWr HV
    have k1 : (W != 0) = true := by simpa using h0
    clear hW h0
    go_enter Try.func8, Try.ntmps8
    go_wp2_with (refine wpList_load_aut rfl rfl rfl HH.out HSz.out ?_)
    refine HWr.out.mono ?_; rintro e w1 ⟨rfl, g1⟩
    go_wp2_with fail
    exact bodyPost_ret (results_tmp2 rfl _ _ _) rfl ⟨by rw [HV.out]; rfl, HG.out.trans g1⟩
end Go.Proofs.Ytkkdpafkafjfgaa
