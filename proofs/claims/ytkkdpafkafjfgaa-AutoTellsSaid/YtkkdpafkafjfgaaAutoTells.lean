/- AutoTells: the walk. Conditions: the automaton lies in memory; the text's own bound; the number's own bound. -/
import Derived.Test.YtkkdpafkafjfgaaAuR
import Derived.Test.YtkkdpafkafjfgaaAuL
namespace Go.Proofs.Ytkkdpafkafjfgaa
open Go.RowKit RR
set_option linter.unusedVariables false
theorem acc_head (A : Aut) (t : List UInt8) : ∃ b e, accV A t = .tuple #[.bool b, .int .i64 e] := by
  unfold accV; split <;> exact ⟨_, _, rfl⟩
theorem cnt_head (A : Aut) (n : Int) : ∃ k e, cntV A n = .tuple #[.int .i64 k, .int .i64 e] := by
  unfold cntV; split
  · split <;> exact ⟨_, _, rfl⟩
  · exact ⟨_, _, rfl⟩
theorem sho_head (A : Aut) (o : Option (List UInt8)) : ∃ s e, shoV A o = .tuple #[.string s, .int .i64 e] := by
  unfold shoV; split
  · cases o <;> exact ⟨_, _, rfl⟩
  · exact ⟨_, _, rfl⟩
theorem sho_one {A : Aut} {o p : Option (List UInt8)} (h : wrongA A = 0 → Short (raA A) o) (k : wrongA A = 0 → Short (raA A) p) : shoV A o = shoV A p := by
  by_cases h0 : wrongA A = 0
  · rw [(h h0).one (k h0)]
  · unfold shoV; rw [if_neg h0, if_neg h0]
theorem go_w1 : isGo Try.prog 5 = true := by kernel_rfl
theorem go_w2 : isGo Try.prog 6 = true := by kernel_rfl
set_option maxRecDepth 100000 in
set_option maxHeartbeats 4000000 in
theorem AutoTells_walk (A : Aut) (na ea : Option Addr) (nc ec : Nat) (t : ByteArray) (n : Int) (w : World) (h : AutAt w A na ea) (ht : t.size ≤ maxLen) (hn : bdI n) :
    Calls Try.prog 3 #[.agg (autB A na nc ea ec), .string t, .int .i64 n] w fun e w' => e = .returned (.bool true) ∧ Grew w w' := by
  have HW1 : Hid (∀ w1, Grew w w1 → Calls Try.prog 5 #[.agg (autB A na nc ea ec)] w1 _) := fun w1 g => Wrong_any A na ea nc ec w1 (h.kept g)
  have HW2 : Hid (∀ w1, Grew w w1 → Calls Try.prog 6 #[.agg (autB A na nc ea ec)] w1 _) := fun w1 g => WrongR_any A na ea nc ec w1 (h.kept g)
  have HA1 : Hid (∀ w1, Grew w w1 → Calls Try.prog 7 #[.agg (autB A na nc ea ec), .string t] w1 _) := fun w1 g => Accepts_any A na ea nc ec t w1 (h.kept g) ht
  have HA2 : Hid (∀ w1, Grew w w1 → Calls Try.prog 8 #[.agg (autB A na nc ea ec), .string t] w1 _) := fun w1 g => AcceptsR_any A na ea nc ec t w1 (h.kept g) ht
  have HS1 : Hid (∀ w1, Grew w w1 → Calls Try.prog 9 #[.agg (autB A na nc ea ec)] w1 _) := fun w1 g => Shortest_any A na ea nc ec w1 (h.kept g)
  have HS2 : Hid (∀ w1, Grew w w1 → Calls Try.prog 10 #[.agg (autB A na nc ea ec)] w1 _) := fun w1 g => ShortestR_any A na ea nc ec w1 (h.kept g)
  have HC1 : Hid (∀ w1, Grew w w1 → Calls Try.prog 11 #[.agg (autB A na nc ea ec), .int .i64 n] w1 _) := fun w1 g => Count_any A na ea nc ec n w1 (h.kept g) hn
  have HC2 : Hid (∀ w1, Grew w w1 → Calls Try.prog 12 #[.agg (autB A na nc ea ec), .int .i64 n] w1 _) := fun w1 g => CountR_any A na ea nc ec n w1 (h.kept g) hn
  have HSz := hidd (autB_size A na nc ea ec)
  have HH := hidd (heap_alloc_new w (.cells (autB A na nc ea ec) 26))
  have HG := hidd ((Grew.refl w).alloc (.cells (autB A na nc ea ec) 26))
  obtain ⟨xb, xe, hx⟩ := acc_head A t.data.toList
  obtain ⟨ck, ce, hc⟩ := cnt_head A n
  rw [hx] at HA1 HA2
  rw [hc] at HC1 HC2
  generalize autB A na nc ea ec = av at HW1 HW2 HA1 HA2 HS1 HS2 HC1 HC2 HSz HH HG ⊢
  clear h ht hn hx hc
  go_enter Try.func3, Try.ntmps3
  go_wp2_with fail
  obtain ⟨W, hW⟩ : ∃ W, wrongA A = W := ⟨_, rfl⟩
  have HWe := hidd hW
  rw [hW] at HW1 HW2
  clear hW
  refine frameR [15, 16, 17, 18, 19] mixed drew_grew grew_tr [.val (.agg av), .val (.int .i64 W), .val (.agg av), .val (.int .i64 W), .val (.bool false)] (vals_mono (by simp)) (by kernel_rfl) (by kernel_rfl)
    ⟨st_aut HH.out HSz.out (by kernel_rfl) rfl rfl, st_call1 go_w1 (fun w1 g => HW1.out w1 (HG.out.trans g)) (by kernel_rfl) rfl rfl, st_aut HH.out HSz.out (by kernel_rfl) rfl rfl, st_call1 go_w2 (fun w1 g => HW2.out w1 (HG.out.trans g)) (by kernel_rfl) rfl rfl, st_num Grew.refl (errno_neq W) (by kernel_rfl) rfl rfl rfl, trivial⟩ ?_
  intro xs w1 g1 hts
  have e19 : xs 19 = .bool false := hts 4 _ 19 rfl rfl
  have HH1 := hidd (heap_kept g1 HH.out)
  have HG1 := hidd (HG.out.trans g1)
  clear hts g1 HW1 HW2 HH HG
  simp only [List.foldl_cons, List.foldl_nil, List.setIfInBounds_toArray, List.set_cons_succ, List.set_cons_zero, e19]
  clear e19
  go_wp2_with (refine wpList_load_aut rfl rfl rfl HH1.out HSz.out ?_)
  refine (HA1.out _ HG1.out).mono ?_; rintro e w2 ⟨rfl, g2⟩
  have HH2 := hidd (heap_kept g2 HH1.out)
  have HG2 := hidd (HG1.out.trans g2)
  clear g2 HA1 HH1 HG1
  go_wp2_with (refine wpList_load_aut rfl rfl rfl HH2.out HSz.out ?_)
  refine (HA2.out _ HG2.out).mono ?_; rintro e w3 ⟨rfl, g3⟩
  have HH3 := hidd (heap_kept g3 HH2.out)
  have HG3 := hidd (HG2.out.trans g3)
  clear g3 HA2 HH2 HG2
  go_wp2_with (refine wpList_load_aut rfl rfl rfl HH3.out HSz.out ?_)
  refine (HS1.out _ HG3.out).mono ?_; rintro e w4 ⟨⟨o1, ho1, rfl⟩, g4⟩
  have HH4 := hidd (heap_kept g4 HH3.out)
  have HG4 := hidd (HG3.out.trans g4)
  have HO1 := hidd ho1
  obtain ⟨ss, se, hs⟩ := sho_head A o1
  have HSe := hidd hs
  rw [hs]
  clear g4 HS1 HH3 HG3 ho1 hs
  go_wp2_with (refine wpList_load_aut rfl rfl rfl HH4.out HSz.out ?_)
  refine (HS2.out _ HG4.out).mono ?_; rintro e w5 ⟨⟨o2, ho2, rfl⟩, g5⟩
  have HH5 := hidd (heap_kept g5 HH4.out)
  have HG5 := hidd (HG4.out.trans g5)
  rw [← sho_one HO1.out ho2, HSe.out]
  clear g5 HS2 HH4 HG4 ho2 HSe HO1
  go_wp2_with (refine wpList_load_aut rfl rfl rfl HH5.out HSz.out ?_)
  refine (HC1.out _ HG5.out).mono ?_; rintro e w6 ⟨rfl, g6⟩
  have HH6 := hidd (heap_kept g6 HH5.out)
  have HG6 := hidd (HG5.out.trans g6)
  clear g6 HC1 HH5 HG5
  go_wp2_with (refine wpList_load_aut rfl rfl rfl HH6.out HSz.out ?_)
  refine (HC2.out _ HG6.out).mono ?_; rintro e w7 ⟨rfl, g7⟩
  have HG7 := hidd (HG6.out.trans g7)
  clear g7 HC2 HH6 HG6
  go_wp2_with fail
  go_ret
  exact ⟨rfl, HG7.out⟩
end Go.Proofs.Ytkkdpafkafjfgaa
