/- ScanNothing: the walk. Conditions: what the arguments are read as; the library's table of powers of ten. -/
import Derived.Test.YtmkldfjcpmoajaaDoorScLit
namespace Go.Proofs.YtmkldfjcpmoajaaDoor
open Go.RowKit
set_option linter.unusedVariables false
section
variable {R : List Rule} {w : World} {rv ka : Value} {a : Pat} {s : ByteArray}
set_option maxRecDepth 100000 in
set_option maxHeartbeats 4000000 in
theorem ScanNothing_walk (at_ : Int) (hR : RulesAt w rv R) (ha : PatV w ka a) (hs : s.size ≤ maxLen) (hat : -9223372036854775808 ≤ at_ ∧ at_ ≤ 9223372036854775807) (hT : TabP w) :
    Calls Tryd.prog 8 #[rv, .agg (a.cells ka), .string s, .int .i64 at_] w fun e w' => e = .returned (.bool true) ∧ Grew w w' := by
  obtain ⟨ra, rc, rfl, _⟩ := hR.len
  have H := hidd (And.intro hR (And.intro ha (And.intro hs hT)))
  have HAl : Hid (∀ w1, Grew w w1 → Calls Tryd.prog 23 #[] w1 fun e w' => e = .returned (.bool true) ∧ Grew w1 w') := fun w1 g => alive_any w1 (hT.kept g)
  have HF : Hid (∀ w1, Calls Tryd.prog 27 #[.int .i64 15, .int .i64 0, .string ⟨#[]⟩] w1 fun e w' => e = .returned (.agg #[.int .i64 15, .string ByteArray.empty, .int .i64 0, .string ByteArray.empty, .slice none 0 0]) ∧ Grew w1 w') :=
    fun w1 => (some_any 15 0 ByteArray.empty w1 (by omega) (by omega) (Nat.zero_le _)).mono fun e w' h => ⟨h.1, h.2.1⟩
  clear hR ha hs hT hat
  unfold Pat.cells
  go_enter Tryd.func8, Tryd.ntmps8
  go_wp2_with fail
  refine (HAl.out _ ((Grew.refl w).alloc _)).mono ?_; rintro e w1 ⟨rfl, g1⟩
  have HG := hidd g1
  clear g1 HAl
  go_wp2_with fail
  refine (HF.out _).mono ?_; rintro e w2 ⟨rfl, g2⟩
  have HG2 := hidd (HG.out.trans g2)
  clear g2 HF
  go_wp2_with fail
  obtain ⟨hR, ha, HS, hT⟩ := H.out
  clear H
  obtain ⟨w0, hw0⟩ : ∃ w0, w2.alloc (.cells #[.int .i64 15, .string ByteArray.empty, .int .i64 0, .string ByteArray.empty, .slice none 0 0] 25) = w0 := ⟨_, rfl⟩
  have gb : Grew (w.alloc (.cells (a.cells ka) 25)) w0 := hw0 ▸ HG2.out.alloc _
  have g0 : Grew w w0 := ((Grew.refl w).alloc _).trans gb
  have hb0 : w0.heap[w.heap.size]? = some (.cells (a.cells ka) 25 (0, 0)) := by rw [gb.block _ (by simp)]; exact heap_alloc_new w _
  have hb1 : w0.heap[w2.heap.size]? = some (.cells ((someP 15 0 ByteArray.empty).cells (.slice none 0 0)) 25 (0, 0)) := by rw [← hw0]; exact heap_alloc_new w2 _
  have hp0 := ha.kept g0
  have hp1 : PatV w0 (.slice none 0 0) (someP 15 0 ByteArray.empty) := ⟨kids_none w0, ⟨by show (-9223372036854775808 : Int) ≤ 15; omega, by show (15 : Int) ≤ 9223372036854775807; omega⟩, ⟨by show (-9223372036854775808 : Int) ≤ 0; omega, by show (0 : Int) ≤ 9223372036854775807; omega⟩, Nat.zero_le _, Nat.zero_le _⟩
  have HR := hR.kept g0
  have HT := hT.kept g0
  subst hw0
  refine region_shapes ([.val (.slice ra R.length rc), .pat (someP 1 0 ByteArray.empty), .pat (a), .kids ([someP 1 0 ByteArray.empty, a]), .pat (catP [someP 1 0 ByteArray.empty, a]), .pat (a), .val (.string s), .val (.int .i64 at_), .val (.bool true), .val (.bool true), .val (.slice ra R.length rc), .pat (a), .pat (someP 1 0 ByteArray.empty), .kids ([a, someP 1 0 ByteArray.empty]), .pat (catP [a, someP 1 0 ByteArray.empty]), .pat (a), .val (.string s), .val (.int .i64 at_), .val (.bool true), .val (.bool true), .val (.bool true), .val (.slice ra R.length rc), .pat (someP 15 0 ByteArray.empty), .pat (a), .kids ([someP 15 0 ByteArray.empty, a]), .pat (altP [someP 15 0 ByteArray.empty, a]), .pat (a), .val (.string s), .val (.int .i64 at_), .val (.bool true), .val (.bool true), .val (.bool true), .val (.slice ra R.length rc), .pat (a), .pat (someP 15 0 ByteArray.empty), .kids ([a, someP 15 0 ByteArray.empty]), .pat (altP [a, someP 15 0 ByteArray.empty]), .pat (a), .val (.string s), .val (.int .i64 at_), .val (.bool true), .val (.bool true), .val (.bool true), .val (.slice ra R.length rc), .pat (someP 15 0 ByteArray.empty), .pat (a), .kids ([someP 15 0 ByteArray.empty, a]), .pat (catP [someP 15 0 ByteArray.empty, a]), .pat (someP 15 0 ByteArray.empty), .val (.string s), .val (.int .i64 at_), .val (.bool true), .val (.bool true), .val (.bool true)]) (by kernel_rfl)
    ⟨st_move (by kernel_rfl) rfl, st_lit (Nat.zero_le _) (by kernel_rfl) rfl rfl, st_load hb0 hp0 (by kernel_rfl) rfl rfl, st_two (by kernel_rfl) rfl rfl rfl, st_cat (by kernel_rfl) rfl rfl, st_load hb0 hp0 (by kernel_rfl) rfl rfl, st_move (by kernel_rfl) rfl, st_move (by kernel_rfl) rfl, st_alike HT HR HS (alike_within R s at_ (nothing_ahead R s a)) (by kernel_rfl) rfl rfl rfl rfl rfl rfl, st_move (by kernel_rfl) rfl, st_move (by kernel_rfl) rfl, st_load hb0 hp0 (by kernel_rfl) rfl rfl, st_lit (Nat.zero_le _) (by kernel_rfl) rfl rfl, st_two (by kernel_rfl) rfl rfl rfl, st_cat (by kernel_rfl) rfl rfl, st_load hb0 hp0 (by kernel_rfl) rfl rfl, st_move (by kernel_rfl) rfl, st_move (by kernel_rfl) rfl, st_alike HT HR HS (alike_within R s at_ (nothing_behind R s a)) (by kernel_rfl) rfl rfl rfl rfl rfl rfl, st_pick (by kernel_rfl) rfl rfl, st_move (by kernel_rfl) rfl, st_move (by kernel_rfl) rfl, st_load hb1 hp1 (by kernel_rfl) rfl rfl, st_load hb0 hp0 (by kernel_rfl) rfl rfl, st_two (by kernel_rfl) rfl rfl rfl, st_alt (by kernel_rfl) rfl rfl, st_load hb0 hp0 (by kernel_rfl) rfl rfl, st_move (by kernel_rfl) rfl, st_move (by kernel_rfl) rfl, st_alike HT HR HS (alike_within R s at_ (fail_beside R s a)) (by kernel_rfl) rfl rfl rfl rfl rfl rfl, st_pick (by kernel_rfl) rfl rfl, st_move (by kernel_rfl) rfl, st_move (by kernel_rfl) rfl, st_load hb0 hp0 (by kernel_rfl) rfl rfl, st_load hb1 hp1 (by kernel_rfl) rfl rfl, st_two (by kernel_rfl) rfl rfl rfl, st_alt (by kernel_rfl) rfl rfl, st_load hb0 hp0 (by kernel_rfl) rfl rfl, st_move (by kernel_rfl) rfl, st_move (by kernel_rfl) rfl, st_alike HT HR HS (alike_within R s at_ (beside_fail R s a)) (by kernel_rfl) rfl rfl rfl rfl rfl rfl, st_pick (by kernel_rfl) rfl rfl, st_move (by kernel_rfl) rfl, st_move (by kernel_rfl) rfl, st_load hb1 hp1 (by kernel_rfl) rfl rfl, st_load hb0 hp0 (by kernel_rfl) rfl rfl, st_two (by kernel_rfl) rfl rfl rfl, st_cat (by kernel_rfl) rfl rfl, st_load hb1 hp1 (by kernel_rfl) rfl rfl, st_move (by kernel_rfl) rfl, st_move (by kernel_rfl) rfl, st_alike HT HR HS (alike_within R s at_ (fail_ahead R s a)) (by kernel_rfl) rfl rfl rfl rfl rfl rfl, st_pick (by kernel_rfl) rfl rfl, st_assign (by kernel_rfl) rfl, trivial⟩ ?_
  intro a1 w1' g1 hdf hsz hsm ht
  have e12 : a1.tmps.getD 8 undef = .bool true := ht 53 _ 8 rfl rfl
  have G := hidd (g0.trans g1)
  clear ht hsm hsz hb0 hb1 hp0 hp1 HR HT g1 g0 gb ha hR hT HS
  obtain ⟨tm, df⟩ := a1
  dsimp only at e12 hdf
  subst hdf
  rw [Array.getD_eq_getD_getElem?] at e12
  go_wp2_with fail
  refine bodyPost_ret (v := .bool true) (by simp [results, Tryd.results8, e12]) rfl ⟨rfl, G.out⟩
end
end Go.Proofs.YtmkldfjcpmoajaaDoor
