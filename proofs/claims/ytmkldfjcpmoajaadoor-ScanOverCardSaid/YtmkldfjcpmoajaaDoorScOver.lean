/- ScanOver: the walk. Conditions: what the arguments are read as; the library's table of powers of ten. -/
import Derived.Test.YtmkldfjcpmoajaaDoorScShape
namespace Go.Proofs.YtmkldfjcpmoajaaDoor
open Go.RowKit
set_option linter.unusedVariables false
section
variable {R : List Rule} {w : World} {rv ka kb kc : Value} {a b c : Pat} {s : ByteArray}
set_option maxRecDepth 100000 in
set_option maxHeartbeats 4000000 in
theorem ScanOver_walk (at_ : Int) (hR : RulesAt w rv R) (ha : PatV w ka a) (hb : PatV w kb b) (hc : PatV w kc c) (hs : s.size ≤ maxLen) (hat : -9223372036854775808 ≤ at_ ∧ at_ ≤ 9223372036854775807) (hT : TabP w) :
    Calls Tryd.prog 9 #[rv, .agg (a.cells ka), .agg (b.cells kb), .agg (c.cells kc), .string s, .int .i64 at_] w fun e w' => e = .returned (.bool true) ∧ Grew w w' := by
  obtain ⟨ra, rc, rfl, _⟩ := hR.len
  have H := hidd (And.intro hR (And.intro ha (And.intro hb (And.intro hc (And.intro hs hT)))))
  clear hR ha hb hc hs hT hat
  unfold Pat.cells
  go_enter Tryd.func9, Tryd.ntmps9
  go_wp2_with fail
  obtain ⟨hR, ha, hb, hc, HS, hT⟩ := H.out
  clear H
  obtain ⟨w0, hw0⟩ : ∃ w0, ((w.alloc (.cells (a.cells ka) 25)).alloc (.cells (b.cells kb) 25)).alloc (.cells (c.cells kc) 25) = w0 := ⟨_, rfl⟩
  have g0 : Grew w w0 := hw0 ▸ (((Grew.refl w).alloc _).alloc _).alloc _
  obtain ⟨hb0, hb1, hb2⟩ := heap_three w (.cells (a.cells ka) 25) (.cells (b.cells kb) 25) (.cells (c.cells kc) 25)
  rw [hw0] at hb0 hb1 hb2
  have hp0 := ha.kept g0
  have hp1 := hb.kept g0
  have hp2 := hc.kept g0
  have HR := hR.kept g0
  have HT := hT.kept g0
  unfold Pat.cells at hw0
  subst hw0
  refine region_shapes ([.val (.bool true), .val (.bool true), .val (.slice ra R.length rc), .pat (a), .pat (b), .kids ([a, b]), .pat (altP [a, b]), .pat (c), .kids ([altP [a, b], c]), .pat (catP [altP [a, b], c]), .pat (a), .pat (c), .kids ([a, c]), .pat (catP [a, c]), .pat (b), .pat (c), .kids ([b, c]), .pat (catP [b, c]), .kids ([catP [a, c], catP [b, c]]), .pat (altP [catP [a, c], catP [b, c]]), .val (.string s), .val (.int .i64 at_), .val (.bool true), .val (.bool true), .val (.bool true)]) (by kernel_rfl)
    ⟨st_alive HT (by kernel_rfl) rfl, st_move (by kernel_rfl) rfl, st_move (by kernel_rfl) rfl, st_load hb0 hp0 (by kernel_rfl) rfl rfl, st_load hb1 hp1 (by kernel_rfl) rfl rfl, st_two (by kernel_rfl) rfl rfl rfl, st_alt (by kernel_rfl) rfl rfl, st_load hb2 hp2 (by kernel_rfl) rfl rfl, st_two (by kernel_rfl) rfl rfl rfl, st_cat (by kernel_rfl) rfl rfl, st_load hb0 hp0 (by kernel_rfl) rfl rfl, st_load hb2 hp2 (by kernel_rfl) rfl rfl, st_two (by kernel_rfl) rfl rfl rfl, st_cat (by kernel_rfl) rfl rfl, st_load hb1 hp1 (by kernel_rfl) rfl rfl, st_load hb2 hp2 (by kernel_rfl) rfl rfl, st_two (by kernel_rfl) rfl rfl rfl, st_cat (by kernel_rfl) rfl rfl, st_two (by kernel_rfl) rfl rfl rfl, st_alt (by kernel_rfl) rfl rfl, st_move (by kernel_rfl) rfl, st_move (by kernel_rfl) rfl, st_alike HT HR HS (alike_within R s at_ (cat_over R s a b c)) (by kernel_rfl) rfl rfl rfl rfl rfl rfl, st_pick (by kernel_rfl) rfl rfl, st_assign (by kernel_rfl) rfl, trivial⟩ ?_
  intro a1 w1 g1 hdf hsz hsm ht
  have e12 : a1.tmps.getD 12 undef = .bool true := ht 24 _ 12 rfl rfl
  have G := hidd (g0.trans g1)
  clear ht hsm hsz hb0 hb1 hb2 hp0 hp1 hp2 HR HT g1 g0 ha hb hc hR hT HS
  obtain ⟨tm, df⟩ := a1
  dsimp only at e12 hdf
  subst hdf
  rw [Array.getD_eq_getD_getElem?] at e12
  go_wp2_with fail
  refine bodyPost_ret (v := .bool true) (by simp [results, Tryd.results9, e12]) rfl ⟨rfl, G.out⟩
end
end Go.Proofs.YtmkldfjcpmoajaaDoor
