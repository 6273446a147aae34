/- ScanMatch: the walk. Conditions: what the arguments are read as, at most two million nodes; the library's table of powers of ten. -/
import Derived.Test.YtcmdhgamlhnioaaDoorScWO
namespace Go.Proofs.YtcmdhgamlhnioaaDoor
open Go.RowKit
set_option linter.unusedVariables false
/-- What a Match gives, in values. -/
def MatchV (fo : Bool) (fa fb tk er : Int) (g s : List Gift) (e : Ending) (w' : World) : Prop := ∃ p1 n1 c1 p2 n2 c2, e = .returned (.tuple #[.agg #[.bool fo, .int .i64 fa, .int .i64 fb, .slice p1 n1 c1, .slice p2 n2 c2, .int .i64 tk], .int .i64 er]) ∧ Hid (GiftsV w' (.slice p1 n1 c1) g ∧ GiftsV w' (.slice p2 n2 c2) s)
theorem match_vals (r : Matched) : ∃ (fo : Bool) (fa fb tk er : Int) (g s : List Gift), (∀ w e w', MatchEnd w r e w' → MatchV fo fa fb tk er g s e w' ∧ Grew w w') ∧ ∀ w e w', MatchREnd w r e w' → MatchV fo fa fb tk er g s e w' ∧ Grew w w' := by
  obtain ⟨x, sd, tk, er⟩ := r
  cases x with
  | none =>
    refine ⟨false, 0, 0, tk, er, [], sd, ?_, ?_⟩
    · rintro w e w' ⟨g, gv, sv, he, h1, h2⟩
      have h1 := GiftsV.of_own h1
      have h2 := GiftsV.of_own h2
      obtain ⟨p1, c1, e1, _⟩ := h1.len
      obtain ⟨p2, c2, e2, _⟩ := h2.len
      subst e1 e2
      exact ⟨⟨_, _, _, _, _, _, he, h1, h2⟩, g⟩
    · rintro w e w' ⟨g, gv, sv, he, h1, h2⟩
      obtain ⟨p1, c1, e1, _⟩ := h1.len
      obtain ⟨p2, c2, e2, _⟩ := h2.len
      subst e1 e2
      exact ⟨⟨_, _, _, _, _, _, he, h1, h2⟩, g⟩
  | some y =>
    obtain ⟨a, b, gl⟩ := y
    refine ⟨true, a, b, tk, er, gl, sd, ?_, ?_⟩
    · rintro w e w' ⟨g, gv, sv, he, h1, h2⟩
      have h1 := GiftsV.of_own h1
      have h2 := GiftsV.of_own h2
      obtain ⟨p1, c1, e1, _⟩ := h1.len
      obtain ⟨p2, c2, e2, _⟩ := h2.len
      subst e1 e2
      exact ⟨⟨_, _, _, _, _, _, he, h1, h2⟩, g⟩
    · rintro w e w' ⟨g, gv, sv, he, h1, h2⟩
      obtain ⟨p1, c1, e1, _⟩ := h1.len
      obtain ⟨p2, c2, e2, _⟩ := h2.len
      subst e1 e2
      exact ⟨⟨_, _, _, _, _, _, he, h1, h2⟩, g⟩
section
variable {v : Value} {R : List Rule} {kv : Value} {p : Pat} {s : ByteArray} {w : World}
set_option maxRecDepth 100000 in
set_option maxHeartbeats 4000000 in
theorem ScanMatch_walk (anch : Bool) (fuel : Int) (hR : RulesAt w v R) (hp : PatV w kv p) (hs : s.size ≤ maxLen) (hf : -9223372036854775808 ≤ fuel ∧ fuel ≤ 9223372036854775807) (hT : TabP w) (hBR : ∀ r ∈ R, nodesP r.2 ≤ 2000000) (hB : nodesP p ≤ 2000000) :
    Calls Tryd.prog 3 #[v, .agg (p.cells kv), .string s, .bool anch, .int .i64 fuel] w fun e w' => e = .returned (.bool true) ∧ Grew w w' := by
  obtain ⟨ra, rc, rfl, _⟩ := hR.len
  obtain ⟨ka, kc, ekv, hkl⟩ := hp.kids.len
  subst ekv
  obtain ⟨fo, fa, fb, tk, er, gl, sl, hv1, hv2⟩ := match_vals (matchOf R p s anch fuel)
  have H3 : Hid (∀ w1, Grew w w1 → Calls Tryd.prog 5 #[.slice ra R.length rc, .agg (p.cells (.slice ka p.kids.length kc)), .string s, .bool anch, .int .i64 fuel] w1 fun e w' => MatchV fo fa fb tk er gl sl e w' ∧ Grew w1 w') := fun w1 g =>
    (Match_any anch fuel (hR.kept g) (hp.kept g) hs hf (hT.kept g)).mono fun e w' h => hv1 _ _ _ h
  have H4 : Hid (∀ w1, Grew w w1 → Calls Tryd.prog 6 #[.slice ra R.length rc, .agg (p.cells (.slice ka p.kids.length kc)), .string s, .bool anch, .int .i64 fuel] w1 fun e w' => MatchV fo fa fb tk er gl sl e w' ∧ Grew w1 w') := fun w1 g =>
    (MatchR_any anch fuel (hR.kept g) (hp.kept g) hs hf hB hBR).mono fun e w' h => hv2 _ _ _ h
  have HBx := hidd (pat_box w p (.slice ka p.kids.length kc))
  have HG0 : Hid (Grew w (w.alloc (.cells (p.cells (.slice ka p.kids.length kc)) 25))) := (Grew.refl w).alloc _
  clear hR hp hs hf hT hB hBR hkl hv1 hv2
  obtain ⟨kl, hkl⟩ : ∃ kl, p.kids.length = kl := ⟨_, rfl⟩
  unfold Pat.cells at H3 H4 HBx HG0 ⊢
  rw [hkl] at H3 H4 HBx HG0 ⊢
  have HS : Hid (∀ l w1 v1 v2, GiftsV w1 v1 l → GiftsV w1 v2 l → Calls Tryd.prog 7 #[v1, v2] w1 fun e w' => e = .returned (.bool true) ∧ ∃ n, w' = w1.drewN n) := fun l w1 v1 v2 h1 h2 => by
    have := SameGifts_any h1 h2
    rw [decide_eq_true rfl] at this
    exact this
  clear hkl
  go_enter Tryd.func3, Tryd.ntmps3
  go_wp2_with fail
  refine (H3.out _ HG0.out).mono ?_; rintro e w1 ⟨⟨p1, n1, q1, p2, n2, q2, rfl, HV1⟩, hg1⟩
  have GA : Grew w1 (w1.alloc (.cells #[.bool fo, .int .i64 fa, .int .i64 fb, .slice p1 n1 q1, .slice p2 n2 q2, .int .i64 tk] 28)) := (Grew.refl w1).alloc _
  have HGA := hidd GA
  have G1w := hidd ((HG0.out.trans hg1).trans GA)
  obtain ⟨c0, c1, c2, c3, c4⟩ := HBx.out _ (hg1.trans GA)
  clear hg1 GA
  go_wp2_with fail
  refine (H4.out _ G1w.out).mono ?_; rintro e w2 ⟨⟨p3, n3, q3, p4, n4, q4, rfl, HV2⟩, hg2⟩
  have a0 : w2.cell? ⟨w1.heap.size, 0, none⟩ = some (.bool fo) := hg2.keeps (by rw [World.cell?_alloc_mark]; rfl)
  have a1 : w2.cell? ⟨w1.heap.size, 1, none⟩ = some (.int .i64 fa) := hg2.keeps (by rw [World.cell?_alloc_mark]; rfl)
  have a2 : w2.cell? ⟨w1.heap.size, 2, none⟩ = some (.int .i64 fb) := hg2.keeps (by rw [World.cell?_alloc_mark]; rfl)
  have a3 : w2.cell? ⟨w1.heap.size, 3, none⟩ = some (.slice p1 n1 q1) := hg2.keeps (by rw [World.cell?_alloc_mark]; rfl)
  have a4 : w2.cell? ⟨w1.heap.size, 4, none⟩ = some (.slice p2 n2 q2) := hg2.keeps (by rw [World.cell?_alloc_mark]; rfl)
  have a5 : w2.cell? ⟨w1.heap.size, 5, none⟩ = some (.int .i64 tk) := hg2.keeps (by rw [World.cell?_alloc_mark]; rfl)
  have GB : Grew w2 (w2.alloc (.cells #[.bool fo, .int .i64 fa, .int .i64 fb, .slice p3 n3 q3, .slice p4 n4 q4, .int .i64 tk] 28)) := (Grew.refl w2).alloc _
  have b0 := GB.keeps a0
  have b1 := GB.keeps a1
  have b2 := GB.keeps a2
  have b3 := GB.keeps a3
  have b4 := GB.keeps a4
  have b5 := GB.keeps a5
  have er1 : (er == er) = true := beq_self_eq_true er
  have eb1 : (fo == fo) = true := beq_self_eq_true fo
  have eb2 : (fa == fa) = true := beq_self_eq_true fa
  have eb3 : (fb == fb) = true := beq_self_eq_true fb
  have eb4 : (tk == tk) = true := beq_self_eq_true tk
  have HSm := hidd (HS.out gl _ _ _ (HV1.out.1.kept (HGA.out.trans (hg2.trans GB))) (HV2.out.1.kept GB))
  have HSn := hidd (fun n => HS.out sl _ _ _ (HV1.out.2.kept (HGA.out.trans ((hg2.trans GB).drewN n))) (HV2.out.2.kept (GB.drewN n)))
  have GE := hidd ((G1w.out.trans hg2).trans GB)
  clear hg2 c0 c1 c2 c3 c4 GB a0 a1 a2 a3 a4 a5
  go_wp2_with fail
  refine HSm.out.mono ?_; rintro e w5 ⟨rfl, nd, rfl⟩
  go_wp2_with fail
  refine (HSn.out nd).mono ?_; rintro e w6 ⟨rfl, nd2, rfl⟩
  go_wp2_with fail
  go_ret
  exact ⟨rfl, GE.out.drewN _⟩
end
end Go.Proofs.YtcmdhgamlhnioaaDoor
