/- The document's Match, at every pattern. -/
import Derived.Test.YtcmdhgamlhnioaaDoorScWN
import Derived.Deep.RegionHeld3
import Derived.StillTailTactics
namespace Go.Proofs.YtcmdhgamlhnioaaDoor
open Go.RowKit
set_option linter.unusedVariables false
/-- A row of gifts in a match's own block is none. -/
theorem GiftsV.put {w : World} {rb : Nat} {v : Value} {l : List Gift} (hr : ResAt w rb) (h : GiftsV w v l) (b0 b1 b2 b3 b4 b5 : Value) : GiftsV (put6 w rb b0 b1 b2 b3 b4 b5) v l := by
  rcases h with h | ⟨b, o, c, h1, h2, h3, h4, h5⟩
  · exact Or.inl h
  · have hne : rb ≠ b := fun e => by
      have := (h5 0 h2).1
      rw [← e] at this
      exact match_no hr this
    have hk := put6_other (w := w) hne b0 b1 b2 b3 b4 b5
    generalize put6 w rb b0 b1 b2 b3 b4 b5 = w' at hk ⊢
    exact Or.inr ⟨b, o, c, h1, h2, h3, h4, fun i hi => ⟨by rw [World.cell?_of_block hk]; exact (h5 i hi).1, by rw [World.cell?_of_block hk]; exact (h5 i hi).2⟩⟩
theorem drew_cell0 (w : World) (a : Addr) : w.drew.cell? a = w.cell? a := rfl
theorem mCells_heads {x : Fnd} {gv x0 x1 x2 x3 x4 x5 : Value} (h : mCells x gv = #[x0, x1, x2, x3, x4, x5]) : ∃ (fo : Bool) (fa fe : Int), x0 = .bool fo ∧ x1 = .int .i64 fa ∧ x2 = .int .i64 fe ∧
    ∀ (w w' : World) (sd : List Gift) (tk : Nat) (g s : Value), Grew w w' → GiftsV w' g (giftsOf x) → GiftsV w' s sd → MatchREnd w (x, sd, tk, 0) (.returned (.tuple #[.agg #[.bool fo, .int .i64 fa, .int .i64 fe, g, s, .int .i64 tk], .int .i64 0])) w' := by
  cases x with
  | none =>
    have h2 : zeroMatch = #[x0, x1, x2, x3, x4, x5] := h
    unfold zeroMatch at h2
    injection h2 with h2
    injection h2 with k0 h2
    injection h2 with k1 h2
    injection h2 with k2 h2
    exact ⟨_, _, _, k0.symm, k1.symm, k2.symm, fun w w' sd tk g s a b c => ⟨a, g, s, rfl, b, c⟩⟩
  | some y =>
    obtain ⟨a, b, g⟩ := y
    have h2 : #[Value.bool true, .int .i64 a, .int .i64 b, gv, .slice none 0 0, .int .i64 0] = #[x0, x1, x2, x3, x4, x5] := h
    injection h2 with h2
    injection h2 with k0 h2
    injection h2 with k1 h2
    injection h2 with k2 h2
    exact ⟨_, _, _, k0.symm, k1.symm, k2.symm, fun w w' sd tk g s a b c => ⟨a, g, s, rfl, b, c⟩⟩
/-- What was said and the ticks are laid into what was found. -/
theorem over_kept {E : Env} {rb : Nat} {w4 : World} {st : LS Fnd} {sv gv x0 x1 x2 x3 x4 x5 : Value} (h : Over E rb w4 st sv gv) (hx : mCells st.out gv = #[x0, x1, x2, x3, x4, x5]) (ho : w4.heap[E.ob]? = some (.cells #[x0, x1, x2, x3, x4, x5] 28 (0, 0))) (tv : Value) (y : World)
    (hy : ((w4.setCell ⟨E.ob, 4, none⟩ sv).setCell ⟨E.ob, 5, none⟩ tv).drew = y) : ResAt y rb ∧ y.heap[E.ob]? = some (.cells #[x0, x1, x2, x3, sv, tv] 28 (0, 0)) ∧ Grew E.w0 y ∧ GiftsV y x3 (giftsOf st.out) ∧ GiftsV y sv st.said := by
  subst hy
  have hoth : ∀ b, E.ob ≠ b → ((w4.setCell ⟨E.ob, 4, none⟩ sv).setCell ⟨E.ob, 5, none⟩ tv).drew.heap[b]? = w4.heap[b]? := fun b hb => by
    rw [drew_heap', setCell_heap_other _ _ _ hb, setCell_heap_other _ _ _ hb]
  refine ⟨?_, ?_, ((h.grew.setCell h.low.1 _).setCell h.low.1 _).drew, ?_, ?_⟩
  · show _[rb]? = _
    rw [hoth _ (Ne.symm h.ne2)]; exact h.res
  · rw [drew_heap']; exact setCell_heap_same (setCell_heap_same ho 4 sv) 5 tv
  · cases hst : st.out with
    | none =>
      rw [hst] at hx
      have : x3 = .slice none 0 0 := by
        have h2 : zeroMatch = #[x0, x1, x2, x3, x4, x5] := hx
        unfold zeroMatch at h2
        injection h2 with h2
        injection h2 with _ h2
        injection h2 with _ h2
        injection h2 with _ h2
        injection h2 with h2 _
        exact h2.symm
      subst this
      exact giftsV_nil _
    | some r =>
      obtain ⟨a, b, g⟩ := r
      rw [hst] at hx
      have : x3 = gv := by
        have h2 : #[Value.bool true, .int .i64 a, .int .i64 b, gv, .slice none 0 0, .int .i64 0] = #[x0, x1, x2, x3, x4, x5] := hx
        injection h2 with h2
        injection h2 with _ h2
        injection h2 with _ h2
        injection h2 with _ h2
        injection h2 with h2 _
        exact h2.symm
      subst this
      have hg := h.gifts
      rw [hst] at hg
      exact giftsV_of hg fun b o x hv _ => hoth b (Ne.symm (h.ngv b (by rw [hv]; rfl)))
  · have hne : sv.ownBlock ≠ some E.ob := ownBlock_ne h.said ho (by decide)
    have hs : ((w4.setCell ⟨E.ob, 4, none⟩ sv).setCell ⟨E.ob, 5, none⟩ tv).ownsRow E.w0.heap.size 57 2 sv st.said.length (saidCells st.said) := ownsRow_setCell_other (ownsRow_setCell_other h.said hne sv) hne tv
    exact (GiftsV.of_own hs).kept ((Grew.refl _).drew)
section
variable {v : Value} {R : List Rule} {kv : Value} {p : Pat} {s : ByteArray} {w : World}
set_option maxRecDepth 100000 in
set_option maxHeartbeats 8000000 in
theorem MatchR_any (anch : Bool) (fuel : Int) (hR : RulesAt w v R) (hp : PatV w kv p) (hs : s.size ≤ maxLen) (hf : -9223372036854775808 ≤ fuel ∧ fuel ≤ 9223372036854775807) (hB : nodesP p ≤ 2000000) (hBR : ∀ r ∈ R, nodesP r.2 ≤ 2000000) :
    Calls Tryd.prog 6 #[v, .agg (p.cells kv), .string s, .bool anch, .int .i64 fuel] w fun e w' => MatchREnd w (matchOf R p s anch fuel) e w' := by
  obtain ⟨ra, rc, rfl, _⟩ := hR.len
  obtain ⟨ka, kc, ekv, hkl⟩ := hp.kids.len
  subst ekv
  have HA : Hid (∀ w1, Grew w w1 → Calls Tryd.prog 17 #[.slice ra R.length rc, .agg (p.cells (.slice ka p.kids.length kc)), .string s, .int .i64 fuel] w1 fun e w' => e = .returned (.int .i64 (askErr R p s fuel)) ∧ Grew w1 w') := fun w1 g => AskR_any _ R _ p s fuel w1 (hR.kept g) (hp.kept g) hs hf hB hBR
  have HBx := hidd (pat_box w p (.slice ka p.kids.length kc))
  have HRA := hidd hR
  have HPV := hidd hp
  have g1 : Grew w (w.alloc (.cells (p.cells (.slice ka p.kids.length kc)) 25)) := (Grew.refl w).alloc _
  have g2 : Grew (w.alloc (.cells (p.cells (.slice ka p.kids.length kc)) 25)) ((w.alloc (.cells (p.cells (.slice ka p.kids.length kc)) 25)).alloc (.cells zeroMatch 28)) := (Grew.refl _).alloc _
  have HG0 := hidd (g1.trans g2)
  have HG2 := hidd g2
  have HRes : Hid (ResAt ((w.alloc (.cells (p.cells (.slice ka p.kids.length kc)) 25)).alloc (.cells zeroMatch 28)) (w.heap.size + 1)) := (heap_two w _ _).2
  clear hR hp hf hs hB hBR g1 g2
  obtain ⟨ae, hae⟩ : ∃ ae, askErr R p s fuel = ae := ⟨_, rfl⟩
  obtain ⟨kl, hkl2⟩ : ∃ kl, p.kids.length = kl := ⟨_, rfl⟩
  rw [hae] at HA
  have HAE := hidd hae
  unfold Pat.cells at HA HG0 HG2 HBx HRes ⊢
  unfold zeroMatch at HG0 HG2 HRes
  rw [hkl2] at HA HG0 HG2 HBx HPV HRes ⊢
  obtain ⟨c0, c1, c2, c3, c4⟩ := HBx.out _ HG2.out
  clear hae hkl2 hkl
  by_cases h0 : ae = 0
  · subst h0
    have h0 : askErr R p s fuel = 0 := HAE.out
    obtain ⟨n1, n2, n3, n4, n5, n6⟩ := ask_none h0
    have HE : Hid (matchOf R p s anch fuel = tryL R p s fuel.toNat anch (s.size + 1) 0 0 []) := by rw [Hid, matchOf, if_pos h0]
    obtain ⟨fuel, rfl⟩ : ∃ n : Nat, fuel = n := ⟨fuel.toNat, by omega⟩
    rw [Int.toNat_natCast] at HE
    have N := hidd (And.intro n1 (And.intro n2 (And.intro n3 (And.intro n4 (show fuel ≤ 100000 by omega)))))
    have hs64 : s.size ≤ 65536 := n4
    clear n1 n2 n3 n4 n5 n6 h0 HAE
    go_enter Tryd.func6, Tryd.ntmps6
    go_wp2_with fail
    refine (HA.out _ HG0.out).mono ?_; rintro e w0 ⟨rfl, G2⟩
    have hg0 := HG0.out.trans G2
    have HG := hidd hg0
    have hres : ResAt w0 (w.heap.size + 1) := by
      unfold ResAt
      rw [G2.block _ (lt_of_block HRes.out)]
      exact HRes.out
    have hpb := HBx.out w0 (HG2.out.trans G2)
    have hrlt : w.heap.size + 1 < w0.heap.size := lt_of_block hres
    have gW : Grew w0 ((w0.alloc (.cells (lookCells (.slice ra R.length rc) s fuel 0 (.slice none 0 0) 0) 53)).alloc (.cells zeroMatch 28)) := ((Grew.refl w0).alloc _).alloc _
    have sW : ((w0.alloc (.cells (lookCells (.slice ra R.length rc) s fuel 0 (.slice none 0 0) 0) 53)).alloc (.cells zeroMatch 28)).heap.size = w0.heap.size + 2 := by simp
    have gF : Grew ((w0.alloc (.cells (lookCells (.slice ra R.length rc) s fuel 0 (.slice none 0 0) 0) 53)).alloc (.cells zeroMatch 28)) (((w0.alloc (.cells (lookCells (.slice ra R.length rc) s fuel 0 (.slice none 0 0) 0) 53)).alloc (.cells zeroMatch 28)).alloc (.cells #[.int .i64 0] 3)) := (Grew.refl _).alloc _
    have HM0 : Hid (MRound (⟨w, w0.heap.size, w0.heap.size + 1, .slice ra R.length rc, s, fuel, 0⟩ : Env) R p anch (fun k => k = w0.heap.size ∨ k = w0.heap.size + 1) ((w0.alloc (.cells (lookCells (.slice ra R.length rc) s fuel 0 (.slice none 0 0) 0) 53)).alloc (.cells zeroMatch 28)) (tryL R p s fuel anch (s.size + 1) 0 0 []) 0 (w0.heap.size + 2) (((w0.alloc (.cells (lookCells (.slice ra R.length rc) s fuel 0 (.slice none 0 0) 0) 53)).alloc (.cells zeroMatch 28)).alloc (.cells #[.int .i64 0] 3))) := by
      have hst := mat_start (rv := .slice ra R.length rc) (S := s) (fuel := fuel) hg0
      refine ⟨_, _, ⟨_, _, hst.grown (om_ok _) gF⟩, Turn.of_grew gF, ?_, ?_, ⟨?_, ?_⟩, rfl, rfl, Nat.zero_le _, Nat.zero_le _, fun h => absurd rfl h, rfl⟩
      · rw [← sW, World.cell?_alloc_mark]; rfl
      · have := heap_alloc_new ((w0.alloc (.cells (lookCells (.slice ra R.length rc) s fuel 0 (.slice none 0 0) 0) 53)).alloc (.cells zeroMatch 28)) (.cells #[.int .i64 0] 3)
        rw [sW] at this
        unfold World.frozen?; dsimp only; rw [this]; rfl
      · have := gF; simp
      · rintro (h | h) <;> omega
    have HTr : Hid (∀ a fb wr, MRound (⟨w, w0.heap.size, w0.heap.size + 1, .slice ra R.length rc, s, fuel, 0⟩ : Env) R p anch (fun k => k = w0.heap.size ∨ k = w0.heap.size + 1) ((w0.alloc (.cells (lookCells (.slice ra R.length rc) s fuel 0 (.slice none 0 0) 0) 53)).alloc (.cells zeroMatch 28)) (tryL R p s fuel anch (s.size + 1) 0 0 []) a fb wr → a ≤ s.size → Calls Tryd.prog 18 #[.pointer (some ⟨w0.heap.size, 0, none⟩), .agg #[.int .i64 p.kind, .string p.text, .int .i64 p.n, .string p.name, .slice ka kl kc], .int .i64 a, .slice none 0 0, .func (.func 19) #[] #[.pointer (some ⟨fb, 0, none⟩), .pointer (some ⟨w0.heap.size + 1, 0, none⟩)]] wr fun r w' => ∃ k : Nat, r = .returned (.int .i64 k) ∧ MTry (⟨w, w0.heap.size, w0.heap.size + 1, .slice ra R.length rc, s, fuel, 0⟩ : Env) R p anch (fun k => k = w0.heap.size ∨ k = w0.heap.size + 1) ((w0.alloc (.cells (lookCells (.slice ra R.length rc) s fuel 0 (.slice none 0 0) 0) 53)).alloc (.cells zeroMatch 28)) (tryL R p s fuel anch (s.size + 1) 0 0 []) a fb k w') := fun a fb wr h ha =>
      try_place h ha HPV.out N.out.1 N.out.2.2.2.2 N.out.2.2.2.1 rfl HRA.out N.out.2.2.1
    have HPc : Hid (∀ M wr, Turn (fun k => k = w0.heap.size ∨ k = w0.heap.size + 1) M ((w0.alloc (.cells (lookCells (.slice ra R.length rc) s fuel 0 (.slice none 0 0) 0) 53)).alloc (.cells zeroMatch 28)) wr → (wr.cell? ⟨w.heap.size, 0, none⟩ = some (.int .i64 p.kind) ∧ wr.cell? ⟨w.heap.size, 1, none⟩ = some (.string p.text) ∧ wr.cell? ⟨w.heap.size, 2, none⟩ = some (.int .i64 p.n) ∧ wr.cell? ⟨w.heap.size, 3, none⟩ = some (.string p.name) ∧ wr.cell? ⟨w.heap.size, 4, none⟩ = some (.slice ka kl kc)) ∧ ResAt wr (w.heap.size + 1) ∧ ¬ M (w.heap.size + 1)) := fun M wr t => by
      have hnb : ¬ (fun k => k = w0.heap.size ∨ k = w0.heap.size + 1) w.heap.size := by rintro (h | h) <;> omega
      have hnr : ¬ (fun k => k = w0.heap.size ∨ k = w0.heap.size + 1) (w.heap.size + 1) := by rintro (h | h) <;> omega
      refine ⟨⟨t.cell (gW.keeps hpb.1) hnb, t.cell (gW.keeps hpb.2.1) hnb, t.cell (gW.keeps hpb.2.2.1) hnb, t.cell (gW.keeps hpb.2.2.2.1) hnb, t.cell (gW.keeps hpb.2.2.2.2) hnb⟩, ?_, fun hm => ?_⟩
      · unfold ResAt
        refine t.heap ?_ hnr
        rw [gW.block _ hrlt]; exact hres
      · rcases t.may _ hm with h | h
        · exact hnr h
        · rw [sW] at h; omega
    have HLow := hidd hrlt
    unfold lookCells zeroMatch at HM0
    clear G2 hg0 hres hpb hrlt gW sW gF c0 c1 c2 c3 c4
    go_wp2_with fail
    go_loopg [15, 16] (s.size + 2) (fun k u15 _ wr => ∃ a fb : Nat, u15 = .pointer (some ⟨fb, 0, none⟩) ∧ a ≤ s.size + 1 ∧ Hid (MRound (⟨w, w0.heap.size, w0.heap.size + 1, .slice ra R.length rc, s, fuel, 0⟩ : Env) R p anch (fun k => k = w0.heap.size ∨ k = w0.heap.size + 1) ((w0.alloc (.cells (lookCells (.slice ra R.length rc) s fuel 0 (.slice none 0 0) 0) 53)).alloc (.cells zeroMatch 28)) (tryL R p s fuel anch (s.size + 1) 0 0 []) a fb wr) ∧ s.size + 2 ≤ k + a)
    case atStart => exact ⟨0, w0.heap.size + 2, rfl, Nat.zero_le _, HM0.out, by omega⟩
    case round =>
      obtain ⟨a, fb, rfl, ha, HM, hk⟩ := hrel
      clear HM0
      have hfc : wr.cell? ⟨fb, 0, none⟩ = some (.int .i64 a) := by obtain ⟨_, _, _, _, h, _⟩ := HM.out; exact h
      by_cases hal : a ≤ s.size
      · have e1 : decide ((a : Int) ≤ (s.size : Int)) = true := decide_eq_true (by omega)
        have e2 : decide (a ≤ s.size) = true := decide_eq_true hal
        have HC := hidd (HTr.out a fb wr HM.out hal)
        have hpc : (wr.cell? ⟨w.heap.size, 0, none⟩ = some (.int .i64 p.kind) ∧ wr.cell? ⟨w.heap.size, 1, none⟩ = some (.string p.text) ∧ wr.cell? ⟨w.heap.size, 2, none⟩ = some (.int .i64 p.n) ∧ wr.cell? ⟨w.heap.size, 3, none⟩ = some (.string p.name) ∧ wr.cell? ⟨w.heap.size, 4, none⟩ = some (.slice ka kl kc)) := by
          obtain ⟨M, st, _, ht, _⟩ := HM.out
          exact (HPc.out M wr ht).1
        obtain ⟨k0, k1, k2, k3, k4⟩ := hpc
        go_wp2_with fail
        refine HC.out.mono ?_; rintro r w4 ⟨kr, rfl, hm⟩
        clear k0 k1 k2 k3 k4 hfc e1 e2
        cases hm with
        | over _ _ M st hk1 h1 h2 h3 =>
          have hkr : ((kr : Int) == 3) = false := by rw [beq_eq_false_iff_ne]; omega
          rcases hk1 with hk1 | hk1 | ⟨hk1, han⟩
          all_goals
            obtain ⟨hres4, hnm4⟩ := (HPc.out M w4 h2).2
            obtain ⟨sv, ov, hl4⟩ := h1
            obtain ⟨gv, hov⟩ := hl4.over hres4 hnm4 (by have := HLow.out; show w.heap.size ≤ w.heap.size + 1; omega)
            obtain ⟨sp, sc, esv⟩ := ownsRow_form0 hov.said
            subst esv
            obtain ⟨x0, x1, x2, x3, x4, x5, hx⟩ := mCells_six st.out gv
            have hob : w4.heap[w0.heap.size + 1]? = some (.cells #[x0, x1, x2, x3, x4, x5] 28 (0, 0)) := by rw [← hx]; exact hov.out
            have hlk : w4.heap[w0.heap.size]? = some (.cells (lookCells (.slice ra R.length rc) s fuel st.ticks (.slice sp st.said.length sc) st.err) 53 (0, 0)) := hov.look
            have l3 : w4.cell? ⟨w0.heap.size, 3, none⟩ = some (.int .i64 st.ticks) := by simp [World.cell?, hlk, lookCells]
            have l4 : w4.cell? ⟨w0.heap.size, 4, none⟩ = some (.slice sp st.said.length sc) := by simp [World.cell?, hlk, lookCells]
            have q0 : w4.cell? ⟨w0.heap.size + 1, 0, none⟩ = some x0 := by simp [World.cell?, hob]
            have q1 : w4.cell? ⟨w0.heap.size + 1, 1, none⟩ = some x1 := by simp [World.cell?, hob]
            have q2 : w4.cell? ⟨w0.heap.size + 1, 2, none⟩ = some x2 := by simp [World.cell?, hob]
            have q3 : w4.cell? ⟨w0.heap.size + 1, 3, none⟩ = some x3 := by simp [World.cell?, hob]
            have q4 : w4.cell? ⟨w0.heap.size + 1, 4, none⟩ = some x4 := by simp [World.cell?, hob]
            have q5 : w4.cell? ⟨w0.heap.size + 1, 5, none⟩ = some x5 := by simp [World.cell?, hob]
            have fq : ∀ i, w4.frozen? ⟨w0.heap.size + 1, i, none⟩ = false := fun i => by simp [World.frozen?, hob]
            have HOv := hidd hov
            have HW := hidd h3
            have HX := hidd hx
            have HOb := hidd hob
            clear h2 h3 hov hl4 hres4 hnm4 hx hob hlk
            have hkeep : w4.cell? ⟨w0.heap.size, 4, none⟩ = some (.slice sp st.said.length sc) ∧ w4.cell? ⟨w0.heap.size, 3, none⟩ = some (.int .i64 st.ticks) := ⟨l4, l3⟩
            go_wp2_with fail
            go_region_held3 (fun x => x.cell? ⟨w0.heap.size, 4, none⟩ = some (.slice sp st.said.length sc) ∧ x.cell? ⟨w0.heap.size, 3, none⟩ = some (.int .i64 st.ticks)) (first | with_reducible exact hkeep | go_keep) (fail)
            clear hkeep l3 l4 q0 q1 q2 q3 q4 q5 fq
            have HB5 : Hid (∀ y, ((w4.setCell ⟨w0.heap.size + 1, 4, none⟩ (.slice sp st.said.length sc)).setCell ⟨w0.heap.size + 1, 5, none⟩ (.int .i64 st.ticks)).drew = y → ResAt y (w.heap.size + 1) ∧ y.heap[w0.heap.size + 1]? = some (.cells #[x0, x1, x2, x3, .slice sp st.said.length sc, .int .i64 st.ticks] 28 (0, 0)) ∧ Grew w y ∧ GiftsV y x3 (giftsOf st.out) ∧ GiftsV y (.slice sp st.said.length sc) st.said) := over_kept HOv.out HX.out HOb.out (.int .i64 st.ticks)
            generalize hw5 : ((w4.setCell ⟨w0.heap.size + 1, 4, none⟩ (.slice sp st.said.length sc)).setCell ⟨w0.heap.size + 1, 5, none⟩ (.int .i64 st.ticks)).drew = w5
            obtain ⟨R5, B5, G5, V5, S5⟩ := HB5.out w5 hw5
            obtain ⟨fo, fa, fe, z0, z1, z2, hfin⟩ := mCells_heads HX.out
            obtain ⟨xp, xc, z3, _⟩ := V5.len
            subst z0 z1 z2 z3
            have HF := hidd hfin
            obtain ⟨r0, r1, r2, r3, r4, r5⟩ := R5.cells
            have fz := R5.free
            have q0 : w5.cell? ⟨w0.heap.size + 1, 0, none⟩ = some (.bool fo) := by simp [World.cell?, B5]
            have q1 : w5.cell? ⟨w0.heap.size + 1, 1, none⟩ = some (.int .i64 fa) := by simp [World.cell?, B5]
            have q2 : w5.cell? ⟨w0.heap.size + 1, 2, none⟩ = some (.int .i64 fe) := by simp [World.cell?, B5]
            have q3 : w5.cell? ⟨w0.heap.size + 1, 3, none⟩ = some (.slice xp (giftsOf st.out).length xc) := by simp [World.cell?, B5]
            have q4 : w5.cell? ⟨w0.heap.size + 1, 4, none⟩ = some (.slice sp st.said.length sc) := by simp [World.cell?, B5]
            have q5 : w5.cell? ⟨w0.heap.size + 1, 5, none⟩ = some (.int .i64 st.ticks) := by simp [World.cell?, B5]
            have HV5 := hidd (And.intro R5 (And.intro G5 (And.intro V5 S5)))
            clear R5 B5 G5 V5 S5 HB5 HOb hw5 hfin HX
            go_wp2_with fail
            (try simp only [Exit.inBlock, Exit.then, Exit.noGoto_ret])
            refine bodyPost_ret (results_matchR (rb := w.heap.size + 1) (cs := #[.bool fo, .int .i64 fa, .int .i64 fe, .slice xp (giftsOf st.out).length xc, .slice sp st.said.length sc, .int .i64 st.ticks]) rfl (HV5.out.1.put _ _ _ _ _ _) rfl) rfl ?_
            rw [HE.out, HW.out]
            exact HF.out _ _ _ _ _ _ (put6_grew HV5.out.2.1 (by omega) _ _ _ _ _ _) (HV5.out.2.2.1.put HV5.out.1 _ _ _ _ _ _) (HV5.out.2.2.2.put HV5.out.1 _ _ _ _ _ _)
        | next _ han h1 h2 =>
          subst han
          have HN := hidd h1
          clear h1
          go_wp2_with fail
          go_roundg (s.size + 2 - (a + 1))
          case rel => exact ⟨a + 1, w4.heap.size, rfl, by omega, HN.out _ _ ((Grew.refl w4).alloc _) (by rw [World.cell?_alloc_mark]; rfl) (by have := heap_alloc_new w4 (.cells #[.int .i64 ((a : Int) + 1)] 3); unfold World.frozen?; dsimp only; rw [this]; rfl) (Nat.le_refl _), by omega⟩
          case measure => omega
        | bad _ er he M st h1 h2 h3 h4 =>
          obtain ⟨hres4, hnm4⟩ := (HPc.out M w4 h2).2
          obtain ⟨sv, ov, hl4⟩ := h1
          have hlk : w4.heap[w0.heap.size]? = some (.cells (lookCells (.slice ra R.length rc) s fuel st.ticks sv er) 53 (0, 0)) := by rw [← h4]; exact hl4.look
          have l5 : w4.cell? ⟨w0.heap.size, 5, none⟩ = some (.int .i64 er) := by simp [World.cell?, hlk, lookCells]
          have HW := hidd h3
          have HR4 := hidd hres4
          have HNE : Hid (w.heap.size + 1 ≠ w0.heap.size) := by have := HLow.out; rw [Hid]; omega
          have HG4 : Hid (Grew w w4) := hl4.grew
          obtain ⟨r0, r1, r2, r3, r4, r5⟩ := hres4.cells
          have fz := hres4.free
          have hst : ∀ b0 b1 b2 b3 b4 b5, (put6 w4 (w.heap.size + 1) b0 b1 b2 b3 b4 b5).cell? ⟨w0.heap.size, 5, none⟩ = some (.int .i64 er) := fun b0 b1 b2 b3 b4 b5 => (put6_cell (q := ⟨w0.heap.size, 5, none⟩) HNE.out b0 b1 b2 b3 b4 b5).trans l5
          have hst2 : ∀ b0 b1 b2 b3 b4 b5, (put6 w4 (w.heap.size + 1) b0 b1 b2 b3 b4 b5).drew.cell? ⟨w0.heap.size, 5, none⟩ = some (.int .i64 er) := fun b0 b1 b2 b3 b4 b5 => (drew_cell0 _ _).trans (hst b0 b1 b2 b3 b4 b5)
          have l5d : w4.drew.cell? ⟨w0.heap.size, 5, none⟩ = some (.int .i64 er) := (drew_cell0 _ _).trans l5
          clear h2 h3 h4 hl4 hres4 hnm4 hlk he
          go_wp2_with fail
          go_region_held3 (fun x => x.cell? ⟨w0.heap.size, 5, none⟩ = some (.int .i64 er)) (first | with_reducible exact l5 | with_reducible exact l5d | with_reducible exact hst _ _ _ _ _ _ | with_reducible exact hst2 _ _ _ _ _ _) (fail)
          go_wp2_with fail
          (try simp only [Exit.inBlock, Exit.then, Exit.noGoto_ret])
          refine bodyPost_ret (results_matchR (rb := w.heap.size + 1) rfl ((drew_heap' _).symm ▸ HR4.out.put (.bool false) (.int .i64 0) (.int .i64 0) (.slice none 0 0) (.slice none 0 0) (.int .i64 0)) rfl) rfl ?_
          rw [HE.out, HW.out]
          exact ⟨(put6_grew HG4.out (by omega) _ _ _ _ _ _).drew, _, _, rfl, giftsV_nil _, giftsV_nil _⟩
      · have hae : a = s.size + 1 := by omega
        have e1 : decide ((a : Int) ≤ (s.size : Int)) = false := decide_eq_false (by omega)
        have e2 : decide (a ≤ s.size) = false := decide_eq_false hal
        obtain ⟨M, st, h1, h2, _, _, _, h6, _, _, _, _, h11⟩ := HM.out
        have h3 : tryL R p s fuel anch (s.size + 1) 0 0 [] = (st.out, st.said, st.ticks, 0) := by
          rw [h11, h6, hae, Nat.sub_self]; rfl
        clear h11 h6 HM
        obtain ⟨hres4, hnm4⟩ := (HPc.out M wr h2).2
        obtain ⟨sv, ov, hl4⟩ := h1
        obtain ⟨gv, hov⟩ := hl4.over hres4 hnm4 (by have := HLow.out; show w.heap.size ≤ w.heap.size + 1; omega)
        obtain ⟨sp, sc, esv⟩ := ownsRow_form0 hov.said
        subst esv
        obtain ⟨x0, x1, x2, x3, x4, x5, hx⟩ := mCells_six st.out gv
        have hob : wr.heap[w0.heap.size + 1]? = some (.cells #[x0, x1, x2, x3, x4, x5] 28 (0, 0)) := by rw [← hx]; exact hov.out
        have hlk : wr.heap[w0.heap.size]? = some (.cells (lookCells (.slice ra R.length rc) s fuel st.ticks (.slice sp st.said.length sc) st.err) 53 (0, 0)) := hov.look
        have l3 : wr.cell? ⟨w0.heap.size, 3, none⟩ = some (.int .i64 st.ticks) := by simp [World.cell?, hlk, lookCells]
        have l4 : wr.cell? ⟨w0.heap.size, 4, none⟩ = some (.slice sp st.said.length sc) := by simp [World.cell?, hlk, lookCells]
        have q0 : wr.cell? ⟨w0.heap.size + 1, 0, none⟩ = some x0 := by simp [World.cell?, hob]
        have q1 : wr.cell? ⟨w0.heap.size + 1, 1, none⟩ = some x1 := by simp [World.cell?, hob]
        have q2 : wr.cell? ⟨w0.heap.size + 1, 2, none⟩ = some x2 := by simp [World.cell?, hob]
        have q3 : wr.cell? ⟨w0.heap.size + 1, 3, none⟩ = some x3 := by simp [World.cell?, hob]
        have q4 : wr.cell? ⟨w0.heap.size + 1, 4, none⟩ = some x4 := by simp [World.cell?, hob]
        have q5 : wr.cell? ⟨w0.heap.size + 1, 5, none⟩ = some x5 := by simp [World.cell?, hob]
        have fq : ∀ i, wr.frozen? ⟨w0.heap.size + 1, i, none⟩ = false := fun i => by simp [World.frozen?, hob]
        have HOv := hidd hov
        have HW := hidd h3
        have HX := hidd hx
        have HOb := hidd hob
        clear h2 h3 hov hl4 hres4 hnm4 hx hob hlk
        have hkeep : wr.cell? ⟨w0.heap.size, 4, none⟩ = some (.slice sp st.said.length sc) ∧ wr.cell? ⟨w0.heap.size, 3, none⟩ = some (.int .i64 st.ticks) := ⟨l4, l3⟩
        go_wp2_with fail
        go_region_held3 (fun x => x.cell? ⟨w0.heap.size, 4, none⟩ = some (.slice sp st.said.length sc) ∧ x.cell? ⟨w0.heap.size, 3, none⟩ = some (.int .i64 st.ticks)) (first | with_reducible exact hkeep | go_keep) (fail)
        clear hkeep l3 l4 q0 q1 q2 q3 q4 q5 fq
        have HB5 : Hid (∀ y, ((wr.setCell ⟨w0.heap.size + 1, 4, none⟩ (.slice sp st.said.length sc)).setCell ⟨w0.heap.size + 1, 5, none⟩ (.int .i64 st.ticks)).drew = y → ResAt y (w.heap.size + 1) ∧ y.heap[w0.heap.size + 1]? = some (.cells #[x0, x1, x2, x3, .slice sp st.said.length sc, .int .i64 st.ticks] 28 (0, 0)) ∧ Grew w y ∧ GiftsV y x3 (giftsOf st.out) ∧ GiftsV y (.slice sp st.said.length sc) st.said) := over_kept HOv.out HX.out HOb.out (.int .i64 st.ticks)
        generalize hw5 : ((wr.setCell ⟨w0.heap.size + 1, 4, none⟩ (.slice sp st.said.length sc)).setCell ⟨w0.heap.size + 1, 5, none⟩ (.int .i64 st.ticks)).drew = w5
        obtain ⟨R5, B5, G5, V5, S5⟩ := HB5.out w5 hw5
        obtain ⟨fo, fa, fe, z0, z1, z2, hfin⟩ := mCells_heads HX.out
        obtain ⟨xp, xc, z3, _⟩ := V5.len
        subst z0 z1 z2 z3
        have HF := hidd hfin
        obtain ⟨r0, r1, r2, r3, r4, r5⟩ := R5.cells
        have fz := R5.free
        have q0 : w5.cell? ⟨w0.heap.size + 1, 0, none⟩ = some (.bool fo) := by simp [World.cell?, B5]
        have q1 : w5.cell? ⟨w0.heap.size + 1, 1, none⟩ = some (.int .i64 fa) := by simp [World.cell?, B5]
        have q2 : w5.cell? ⟨w0.heap.size + 1, 2, none⟩ = some (.int .i64 fe) := by simp [World.cell?, B5]
        have q3 : w5.cell? ⟨w0.heap.size + 1, 3, none⟩ = some (.slice xp (giftsOf st.out).length xc) := by simp [World.cell?, B5]
        have q4 : w5.cell? ⟨w0.heap.size + 1, 4, none⟩ = some (.slice sp st.said.length sc) := by simp [World.cell?, B5]
        have q5 : w5.cell? ⟨w0.heap.size + 1, 5, none⟩ = some (.int .i64 st.ticks) := by simp [World.cell?, B5]
        have HV5 := hidd (And.intro R5 (And.intro G5 (And.intro V5 S5)))
        clear R5 B5 G5 V5 S5 HB5 HOb hw5 hfin HX
        go_wp2_with fail
        (try simp only [Exit.inBlock, Exit.then, Exit.noGoto_ret])
        refine bodyPost_ret (results_matchR (rb := w.heap.size + 1) (cs := #[.bool fo, .int .i64 fa, .int .i64 fe, .slice xp (giftsOf st.out).length xc, .slice sp st.said.length sc, .int .i64 st.ticks]) rfl (HV5.out.1.put _ _ _ _ _ _) rfl) rfl ?_
        rw [HE.out, HW.out]
        exact HF.out _ _ _ _ _ _ (put6_grew HV5.out.2.1 (by omega) _ _ _ _ _ _) (HV5.out.2.2.1.put HV5.out.1 _ _ _ _ _ _) (HV5.out.2.2.2.put HV5.out.1 _ _ _ _ _ _)
  · have e0 : (ae == 0) = false := beq_eq_false_iff_ne.2 h0
    have HE : Hid (matchOf R p s anch fuel = (none, [], 0, ae)) := by rw [Hid, matchOf, if_neg (by rw [HAE.out]; exact h0), HAE.out]
    clear h0
    go_enter Tryd.func6, Tryd.ntmps6
    go_wp2_with fail
    refine (HA.out _ HG0.out).mono ?_; rintro e w0 ⟨rfl, G2⟩
    have HG := hidd (HG0.out.trans G2)
    have hres : ResAt w0 (w.heap.size + 1) := by
      unfold ResAt
      rw [G2.block _ (lt_of_block HRes.out)]
      exact HRes.out
    obtain ⟨r0, r1, r2, r3, r4, r5⟩ := hres.cells
    have fz := hres.free
    have HRb := hidd hres
    clear G2 c0 c1 c2 c3 c4 hres
    go_wp2_with fail
    (try simp only [Exit.inBlock, Exit.then, Exit.noGoto_ret])
    refine bodyPost_ret (results_matchR (rb := w.heap.size + 1) rfl (HRb.out.put _ _ _ _ _ _) rfl) rfl ?_
    rw [HE.out]
    exact ⟨put6_grew HG.out (by omega) _ _ _ _ _ _, _, _, rfl, giftsV_nil _, giftsV_nil _⟩
end
end Go.Proofs.YtcmdhgamlhnioaaDoor
