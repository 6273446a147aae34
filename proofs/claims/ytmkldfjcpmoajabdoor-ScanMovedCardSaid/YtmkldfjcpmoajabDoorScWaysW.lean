/- scan.Ways: the walk. -/
import Derived.Test.YtmkldfjcpmoajabDoorScWays
import Derived.Deep.Onto
namespace Go.Proofs.YtmkldfjcpmoajabDoor
open Go.RowKit
set_option linter.unusedVariables false
theorem info_way : (Tryd.prog.info? 33).map (fun i => (i.zero, i.size, i.bytes)) = some (some (.agg #[.int .i64 0, .slice none 0 0]), 2, 32) := by kernel_rfl
theorem after_nil {fuel : Nat} : ∀ (T : Tr) (k t : Nat), after [] (tell fuel k t T) = tell fuel k t T
  | T, 0, t => by simp [tell, after]
  | .stop .done, k + 1, t => rfl
  | .stop .cut, k + 1, t => rfl
  | .stop .deep, k + 1, t => rfl
  | .stop .name, k + 1, t => rfl
  | .tick T, k + 1, t => by
    rw [tell]
    split
    · rfl
    · exact after_nil T (k + 1) (t + 1)
  | .say g T, k + 1, t => by rw [tell]; exact after_nil T (k + 1) t
  | .way a g T, k + 1, t => by
    rw [tell]
    obtain ⟨l, c, e⟩ := tell fuel k t T
    dsimp only
    by_cases h : e = 0
    · rw [if_pos h]; rfl
    · rw [if_neg h]; simp [after, h]
section
variable {R : List Rule} {w : World} {v kv : Value} {p : Pat} {s : ByteArray}
theorem found_step {w0 w2 w3 w3' w4 : World} {bm fuel most : Nat} {want : List Way × Bool × Int} {out out' gv : Value} {d : List Way} {X : Far} {gs : List Value} {m : MS} {T : Tr} {a : Nat} {g : List Gift}
    (h1 : MacRep X w0 bm v s fuel m w2) (h2 : w2.ownsRow w0.heap.size 33 2 out d.length (wayCells d gs)) (h3 : gs.length = d.length) (h4 : ∀ x ∈ d.zip gs, GiftsIn X w0.heap.size x.2 x.1.2) (h5 : m.cut = false)
    (h6 : Inv s.size fuel (d.length + 1) none m) (h7 : MeansC R s (fuel - m.ticks) m.choices T) (h8 : want = after (d ++ [(a, g)]) (tell fuel (most - (d.length + 1)) m.ticks T)) (h9 : d.length + 1 ≤ most)
    (g3 : Grew w2 w3) (hg : w3.ownsRow w2.heap.size 41 2 gv g.length (saidCells g)) (ga : Grew w3 w3') (hgr : w3'.grownBy w4 out.ownBlock)
    (hown : w4.ownsRow w0.heap.size 33 2 out' (d.length + 1) (wayCells d gs ++ [.int .i64 a, gv])) : AtRound R w0 bm v s fuel most want w4 out' (d ++ [(a, g)]) := by
  obtain ⟨X', m3, gi, hX⟩ := h1.aside g3 hg h1.grew.size
  have gb : w2.grownBy w3' none := ⟨(g3.trans ga).os, (g3.trans ga).tape, (g3.trans ga).output, (g3.trans ga).size, fun x hx _ => (g3.trans ga).block x hx⟩
  have ho : w3'.ownsRow w0.heap.size 33 2 out d.length (wayCells d gs) := World.ownsRow.kept h2 gb (by cases out.ownBlock <;> simp)
  refine ⟨X', gs ++ [gv], m, T, (m3.kept ga).grown ho (Nat.le_refl _) hgr, ?_, by simp [h3], ?_, h5, ?_, h7, ?_, by simp; omega⟩
  · rw [wayCells_snoc h3, List.length_append]; exact hown
  · intro x hx
    rw [List.zip_append h3.symm] at hx
    rcases List.mem_append.1 hx with hx | hx
    · exact (h4 x hx).mono hX
    · simp at hx; subst hx; exact gi
  · rw [List.length_append]; exact h6
  · rw [List.length_append]; exact h8

theorem start_round {w0 w1 : World} {bm fuel most a : Nat} (hm : MacRep (fun _ => none) w0 bm v s fuel { MS.zero with given := [], choices := [⟨[⟨0, p, 0⟩], a, []⟩] } w1) (hp : errW p = 0) (ha : a ≤ s.size) (hf : fuel ≤ 100000) :
    AtRound R w0 bm v s fuel most (tell fuel most 0 (den R s (fuel + 1) p a [])) w1 (.slice none 0 0) [] := by
  refine ⟨_, [], _, den R s (fuel + 1) p a [], hm, ⟨rfl, .inl ⟨rfl, rfl⟩⟩, rfl, fun x hx => by simp at hx, rfl, ?_, ?_, ?_, Nat.zero_le _⟩
  · exact inv_begin (m := MS.zero) (Or.inr trivial) (Nat.zero_le _) hf hp ha (Nat.zero_le _) rfl
  · exact begin_means fuel p a
  · exact (after_nil _ _ _).symm

/-- What comes of scan.Ways. -/
def WaysEnd (w : World) (r : List Way × Bool × Int) (e : Ending) (w' : World) : Prop := Grew w w' ∧ ∃ v, e = .returned (.tuple #[v, .bool r.2.1, .int .i64 r.2.2]) ∧ WaysAt w' w.heap.size v r.1
theorem waysAt_nil (w : World) (B : Nat) : WaysAt w B (.slice none 0 0) [] := ⟨[], rfl, ⟨rfl, .inl ⟨rfl, rfl⟩⟩, fun x hx => by simp at hx⟩
theorem WaysAt.mono {w : World} {B B' : Nat} {v : Value} {l : List Way} (h : WaysAt w B v l) (hB : B' ≤ B) : WaysAt w B' v l := by
  obtain ⟨gs, h1, h2, h3⟩ := h
  exact ⟨gs, h1, World.ownsRow.mono h2 hB, fun x hx => World.ownsRow.mono (h3 x hx) hB⟩

theorem WaysAt.kept {w w' : World} {B : Nat} {v : Value} {l : List Way} (h : WaysAt w B v l) (g : Grew w w') : WaysAt w' B v l := by
  obtain ⟨gs, h1, h2, h3⟩ := h
  have gb : w.grownBy w' none := ⟨g.os, g.tape, g.output, g.size, fun x hx _ => g.block x hx⟩
  exact ⟨gs, h1, World.ownsRow.kept h2 gb (by cases v.ownBlock <;> simp), fun x hx => World.ownsRow.kept (h3 x hx) gb (by cases x.2.ownBlock <;> simp)⟩

set_option maxRecDepth 100000 in
set_option maxHeartbeats 4000000 in
theorem Ways_any (a most fuel : Int) (hR : RulesAt w v R) (hp : PatV w kv p) (hs : s.size ≤ maxLen) (hf : -9223372036854775808 ≤ fuel ∧ fuel ≤ 9223372036854775807) (hT : TabP w) :
    Calls Tryd.prog 20 #[v, .agg (p.cells kv), .string s, .int .i64 a, .int .i64 most, .int .i64 fuel] w fun e w' => WaysEnd w (waysOf R p s a most fuel) e w' := by
  obtain ⟨ra, rc, rfl, _⟩ := hR.len
  have HA : Hid (∀ w1, Grew w w1 → Calls Tryd.prog 21 #[.slice ra R.length rc, .agg (p.cells kv), .string s, .int .i64 fuel] w1 fun e w' => e = .returned (.int .i64 (askErr R p s fuel)) ∧ Grew w1 w') := fun w1 g => ask_any _ R kv p s fuel w1 (hR.kept g) (hp.kept g) hs hf
  have HB := hidd (hp.box 28)
  have HRA := hidd hR
  have HT := hidd hT
  clear hR hp hT hf hs
  unfold Pat.cells at HA HB ⊢
  by_cases h0 : askErr R p s fuel = 0
  · have h0' : (askErr R p s fuel != 0) = false := by rw [h0]; rfl
    by_cases hr : a < 0 ∨ (s.size : Int) < a ∨ most < 0 ∨ 4096 < most
    · have HE : Hid (waysOf R p s a most fuel = ([], false, 3)) := by rw [Hid, waysOf, if_pos h0, if_pos hr]
      have hr2 : a < 0 ∨ (0 ≤ a ∧ (s.size : Int) < a) ∨ (0 ≤ a ∧ a ≤ (s.size : Int) ∧ most < 0) ∨ (0 ≤ a ∧ a ≤ (s.size : Int) ∧ 0 ≤ most ∧ 4096 < most) := by omega
      clear hr h0
      rcases hr2 with k | k | k | k
      · have e1 : decide (a < 0) = true := decide_eq_true (by omega)
        clear k
        go_enter Tryd.func20, Tryd.ntmps20
        go_wp2_with fail
        refine (HA.out _ ((Grew.refl w).alloc _)).mono ?_; rintro e w0 ⟨rfl, G2⟩
        have HG := hidd (((Grew.refl w).alloc _).trans G2)
        clear G2
        go_wp2_with fail
        go_ret3
        rw [HE.out]
        exact ⟨HG.out, _, rfl, waysAt_nil _ _⟩
      · have e1 : decide (a < 0) = false := decide_eq_false (by omega)
        have e2 : decide ((s.size : Int) < a) = true := decide_eq_true (by omega)
        clear k
        go_enter Tryd.func20, Tryd.ntmps20
        go_wp2_with fail
        refine (HA.out _ ((Grew.refl w).alloc _)).mono ?_; rintro e w0 ⟨rfl, G2⟩
        have HG := hidd (((Grew.refl w).alloc _).trans G2)
        clear G2
        go_wp2_with fail
        go_ret3
        rw [HE.out]
        exact ⟨HG.out, _, rfl, waysAt_nil _ _⟩
      · have e1 : decide (a < 0) = false := decide_eq_false (by omega)
        have e2 : decide ((s.size : Int) < a) = false := decide_eq_false (by omega)
        have e3 : decide (most < 0) = true := decide_eq_true (by omega)
        clear k
        go_enter Tryd.func20, Tryd.ntmps20
        go_wp2_with fail
        refine (HA.out _ ((Grew.refl w).alloc _)).mono ?_; rintro e w0 ⟨rfl, G2⟩
        have HG := hidd (((Grew.refl w).alloc _).trans G2)
        clear G2
        go_wp2_with fail
        go_ret3
        rw [HE.out]
        exact ⟨HG.out, _, rfl, waysAt_nil _ _⟩
      · have e1 : decide (a < 0) = false := decide_eq_false (by omega)
        have e2 : decide ((s.size : Int) < a) = false := decide_eq_false (by omega)
        have e3 : decide (most < 0) = false := decide_eq_false (by omega)
        have e4 : decide (4096 < most) = true := decide_eq_true (by omega)
        clear k
        go_enter Tryd.func20, Tryd.ntmps20
        go_wp2_with fail
        refine (HA.out _ ((Grew.refl w).alloc _)).mono ?_; rintro e w0 ⟨rfl, G2⟩
        have HG := hidd (((Grew.refl w).alloc _).trans G2)
        clear G2
        go_wp2_with fail
        go_ret3
        rw [HE.out]
        exact ⟨HG.out, _, rfl, waysAt_nil _ _⟩
    · obtain ⟨n1, n2, n3, n4, n5, n6⟩ := ask_none h0
      have HE : Hid (waysOf R p s a most fuel = tell fuel.toNat most.toNat 0 (den R s (fuel.toNat + 1) p a.toNat [])) := by rw [Hid, waysOf, if_pos h0, if_neg hr]
      obtain ⟨a, rfl⟩ : ∃ n : Nat, a = n := ⟨a.toNat, by omega⟩
      obtain ⟨most, rfl⟩ : ∃ n : Nat, most = n := ⟨most.toNat, by omega⟩
      obtain ⟨fuel, rfl⟩ : ∃ n : Nat, fuel = n := ⟨fuel.toNat, by omega⟩
      rw [Int.toNat_natCast, Int.toNat_natCast, Int.toNat_natCast] at HE
      have e1 : decide ((a : Int) < 0) = false := decide_eq_false (by omega)
      have e2 : decide (s.size < a) = false := decide_eq_false (by omega)
      have e3 : decide ((most : Int) < 0) = false := decide_eq_false (by omega)
      have e4 : decide ((4096 : Int) < (most : Int)) = false := decide_eq_false (by omega)
      have N := hidd (And.intro n1 (And.intro n2 (And.intro n3 (And.intro n4 n6))))
      have HA1 : Hid (a ≤ s.size ∧ most ≤ 4096) := ⟨by omega, by omega⟩
      have HZ := hidd h0
      clear hr n1 n2 n3 n4 n5 n6 h0
      go_enter Tryd.func20, Tryd.ntmps20
      go_wp2_with fail
      refine (HA.out _ ((Grew.refl w).alloc _)).mono ?_; rintro e w0 ⟨rfl, G2⟩
      have HG := hidd (((Grew.refl w).alloc _).trans G2)
      have HP := hidd (HB.out.kept G2)
      clear G2
      go_wp2_with fail
      refine (begin_any (mac_new w0 (.slice ra R.length rc) s fuel) a w.heap.size 0 p HP.out).mono ?_; rintro e w1 ⟨rfl, hm, hk⟩
      have HM : Hid (AtRound R w0 w0.heap.size (.slice ra R.length rc) s fuel most (tell fuel most 0 (den R s (fuel + 1) p a [])) w1 (.slice none 0 0) []) := start_round hm N.out.1 HA1.out.1 (by have := N.out.2.2.2.2; omega)
      clear hm hk e1 e2 e3 e4 h0'
      go_wp2_with fail
      go_loopg [12] most (fun k s12 wr => ∃ d : List Way, Hid (AtRound R w0 w0.heap.size (.slice ra R.length rc) s fuel most (tell fuel most 0 (den R s (fuel + 1) p a [])) wr s12 d) ∧ most ≤ k + d.length)
      case atStart => exact ⟨[], HM.out, by simp⟩
      case round =>
        obtain ⟨d, HI, hk⟩ := hrel
        clear HM
        obtain ⟨pv, cv, rfl⟩ : ∃ p c, u12 = .slice p d.length c := by
          obtain ⟨X, gs, m, T, h1, h2, h3⟩ := HI.out
          exact ownsRow_form0 h2
        by_cases hd : d.length < most
        · have HS := hidd (HI.out.next hd HA1.out.2 N.out.2.2.2.1 (HRA.out.kept HG.out) N.out.2.1 N.out.2.2.1 (HT.out.kept HG.out))
          go_wp2_with fail
          refine HS.out.mono ?_; rintro e w2 hstep
          clear HS
          cases hstep with
          | found X gs m T a' g w' h1 h2 h3 h4 h5 h6 h7 h8 h9 h10 h11 h12 =>
            obtain ⟨i0, hi0, hz0, hz1, hz2⟩ := info_parts info_way
            have h1' := h1
            obtain ⟨sv, cv', gp, vs, hM⟩ := h1'
            have c6 := hM.c6
            have hgv := hM.given
            rw [h10] at hgv
            have HL := hidd (list_any g gp hgv h11)
            have H := hidd (And.intro h1 (And.intro h2 (And.intro h3 (And.intro h4 (And.intro h5 (And.intro h6 (And.intro h7 (And.intro h8 h9))))))))
            have hdm : d.length ≤ 4096 := by have := HA1.out.2; omega
            clear h1 h2 h3 h4 h5 h6 h7 h8 h9 h10 h11 h12 hM hgv HI
            go_wp2_with fail
            refine HL.out.mono ?_; rintro e w3 ⟨gv, rfl, g3, hg⟩
            obtain ⟨gb, gc, rfl⟩ := ownsRow_form0 hg
            have hown3 : w3.ownsRow w0.heap.size 33 2 (.slice pv d.length cv) d.length (wayCells d gs) := World.ownsRow.kept H.out.2.1 (row := none) ⟨g3.os, g3.tape, g3.output, g3.size, fun x hx _ => g3.block x hx⟩ (by cases (Value.slice pv d.length cv).ownBlock <;> simp)
            have h0w : w0.heap.size ≤ w3.heap.size := Nat.le_trans H.out.1.grew.size g3.size
            have HX := hidd (And.intro g3 hg)
            clear g3 hg c6
            go_wp2_with (at_builtin; refine wpList_append_lies _ rfl _ _ 23 rfl w0.heap.size 33 i0 _ 2 32 Tryd.underlying23 hi0 hz0 hz1 hz2 rfl (by decide) (.slice pv d.length cv) d.length (wayCells d gs) rfl (hown3.alloc _) ⟨w3.heap.size, 0, none⟩ 1 1 [.int .i64 a', .slice gb g.length gc] rfl rfl (World.news_of_block (cs := #[.int .i64 a', .slice gb g.length gc]) (t := 33) (fr := (0, 0)) (heap_alloc_new w3 _)) (by simp [Value.oneCell']) (by omega) (by unfold maxLen; omega) (by omega) (by simp; omega) (w3.heap.size + 1) (by simp) ?_; intro gg cap w4 hown1 hgrow hat hlt)
            have HR : Hid (AtRound R w0 w0.heap.size (.slice ra R.length rc) s fuel most (tell fuel most 0 (den R s (fuel + 1) p a [])) w4 (.slice (some ⟨gg, 0, none⟩) (d.length + 1) cap) (d ++ [(a', g)])) := by
              obtain ⟨h1, h2, h3, h4, h5, h6, h7, h8, h9⟩ := H.out
              exact found_step h1 h2 h3 h4 h5 h6 h7 h8 h9 HX.out.1 HX.out.2 ((Grew.refl w3).alloc _) hgrow hown1
            have hdl := H.out.2.2.2.2.2.2.2.2
            clear hown1 hgrow hat hlt hown3 H HX
            go_wp2_with fail
            go_roundg (most - (d.length + 1))
            case rel => exact ⟨d ++ [(a', g)], HR.out, by simp; omega⟩
            case measure => omega
          | over X m c w' h1 h2 h3 h4 =>
            have h1' := h1
            obtain ⟨sv, cv', gp, vs, hM⟩ := h1'
            have c7 := hM.c7
            rw [h3] at c7
            have H := hidd (And.intro h1.grew (And.intro h2 h4))
            clear h1 h2 h3 h4 hM HI
            go_wp2_with fail
            go_quiet (fail)
            go_wp2_with fail
            go_ret3
            rw [HE.out, H.out.2.2]
            exact ⟨HG.out.trans (H.out.1.drewN _), _, rfl, (WaysAt.mono H.out.2.1 HG.out.size).kept ((Grew.refl _).drewN _)⟩
          | bad e he w' h1 h2 =>
            have H := hidd (And.intro h1 h2)
            have hne : (e != 0) = true := by rcases he with rfl | rfl <;> rfl
            clear h1 h2 he HI
            go_wp2_with fail
            go_ret3
            rw [HE.out, H.out.2]
            exact ⟨HG.out.trans H.out.1, _, rfl, waysAt_nil _ _⟩
        · have hfull := HI.out.full (by omega)
          have hw := HI.out.ways
          have hg : Grew w0 wr := by obtain ⟨X, gs, m, T, h1, _⟩ := HI.out; exact h1.grew
          have H := hidd (And.intro hg (And.intro hw hfull))
          have hd' : decide (d.length < most) = false := decide_eq_false hd
          clear hfull hw hg HI hd
          go_wp2_with fail
          go_ret3
          rw [HE.out, H.out.2.2]
          exact ⟨HG.out.trans H.out.1, _, rfl, WaysAt.mono H.out.2.1 HG.out.size⟩
  · have HE : Hid (waysOf R p s a most fuel = ([], false, askErr R p s fuel)) := by rw [Hid, waysOf, if_neg h0]
    have h0' : (askErr R p s fuel != 0) = true := by simp [h0]
    clear h0
    go_enter Tryd.func20, Tryd.ntmps20
    go_wp2_with fail
    refine (HA.out _ ((Grew.refl w).alloc _)).mono ?_; rintro e w2 ⟨rfl, G2⟩
    have HG := hidd (((Grew.refl w).alloc _).trans G2)
    clear G2
    go_wp2_with fail
    go_ret3
    rw [HE.out]
    exact ⟨HG.out, _, rfl, waysAt_nil _ _⟩
end
end Go.Proofs.YtmkldfjcpmoajabDoor
