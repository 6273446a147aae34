/- scan.Ways: at every pattern. -/
import Derived.Test.YtkkdpafkafjfgaaDoorWwScMore
import Derived.Test.YtkkdpafkafjfgaaDoorWwPAuK
import Derived.Test.YtkkdpafkafjfgaaDoorWwScNextW
import Derived.Deep.Onto
import Derived.Laws.StructEq
namespace Go.Proofs.YtkkdpafkafjfgaaDoor
open Go.RowKit
set_option linter.unusedVariables false
def wayCells (l : List Way) (gs : List Value) : List Value := (l.zip gs).flatMap fun x => [.int .i64 x.1.1, x.2]
theorem wayCells_snoc {l : List Way} {gs : List Value} (h : gs.length = l.length) (x : Way) (gv : Value) : wayCells (l ++ [x]) (gs ++ [gv]) = wayCells l gs ++ [.int .i64 x.1, gv] := by
  unfold wayCells; rw [List.zip_append h.symm]; simp
def WaysAt (w : World) (B : Nat) (v : Value) (l : List Way) : Prop :=
  ∃ gs : List Value, gs.length = l.length ∧ w.ownsRow B 57 2 v l.length (wayCells l gs) ∧ ∀ x ∈ l.zip gs, w.ownsRow B 197 2 x.2 x.1.2.length (saidCells x.1.2)
theorem ownsRow_keep {w w' : World} {B : Nat} {e : TypeId} {sz : Nat} {v : Value} {n : Nat} {xs : List Value} (h : w.ownsRow B e sz v n xs) (k : Keep w w') (he : still e = true) : w'.ownsRow B e sz v n xs := by
  refine ⟨h.1, ?_⟩
  rcases h.2 with h | ⟨g, cap, cur, a1, a2, a3, a4⟩
  · exact .inl h
  · exact .inr ⟨g, cap, cur, a1, a2, k.block _ _ _ he a3, a4⟩
theorem ownsRow_form0 {w : World} {B : Nat} {e : TypeId} {sz : Nat} {v : Value} {n : Nat} {xs : List Value} (h : w.ownsRow B e sz v n xs) : ∃ p c, v = .slice p n c := by
  rcases h.2 with ⟨e, h2⟩ | ⟨g, c, _, e, _⟩
  · exact ⟨none, 0, by rw [e, h2]⟩
  · exact ⟨_, _, e⟩
section
variable {R : List Rule} {w : World} {v kv : Value} {p : Pat} {s : ByteArray}
def AtRound (R : List Rule) (w0 : World) (bm : Nat) (v : Value) (s : ByteArray) (fuel most : Nat) (want : List Way × Bool × Int) (wr : World) (out : Value) (d : List Way) : Prop :=
  ∃ (X : Far) (gs : List Value) (m : MS) (T : Tr), MacRep X w0 bm v s fuel m wr ∧ wr.ownsRow w0.heap.size 57 2 out d.length (wayCells d gs) ∧ gs.length = d.length ∧ (∀ x ∈ d.zip gs, GiftsIn X w0.heap.size x.2 x.1.2) ∧ m.cut = false ∧
    Inv s.size fuel d.length none m ∧ MeansC R s (fuel - m.ticks) m.choices T ∧ want = after d (tell fuel (most - d.length) m.ticks T) ∧ d.length ≤ most
theorem AtRound.ways {w0 wr : World} {bm fuel most : Nat} {want : List Way × Bool × Int} {out : Value} {d : List Way} (h : AtRound R w0 bm v s fuel most want wr out d) : WaysAt wr w0.heap.size out d := by
  obtain ⟨X, gs, m, T, h1, h2, h3, h4, _⟩ := h
  exact ⟨gs, h3, h2, fun x hx => (h4 x hx).own h1⟩
theorem AtRound.full {w0 wr : World} {bm fuel most : Nat} {want : List Way × Bool × Int} {out : Value} {d : List Way} (h : AtRound R w0 bm v s fuel most want wr out d) (hd : most ≤ d.length) : want = (d, false, 0) := by
  obtain ⟨X, gs, m, T, h1, h2, h3, h4, _, _, _, h5, _⟩ := h
  rw [h5, show most - d.length = 0 by omega]
  simp [tell, after]
inductive Step (R : List Rule) (w0 : World) (bm : Nat) (v : Value) (s : ByteArray) (fuel most : Nat) (want : List Way × Bool × Int) (wr : World) (out : Value) (d : List Way) : Ending → World → Prop
  | found (X : Far) (gs : List Value) (m : MS) (T : Tr) (a : Nat) (g : List Gift) (w' : World) (h1 : MacRep X w0 bm v s fuel m w') (h2 : w'.ownsRow w0.heap.size 57 2 out d.length (wayCells d gs)) (h3 : gs.length = d.length) (h4 : ∀ x ∈ d.zip gs, GiftsIn X w0.heap.size x.2 x.1.2) (h5 : m.cut = false)
      (h6 : Inv s.size fuel (d.length + 1) none m) (h7 : MeansC R s (fuel - m.ticks) m.choices T) (h8 : want = after (d ++ [(a, g)]) (tell fuel (most - (d.length + 1)) m.ticks T)) (h9 : d.length + 1 ≤ most) (h10 : m.given = g) (h11 : g.length ≤ 100000) (h12 : a ≤ s.size) :
      Step R w0 bm v s fuel most want wr out d (.returned (.tuple #[.int .i64 a, .bool true, .int .i64 0])) w'
  | over (X : Far) (m : MS) (c : Bool) (w' : World) (h1 : MacRep X w0 bm v s fuel m w') (h2 : WaysAt w' w0.heap.size out d) (h3 : m.cut = c) (h4 : want = (d, c, 0)) :
      Step R w0 bm v s fuel most want wr out d (.returned (.tuple #[.int .i64 0, .bool false, .int .i64 0])) w'
  | bad (e : Int) (he : e = 10 ∨ e = 7) (w' : World) (h1 : Grew w0 w') (h2 : want = ([], false, e)) :
      Step R w0 bm v s fuel most want wr out d (.returned (.tuple #[.int .i64 0, .bool false, .int .i64 e])) w'
theorem AtRound.next {w0 wr : World} {bm fuel most : Nat} {want : List Way × Bool × Int} {out : Value} {d : List Way} (h : AtRound R w0 bm v s fuel most want wr out d) (hd : d.length < most) (hm : most ≤ 4096) (hs : s.size ≤ 65536)
    (hRA : RulesAt w0 v R) (hR2 : R.length ≤ 64) (hRe : ∀ r ∈ R, errW r.2 = 0) (hT : TabP w0) :
    Calls Tryd.prog 51 #[.pointer (some ⟨bm, 0, none⟩)] wr fun e w' => Step R w0 bm v s fuel most want wr out d e w' := by
  obtain ⟨X, gs, m, T, h1, h2, h3, h4, h5, h6, h7, h8, h9⟩ := h
  obtain ⟨c, o, hr, ha⟩ := next_goes h7 h5 h6.ticks
  refine (next_any h1 h6 hr hs (by omega) hRA hR2 hRe hT).mono fun e w' hn => ?_
  obtain ⟨k, hk⟩ : ∃ k, most - d.length = k + 1 := ⟨most - d.length - 1, by omega⟩
  rw [hk, tell_first k T m.ticks m.said] at h8
  cases hf : first fuel m.ticks m.said T with
  | found a g t sd T' =>
    rw [hf] at ha h8
    obtain ⟨m', rfl, e1, e2, e3, e4, e5, e6⟩ := ha
    obtain ⟨rfl, n1, n2, n3, n4, n5⟩ := hn
    rw [tellO, after_more] at h8
    refine .found X gs m' T' a g w' n1 (ownsRow_keep h2 n2 (by decide)) h3 h4 e4 n3 (by rw [e2]; exact e6) ?_ (by omega) e1 (by rw [← e1]; exact n5) n4
    rw [h8, e2, show most - (d.length + 1) = k by omega]
  | over b t sd =>
    rw [hf] at ha h8
    obtain ⟨m', rfl, e1, e2, e3⟩ := ha
    obtain ⟨rfl, n1, n2, n3⟩ := hn
    refine .over X m' b w' n1 ⟨gs, h3, ownsRow_keep h2 n2 (by decide), fun x hx => (h4 x hx).own n1⟩ e1 ?_
    rw [h8, tellO]; simp [after]
  | fuel =>
    rw [hf] at ha h8
    obtain rfl : o = .fuel := ha
    obtain ⟨rfl, n1, n2⟩ := hn
    exact .bad 10 (Or.inl rfl) w' n1 (by rw [h8, tellO]; simp [after])
  | name =>
    rw [hf] at ha h8
    obtain rfl : o = .name := ha
    obtain ⟨rfl, n1, n2⟩ := hn
    exact .bad 7 (Or.inr rfl) w' n1 (by rw [h8, tellO]; simp [after])
  | deep =>
    rw [hf] at ha
    exact absurd ha (by intro h; exact h)
end
end Go.Proofs.YtkkdpafkafjfgaaDoor
namespace Go.Proofs.YtkkdpafkafjfgaaDoor
open Go.RowKit
set_option linter.unusedVariables false
theorem info_way : (Tryd.prog.info? 57).map (fun i => (i.zero, i.size, i.bytes)) = some (some (.agg #[.int .i64 0, .slice none 0 0]), 2, 32) := by kernel_rfl
theorem after_nil {fuel : Nat} : ∀ (T : Tr) (k t : Nat), after [] (tell fuel k t T) = tell fuel k t T
  | T, 0, t => by simp [tell, after]
  | .stop .done, k + 1, t => rfl
  | .stop .cut, k + 1, t => rfl
  | .stop .deep, k + 1, t => rfl
  | .stop .name, k + 1, t => rfl
  | .tick T, k + 1, t => by
    rw [tell]
    split
    · rfl
    · exact after_nil T (k + 1) (t + 1)
  | .say g T, k + 1, t => by rw [tell]; exact after_nil T (k + 1) t
  | .way a g T, k + 1, t => by
    rw [tell]
    obtain ⟨l, c, e⟩ := tell fuel k t T
    dsimp only
    by_cases h : e = 0
    · rw [if_pos h]; rfl
    · rw [if_neg h]; simp [after, h]
section
variable {R : List Rule} {w : World} {v kv : Value} {p : Pat} {s : ByteArray}
theorem found_step {w0 w2 w3 w3' w4 : World} {bm fuel most : Nat} {want : List Way × Bool × Int} {out out' gv : Value} {d : List Way} {X : Far} {gs : List Value} {m : MS} {T : Tr} {a : Nat} {g : List Gift}
    (h1 : MacRep X w0 bm v s fuel m w2) (h2 : w2.ownsRow w0.heap.size 57 2 out d.length (wayCells d gs)) (h3 : gs.length = d.length) (h4 : ∀ x ∈ d.zip gs, GiftsIn X w0.heap.size x.2 x.1.2) (h5 : m.cut = false)
    (h6 : Inv s.size fuel (d.length + 1) none m) (h7 : MeansC R s (fuel - m.ticks) m.choices T) (h8 : want = after (d ++ [(a, g)]) (tell fuel (most - (d.length + 1)) m.ticks T)) (h9 : d.length + 1 ≤ most)
    (g3 : Grew w2 w3) (hg : w3.ownsRow w2.heap.size 197 2 gv g.length (saidCells g)) (ga : Grew w3 w3') (hgr : w3'.grownBy w4 out.ownBlock)
    (hown : w4.ownsRow w0.heap.size 57 2 out' (d.length + 1) (wayCells d gs ++ [.int .i64 a, gv])) : AtRound R w0 bm v s fuel most want w4 out' (d ++ [(a, g)]) := by
  obtain ⟨X', m3, gi, hX⟩ := h1.aside g3 hg h1.grew.size
  have gb : w2.grownBy w3' none := ⟨(g3.trans ga).os, (g3.trans ga).tape, (g3.trans ga).output, (g3.trans ga).size, fun x hx _ => (g3.trans ga).block x hx⟩
  have ho : w3'.ownsRow w0.heap.size 57 2 out d.length (wayCells d gs) := World.ownsRow.kept h2 gb (by cases out.ownBlock <;> simp)
  refine ⟨X', gs ++ [gv], m, T, (m3.kept ga).grown ho (Nat.le_refl _) hgr, ?_, by simp [h3], ?_, h5, ?_, h7, ?_, by simp; omega⟩
  · rw [wayCells_snoc h3, List.length_append]; exact hown
  · intro x hx
    rw [List.zip_append h3.symm] at hx
    rcases List.mem_append.1 hx with hx | hx
    · exact (h4 x hx).mono hX
    · simp at hx; subst hx; exact gi
  · rw [List.length_append]; exact h6
  · rw [List.length_append]; exact h8
theorem start_round {w0 w1 : World} {bm fuel most a : Nat} (hm : MacRep (fun _ => none) w0 bm v s fuel { MS.zero with given := [], choices := [⟨[⟨0, p, 0⟩], a, []⟩] } w1) (hp : errW p = 0) (ha : a ≤ s.size) (hf : fuel ≤ 100000) :
    AtRound R w0 bm v s fuel most (tell fuel most 0 (den R s (fuel + 1) p a [])) w1 (.slice none 0 0) [] := by
  refine ⟨_, [], _, den R s (fuel + 1) p a [], hm, ⟨rfl, .inl ⟨rfl, rfl⟩⟩, rfl, fun x hx => by simp at hx, rfl, ?_, ?_, ?_, Nat.zero_le _⟩
  · exact inv_begin (m := MS.zero) (Or.inr trivial) (Nat.zero_le _) hf hp ha (Nat.zero_le _) rfl
  · exact begin_means fuel p a
  · exact (after_nil _ _ _).symm
def WaysEnd (w : World) (r : List Way × Bool × Int) (e : Ending) (w' : World) : Prop := Grew w w' ∧ ∃ v, e = .returned (.tuple #[v, .bool r.2.1, .int .i64 r.2.2]) ∧ WaysAt w' w.heap.size v r.1
theorem waysAt_nil (w : World) (B : Nat) : WaysAt w B (.slice none 0 0) [] := ⟨[], rfl, ⟨rfl, .inl ⟨rfl, rfl⟩⟩, fun x hx => by simp at hx⟩
theorem WaysAt.mono {w : World} {B B' : Nat} {v : Value} {l : List Way} (h : WaysAt w B v l) (hB : B' ≤ B) : WaysAt w B' v l := by
  obtain ⟨gs, h1, h2, h3⟩ := h
  exact ⟨gs, h1, World.ownsRow.mono h2 hB, fun x hx => World.ownsRow.mono (h3 x hx) hB⟩
theorem WaysAt.kept {w w' : World} {B : Nat} {v : Value} {l : List Way} (h : WaysAt w B v l) (g : Grew w w') : WaysAt w' B v l := by
  obtain ⟨gs, h1, h2, h3⟩ := h
  have gb : w.grownBy w' none := ⟨g.os, g.tape, g.output, g.size, fun x hx _ => g.block x hx⟩
  exact ⟨gs, h1, World.ownsRow.kept h2 gb (by cases v.ownBlock <;> simp), fun x hx => World.ownsRow.kept (h3 x hx) gb (by cases x.2.ownBlock <;> simp)⟩
set_option maxRecDepth 100000 in
set_option maxHeartbeats 4000000 in
theorem Ways_any (a most fuel : Int) (hR : RulesAt w v R) (hp : PatV w kv p) (hs : s.size ≤ maxLen) (hf : -9223372036854775808 ≤ fuel ∧ fuel ≤ 9223372036854775807) (hT : TabP w) :
    Calls Tryd.prog 23 #[v, .agg (p.cells kv), .string s, .int .i64 a, .int .i64 most, .int .i64 fuel] w fun e w' => WaysEnd w (waysOf R p s a most fuel) e w' := by
  obtain ⟨ra, rc, rfl, _⟩ := hR.len
  have HA : Hid (∀ w1, Grew w w1 → Calls Tryd.prog 49 #[.slice ra R.length rc, .agg (p.cells kv), .string s, .int .i64 fuel] w1 fun e w' => e = .returned (.int .i64 (askErr R p s fuel)) ∧ Grew w1 w') := fun w1 g => ask_any _ R kv p s fuel w1 (hR.kept g) (hp.kept g) hs hf
  have HB := hidd (hp.box 24)
  have HRA := hidd hR
  have HT := hidd hT
  clear hR hp hT hf hs
  unfold Pat.cells at HA HB ⊢
  by_cases h0 : askErr R p s fuel = 0
  · have h0' : (askErr R p s fuel != 0) = false := by rw [h0]; rfl
    by_cases hr : a < 0 ∨ (s.size : Int) < a ∨ most < 0 ∨ 4096 < most
    · have HE : Hid (waysOf R p s a most fuel = ([], false, 3)) := by rw [Hid, waysOf, if_pos h0, if_pos hr]
      have hr2 : a < 0 ∨ (0 ≤ a ∧ (s.size : Int) < a) ∨ (0 ≤ a ∧ a ≤ (s.size : Int) ∧ most < 0) ∨ (0 ≤ a ∧ a ≤ (s.size : Int) ∧ 0 ≤ most ∧ 4096 < most) := by omega
      clear hr h0
      rcases hr2 with k | k | k | k
      · have e1 : decide (a < 0) = true := decide_eq_true (by omega)
        clear k
        go_enter Tryd.func23, Tryd.ntmps23
        go_wp2_with fail
        refine (HA.out _ ((Grew.refl w).alloc _)).mono ?_; rintro e w0 ⟨rfl, G2⟩
        have HG := hidd (((Grew.refl w).alloc _).trans G2)
        clear G2
        go_wp2_with fail
        go_ret3
        rw [HE.out]
        exact ⟨HG.out, _, rfl, waysAt_nil _ _⟩
      · have e1 : decide (a < 0) = false := decide_eq_false (by omega)
        have e2 : decide ((s.size : Int) < a) = true := decide_eq_true (by omega)
        clear k
        go_enter Tryd.func23, Tryd.ntmps23
        go_wp2_with fail
        refine (HA.out _ ((Grew.refl w).alloc _)).mono ?_; rintro e w0 ⟨rfl, G2⟩
        have HG := hidd (((Grew.refl w).alloc _).trans G2)
        clear G2
        go_wp2_with fail
        go_ret3
        rw [HE.out]
        exact ⟨HG.out, _, rfl, waysAt_nil _ _⟩
      · have e1 : decide (a < 0) = false := decide_eq_false (by omega)
        have e2 : decide ((s.size : Int) < a) = false := decide_eq_false (by omega)
        have e3 : decide (most < 0) = true := decide_eq_true (by omega)
        clear k
        go_enter Tryd.func23, Tryd.ntmps23
        go_wp2_with fail
        refine (HA.out _ ((Grew.refl w).alloc _)).mono ?_; rintro e w0 ⟨rfl, G2⟩
        have HG := hidd (((Grew.refl w).alloc _).trans G2)
        clear G2
        go_wp2_with fail
        go_ret3
        rw [HE.out]
        exact ⟨HG.out, _, rfl, waysAt_nil _ _⟩
      · have e1 : decide (a < 0) = false := decide_eq_false (by omega)
        have e2 : decide ((s.size : Int) < a) = false := decide_eq_false (by omega)
        have e3 : decide (most < 0) = false := decide_eq_false (by omega)
        have e4 : decide (4096 < most) = true := decide_eq_true (by omega)
        clear k
        go_enter Tryd.func23, Tryd.ntmps23
        go_wp2_with fail
        refine (HA.out _ ((Grew.refl w).alloc _)).mono ?_; rintro e w0 ⟨rfl, G2⟩
        have HG := hidd (((Grew.refl w).alloc _).trans G2)
        clear G2
        go_wp2_with fail
        go_ret3
        rw [HE.out]
        exact ⟨HG.out, _, rfl, waysAt_nil _ _⟩
    · obtain ⟨n1, n2, n3, n4, n5, n6⟩ := ask_none h0
      have HE : Hid (waysOf R p s a most fuel = tell fuel.toNat most.toNat 0 (den R s (fuel.toNat + 1) p a.toNat [])) := by rw [Hid, waysOf, if_pos h0, if_neg hr]
      obtain ⟨a, rfl⟩ : ∃ n : Nat, a = n := ⟨a.toNat, by omega⟩
      obtain ⟨most, rfl⟩ : ∃ n : Nat, most = n := ⟨most.toNat, by omega⟩
      obtain ⟨fuel, rfl⟩ : ∃ n : Nat, fuel = n := ⟨fuel.toNat, by omega⟩
      rw [Int.toNat_natCast, Int.toNat_natCast, Int.toNat_natCast] at HE
      have e1 : decide ((a : Int) < 0) = false := decide_eq_false (by omega)
      have e2 : decide (s.size < a) = false := decide_eq_false (by omega)
      have e3 : decide ((most : Int) < 0) = false := decide_eq_false (by omega)
      have e4 : decide ((4096 : Int) < (most : Int)) = false := decide_eq_false (by omega)
      have N := hidd (And.intro n1 (And.intro n2 (And.intro n3 (And.intro n4 n6))))
      have HA1 : Hid (a ≤ s.size ∧ most ≤ 4096) := ⟨by omega, by omega⟩
      have HZ := hidd h0
      clear hr n1 n2 n3 n4 n5 n6 h0
      go_enter Tryd.func23, Tryd.ntmps23
      go_wp2_with fail
      refine (HA.out _ ((Grew.refl w).alloc _)).mono ?_; rintro e w0 ⟨rfl, G2⟩
      have HG := hidd (((Grew.refl w).alloc _).trans G2)
      have HP := hidd (HB.out.kept G2)
      clear G2
      go_wp2_with fail
      refine (begin_any (mac_new w0 (.slice ra R.length rc) s fuel) a w.heap.size 0 p HP.out).mono ?_; rintro e w1 ⟨rfl, hm, hk⟩
      have HM : Hid (AtRound R w0 w0.heap.size (.slice ra R.length rc) s fuel most (tell fuel most 0 (den R s (fuel + 1) p a [])) w1 (.slice none 0 0) []) := start_round hm N.out.1 HA1.out.1 (by have := N.out.2.2.2.2; omega)
      clear hm hk e1 e2 e3 e4 h0'
      go_wp2_with fail
      go_loopg [12] most (fun k s12 wr => ∃ d : List Way, Hid (AtRound R w0 w0.heap.size (.slice ra R.length rc) s fuel most (tell fuel most 0 (den R s (fuel + 1) p a [])) wr s12 d) ∧ most ≤ k + d.length)
      case atStart => exact ⟨[], HM.out, by simp⟩
      case round =>
        obtain ⟨d, HI, hk⟩ := hrel
        clear HM
        obtain ⟨pv, cv, rfl⟩ : ∃ p c, u12 = .slice p d.length c := by
          obtain ⟨X, gs, m, T, h1, h2, h3⟩ := HI.out
          exact ownsRow_form0 h2
        by_cases hd : d.length < most
        · have HS := hidd (HI.out.next hd HA1.out.2 N.out.2.2.2.1 (HRA.out.kept HG.out) N.out.2.1 N.out.2.2.1 (HT.out.kept HG.out))
          go_wp2_with fail
          refine HS.out.mono ?_; rintro e w2 hstep
          clear HS
          cases hstep with
          | found X gs m T a' g w' h1 h2 h3 h4 h5 h6 h7 h8 h9 h10 h11 h12 =>
            obtain ⟨i0, hi0, hz0, hz1, hz2⟩ := info_parts info_way
            have h1' := h1
            obtain ⟨sv, cv', gp, vs, hM⟩ := h1'
            have c6 := hM.c6
            have hgv := hM.given
            rw [h10] at hgv
            have HL := hidd (list_any g gp hgv h11)
            have H := hidd (And.intro h1 (And.intro h2 (And.intro h3 (And.intro h4 (And.intro h5 (And.intro h6 (And.intro h7 (And.intro h8 h9))))))))
            have hdm : d.length ≤ 4096 := by have := HA1.out.2; omega
            clear h1 h2 h3 h4 h5 h6 h7 h8 h9 h10 h11 h12 hM hgv HI
            go_wp2_with fail
            refine HL.out.mono ?_; rintro e w3 ⟨gv, rfl, g3, hg⟩
            obtain ⟨gb, gc, rfl⟩ := ownsRow_form0 hg
            have hown3 : w3.ownsRow w0.heap.size 57 2 (.slice pv d.length cv) d.length (wayCells d gs) := World.ownsRow.kept H.out.2.1 (row := none) ⟨g3.os, g3.tape, g3.output, g3.size, fun x hx _ => g3.block x hx⟩ (by cases (Value.slice pv d.length cv).ownBlock <;> simp)
            have h0w : w0.heap.size ≤ w3.heap.size := Nat.le_trans H.out.1.grew.size g3.size
            have HX := hidd (And.intro g3 hg)
            clear g3 hg c6
            go_wp2_with (at_builtin; refine wpList_append_lies _ rfl _ _ 52 rfl w0.heap.size 57 i0 _ 2 32 Tryd.underlying52 hi0 hz0 hz1 hz2 rfl (by decide) (.slice pv d.length cv) d.length (wayCells d gs) rfl (hown3.alloc _) ⟨w3.heap.size, 0, none⟩ 1 1 [.int .i64 a', .slice gb g.length gc] rfl rfl (World.news_of_block (cs := #[.int .i64 a', .slice gb g.length gc]) (t := 57) (fr := (0, 0)) (heap_alloc_new w3 _)) (by simp [Value.oneCell']) (by omega) (by unfold maxLen; omega) (by omega) (by simp; omega) (w3.heap.size + 1) (by simp) ?_; intro gg cap w4 hown1 hgrow hat hlt)
            have HR : Hid (AtRound R w0 w0.heap.size (.slice ra R.length rc) s fuel most (tell fuel most 0 (den R s (fuel + 1) p a [])) w4 (.slice (some ⟨gg, 0, none⟩) (d.length + 1) cap) (d ++ [(a', g)])) := by
              obtain ⟨h1, h2, h3, h4, h5, h6, h7, h8, h9⟩ := H.out
              exact found_step h1 h2 h3 h4 h5 h6 h7 h8 h9 HX.out.1 HX.out.2 ((Grew.refl w3).alloc _) hgrow hown1
            have hdl := H.out.2.2.2.2.2.2.2.2
            clear hown1 hgrow hat hlt hown3 H HX
            go_wp2_with fail
            go_roundg (most - (d.length + 1))
            case rel => exact ⟨d ++ [(a', g)], HR.out, by simp; omega⟩
            case measure => omega
          | over X m c w' h1 h2 h3 h4 =>
            have h1' := h1
            obtain ⟨sv, cv', gp, vs, hM⟩ := h1'
            have c7 := hM.c7
            rw [h3] at c7
            have H := hidd (And.intro h1.grew (And.intro h2 h4))
            clear h1 h2 h3 h4 hM HI
            go_wp2_with fail
            go_quiet (fail)
            go_wp2_with fail
            go_ret3
            rw [HE.out, H.out.2.2]
            exact ⟨HG.out.trans (H.out.1.drewN _), _, rfl, (WaysAt.mono H.out.2.1 HG.out.size).kept ((Grew.refl _).drewN _)⟩
          | bad e he w' h1 h2 =>
            have H := hidd (And.intro h1 h2)
            have hne : (e != 0) = true := by rcases he with rfl | rfl <;> rfl
            clear h1 h2 he HI
            go_wp2_with fail
            go_ret3
            rw [HE.out, H.out.2]
            exact ⟨HG.out.trans H.out.1, _, rfl, waysAt_nil _ _⟩
        · have hfull := HI.out.full (by omega)
          have hw := HI.out.ways
          have hg : Grew w0 wr := by obtain ⟨X, gs, m, T, h1, _⟩ := HI.out; exact h1.grew
          have H := hidd (And.intro hg (And.intro hw hfull))
          have hd' : decide (d.length < most) = false := decide_eq_false hd
          clear hfull hw hg HI hd
          go_wp2_with fail
          go_ret3
          rw [HE.out, H.out.2.2]
          exact ⟨HG.out.trans H.out.1, _, rfl, WaysAt.mono H.out.2.1 HG.out.size⟩
  · have HE : Hid (waysOf R p s a most fuel = ([], false, askErr R p s fuel)) := by rw [Hid, waysOf, if_neg h0]
    have h0' : (askErr R p s fuel != 0) = true := by simp [h0]
    clear h0
    go_enter Tryd.func23, Tryd.ntmps23
    go_wp2_with fail
    refine (HA.out _ ((Grew.refl w).alloc _)).mono ?_; rintro e w2 ⟨rfl, G2⟩
    have HG := hidd (((Grew.refl w).alloc _).trans G2)
    clear G2
    go_wp2_with fail
    go_ret3
    rw [HE.out]
    exact ⟨HG.out, _, rfl, waysAt_nil _ _⟩
end
end Go.Proofs.YtkkdpafkafjfgaaDoor
namespace Go.Proofs.YtkkdpafkafjfgaaDoor
open Go.RowKit
set_option linter.unusedVariables false
def gift0 : Gift := (ByteArray.empty, ByteArray.empty)
def way0 : Way := (0, [])
def GiftsV (w : World) (v : Value) (l : List Gift) : Prop :=
  (∃ a c, v = .slice a 0 c ∧ l = []) ∨ ∃ b o c : Nat, v = .slice (some ⟨b, o, none⟩) l.length c ∧ 0 < l.length ∧ l.length ≤ c ∧ c ≤ maxLen ∧
    ∀ i, i < l.length → w.cell? ⟨b, o + i * 2, none⟩ = some (.string (l.getD i gift0).1) ∧ w.cell? ⟨b, o + i * 2 + 1, none⟩ = some (.string (l.getD i gift0).2)
theorem GiftsV.kept {w w' : World} (g : Grew w w') {v : Value} {l : List Gift} (h : GiftsV w v l) : GiftsV w' v l := by
  rcases h with h | ⟨b, o, c, h1, h2, h3, h4, h5⟩
  · exact Or.inl h
  · exact Or.inr ⟨b, o, c, h1, h2, h3, h4, fun i hi => ⟨g.keeps (h5 i hi).1, g.keeps (h5 i hi).2⟩⟩
theorem GiftsV.len {w : World} {v : Value} {l : List Gift} (h : GiftsV w v l) : ∃ a c, v = .slice a l.length c ∧ l.length ≤ c ∧ l.length ≤ 9223372036854775807 := by
  rcases h with ⟨a, c, h, e⟩ | ⟨b, o, c, h, h0, h1, h2, _⟩
  · exact ⟨a, c, by rw [e]; exact h, by rw [e]; simp, by rw [e]; simp⟩
  · exact ⟨_, c, h, h1, by unfold maxLen at h2; omega⟩
theorem GiftsV.of_own {w : World} {B : Nat} {v : Value} {l : List Gift} (h : w.ownsRow B 197 2 v l.length (saidCells l)) : GiftsV w v l := by
  have h0 := h
  rcases h.2 with ⟨h1, h2⟩ | ⟨g, cap, cur, h1, h2, h3, h4, h5, h6, h7⟩
  · exact Or.inl ⟨_, _, h1, List.eq_nil_of_length_eq_zero h2⟩
  · subst h1
    rcases Nat.eq_zero_or_pos l.length with hz | hz
    · exact Or.inl ⟨_, _, by rw [hz], List.eq_nil_of_length_eq_zero hz⟩
    · refine Or.inr ⟨g, 0, cap, rfl, hz, h4, h5, fun i hi => ?_⟩
      obtain ⟨e1, e2⟩ := cells_gift l i (l.getD i gift0) (by rw [List.getD_eq_getElem?_getD, List.getElem?_eq_getElem hi]; rfl)
      have k1 := World.ownsRow.cellAt h0 (i * 2) (by omega)
      have k2 := World.ownsRow.cellAt h0 (i * 2 + 1) (by omega)
      rw [Nat.zero_add, k1, k2]
      rw [List.getD_eq_getElem?_getD, e1, List.getD_eq_getElem?_getD, e2]
      exact ⟨rfl, rfl⟩
def WaysV (w : World) (v : Value) (l : List Way) : Prop :=
  (∃ a c, v = .slice a 0 c ∧ l = []) ∨ ∃ b o c : Nat, v = .slice (some ⟨b, o, none⟩) l.length c ∧ 0 < l.length ∧ l.length ≤ c ∧ c ≤ maxLen ∧
    ∀ i, i < l.length → w.cell? ⟨b, o + i * 2, none⟩ = some (.int .i64 (l.getD i way0).1) ∧ ∃ gv, w.cell? ⟨b, o + i * 2 + 1, none⟩ = some gv ∧ GiftsV w gv (l.getD i way0).2
theorem WaysV.kept {w w' : World} (g : Grew w w') {v : Value} {l : List Way} (h : WaysV w v l) : WaysV w' v l := by
  rcases h with h | ⟨b, o, c, h1, h2, h3, h4, h5⟩
  · exact Or.inl h
  · refine Or.inr ⟨b, o, c, h1, h2, h3, h4, fun i hi => ⟨g.keeps (h5 i hi).1, ?_⟩⟩
    obtain ⟨gv, k1, k2⟩ := (h5 i hi).2
    exact ⟨gv, g.keeps k1, k2.kept g⟩
theorem WaysV.len {w : World} {v : Value} {l : List Way} (h : WaysV w v l) : ∃ a c, v = .slice a l.length c ∧ l.length ≤ c ∧ l.length ≤ 9223372036854775807 := by
  rcases h with ⟨a, c, h, e⟩ | ⟨b, o, c, h, h0, h1, h2, _⟩
  · exact ⟨a, c, by rw [e]; exact h, by rw [e]; simp, by rw [e]; simp⟩
  · exact ⟨_, c, h, h1, by unfold maxLen at h2; omega⟩
theorem wayCells_at : ∀ (l : List Way) (gs : List Value), gs.length = l.length → ∀ i, i < l.length → (wayCells l gs)[i * 2]? = some (.int .i64 (l.getD i way0).1) ∧ (wayCells l gs)[i * 2 + 1]? = gs[i]?
  | [], gs, _, i, hi => by simp at hi
  | x :: l, [], h, i, hi => by simp at h
  | x :: l, g :: gs, h, 0, hi => ⟨rfl, rfl⟩
  | x :: l, g :: gs, h, i + 1, hi => by
    have := wayCells_at l gs (by simpa using h) i (by simpa using hi)
    have e : wayCells (x :: l) (g :: gs) = .int .i64 x.1 :: g :: wayCells l gs := rfl
    rw [e, show (i + 1) * 2 = i * 2 + 1 + 1 by omega]
    exact ⟨by simpa using this.1, by simpa using this.2⟩
theorem WaysV.of_at {w : World} {B : Nat} {v : Value} {l : List Way} (h : WaysAt w B v l) : WaysV w v l := by
  obtain ⟨gs, hl, h0, hg⟩ := h
  have h := h0
  rcases h.2 with ⟨h1, h2⟩ | ⟨g, cap, cur, h1, h2, h3, h4, h5, h6, h7⟩
  · exact Or.inl ⟨_, _, h1, List.eq_nil_of_length_eq_zero h2⟩
  · subst h1
    rcases Nat.eq_zero_or_pos l.length with hz | hz
    · exact Or.inl ⟨_, _, by rw [hz], List.eq_nil_of_length_eq_zero hz⟩
    · refine Or.inr ⟨g, 0, cap, rfl, hz, h4, h5, fun i hi => ?_⟩
      obtain ⟨e1, e2⟩ := wayCells_at l gs hl i hi
      have k1 := World.ownsRow.cellAt h0 (i * 2) (by omega)
      have k2 := World.ownsRow.cellAt h0 (i * 2 + 1) (by omega)
      have hgi : i < gs.length := by omega
      rw [Nat.zero_add, k1, k2]
      rw [List.getD_eq_getElem?_getD, e1, List.getD_eq_getElem?_getD, e2, List.getElem?_eq_getElem hgi]
      refine ⟨rfl, _, rfl, .of_own (hg (l.getD i way0, gs[i]) ?_)⟩
      rw [List.getD_eq_getElem?_getD, List.getElem?_eq_getElem hi]
      have : (l.zip gs)[i]'(by rw [List.length_zip]; omega) = (l[i], gs[i]) := List.getElem_zip
      show (l[i], gs[i]) ∈ _
      rw [← this]
      exact List.getElem_mem _
end Go.Proofs.YtkkdpafkafjfgaaDoor
namespace Go.Proofs.YtkkdpafkafjfgaaDoor
open Go.RowKit
set_option linter.unusedVariables false
section
variable {w : World} {va vb : Value} {la lb : List Gift}
end
section
variable {w : World} {va vb : Value} {la lb : List Way}
end
end Go.Proofs.YtkkdpafkafjfgaaDoor
