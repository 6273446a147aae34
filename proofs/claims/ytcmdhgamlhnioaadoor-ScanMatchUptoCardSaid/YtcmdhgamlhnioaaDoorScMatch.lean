/- scan.Match: what it tells; what is so at each round. -/
import Derived.Test.YtcmdhgamlhnioaaDoorScWays
import Derived.Deep.Onto
import Derived.Laws.ResultCell
/-! scan.Match: what it tells; what is so at each round. -/
namespace Go.Proofs.YtcmdhgamlhnioaaDoor
open Go.RowKit
set_option linter.unusedVariables false

/-- What was found (from where, to where, what was given), what was said, how many nodes, and what is wrong. -/
abbrev Matched := Option (Nat × Nat × List Gift) × List Gift × Nat × Int
section
variable (R : List Rule) (p : Pat) (s : ByteArray) (fuel : Nat) (anch : Bool)
def tryL : Nat → Nat → Nat → List Gift → Matched
  | 0, _, t, sd => (none, sd, t, 0)
  | k + 1, a, t, sd => (match first fuel t sd (den R s (fuel + 1) p a []) with
    | .found b g t sd _ => (some (a, b, g), sd, t, 0)
    | .over c t sd => if c = true ∨ anch = true then (none, sd, t, 0) else tryL k (a + 1) t sd
    | .fuel => (none, [], 0, 10)
    | .name => (none, [], 0, 7)
    | .deep => (none, [], 0, 99))
def matchOf (fuel : Int) : Matched := if askErr R p s fuel = 0 then tryL R p s fuel.toNat anch (s.size + 1) 0 0 [] else (none, [], 0, askErr R p s fuel)
end
section
variable {R : List Rule} {w : World} {v kv : Value} {p : Pat} {s : ByteArray}
/-- The machine between two places. -/
structure Mid (R : List Rule) (w0 : World) (bm : Nat) (v : Value) (s : ByteArray) (fuel : Nat) (m : MS) (wr : World) : Prop where
  rep : MacRep (fun _ => none) w0 bm v s fuel m wr
  inv : Inv s.size fuel 0 none m
/-- What is so at each round: a is the next place. -/
def AtPlace (R : List Rule) (p : Pat) (w0 : World) (bm : Nat) (v : Value) (s : ByteArray) (fuel : Nat) (anch : Bool) (want : Matched) (wr : World) (a : Nat) (m : MS) : Prop :=
  Mid R w0 bm v s fuel m wr ∧ (m.cut = false ∧ a ≤ s.size ∧ (a = 0 ∨ anch = false) ∧ want = tryL R p s fuel anch (s.size + 1 - a) a m.ticks m.said ∨ (s.size < a ∨ (a ≠ 0 ∧ anch = true) ∨ m.cut = true) ∧ want = (none, m.said, m.ticks, 0))
inductive MStep (w0 : World) (bm : Nat) (R : List Rule) (p : Pat) (v : Value) (s : ByteArray) (fuel : Nat) (anch : Bool) (want : Matched) (w : World) (a : Nat) : Ending → World → Prop
  | found (b : Nat) (m : MS) (w' : World) (h1 : MacRep (fun _ => none) w0 bm v s fuel m w') (h2 : want = (some (a, b, m.given), m.said, m.ticks, 0)) (h3 : m.given.length ≤ 100000) (h4 : b ≤ s.size) (k : Keep w w') :
      MStep w0 bm R p v s fuel anch want w a (.returned (.tuple #[.int .i64 b, .bool true, .int .i64 0])) w'
  | over (m : MS) (w' : World) (h1 : AtPlace R p w0 bm v s fuel anch want w' (a + 1) m) (k : Keep w w') :
      MStep w0 bm R p v s fuel anch want w a (.returned (.tuple #[.int .i64 0, .bool false, .int .i64 0])) w'
  | bad (e : Int) (he : e = 10 ∨ e = 7) (w' : World) (h1 : Grew w0 w') (h2 : want = (none, [], 0, e)) (k : Keep w w') :
      MStep w0 bm R p v s fuel anch want w a (.returned (.tuple #[.int .i64 0, .bool false, .int .i64 e])) w'
theorem place_next {w0 wr : World} {bm fuel a : Nat} {anch : Bool} {want : Matched} {m : MS} (hr : MacRep (fun _ => none) w0 bm v s fuel { m with given := [], choices := [⟨[⟨0, p, 0⟩], a, []⟩] } wr) (hi : Inv s.size fuel 0 none m) (hc : m.cut = false) (ha : a ≤ s.size) (hp : errW p = 0)
    (hw : want = tryL R p s fuel anch (s.size + 1 - a) a m.ticks m.said) (hs : s.size ≤ 65536) (hRA : RulesAt w0 v R) (hR2 : R.length ≤ 64) (hRe : ∀ r ∈ R, errW r.2 = 0) (hT : TabP w0) :
    Calls Tryd.prog 15 #[.pointer (some ⟨bm, 0, none⟩)] wr fun e w' => MStep w0 bm R p v s fuel anch want wr a e w' := by
  have hI : Inv s.size fuel 0 none { m with given := [], choices := [⟨[⟨0, p, 0⟩], a, []⟩] } := inv_begin (Or.inr trivial) hi.ticks hi.fuel hp ha hi.st hc
  have hM : MeansC R s (fuel - m.ticks) [⟨[⟨0, p, 0⟩], a, []⟩] (den R s (fuel + 1) p a []) := (begin_means fuel p a).mono R s (by omega)
  obtain ⟨c, o, hrun, hag⟩ := next_goes (m := { m with given := [], choices := [⟨[⟨0, p, 0⟩], a, []⟩] }) hM hc hi.ticks
  refine (next_any hr hI hrun hs (by omega) hRA hR2 hRe hT).mono fun e w' hn => ?_
  obtain ⟨k, hk⟩ : ∃ k, s.size + 1 - a = k + 1 := ⟨s.size - a, by omega⟩
  rw [hk, tryL] at hw
  have hag : Agree R s fuel (first fuel m.ticks m.said (den R s (fuel + 1) p a [])) o := hag
  cases hf : first fuel m.ticks m.said (den R s (fuel + 1) p a []) with
  | found b g t sd T' =>
    rw [hf] at hag hw
    obtain ⟨m', rfl, e1, e2, e3, e4, e5, e6⟩ := hag
    obtain ⟨rfl, n1, n2, n3, n4, n5⟩ := hn
    exact .found b m' w' n1 (by rw [hw, e1, e2, e3]) n5 n4 n2
  | over b t sd =>
    rw [hf] at hag hw
    obtain ⟨m', rfl, e1, e2, e3⟩ := hag
    obtain ⟨rfl, n1, n2, n3⟩ := hn
    refine .over m' w' ⟨⟨n1, n3⟩, ?_⟩ n2
    dsimp only at hw
    by_cases hb : b = true ∨ anch = true
    · rw [if_pos hb] at hw
      refine Or.inr ⟨?_, by rw [hw, e2, e3]⟩
      rcases hb with hb | hb
      · exact Or.inr (Or.inr (by rw [e1]; exact hb))
      · exact Or.inr (Or.inl ⟨by omega, hb⟩)
    · rw [if_neg hb] at hw
      have hb1 : b = false := by cases b <;> simp_all
      have hb2 : anch = false := by cases anch <;> simp_all
      by_cases hk0 : k = 0
      · subst hk0
        exact Or.inr ⟨Or.inl (by omega), by rw [hw, tryL, e2, e3]⟩
      · exact Or.inl ⟨by rw [e1]; exact hb1, by omega, Or.inr hb2, by rw [hw, e2, e3, show s.size + 1 - (a + 1) = k by omega]⟩
  | fuel =>
    rw [hf] at hag hw
    obtain rfl : o = .fuel := hag
    obtain ⟨rfl, n1, n2⟩ := hn
    exact .bad 10 (Or.inl rfl) w' n1 hw n2
  | name =>
    rw [hf] at hag hw
    obtain rfl : o = .name := hag
    obtain ⟨rfl, n1, n2⟩ := hn
    exact .bad 7 (Or.inr rfl) w' n1 hw n2
  | deep =>
    rw [hf] at hag
    exact absurd hag (by intro h; exact h)
end
end Go.Proofs.YtcmdhgamlhnioaaDoor
/-! scan.Match: the walk. -/
namespace Go.Proofs.YtcmdhgamlhnioaaDoor
open Go.RowKit
set_option linter.unusedVariables false
theorem info_match : (Tryd.prog.info? 28).map (·.size) = some 6 := by kernel_rfl
theorem results_match {w : World} {tmps : Array Value} {rb : Nat} {cs : Array Value} (hp : tmps.getD 10 undef = .pointer (some ⟨rb, 0, none⟩)) (hg : w.heap[rb]? = some (.cells cs 28 (0, 0))) (hc : cs.size = 6) :
    (results Tryd.f5 tmps).run Tryd.prog w = .ok (.tuple #[.agg cs, tmps.getD 11 undef]) w := by
  rw [results_cell_tmp (p := 10) (u := 11) (ty := 28) rfl, hp]
  have h := run_loadVar_row (P := Tryd.prog) w rb 28 28 cs (0, 0) _ hg Tryd.underlying28 rfl (by rw [hc]; exact info_match)
  simp [asAddr, h]
def zeroMatch : Array Value := #[.bool false, .int .i64 0, .int .i64 0, .slice none 0 0, .slice none 0 0, .int .i64 0]
/-- What comes of scan.Match. -/
def MatchEnd (w : World) (r : Matched) (e : Ending) (w' : World) : Prop := Grew w w' ∧ ∃ gv sv, e = .returned (.tuple #[.agg #[.bool r.1.isSome, .int .i64 (match r.1 with | some (a, _, _) => (a : Int) | none => 0), .int .i64 (match r.1 with | some (_, b, _) => (b : Int) | none => 0), gv, sv, .int .i64 r.2.2.1], .int .i64 r.2.2.2]) ∧
  w'.ownsRow w.heap.size 57 2 gv (match r.1 with | some (_, _, g) => g | none => []).length (saidCells (match r.1 with | some (_, _, g) => g | none => [])) ∧ w'.ownsRow w.heap.size 57 2 sv r.2.1.length (saidCells r.2.1)
section
variable {R : List Rule} {w : World} {v kv : Value} {p : Pat} {s : ByteArray}
theorem own_none (w : World) (B : Nat) : w.ownsRow B 57 2 (.slice none 0 0) ([] : List Gift).length (saidCells []) := ⟨rfl, .inl ⟨rfl, rfl⟩⟩

/-- The result's block, not written yet. -/
def ResAt (w : World) (rb : Nat) : Prop := w.heap[rb]? = some (.cells zeroMatch 28 (0, 0))
theorem ResAt.cells {w : World} {rb : Nat} (h : ResAt w rb) : w.cell? ⟨rb, 0, none⟩ = some (.bool false) ∧ w.cell? ⟨rb, 1, none⟩ = some (.int .i64 0) ∧ w.cell? ⟨rb, 2, none⟩ = some (.int .i64 0) ∧ w.cell? ⟨rb, 3, none⟩ = some (.slice none 0 0) ∧ w.cell? ⟨rb, 4, none⟩ = some (.slice none 0 0) ∧ w.cell? ⟨rb, 5, none⟩ = some (.int .i64 0) := by
  have h : w.heap[rb]? = some (.cells zeroMatch 28 (0, 0)) := h
  simp [World.cell?, h, zeroMatch]
theorem ResAt.free {w : World} {rb : Nat} (h : ResAt w rb) (i : Nat) : w.frozen? ⟨rb, i, none⟩ = false := by
  have h : w.heap[rb]? = some (.cells zeroMatch 28 (0, 0)) := h
  simp [World.frozen?, h]
theorem ResAt.kept {w w' : World} {rb : Nat} (h : ResAt w rb) (k : Keep w w') : ResAt w' rb := k.block _ _ _ (by decide) h
/-- The result is written. -/
abbrev put6 (w : World) (rb : Nat) (b0 b1 b2 b3 b4 b5 : Value) : World :=
  (((((w.setCell ⟨rb, 0, none⟩ b0).setCell ⟨rb, 1, none⟩ b1).setCell ⟨rb, 2, none⟩ b2).setCell ⟨rb, 3, none⟩ b3).setCell ⟨rb, 4, none⟩ b4).setCell ⟨rb, 5, none⟩ b5
theorem ResAt.put {w : World} {rb : Nat} (h : ResAt w rb) (b0 b1 b2 b3 b4 b5 : Value) : (put6 w rb b0 b1 b2 b3 b4 b5).heap[rb]? = some (.cells #[b0, b1, b2, b3, b4, b5] 28 (0, 0)) := by
  have h1 := setCell_heap_same h 0 b0
  have h2 := setCell_heap_same h1 1 b1
  have h3 := setCell_heap_same h2 2 b2
  have h4 := setCell_heap_same h3 3 b3
  have h5 := setCell_heap_same h4 4 b4
  exact setCell_heap_same h5 5 b5
theorem drew_heap' (w : World) : w.drew.heap = w.heap := rfl
theorem ResAt.put_drew {w : World} {rb : Nat} (h : ResAt w rb) (b0 b1 b2 b3 b4 b5 : Value) : (put6 w rb b0 b1 b2 b3 b4 b5).drew.heap[rb]? = some (.cells #[b0, b1, b2, b3, b4, b5] 28 (0, 0)) := by rw [drew_heap']; exact h.put b0 b1 b2 b3 b4 b5
theorem put6_grew {a w : World} {rb : Nat} (g : Grew a w) (hb : a.heap.size ≤ rb) (b0 b1 b2 b3 b4 b5 : Value) : Grew a (put6 w rb b0 b1 b2 b3 b4 b5) :=
  (((((g.setCell hb b0).setCell hb b1).setCell hb b2).setCell hb b3).setCell hb b4).setCell hb b5

theorem put6_own {w : World} {rb : Nat} (h : ResAt w rb) {B : Nat} {v : Value} {n : Nat} {xs : List Value} (ho : w.ownsRow B 57 2 v n xs) (b0 b1 b2 b3 b4 b5 : Value) : (put6 w rb b0 b1 b2 b3 b4 b5).ownsRow B 57 2 v n xs := by
  have hne : v.ownBlock ≠ some rb := ownBlock_ne ho h (by decide)
  exact ownsRow_setCell_other (ownsRow_setCell_other (ownsRow_setCell_other (ownsRow_setCell_other (ownsRow_setCell_other (ownsRow_setCell_other ho hne _) hne _) hne _) hne _) hne _) hne _

theorem put6_cell {w : World} {rb : Nat} {q : Addr} (h : rb ≠ q.block) (b0 b1 b2 b3 b4 b5 : Value) : (put6 w rb b0 b1 b2 b3 b4 b5).cell? q = w.cell? q := by
  unfold put6
  rw [setCell_cell_other _ _ _ _ (Or.inl h), setCell_cell_other _ _ _ _ (Or.inl h), setCell_cell_other _ _ _ _ (Or.inl h), setCell_cell_other _ _ _ _ (Or.inl h), setCell_cell_other _ _ _ _ (Or.inl h), setCell_cell_other _ _ _ _ (Or.inl h)]
theorem ResAt.ne {w : World} {rb bm : Nat} (h : ResAt w rb) {cs : Array Value} (hm : w.heap[bm]? = some (.cells cs 45 (0, 0))) : rb ≠ bm := fun e => by
  subst e
  have h : w.heap[rb]? = some (.cells zeroMatch 28 (0, 0)) := h
  rw [h] at hm
  simp at hm

set_option maxRecDepth 100000 in
set_option maxHeartbeats 4000000 in
theorem Match_any (anch : Bool) (fuel : Int) (hR : RulesAt w v R) (hp : PatV w kv p) (hs : s.size ≤ maxLen) (hf : -9223372036854775808 ≤ fuel ∧ fuel ≤ 9223372036854775807) (hT : TabP w) :
    Calls Tryd.prog 5 #[v, .agg (p.cells kv), .string s, .bool anch, .int .i64 fuel] w fun e w' => MatchEnd w (matchOf R p s anch fuel) e w' := by
  obtain ⟨ra, rc, rfl, _⟩ := hR.len
  have HA : Hid (∀ w1, Grew w w1 → Calls Tryd.prog 13 #[.slice ra R.length rc, .agg (p.cells kv), .string s, .int .i64 fuel] w1 fun e w' => e = .returned (.int .i64 (askErr R p s fuel)) ∧ Grew w1 w') := fun w1 g => ask_any _ R kv p s fuel w1 (hR.kept g) (hp.kept g) hs hf
  have HB := hidd (hp.box 25)
  have HRA := hidd hR
  have HT := hidd hT
  clear hR hp hT hf hs
  unfold Pat.cells at HA HB ⊢
  by_cases h0 : askErr R p s fuel = 0
  · have h0' : (askErr R p s fuel != 0) = false := by rw [h0]; rfl
    obtain ⟨n1, n2, n3, n4, n5, n6⟩ := ask_none h0
    have HE : Hid (matchOf R p s anch fuel = tryL R p s fuel.toNat anch (s.size + 1) 0 0 []) := by rw [Hid, matchOf, if_pos h0]
    obtain ⟨fuel, rfl⟩ : ∃ n : Nat, fuel = n := ⟨fuel.toNat, by omega⟩
    rw [Int.toNat_natCast] at HE
    have N := hidd (And.intro n1 (And.intro n2 (And.intro n3 (And.intro n4 n6))))
    clear n1 n2 n3 n4 n5 n6 h0
    go_enter Tryd.func5, Tryd.ntmps5
    go_wp2_with fail
    refine (HA.out _ (((Grew.refl w).alloc _).alloc _)).mono ?_; rintro e w0 ⟨rfl, G2⟩
    have HG := hidd ((((Grew.refl w).alloc _).alloc _).trans G2)
    have HP := hidd (HB.out.kept (((Grew.refl _).alloc _).trans G2))
    have hres : ResAt w0 (w.heap.size + 1) := by
      unfold ResAt
      rw [G2.block _ (by simp)]
      exact (heap_two w _ _).2
    have HM : Hid (AtPlace R p w0 w0.heap.size (.slice ra R.length rc) s fuel anch (tryL R p s fuel anch (s.size + 1) 0 0 []) (w0.alloc (.cells (macCells (.slice ra R.length rc) s fuel 0 (.slice none 0 0) (.slice none 0 0) none false) 45)) 0 MS.zero ∧ ResAt (w0.alloc (.cells (macCells (.slice ra R.length rc) s fuel 0 (.slice none 0 0) (.slice none 0 0) none false) 45)) (w.heap.size + 1)) := by
      refine ⟨⟨⟨mac_new w0 _ s fuel, ⟨Nat.zero_le _, by have := N.out.2.2.2.2; unfold NN; omega, trivial, (fun e => by cases e), Nat.zero_le _⟩⟩, Or.inl ⟨rfl, Nat.zero_le _, Or.inl rfl, rfl⟩⟩, hres.kept (Keep.of_grew ((Grew.refl w0).alloc _))⟩
    unfold macCells at HM
    clear G2 hres
    go_wp2_with fail
    go_loopg [14] (s.size + 2) (fun k s14 wr => ∃ (a : Nat) (m : MS), s14 = .int .i64 a ∧ Hid (AtPlace R p w0 w0.heap.size (.slice ra R.length rc) s fuel anch (tryL R p s fuel anch (s.size + 1) 0 0 []) wr a m ∧ ResAt wr (w.heap.size + 1)) ∧ s.size + 2 ≤ k + a)
    case atStart => exact ⟨0, MS.zero, rfl, HM.out, by omega⟩
    case round =>
      obtain ⟨a, m, rfl, HI, hk⟩ := hrel
      clear HM
      obtain ⟨hmid, hlive | hdead⟩ := HI.out.1
      · obtain ⟨l1, l2, l3, l4⟩ := hlive
        have HBeg := hidd (begin_any hmid.rep a w.heap.size 0 p HP.out)
        have HNx : Hid (∀ w1, MacRep (fun _ => none) w0 w0.heap.size (.slice ra R.length rc) s fuel { m with given := [], choices := [⟨[⟨0, p, 0⟩], a, []⟩] } w1 → Calls Tryd.prog 15 #[.pointer (some ⟨w0.heap.size, 0, none⟩)] w1 fun e w' => MStep w0 w0.heap.size R p (.slice ra R.length rc) s fuel anch (tryL R p s fuel anch (s.size + 1) 0 0 []) w1 a e w') :=
          fun w1 hr1 => place_next hr1 hmid.inv l1 l2 N.out.1 l4 N.out.2.2.2.1 (HRA.out.kept HG.out) N.out.2.1 N.out.2.2.1 (HT.out.kept HG.out)
        obtain ⟨sv, cv, gp, vs, hM⟩ := hmid.rep
        have c7 := hM.c7
        rw [l1] at c7
        have hres := hidd HI.out.2
        have e1 : decide (a ≤ s.size) = true := decide_eq_true l2
        have HL2 := hidd l2
        have hs64 : s.size ≤ 65536 := N.out.2.2.2.1
        have l5 : a = 0 ∨ (a ≠ 0 ∧ anch = false) := by
          by_cases h0 : a = 0
          · exact Or.inl h0
          · exact Or.inr ⟨h0, by rcases l3 with h | h; exact absurd h h0; exact h⟩
        clear hmid hM HI l1 l4 l3
        rcases l5 with rfl | ⟨h2, rfl⟩
        · clear l2
          go_wp2_with fail
          refine HBeg.out.mono ?_; rintro e w1 ⟨rfl, hm1, k1⟩
          have HN1 := hidd (HNx.out w1 hm1)
          have HR1 := hidd (hres.out.kept k1)
          clear hm1 HNx HBeg c7 e1
          go_wp2_with fail
          refine HN1.out.mono ?_; rintro e w2 hs
          cases hs with
          | found b m' w' h1 h2 h3 h4 k =>
            have HR2 := hidd (HR1.out.kept k)
            obtain ⟨sv', cv', gp', vs', hM'⟩ := h1
            have c6 := hM'.c6
            have c4 := hM'.c4
            have c3 := hM'.c3
            have HL : Hid (∀ w1, Grew w2 w1 → Calls Tryd.prog 16 #[.pointer gp'] w1 fun e w' => ∃ gb gc, e = .returned (.slice gb m'.given.length gc) ∧ Grew w1 w' ∧ w'.ownsRow w1.heap.size 57 2 (.slice gb m'.given.length gc) m'.given.length (saidCells m'.given)) := fun w1 g => (list_any m'.given gp' (hM'.given.kept (Keep.of_grew g)) h3).mono fun e w' ⟨v, he, hg, ho⟩ => by
              obtain ⟨gb, gc, rfl⟩ := ownsRow_form0 ho
              exact ⟨gb, gc, he, hg, ho⟩
            obtain ⟨sp, sc, rfl⟩ := ownsRow_form0 hM'.said
            have HM' := hidd hM'
            have HW := hidd h2
            have HNE : Hid (w.heap.size + 1 ≠ w0.heap.size) := HR2.out.ne hM'.mac
            have HGd := hidd ((Grew.refl w2).drew)
            have K6 : Hid (∀ w3, Grew w2 w3 → w3.cell? ⟨w0.heap.size, 6, none⟩ = some (.pointer gp') ∧ w3.cell? ⟨w0.heap.size, 4, none⟩ = some (.slice sp m'.said.length sc) ∧ w3.cell? ⟨w0.heap.size, 3, none⟩ = some (.int .i64 m'.ticks)) := fun w3 g => ⟨(hM'.kept g).c6, (hM'.kept g).c4, (hM'.kept g).c3⟩
            have hnm0 := K6.out _ HGd.out
            clear h2 h3 hM' k k1 HN1
            go_wp2_with fail
            go_region_held3 (fun w' => w'.cell? ⟨w0.heap.size, 6, none⟩ = some (.pointer gp') ∧ w'.cell? ⟨w0.heap.size, 4, none⟩ = some (.slice sp m'.said.length sc) ∧ w'.cell? ⟨w0.heap.size, 3, none⟩ = some (.int .i64 m'.ticks)) (first | with_reducible exact hnm | with_reducible exact hnm0 | with_reducible exact hst _ _ _ _ _ _)
              (first
               | (go_at_call 16; refine (HL.out _ HGd.out).mono ?_; rintro e w3 ⟨gb, gc, rfl, g3, hg⟩; have hnm := K6.out w3 (HGd.out.trans g3); have hst : ∀ b0 b1 b2 b3 b4 b5, (put6 w3 (w.heap.size + 1) b0 b1 b2 b3 b4 b5).cell? ⟨w0.heap.size, 6, none⟩ = some (.pointer gp') ∧ (put6 w3 (w.heap.size + 1) b0 b1 b2 b3 b4 b5).cell? ⟨w0.heap.size, 4, none⟩ = some (.slice sp m'.said.length sc) ∧ (put6 w3 (w.heap.size + 1) b0 b1 b2 b3 b4 b5).cell? ⟨w0.heap.size, 3, none⟩ = some (.int .i64 m'.ticks) := fun b0 b1 b2 b3 b4 b5 => ⟨(put6_cell (q := ⟨w0.heap.size, 6, none⟩) HNE.out b0 b1 b2 b3 b4 b5).trans hnm.1, (put6_cell (q := ⟨w0.heap.size, 4, none⟩) HNE.out b0 b1 b2 b3 b4 b5).trans hnm.2.1, (put6_cell (q := ⟨w0.heap.size, 3, none⟩) HNE.out b0 b1 b2 b3 b4 b5).trans hnm.2.2⟩; have HR3 := hidd (HR2.out.kept (Keep.of_grew (HGd.out.trans g3))); have H3 := hidd (And.intro g3 hg); have r0 := HR3.out.cells.1; have r1 := HR3.out.cells.2.1; have r2 := HR3.out.cells.2.2.1; have r3 := HR3.out.cells.2.2.2.1; have r4 := HR3.out.cells.2.2.2.2.1; have r5 := HR3.out.cells.2.2.2.2.2; have fz := HR3.out.free; clear g3 hg))
            go_wp2_with fail
            (try simp only [Exit.inBlock, Exit.then, Exit.noGoto_ret])
            refine bodyPost_ret (results_match (rb := w.heap.size + 1) (cs := #[.bool true, .int .i64 0, .int .i64 b, .slice gb m'.given.length gc, .slice sp m'.said.length sc, .int .i64 m'.ticks]) rfl (HR3.out.put (.bool true) (.int .i64 0) (.int .i64 b) (.slice gb m'.given.length gc) (.slice sp m'.said.length sc) (.int .i64 m'.ticks)) rfl) rfl ?_
            rw [HE.out, HW.out]
            exact ⟨put6_grew (HG.out.trans (HM'.out.grew.trans (HGd.out.trans H3.out.1))) (by omega) (.bool true) (.int .i64 0) (.int .i64 b) (.slice gb m'.given.length gc) (.slice sp m'.said.length sc) (.int .i64 m'.ticks), .slice gb m'.given.length gc, .slice sp m'.said.length sc, rfl,
              World.ownsRow.mono (put6_own HR3.out H3.out.2 (.bool true) (.int .i64 0) (.int .i64 b) (.slice gb m'.given.length gc) (.slice sp m'.said.length sc) (.int .i64 m'.ticks)) (HG.out.trans (HM'.out.grew.trans HGd.out)).size,
              World.ownsRow.mono (put6_own HR3.out (HM'.out.kept (HGd.out.trans H3.out.1)).said (.bool true) (.int .i64 0) (.int .i64 b) (.slice gb m'.given.length gc) (.slice sp m'.said.length sc) (.int .i64 m'.ticks)) HG.out.size⟩
          | over m' w' h1 k =>
            have HI2 : Hid (AtPlace R p w0 w0.heap.size (.slice ra R.length rc) s fuel anch (tryL R p s fuel anch (s.size + 1) 0 0 []) w2 (0 + 1) m' ∧ ResAt w2 (w.heap.size + 1)) := ⟨h1, HR1.out.kept k⟩
            clear h1 k k1 HN1 HR1
            go_wp2_with fail
            go_roundg (s.size + 2 - (0 + 1))
            case rel => exact ⟨0 + 1, m', by go_num, HI2.out, by omega⟩
            case measure => have := HL2.out; omega
          | bad e he w' h1 h2 k =>
            have HRb := hidd (HR1.out.kept k)
            obtain ⟨r0, r1, r2, r3, r4, r5⟩ := HRb.out.cells
            have fz := HRb.out.free
            have H := hidd (And.intro h1 h2)
            have hne : (e != 0) = true := by rcases he with rfl | rfl <;> rfl
            clear h1 h2 he k k1 HN1 HR1
            go_wp2_with fail
            (try simp only [Exit.inBlock, Exit.then, Exit.noGoto_ret])
            refine bodyPost_ret (results_match (rb := w.heap.size + 1) rfl (HRb.out.put _ _ _ _ _ _) rfl) rfl ?_
            rw [HE.out, H.out.2]
            exact ⟨put6_grew (HG.out.trans H.out.1) (by omega) _ _ _ _ _ _, _, _, rfl, own_none _ _, own_none _ _⟩
        · have e2 : ¬ a = 0 := h2
          have hab : a ≤ 65536 := Nat.le_trans l2 hs64
          clear l2 h2
          go_wp2_with fail
          refine HBeg.out.mono ?_; rintro e w1 ⟨rfl, hm1, k1⟩
          have HN1 := hidd (HNx.out w1 hm1)
          have HR1 := hidd (hres.out.kept k1)
          clear hm1 HNx HBeg c7 e1
          go_wp2_with fail
          refine HN1.out.mono ?_; rintro e w2 hs
          cases hs with
          | found b m' w' h1 h2 h3 h4 k =>
            have HR2 := hidd (HR1.out.kept k)
            obtain ⟨sv', cv', gp', vs', hM'⟩ := h1
            have c6 := hM'.c6
            have c4 := hM'.c4
            have c3 := hM'.c3
            have HL : Hid (∀ w1, Grew w2 w1 → Calls Tryd.prog 16 #[.pointer gp'] w1 fun e w' => ∃ gb gc, e = .returned (.slice gb m'.given.length gc) ∧ Grew w1 w' ∧ w'.ownsRow w1.heap.size 57 2 (.slice gb m'.given.length gc) m'.given.length (saidCells m'.given)) := fun w1 g => (list_any m'.given gp' (hM'.given.kept (Keep.of_grew g)) h3).mono fun e w' ⟨v, he, hg, ho⟩ => by
              obtain ⟨gb, gc, rfl⟩ := ownsRow_form0 ho
              exact ⟨gb, gc, he, hg, ho⟩
            obtain ⟨sp, sc, rfl⟩ := ownsRow_form0 hM'.said
            have HM' := hidd hM'
            have HW := hidd h2
            have HNE : Hid (w.heap.size + 1 ≠ w0.heap.size) := HR2.out.ne hM'.mac
            have HGd := hidd ((Grew.refl w2).drew)
            have K6 : Hid (∀ w3, Grew w2 w3 → w3.cell? ⟨w0.heap.size, 6, none⟩ = some (.pointer gp') ∧ w3.cell? ⟨w0.heap.size, 4, none⟩ = some (.slice sp m'.said.length sc) ∧ w3.cell? ⟨w0.heap.size, 3, none⟩ = some (.int .i64 m'.ticks)) := fun w3 g => ⟨(hM'.kept g).c6, (hM'.kept g).c4, (hM'.kept g).c3⟩
            have hnm0 := K6.out _ HGd.out
            clear h2 h3 hM' k k1 HN1
            go_wp2_with fail
            go_region_held3 (fun w' => w'.cell? ⟨w0.heap.size, 6, none⟩ = some (.pointer gp') ∧ w'.cell? ⟨w0.heap.size, 4, none⟩ = some (.slice sp m'.said.length sc) ∧ w'.cell? ⟨w0.heap.size, 3, none⟩ = some (.int .i64 m'.ticks)) (first | with_reducible exact hnm | with_reducible exact hnm0 | with_reducible exact hst _ _ _ _ _ _)
              (first
               | (go_at_call 16; refine (HL.out _ HGd.out).mono ?_; rintro e w3 ⟨gb, gc, rfl, g3, hg⟩; have hnm := K6.out w3 (HGd.out.trans g3); have hst : ∀ b0 b1 b2 b3 b4 b5, (put6 w3 (w.heap.size + 1) b0 b1 b2 b3 b4 b5).cell? ⟨w0.heap.size, 6, none⟩ = some (.pointer gp') ∧ (put6 w3 (w.heap.size + 1) b0 b1 b2 b3 b4 b5).cell? ⟨w0.heap.size, 4, none⟩ = some (.slice sp m'.said.length sc) ∧ (put6 w3 (w.heap.size + 1) b0 b1 b2 b3 b4 b5).cell? ⟨w0.heap.size, 3, none⟩ = some (.int .i64 m'.ticks) := fun b0 b1 b2 b3 b4 b5 => ⟨(put6_cell (q := ⟨w0.heap.size, 6, none⟩) HNE.out b0 b1 b2 b3 b4 b5).trans hnm.1, (put6_cell (q := ⟨w0.heap.size, 4, none⟩) HNE.out b0 b1 b2 b3 b4 b5).trans hnm.2.1, (put6_cell (q := ⟨w0.heap.size, 3, none⟩) HNE.out b0 b1 b2 b3 b4 b5).trans hnm.2.2⟩; have HR3 := hidd (HR2.out.kept (Keep.of_grew (HGd.out.trans g3))); have H3 := hidd (And.intro g3 hg); have r0 := HR3.out.cells.1; have r1 := HR3.out.cells.2.1; have r2 := HR3.out.cells.2.2.1; have r3 := HR3.out.cells.2.2.2.1; have r4 := HR3.out.cells.2.2.2.2.1; have r5 := HR3.out.cells.2.2.2.2.2; have fz := HR3.out.free; clear g3 hg))
            go_wp2_with fail
            (try simp only [Exit.inBlock, Exit.then, Exit.noGoto_ret])
            refine bodyPost_ret (results_match (rb := w.heap.size + 1) (cs := #[.bool true, .int .i64 a, .int .i64 b, .slice gb m'.given.length gc, .slice sp m'.said.length sc, .int .i64 m'.ticks]) rfl (HR3.out.put (.bool true) (.int .i64 a) (.int .i64 b) (.slice gb m'.given.length gc) (.slice sp m'.said.length sc) (.int .i64 m'.ticks)) rfl) rfl ?_
            rw [HE.out, HW.out]
            exact ⟨put6_grew (HG.out.trans (HM'.out.grew.trans (HGd.out.trans H3.out.1))) (by omega) (.bool true) (.int .i64 a) (.int .i64 b) (.slice gb m'.given.length gc) (.slice sp m'.said.length sc) (.int .i64 m'.ticks), .slice gb m'.given.length gc, .slice sp m'.said.length sc, rfl,
              World.ownsRow.mono (put6_own HR3.out H3.out.2 (.bool true) (.int .i64 a) (.int .i64 b) (.slice gb m'.given.length gc) (.slice sp m'.said.length sc) (.int .i64 m'.ticks)) (HG.out.trans (HM'.out.grew.trans HGd.out)).size,
              World.ownsRow.mono (put6_own HR3.out (HM'.out.kept (HGd.out.trans H3.out.1)).said (.bool true) (.int .i64 a) (.int .i64 b) (.slice gb m'.given.length gc) (.slice sp m'.said.length sc) (.int .i64 m'.ticks)) HG.out.size⟩
          | over m' w' h1 k =>
            have HI2 : Hid (AtPlace R p w0 w0.heap.size (.slice ra R.length rc) s fuel false (tryL R p s fuel false (s.size + 1) 0 0 []) w2 (a + 1) m' ∧ ResAt w2 (w.heap.size + 1)) := ⟨h1, HR1.out.kept k⟩
            clear h1 k k1 HN1 HR1
            go_wp2_with fail
            go_roundg (s.size + 2 - (a + 1))
            case rel => exact ⟨a + 1, m', by go_num, HI2.out, by omega⟩
            case measure => have := HL2.out; omega
          | bad e he w' h1 h2 k =>
            have HRb := hidd (HR1.out.kept k)
            obtain ⟨r0, r1, r2, r3, r4, r5⟩ := HRb.out.cells
            have fz := HRb.out.free
            have H := hidd (And.intro h1 h2)
            have hne : (e != 0) = true := by rcases he with rfl | rfl <;> rfl
            clear h1 h2 he k k1 HN1 HR1
            go_wp2_with fail
            (try simp only [Exit.inBlock, Exit.then, Exit.noGoto_ret])
            refine bodyPost_ret (results_match (rb := w.heap.size + 1) rfl (HRb.out.put _ _ _ _ _ _) rfl) rfl ?_
            rw [HE.out, H.out.2]
            exact ⟨put6_grew (HG.out.trans H.out.1) (by omega) _ _ _ _ _ _, _, _, rfl, own_none _ _, own_none _ _⟩
      · obtain ⟨sv, cv, gp, vs, hM⟩ := hmid.rep
        have c3 := hM.c3
        have c4 := hM.c4
        have c7 := hM.c7
        have hres := HI.out.2
        obtain ⟨r0, r1, r2, r3, r4, r5⟩ := hres.cells
        have fz := hres.free
        have hlt := hM.lt
        have H := hidd (And.intro hres (And.intro hmid.rep.grew (And.intro hM.said hdead.2)))
        obtain ⟨sp, sc, rfl⟩ := ownsRow_form0 hM.said
        have cases : (s.size < a) ∨ (a ≤ s.size ∧ a ≠ 0 ∧ anch = true) ∨ (a = 0 ∧ m.cut = true) ∨ (a ≤ s.size ∧ a ≠ 0 ∧ anch = false ∧ m.cut = true) := by
          by_cases e1 : s.size < a
          · exact Or.inl e1
          · rcases hdead.1 with h | ⟨h1, h2⟩ | h
            · exact absurd h e1
            · exact Or.inr (Or.inl ⟨by omega, h1, h2⟩)
            · by_cases e2 : a = 0
              · exact Or.inr (Or.inr (Or.inl ⟨e2, h⟩))
              · cases e3 : anch with
                | true => exact Or.inr (Or.inl ⟨by omega, e2, rfl⟩)
                | false => exact Or.inr (Or.inr (Or.inr ⟨by omega, e2, rfl, h⟩))
        clear hmid hdead HI hM hres
        rcases cases with h1 | ⟨h1, h2, rfl⟩ | ⟨rfl, h3⟩ | ⟨h1, h2, rfl, h3⟩
        · have e1 : decide (a ≤ s.size) = false := decide_eq_false (by omega)
          clear h1
          go_wp2_with fail
          go_region
          go_wp2_with fail
          (try simp only [Exit.inBlock, Exit.then, Exit.noGoto_ret])
          refine bodyPost_ret (results_match (rb := w.heap.size + 1) (cs := #[.bool false, .int .i64 0, .int .i64 0, .slice none 0 0, .slice sp m.said.length sc, .int .i64 m.ticks]) rfl (H.out.1.put_drew (.bool false) (.int .i64 0) (.int .i64 0) (.slice none 0 0) (.slice sp m.said.length sc) (.int .i64 m.ticks)) rfl) rfl ?_
          rw [HE.out, H.out.2.2.2]
          exact ⟨(put6_grew (HG.out.trans H.out.2.1) (by omega) (.bool false) (.int .i64 0) (.int .i64 0) (.slice none 0 0) (.slice sp m.said.length sc) (.int .i64 m.ticks)).drew, .slice none 0 0, .slice sp m.said.length sc, rfl, own_none _ _, (World.ownsRow.mono (put6_own H.out.1 H.out.2.2.1 (.bool false) (.int .i64 0) (.int .i64 0) (.slice none 0 0) (.slice sp m.said.length sc) (.int .i64 m.ticks)) HG.out.size).drew⟩
        · have e1 : decide (a ≤ s.size) = true := decide_eq_true (by omega)
          have e2 : (a == 0) = false := beq_eq_false_iff_ne.2 h2
          clear h1
          go_wp2_with fail
          go_region
          go_wp2_with fail
          (try simp only [Exit.inBlock, Exit.then, Exit.noGoto_ret])
          refine bodyPost_ret (results_match (rb := w.heap.size + 1) (cs := #[.bool false, .int .i64 0, .int .i64 0, .slice none 0 0, .slice sp m.said.length sc, .int .i64 m.ticks]) rfl (H.out.1.put_drew (.bool false) (.int .i64 0) (.int .i64 0) (.slice none 0 0) (.slice sp m.said.length sc) (.int .i64 m.ticks)) rfl) rfl ?_
          rw [HE.out, H.out.2.2.2]
          exact ⟨(put6_grew (HG.out.trans H.out.2.1) (by omega) (.bool false) (.int .i64 0) (.int .i64 0) (.slice none 0 0) (.slice sp m.said.length sc) (.int .i64 m.ticks)).drew, .slice none 0 0, .slice sp m.said.length sc, rfl, own_none _ _, (World.ownsRow.mono (put6_own H.out.1 H.out.2.2.1 (.bool false) (.int .i64 0) (.int .i64 0) (.slice none 0 0) (.slice sp m.said.length sc) (.int .i64 m.ticks)) HG.out.size).drew⟩
        · rw [h3] at c7
          clear h3
          go_wp2_with fail
          go_region
          go_wp2_with fail
          (try simp only [Exit.inBlock, Exit.then, Exit.noGoto_ret])
          refine bodyPost_ret (results_match (rb := w.heap.size + 1) (cs := #[.bool false, .int .i64 0, .int .i64 0, .slice none 0 0, .slice sp m.said.length sc, .int .i64 m.ticks]) rfl (H.out.1.put_drew (.bool false) (.int .i64 0) (.int .i64 0) (.slice none 0 0) (.slice sp m.said.length sc) (.int .i64 m.ticks)) rfl) rfl ?_
          rw [HE.out, H.out.2.2.2]
          exact ⟨(put6_grew (HG.out.trans H.out.2.1) (by omega) (.bool false) (.int .i64 0) (.int .i64 0) (.slice none 0 0) (.slice sp m.said.length sc) (.int .i64 m.ticks)).drew, .slice none 0 0, .slice sp m.said.length sc, rfl, own_none _ _, (World.ownsRow.mono (put6_own H.out.1 H.out.2.2.1 (.bool false) (.int .i64 0) (.int .i64 0) (.slice none 0 0) (.slice sp m.said.length sc) (.int .i64 m.ticks)) HG.out.size).drew⟩
        · have e1 : decide (a ≤ s.size) = true := decide_eq_true (by omega)
          have e2 : (a == 0) = false := beq_eq_false_iff_ne.2 h2
          rw [h3] at c7
          clear h1 h3
          go_wp2_with fail
          go_region
          go_wp2_with fail
          (try simp only [Exit.inBlock, Exit.then, Exit.noGoto_ret])
          refine bodyPost_ret (results_match (rb := w.heap.size + 1) (cs := #[.bool false, .int .i64 0, .int .i64 0, .slice none 0 0, .slice sp m.said.length sc, .int .i64 m.ticks]) rfl (H.out.1.put_drew (.bool false) (.int .i64 0) (.int .i64 0) (.slice none 0 0) (.slice sp m.said.length sc) (.int .i64 m.ticks)) rfl) rfl ?_
          rw [HE.out, H.out.2.2.2]
          exact ⟨(put6_grew (HG.out.trans H.out.2.1) (by omega) (.bool false) (.int .i64 0) (.int .i64 0) (.slice none 0 0) (.slice sp m.said.length sc) (.int .i64 m.ticks)).drew, .slice none 0 0, .slice sp m.said.length sc, rfl, own_none _ _, (World.ownsRow.mono (put6_own H.out.1 H.out.2.2.1 (.bool false) (.int .i64 0) (.int .i64 0) (.slice none 0 0) (.slice sp m.said.length sc) (.int .i64 m.ticks)) HG.out.size).drew⟩
  · have HE : Hid (matchOf R p s anch fuel = (none, [], 0, askErr R p s fuel)) := by rw [Hid, matchOf, if_neg h0]
    have h0' : (askErr R p s fuel != 0) = true := by simp [h0]
    clear h0
    go_enter Tryd.func5, Tryd.ntmps5
    go_wp2_with fail
    refine (HA.out _ (((Grew.refl w).alloc _).alloc _)).mono ?_; rintro e w2 ⟨rfl, G2⟩
    have HG := hidd ((((Grew.refl w).alloc _).alloc _).trans G2)
    have hres : ResAt w2 (w.heap.size + 1) := by
      unfold ResAt
      rw [G2.block _ (by simp)]
      exact (heap_two w _ _).2
    obtain ⟨c0, c1, c2, c3, c4, c5⟩ := hres.cells
    have fz := hres.free
    have HS := hidd hres
    clear G2 hres
    go_wp2_with fail
    (try simp only [Exit.inBlock, Exit.then])
    refine bodyPost_ret (results_match (rb := w.heap.size + 1) rfl (HS.out.put _ _ _ _ _ _) rfl) rfl ?_
    rw [HE.out]
    exact ⟨put6_grew HG.out (by omega) _ _ _ _ _ _, _, _, rfl, own_none _ _, own_none _ _⟩
end
end Go.Proofs.YtcmdhgamlhnioaaDoor
