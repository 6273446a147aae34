/- ScanLonger: the walk. Conditions: what the arguments are read as; the library's table of powers of ten. -/
import Derived.Test.YtmkldfjcpmoajabDoorScShape
import Derived.BigQuiet
import Derived.Deep.QuietTactic
namespace Go.Proofs.YtmkldfjcpmoajabDoor
open Go.RowKit
set_option linter.unusedVariables false
section
open Tr
/-- What was found, without what is told behind it. -/
def fo : Obs → Obs
  | .found a g t sd _ => .found a g t sd naught
  | o => o
theorem fo_le {F : Nat} : ∀ {T U : Tr} {t : Nat} {sd : List Gift}, le T U → first F t sd T ≠ .deep → fo (first F t sd U) = fo (first F t sd T)
  | .stop m, U, t, sd, h, hd => by
    rcases h with rfl | rfl
    · exact absurd rfl hd
    · rfl
  | .tick T, U, t, sd, ⟨V, e, h⟩, hd => by
    subst e
    rw [first] at hd ⊢
    rw [first]
    by_cases e : t = F
    · rw [if_pos e, if_pos e]
    · rw [if_neg e] at hd ⊢
      rw [if_neg e]
      exact fo_le h hd
  | .say g T, U, t, sd, ⟨V, e, h⟩, hd => by
    subst e
    rw [first] at hd ⊢
    rw [first]
    exact fo_le h hd
  | .way a g T, U, t, sd, ⟨V, e, h⟩, hd => by subst e; rfl
theorem not_deep {F : Nat} : ∀ {T : Tr} {t : Nat} {sd : List Gift}, late (F + 1 - t) T → t ≤ F → first F t sd T ≠ .deep
  | .stop m, t, sd, h, ht => by
    cases m with
    | deep => have := h rfl; omega
    | done => simp [first]
    | cut => simp [first]
    | name => simp [first]
  | .tick T, t, sd, h, ht => by
    rw [first]
    by_cases e : t = F
    · rw [if_pos e]; simp
    · rw [if_neg e]
      exact not_deep (T := T) (late_mono (t := T) (show late (F + 1 - t - 1) T from h) (by omega)) (by omega)
  | .say g T, t, sd, h, ht => by rw [first]; exact not_deep (T := T) h ht
  | .way a g T, t, sd, h, ht => by rw [first]; simp
/-- What has come out at so many nodes. -/
def came : Obs → Option Nat
  | .found _ _ t _ _ => some t
  | .over _ t _ => some t
  | _ => none
theorem first_fuel {F f : Nat} : ∀ {T : Tr} {t : Nat} {sd : List Gift} {t2 : Nat}, t ≤ F → came (first F t sd T) = some t2 → t ≤ t2 ∧ t2 ≤ F ∧ (t2 ≤ f → first f t sd T = first F t sd T) ∧ (t ≤ f → f < t2 → first f t sd T = .fuel)
  | .stop m, t, sd, t2, ht, h => by
    cases m <;> simp [first, came] at h <;> subst h <;> exact ⟨Nat.le_refl _, ht, fun _ => rfl, fun _ _ => by omega⟩
  | .tick T, t, sd, t2, ht, h => by
    rw [first] at h
    by_cases e : t = F
    · rw [if_pos e] at h; simp [came] at h
    · rw [if_neg e] at h
      obtain ⟨h1, h2, h3, h4⟩ := first_fuel (f := f) (T := T) (by omega) h
      refine ⟨by omega, h2, fun h5 => ?_, fun h5 h6 => ?_⟩
      · rw [first, first, if_neg (by omega), if_neg e]; exact h3 h5
      · rw [first]
        by_cases e2 : t = f
        · rw [if_pos e2]
        · rw [if_neg e2]; exact h4 (by omega) h6
  | .say g T, t, sd, t2, ht, h => by
    rw [first] at h
    obtain ⟨h1, h2, h3, h4⟩ := first_fuel (f := f) (T := T) ht h
    refine ⟨h1, h2, fun h5 => ?_, fun h5 h6 => ?_⟩
    · rw [first, first]; exact h3 h5
    · rw [first]; exact h4 h5 h6
  | .way a g T, t, sd, t2, ht, h => by
    rw [first] at h
    simp [came] at h; subst h
    exact ⟨Nat.le_refl _, ht, fun _ => rfl, fun _ _ => by omega⟩
theorem came_fo (o : Obs) : came (fo o) = came o := by cases o <;> rfl
theorem fo_fo (o : Obs) : fo (fo o) = fo o := by cases o <;> rfl
section
variable {R : List Rule} {p : Pat} {s : ByteArray} {anch : Bool}
/-- The first way at a place, with this fuel. -/
def at1 (R : List Rule) (p : Pat) (s : ByteArray) (F a t : Nat) (sd : List Gift) : Obs := fo (first F t sd (den R s (F + 1) p a []))
theorem at1_deep {F a t N : Nat} {sd : List Gift} (ht : t ≤ F) (hN : F + 1 ≤ N) : fo (first F t sd (den R s N p a [])) = at1 R p s F a t sd :=
  fo_le (den_le R s hN p a []) (not_deep (late_mono (den_late R s (F + 1) p a []) (by omega)) ht)
theorem at1_tick {F a t t2 : Nat} {sd : List Gift} (ht : t ≤ F) (h : came (at1 R p s F a t sd) = some t2) : t < t2 := by
  unfold at1 at h
  rw [came_fo, den, first] at h
  by_cases e : t = F
  · rw [if_pos e] at h; simp [came] at h
  · rw [if_neg e] at h
    have := (first_fuel (f := 0) (by omega) h).1
    omega
theorem at1_fuel {F f a t t2 : Nat} {sd : List Gift} (ht : t ≤ F) (hf : t ≤ f) (h : came (at1 R p s F a t sd) = some t2) : t2 ≤ F ∧ (t2 ≤ f → at1 R p s f a t sd = at1 R p s F a t sd) ∧ (f < t2 → at1 R p s f a t sd = .fuel) := by
  have h1 := at1_deep (R := R) (p := p) (s := s) (a := a) (sd := sd) ht (N := max F f + 1) (by omega)
  have h2 := at1_deep (R := R) (p := p) (s := s) (a := a) (sd := sd) hf (N := max F f + 1) (by omega)
  rw [← h1, came_fo] at h
  obtain ⟨_, k2, k3, k4⟩ := first_fuel (f := f) ht h
  refine ⟨k2, fun h5 => ?_, fun h5 => ?_⟩
  · rw [← h1, ← h2, k3 h5]
  · rw [← h2, k4 hf h5]; rfl
/-- From place to place. -/
theorem tryL_at1 (F k a t : Nat) (sd : List Gift) : tryL R p s F anch (k + 1) a t sd = (match at1 R p s F a t sd with
    | .found b g t sd _ => (some (a, b, g), sd, t, 0)
    | .over c t sd => if c = true ∨ anch = true then (none, sd, t, 0) else tryL R p s F anch k (a + 1) t sd
    | .fuel => (none, [], 0, 10)
    | .name => (none, [], 0, 7)
    | .deep => (none, [], 0, 99)) := by
  rw [tryL]
  unfold at1
  cases first F t sd (den R s (F + 1) p a []) <;> rfl
theorem tryL_fuel {F f : Nat} : ∀ {k a t : Nat} {sd : List Gift}, t ≤ F → (tryL R p s F anch k a t sd).2.2.2 = 0 → t ≤ f →
    t ≤ (tryL R p s F anch k a t sd).2.2.1 ∧ (0 < k → t < (tryL R p s F anch k a t sd).2.2.1) ∧ (tryL R p s F anch k a t sd).2.2.1 ≤ F ∧ ((tryL R p s F anch k a t sd).2.2.1 ≤ f → tryL R p s f anch k a t sd = tryL R p s F anch k a t sd) ∧ (f < (tryL R p s F anch k a t sd).2.2.1 → (tryL R p s f anch k a t sd).2.2.2 = 10)
  | 0, a, t, sd, ht, h, hf => ⟨Nat.le_refl _, fun h => by omega, ht, fun _ => rfl, fun h => by have : f < t := h; omega⟩
  | k + 1, a, t, sd, ht, h, hf => by
    rw [tryL_at1] at h
    rw [tryL_at1 F, tryL_at1 f]
    cases ho : at1 R p s F a t sd with
    | found b g t2 sd2 U =>
      have hc : came (at1 R p s F a t sd) = some t2 := by rw [ho]; rfl
      have h0 := at1_tick ht hc
      obtain ⟨h1, h2, h3⟩ := at1_fuel ht hf hc
      refine ⟨by show t ≤ t2; omega, fun _ => h0, h1, fun h5 => ?_, fun h5 => ?_⟩
      · rw [h2 h5, ho]
      · rw [h3 h5]
    | over c t2 sd2 =>
      have hc : came (at1 R p s F a t sd) = some t2 := by rw [ho]; rfl
      have h0 := at1_tick ht hc
      obtain ⟨h1, h2, h3⟩ := at1_fuel ht hf hc
      rw [ho] at h
      dsimp only at h ⊢
      by_cases hb : c = true ∨ anch = true
      · rw [if_pos hb]
        refine ⟨by show t ≤ t2; omega, fun _ => h0, h1, fun h5 => ?_, fun h5 => ?_⟩
        · rw [h2 h5, ho]; dsimp only; rw [if_pos hb]
        · rw [h3 h5]
      · rw [if_neg hb] at h ⊢
        by_cases hf2 : t2 ≤ f
        · obtain ⟨k1, k2, k3, k4, k5⟩ := tryL_fuel (f := f) h1 h hf2
          rw [h2 hf2, ho]
          dsimp only
          rw [if_neg hb]
          exact ⟨by omega, fun _ => by omega, k3, k4, k5⟩
        · obtain ⟨k1, k2, k3, k4, k5⟩ := tryL_fuel (f := t2) h1 h (Nat.le_refl _)
          refine ⟨by omega, fun _ => by omega, k3, fun h5 => by omega, fun h5 => ?_⟩
          rw [h3 (by omega)]
    | fuel => rw [ho] at h; cases h
    | name => rw [ho] at h; cases h
    | deep => rw [ho] at h; cases h
/-- Whoever has more time. -/
theorem match_fuel {fuel : Int} (h : (matchOf R p s anch fuel).2.2.2 = 0) : 1 ≤ (matchOf R p s anch fuel).2.2.1 ∧ ((matchOf R p s anch fuel).2.2.1 : Int) ≤ fuel ∧
    ∀ f : Int, 0 ≤ f → f ≤ 100000 → (((matchOf R p s anch fuel).2.2.1 : Int) ≤ f → matchOf R p s anch f = matchOf R p s anch fuel) ∧ (f < ((matchOf R p s anch fuel).2.2.1 : Int) → (matchOf R p s anch f).2.2.2 = 10) := by
  have h0 : askErr R p s fuel = 0 := by
    unfold matchOf at h
    by_cases e : askErr R p s fuel = 0
    · exact e
    · rw [if_neg e] at h; exact absurd h e
  obtain ⟨_, _, _, _, hf0, _⟩ := ask_none h0
  have e1 : matchOf R p s anch fuel = tryL R p s fuel.toNat anch (s.size + 1) 0 0 [] := by unfold matchOf; rw [if_pos h0]
  rw [e1] at h ⊢
  have base := fun f => tryL_fuel (f := f) (Nat.zero_le fuel.toNat) h (Nat.zero_le f)
  refine ⟨(base 0).2.1 (Nat.succ_pos _), by have := (base 0).2.2.1; omega, fun f hf hf2 => ?_⟩
  have ha : askErr R p s f = 0 := by
    unfold askErr at h0 ⊢
    by_cases q1 : patErr p = 0
    · rw [if_pos q1] at h0 ⊢
      by_cases q2 : rulesErr R = 0
      · rw [if_pos q2] at h0 ⊢
        by_cases q3 : 65536 < s.size
        · rw [if_pos q3] at h0; cases h0
        · rw [if_neg q3, if_neg (by omega)]
      · rw [if_neg q2] at h0; exact absurd h0 q2
    · rw [if_neg q1] at h0; exact absurd h0 q1
  have e2 : matchOf R p s anch f = tryL R p s f.toNat anch (s.size + 1) 0 0 [] := by unfold matchOf; rw [if_pos ha]
  obtain ⟨_, _, _, b4, b5⟩ := base f.toNat
  rw [e2]
  exact ⟨fun h5 => b4 (by omega), fun h5 => b5 (by omega)⟩
end
end
def frm (M : Matched) : Int := match M.1 with | some (a, _, _) => (a : Int) | none => 0
def til (M : Matched) : Int := match M.1 with | some (_, b, _) => (b : Int) | none => 0
def giv (M : Matched) : List Gift := match M.1 with | some (_, _, g) => g | none => []
theorem three_cells {w : World} {b : Nat} {x y z : Int} {t : TypeId} (h : w.heap[b]? = some (.cells #[.int .i64 x, .int .i64 y, .int .i64 z] t (0, 0))) (hx : -9223372036854775808 ≤ x ∧ x ≤ 9223372036854775807) (hy : -9223372036854775808 ≤ y ∧ y ≤ 9223372036854775807) (hz : -9223372036854775808 ≤ z ∧ z ≤ 9223372036854775807) {k : Nat} (hk : k < 3) :
    ∃ f : Int, w.cell? ⟨b, k, none⟩ = some (.int .i64 f) ∧ -9223372036854775808 ≤ f ∧ f ≤ 9223372036854775807 := by
  match k, hk with
  | 0, _ => exact ⟨x, by simp [World.cell?, h], hx⟩
  | 1, _ => exact ⟨y, by simp [World.cell?, h], hy⟩
  | 2, _ => exact ⟨z, by simp [World.cell?, h], hz⟩
theorem six_cells {w : World} {b : Nat} {v0 v1 v2 v3 v4 v5 : Value} {t : TypeId} (h : w.heap[b]? = some (.cells #[v0, v1, v2, v3, v4, v5] t (0, 0))) :
    w.cell? ⟨b, 0, none⟩ = some v0 ∧ w.cell? ⟨b, 1, none⟩ = some v1 ∧ w.cell? ⟨b, 2, none⟩ = some v2 ∧ w.cell? ⟨b, 3, none⟩ = some v3 ∧ w.cell? ⟨b, 4, none⟩ = some v4 ∧ w.cell? ⟨b, 5, none⟩ = some v5 := by
  simp [World.cell?, h]
section
variable {R : List Rule} {w : World} {rv ka : Value} {a : Pat} {s : ByteArray}
set_option maxRecDepth 100000 in
set_option maxHeartbeats 4000000 in
theorem ScanLonger_walk (anch : Bool) (fuel more : Int) (hR : RulesAt w rv R) (ha : PatV w ka a) (hs : s.size ≤ maxLen) (hf : -9223372036854775808 ≤ fuel ∧ fuel ≤ 9223372036854775807) (hmo : -9223372036854775808 ≤ more ∧ more ≤ 9223372036854775807) (hT : TabP w) :
    Calls Tryd.prog 8 #[rv, .agg (a.cells ka), .string s, .bool anch, .int .i64 fuel, .int .i64 more] w fun e w' => e = .returned (.bool true) ∧ Grew w w' := by
  obtain ⟨ra, rc, rfl, _⟩ := hR.len
  obtain ⟨kb, kn, kc, rfl⟩ := kids_form ha.kids
  have HAl : Hid (∀ w1, Grew w w1 → Calls Tryd.prog 9 #[] w1 fun e w' => e = .returned (.bool true) ∧ Grew w1 w') := fun w1 g => alive_any w1 (hT.kept g)
  have HMA : Hid (∀ (f : Int) w1 N, matchOf R a s anch f = N → (-9223372036854775808 ≤ f ∧ f ≤ 9223372036854775807) → Grew w w1 → Calls Tryd.prog 19 #[.slice ra R.length rc, .agg #[.int .i64 a.kind, .string a.text, .int .i64 a.n, .string a.name, .slice kb kn kc], .string s, .bool anch, .int .i64 f] w1 fun e w' => ∃ ga gc sa sc, e = .returned (.tuple #[.agg #[.bool N.1.isSome, .int .i64 (frm N), .int .i64 (til N), .slice ga (giv N).length gc, .slice sa N.2.1.length sc, .int .i64 N.2.2.1], .int .i64 N.2.2.2]) ∧ Grew w1 w' ∧ GiftsV w' (.slice ga (giv N).length gc) (giv N) ∧ GiftsV w' (.slice sa N.2.1.length sc) N.2.1) :=
    fun f w1 N hN hf g => (Match_any (p := a) (kv := .slice kb kn kc) anch f (hR.kept g) (ha.kept g) hs hf (hT.kept g)).mono fun e w' ⟨hg, gv, sv, he, h1, h2⟩ => by
      rw [hN] at he h1 h2
      have h1' : w'.ownsRow w1.heap.size 41 2 gv (giv N).length (saidCells (giv N)) := h1
      obtain ⟨ga, gc, rfl⟩ := ownsRow_form0 h1'
      obtain ⟨sa, sc, rfl⟩ := ownsRow_form0 h2
      exact ⟨ga, gc, sa, sc, he, hg, .of_own h1', .of_own h2⟩
  obtain ⟨M, hM⟩ : ∃ M, matchOf R a s anch fuel = M := ⟨_, rfl⟩
  have HM1 := hidd (HMA.out fuel · M hM hf)
  have HFU : Hid (M.2.2.2 = 0 → 1 ≤ M.2.2.1 ∧ (M.2.2.1 : Int) ≤ fuel ∧ fuel ≤ 100000 ∧ ∀ f : Int, 0 ≤ f → f ≤ 100000 → ((M.2.2.1 : Int) ≤ f → matchOf R a s anch f = M) ∧ (f < (M.2.2.1 : Int) → (matchOf R a s anch f).2.2.2 = 10)) := fun h => by
    rw [← hM] at h ⊢
    obtain ⟨q1, q2, q3⟩ := match_fuel h
    refine ⟨q1, q2, ?_, q3⟩
    have h0 : askErr R a s fuel = 0 := by
      unfold matchOf at h
      by_cases e : askErr R a s fuel = 0
      · exact e
      · rw [if_neg e] at h; exact absurd h e
    exact (ask_none h0).2.2.2.2.2
  clear hR ha hs hT hM
  unfold Pat.cells
  by_cases he : M.2.2.2 = 0
  · obtain ⟨t1, t2, t3, hall⟩ := HFU.out he
    have HALL := hidd hall
    rw [he] at HM1
    obtain ⟨T, hT⟩ : ∃ T, M.2.2.1 = T := ⟨_, rfl⟩
    rw [hT] at t1 t2 HM1 HALL
    have HTT := hidd hT
    have HE0 := hidd he
    have t1' : (1 : Int) ≤ (T : Int) := by omega
    have tb : T ≤ 100000 := by omega
    clear he HFU hall hT
    go_enter Tryd.func8, Tryd.ntmps8
    go_wp2_with fail
    refine (HAl.out _ ((Grew.refl w).alloc _)).mono ?_; rintro e w1 ⟨rfl, g1⟩
    have HG := hidd g1
    obtain ⟨k0, k1, k2, k3, k4⟩ := box_five (w := w1) (b := w.heap.size) (by rw [g1.block _ (by simp)]; exact heap_alloc_new w _)
    clear g1 HAl
    go_wp2_with fail
    refine (HM1.out _ (((Grew.refl w).alloc _).trans HG.out)).mono ?_; rintro e w2 ⟨ga, gc, sa, sc, rfl, g2, hgv, hsv⟩
    have HG2 := hidd (And.intro (HG.out.trans g2) (And.intro hgv hsv))
    clear g2 hgv hsv HM1 k0 k1 k2 k3 k4
    go_wp2_with fail
    obtain ⟨wY, hwY⟩ : ∃ wY, (w2.alloc (.cells #[.bool M.1.isSome, .int .i64 (frm M), .int .i64 (til M), .slice ga (giv M).length gc, .slice sa M.2.1.length sc, .int .i64 T] 49)).alloc (.cells #[.int .i64 T, .int .i64 more, .int .i64 (T - 1)] 3) = wY := ⟨_, rfl⟩
    have HX : Hid (wY.heap[w2.heap.size]? = some (.cells #[.bool M.1.isSome, .int .i64 (frm M), .int .i64 (til M), .slice ga (giv M).length gc, .slice sa M.2.1.length sc, .int .i64 T] 49 (0, 0)) ∧ wY.heap[w2.heap.size + 1]? = some (.cells #[.int .i64 T, .int .i64 more, .int .i64 (T - 1)] 3 (0, 0)) ∧ Grew w2 wY) := by
      obtain ⟨q1, q2⟩ := heap_two w2 (.cells #[.bool M.1.isSome, .int .i64 (frm M), .int .i64 (til M), .slice ga (giv M).length gc, .slice sa M.2.1.length sc, .int .i64 T] 49) (.cells #[.int .i64 T, .int .i64 more, .int .i64 (T - 1)] 3)
      rw [hwY] at q1 q2
      exact ⟨q1, q2, hwY ▸ ((Grew.refl w2).alloc _).alloc _⟩
    rw [hwY]
    clear hwY
    go_loopg [16, 17, 18, 49] 4 (fun kk _ _ _ s49 wr => ∃ k : Nat, s49 = .int .i64 k ∧ Hid (Grew wY wr) ∧ 4 ≤ kk + k ∧ k ≤ 3)
    case atStart => exact ⟨0, rfl, Grew.refl _, by omega, by omega⟩
    case round =>
      obtain ⟨k, rfl, HI, hkk, hk3⟩ := hrel
      have HGA : Hid (Grew (w.alloc (.cells #[.int .i64 a.kind, .string a.text, .int .i64 a.n, .string a.name, .slice kb kn kc] 28)) wr) := HG2.out.1.trans (HX.out.2.2.trans HI.out)
      by_cases hk : k < 3
      · obtain ⟨f, hcf, hfb1, hfb2⟩ := three_cells (w := wr) (b := w2.heap.size + 1) (by rw [HI.out.block _ (lt_of_block HX.out.2.1)]; exact HX.out.2.1) (by omega) hmo (by omega) hk
        have fneg : f < 0 ∨ (0 ≤ f ∧ 100000 < f) ∨ (0 ≤ f ∧ f ≤ 100000 ∧ f < (T : Int)) ∨ (0 ≤ f ∧ f ≤ 100000 ∧ (T : Int) ≤ f) := by omega
        rcases fneg with hq | ⟨hq, hq2⟩ | ⟨hq, hq2, hq3⟩ | ⟨hq, hq2, hq3⟩
        · go_wp2_with fail
          go_roundg (4 - (k + 1))
          case rel => exact ⟨k + 1, by go_num, HI.out, by omega, by omega⟩
          case measure => omega
        · go_wp2_with fail
          go_roundg (4 - (k + 1))
          case rel => exact ⟨k + 1, by go_num, HI.out, by omega, by omega⟩
          case measure => omega
        · obtain ⟨N, hN⟩ : ∃ N, matchOf R a s anch f = N := ⟨_, rfl⟩
          have hE := (HALL.out f hq hq2).2 hq3
          rw [hN] at hE
          have HM2 := hidd (HMA.out f wr N hN ⟨hfb1, hfb2⟩ (((Grew.refl w).alloc _).trans HGA.out))
          obtain ⟨k0, k1, k2, k3, k4⟩ := box_five (w := wr) (b := w.heap.size) (by rw [HGA.out.block _ (by simp)]; exact heap_alloc_new w _)
          have HC : Hid (∀ w4, Grew wr w4 → w4.cell? ⟨w2.heap.size, 5, none⟩ = some (.int .i64 T)) := fun w4 g => by
            have hb : w4.heap[w2.heap.size]? = some (.cells #[.bool M.1.isSome, .int .i64 (frm M), .int .i64 (til M), .slice ga (giv M).length gc, .slice sa M.2.1.length sc, .int .i64 T] 49 (0, 0)) := by
              rw [(HI.out.trans g).block _ (lt_of_block HX.out.1)]; exact HX.out.1
            exact (six_cells hb).2.2.2.2.2
          have HE := hidd hE
          have hlt2 : w2.heap.size < wr.heap.size := Nat.lt_of_lt_of_le (lt_of_block HX.out.1) HI.out.size
          clear hN hE
          go_wp2_with fail
          refine HM2.out.mono ?_; rintro e w4 ⟨ga', gc', sa', sc', rfl, g4, hgv4, hsv4⟩
          have c5 : ∀ o, (w4.alloc o).cell? ⟨w2.heap.size, 5, none⟩ = some (.int .i64 T) := fun o => HC.out _ (g4.alloc o)
          have HG4 := hidd (HI.out.trans g4)
          have hE4 : N.2.2.2 = 10 := HE.out
          rw [hE4]
          clear g4 hgv4 hsv4 HM2 HC k0 k1 k2 k3 k4 hcf HE hE4 HI hlt2
          go_wp2_with fail
          go_roundg (4 - (k + 1))
          case rel => exact ⟨k + 1, by go_num, HG4.out.alloc _, by omega, by omega⟩
          case measure => omega
        · have hN := (HALL.out f hq hq2).1 hq3
          have HM2 := hidd (HMA.out f wr M hN ⟨hfb1, hfb2⟩ (((Grew.refl w).alloc _).trans HGA.out))
          obtain ⟨k0, k1, k2, k3, k4⟩ := box_five (w := wr) (b := w.heap.size) (by rw [HGA.out.block _ (by simp)]; exact heap_alloc_new w _)
          have HC : Hid (∀ w4, Grew wr w4 → w4.heap[w2.heap.size]? = some (.cells #[.bool M.1.isSome, .int .i64 (frm M), .int .i64 (til M), .slice ga (giv M).length gc, .slice sa M.2.1.length sc, .int .i64 T] 49 (0, 0))) := fun w4 g => by
            rw [(HI.out.trans g).block _ (lt_of_block HX.out.1)]; exact HX.out.1
          have HV : Hid (∀ w4, Grew wr w4 → GiftsV w4 (.slice ga (giv M).length gc) (giv M) ∧ GiftsV w4 (.slice sa M.2.1.length sc) M.2.1) := fun w4 g => ⟨HG2.out.2.1.kept (HX.out.2.2.trans (HI.out.trans g)), HG2.out.2.2.kept (HX.out.2.2.trans (HI.out.trans g))⟩
          rw [HE0.out, HTT.out] at HM2
          clear hN
          go_wp2_with fail
          refine HM2.out.mono ?_; rintro e w4 ⟨ga', gc', sa', sc', rfl, g4, hgv4, hsv4⟩
          have cc := fun o => six_cells (HC.out (w4.alloc o) (g4.alloc o))
          have c0 := fun o => (cc o).1
          have c1 := fun o => (cc o).2.1
          have c2 := fun o => (cc o).2.2.1
          have c3 := fun o => (cc o).2.2.2.1
          have c4 := fun o => (cc o).2.2.2.2.1
          have c5 := fun o => (cc o).2.2.2.2.2
          have HG4 := hidd (HI.out.trans g4)
          have HC1 : Hid (∀ o, Calls Tryd.prog 14 #[.slice ga (giv M).length gc, .slice ga' (giv M).length gc'] (w4.alloc o) fun e w' => e = .returned (.bool true) ∧ ∃ m, w' = (w4.alloc o).drewN m) :=
            fun o => (SameGifts_any (HV.out _ (g4.alloc o)).1 (hgv4.kept ((Grew.refl w4).alloc o))).mono fun e w' h => ⟨by rw [h.1]; simp, h.2⟩
          have HC2 : Hid (∀ o n, Calls Tryd.prog 14 #[.slice sa M.2.1.length sc, .slice sa' M.2.1.length sc'] ((w4.alloc o).drewN n) fun e w' => e = .returned (.bool true) ∧ ∃ m, w' = ((w4.alloc o).drewN n).drewN m) :=
            fun o n => (SameGifts_any (HV.out _ ((g4.alloc o).drewN n)).2 (hsv4.kept (((Grew.refl w4).alloc o).drewN n))).mono fun e w' h => ⟨by rw [h.1]; simp, h.2⟩
          clear g4 hgv4 hsv4 HM2 k0 k1 k2 k3 k4 hcf HI cc HC HV
          go_wp2_with fail
          refine (HC1.out _).mono ?_; rintro e w5 ⟨rfl, m1, rfl⟩
          go_wp2_with fail
          refine (HC2.out _ m1).mono ?_; rintro e w6 ⟨rfl, m2, rfl⟩
          go_wp2_with fail
          go_roundg (4 - (k + 1))
          case rel => exact ⟨k + 1, by go_num, (HG4.out.alloc _).drewN _, by omega, by omega⟩
          case measure => omega
      · have HGF := hidd (((Grew.refl w).alloc _).trans HGA.out)
        clear HI
        go_wp2_with fail
        go_ret
        exact ⟨rfl, HGF.out⟩
  · have e1 : (M.2.2.2 != 0) = true := by simp [he]
    clear he HFU
    go_enter Tryd.func8, Tryd.ntmps8
    go_wp2_with fail
    refine (HAl.out _ ((Grew.refl w).alloc _)).mono ?_; rintro e w1 ⟨rfl, g1⟩
    have HG := hidd (((Grew.refl w).alloc _).trans g1)
    obtain ⟨k0, k1, k2, k3, k4⟩ := box_five (w := w1) (b := w.heap.size) (by rw [g1.block _ (by simp)]; exact heap_alloc_new w _)
    clear g1 HAl
    go_wp2_with fail
    refine (HM1.out _ HG.out).mono ?_; rintro e w2 ⟨ga, gc, sa, sc, rfl, g2, hgv, hsv⟩
    have HG2 := hidd (HG.out.trans g2)
    clear g2 hgv hsv HM1 k0 k1 k2 k3 k4
    go_wp2_with fail
    go_ret
    exact ⟨rfl, HG2.out.alloc _⟩
end
end Go.Proofs.YtmkldfjcpmoajabDoor
