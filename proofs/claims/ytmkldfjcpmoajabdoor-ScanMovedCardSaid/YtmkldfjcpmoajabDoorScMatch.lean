/- scan.Match: what it tells; what is so at each round. -/
import Derived.Test.YtmkldfjcpmoajabDoorScWays
import Derived.Deep.Onto
import Derived.Laws.ResultCell
namespace Go.Proofs.YtmkldfjcpmoajabDoor
open Go.RowKit
set_option linter.unusedVariables false

/-- What was found (from where, to where, what was given), what was said, how many nodes, and what is wrong. -/
abbrev Matched := Option (Nat × Nat × List Gift) × List Gift × Nat × Int
section
variable (R : List Rule) (p : Pat) (s : ByteArray) (fuel : Nat) (anch : Bool)
def tryL : Nat → Nat → Nat → List Gift → Matched
  | 0, _, t, sd => (none, sd, t, 0)
  | k + 1, a, t, sd => (match first fuel t sd (den R s (fuel + 1) p a []) with
    | .found b g t sd _ => (some (a, b, g), sd, t, 0)
    | .over c t sd => if c = true ∨ anch = true then (none, sd, t, 0) else tryL k (a + 1) t sd
    | .fuel => (none, [], 0, 10)
    | .name => (none, [], 0, 7)
    | .deep => (none, [], 0, 99))
def matchOf (fuel : Int) : Matched := if askErr R p s fuel = 0 then tryL R p s fuel.toNat anch (s.size + 1) 0 0 [] else (none, [], 0, askErr R p s fuel)
end
section
variable {R : List Rule} {w : World} {v kv : Value} {p : Pat} {s : ByteArray}
/-- The machine between two places. -/
structure Mid (R : List Rule) (w0 : World) (bm : Nat) (v : Value) (s : ByteArray) (fuel : Nat) (m : MS) (wr : World) : Prop where
  rep : MacRep (fun _ => none) w0 bm v s fuel m wr
  inv : Inv s.size fuel 0 none m
/-- What is so at each round: a is the next place. -/
def AtPlace (R : List Rule) (p : Pat) (w0 : World) (bm : Nat) (v : Value) (s : ByteArray) (fuel : Nat) (anch : Bool) (want : Matched) (wr : World) (a : Nat) (m : MS) : Prop :=
  Mid R w0 bm v s fuel m wr ∧ (m.cut = false ∧ a ≤ s.size ∧ (a = 0 ∨ anch = false) ∧ want = tryL R p s fuel anch (s.size + 1 - a) a m.ticks m.said ∨ (s.size < a ∨ (a ≠ 0 ∧ anch = true) ∨ m.cut = true) ∧ want = (none, m.said, m.ticks, 0))
inductive MStep (w0 : World) (bm : Nat) (R : List Rule) (p : Pat) (v : Value) (s : ByteArray) (fuel : Nat) (anch : Bool) (want : Matched) (w : World) (a : Nat) : Ending → World → Prop
  | found (b : Nat) (m : MS) (w' : World) (h1 : MacRep (fun _ => none) w0 bm v s fuel m w') (h2 : want = (some (a, b, m.given), m.said, m.ticks, 0)) (h3 : m.given.length ≤ 100000) (h4 : b ≤ s.size) (k : Keep w w') :
      MStep w0 bm R p v s fuel anch want w a (.returned (.tuple #[.int .i64 b, .bool true, .int .i64 0])) w'
  | over (m : MS) (w' : World) (h1 : AtPlace R p w0 bm v s fuel anch want w' (a + 1) m) (k : Keep w w') :
      MStep w0 bm R p v s fuel anch want w a (.returned (.tuple #[.int .i64 0, .bool false, .int .i64 0])) w'
  | bad (e : Int) (he : e = 10 ∨ e = 7) (w' : World) (h1 : Grew w0 w') (h2 : want = (none, [], 0, e)) (k : Keep w w') :
      MStep w0 bm R p v s fuel anch want w a (.returned (.tuple #[.int .i64 0, .bool false, .int .i64 e])) w'
theorem place_next {w0 wr : World} {bm fuel a : Nat} {anch : Bool} {want : Matched} {m : MS} (hr : MacRep (fun _ => none) w0 bm v s fuel { m with given := [], choices := [⟨[⟨0, p, 0⟩], a, []⟩] } wr) (hi : Inv s.size fuel 0 none m) (hc : m.cut = false) (ha : a ≤ s.size) (hp : errW p = 0)
    (hw : want = tryL R p s fuel anch (s.size + 1 - a) a m.ticks m.said) (hs : s.size ≤ 65536) (hRA : RulesAt w0 v R) (hR2 : R.length ≤ 64) (hRe : ∀ r ∈ R, errW r.2 = 0) (hT : TabP w0) :
    Calls Tryd.prog 23 #[.pointer (some ⟨bm, 0, none⟩)] wr fun e w' => MStep w0 bm R p v s fuel anch want wr a e w' := by
  have hI : Inv s.size fuel 0 none { m with given := [], choices := [⟨[⟨0, p, 0⟩], a, []⟩] } := inv_begin (Or.inr trivial) hi.ticks hi.fuel hp ha hi.st hc
  have hM : MeansC R s (fuel - m.ticks) [⟨[⟨0, p, 0⟩], a, []⟩] (den R s (fuel + 1) p a []) := (begin_means fuel p a).mono R s (by omega)
  obtain ⟨c, o, hrun, hag⟩ := next_goes (m := { m with given := [], choices := [⟨[⟨0, p, 0⟩], a, []⟩] }) hM hc hi.ticks
  refine (next_any hr hI hrun hs (by omega) hRA hR2 hRe hT).mono fun e w' hn => ?_
  obtain ⟨k, hk⟩ : ∃ k, s.size + 1 - a = k + 1 := ⟨s.size - a, by omega⟩
  rw [hk, tryL] at hw
  have hag : Agree R s fuel (first fuel m.ticks m.said (den R s (fuel + 1) p a [])) o := hag
  cases hf : first fuel m.ticks m.said (den R s (fuel + 1) p a []) with
  | found b g t sd T' =>
    rw [hf] at hag hw
    obtain ⟨m', rfl, e1, e2, e3, e4, e5, e6⟩ := hag
    obtain ⟨rfl, n1, n2, n3, n4, n5⟩ := hn
    exact .found b m' w' n1 (by rw [hw, e1, e2, e3]) n5 n4 n2
  | over b t sd =>
    rw [hf] at hag hw
    obtain ⟨m', rfl, e1, e2, e3⟩ := hag
    obtain ⟨rfl, n1, n2, n3⟩ := hn
    refine .over m' w' ⟨⟨n1, n3⟩, ?_⟩ n2
    dsimp only at hw
    by_cases hb : b = true ∨ anch = true
    · rw [if_pos hb] at hw
      refine Or.inr ⟨?_, by rw [hw, e2, e3]⟩
      rcases hb with hb | hb
      · exact Or.inr (Or.inr (by rw [e1]; exact hb))
      · exact Or.inr (Or.inl ⟨by omega, hb⟩)
    · rw [if_neg hb] at hw
      have hb1 : b = false := by cases b <;> simp_all
      have hb2 : anch = false := by cases anch <;> simp_all
      by_cases hk0 : k = 0
      · subst hk0
        exact Or.inr ⟨Or.inl (by omega), by rw [hw, tryL, e2, e3]⟩
      · exact Or.inl ⟨by rw [e1]; exact hb1, by omega, Or.inr hb2, by rw [hw, e2, e3, show s.size + 1 - (a + 1) = k by omega]⟩
  | fuel =>
    rw [hf] at hag hw
    obtain rfl : o = .fuel := hag
    obtain ⟨rfl, n1, n2⟩ := hn
    exact .bad 10 (Or.inl rfl) w' n1 hw n2
  | name =>
    rw [hf] at hag hw
    obtain rfl : o = .name := hag
    obtain ⟨rfl, n1, n2⟩ := hn
    exact .bad 7 (Or.inr rfl) w' n1 hw n2
  | deep =>
    rw [hf] at hag
    exact absurd hag (by intro h; exact h)
end
end Go.Proofs.YtmkldfjcpmoajabDoor
