/- What the machine tells from call to call. Plain. -/
import Derived.Test.YtmkldfjcpmoajabDoorScAll
import Derived.Test.YtmkldfjcpmoajabDoorScRulesW
import Derived.Test.YtmkldfjcpmoajabDoorScInv
namespace Go.Proofs.YtmkldfjcpmoajabDoor
open Tr
set_option linter.unusedVariables false
section
variable {R : List Rule} {s : ByteArray} {fuel : Nat} {m : MS} {T : Tr}
theorem seq_naught_right : ∀ t : Tr, seq t naught = t
  | .stop .done => rfl
  | .stop .cut => rfl
  | .stop .deep => rfl
  | .stop .name => rfl
  | .tick t => by show tick (seq t naught) = _; rw [seq_naught_right t]
  | .say g t => by show say g (seq t naught) = _; rw [seq_naught_right t]
  | .way a g t => by show way a g (seq t naught) = _; rw [seq_naught_right t]
theorem begin_means (r : Nat) (p : Pat) (a : Nat) : MeansC R s r [⟨[⟨0, p, 0⟩], a, []⟩] (den R s (r + 1) p a []) := by
  refine ⟨fun a g => bind (den R s (r + 1) p a g) one, naught, ⟨r + 1, one, Nat.lt_succ_self r, fun q _ => rfl, rfl⟩, rfl, ?_⟩
  dsimp only
  rw [bind_one, seq_naught_right]
theorem next_goes (hM : MeansC R s (fuel - m.ticks) m.choices T) (hc : m.cut = false) (ht : m.ticks ≤ fuel) : ∃ c o, runs R s fuel c none m = some o ∧ Agree R s fuel (first fuel m.ticks m.said T) o :=
  goes R s (fuel - m.ticks) _ none m T (Nat.le_refl _) (TellsX.of R s hc hM) (by omega)

/-- One way and what is told behind it. -/
def more (x : Way) : List Way × Bool × Int → List Way × Bool × Int
  | (l, c, e) => if e = 0 then (x :: l, c, 0) else ([], false, e)
def tellO (k : Nat) : Obs → List Way × Bool × Int
  | .found a g t _ T => more (a, g) (tell fuel k t T)
  | .over b _ _ => ([], b, 0)
  | .fuel => ([], false, 10)
  | .name => ([], false, 7)
  | .deep => ([], false, 99)
theorem tell_first (k : Nat) : ∀ (T : Tr) (t : Nat) (sd : List Gift), tell fuel (k + 1) t T = tellO (fuel := fuel) k (first fuel t sd T)
  | .stop .done, t, sd => rfl
  | .stop .cut, t, sd => rfl
  | .stop .deep, t, sd => rfl
  | .stop .name, t, sd => rfl
  | .tick T, t, sd => by
    rw [tell, first]
    by_cases h : t = fuel
    · rw [if_pos h, if_pos h]; rfl
    · rw [if_neg h, if_neg h]; exact tell_first k T (t + 1) sd
  | .say g T, t, sd => by rw [tell, first]; exact tell_first k T t _
  | .way a g T, t, sd => rfl

/-- Ways told before, and what is told behind them. -/
def after (d : List Way) : List Way × Bool × Int → List Way × Bool × Int
  | (l, c, e) => if e = 0 then (d ++ l, c, 0) else ([], false, e)
theorem after_more (d : List Way) (x : Way) (r : List Way × Bool × Int) : after d (more x r) = after (d ++ [x]) r := by
  obtain ⟨l, c, e⟩ := r
  unfold more after
  by_cases h : e = 0
  · subst h; simp
  · simp [h]
/-- scan.Ways. -/
def waysOf (R : List Rule) (p : Pat) (s : ByteArray) (a most fuel : Int) : List Way × Bool × Int :=
  if askErr R p s fuel = 0 then (if a < 0 ∨ (s.size : Int) < a ∨ most < 0 ∨ 4096 < most then ([], false, 3) else tell fuel.toNat most.toNat 0 (den R s (fuel.toNat + 1) p a.toNat [])) else ([], false, askErr R p s fuel)
theorem rulesL_all : ∀ (l o : List Rule), rulesL o l = 0 → ∀ r ∈ l, patErr r.2 = 0
  | [], o, h, r, hr => by cases hr
  | x :: l, o, h, r, hr => by
    rw [rulesL] at h
    split at h
    · cases h
    split at h
    · rename_i h2
      rcases List.mem_cons.1 hr with rfl | hr
      · exact h2
      · exact rulesL_all l _ h r hr
    · rename_i h2; exact absurd h h2
theorem patErr_none {p : Pat} (h : patErr p = 0) : errW p = 0 := by
  unfold patErr at h
  split at h
  · exact h
  · cases h
theorem ask_none {R : List Rule} {p : Pat} {s : ByteArray} {fuel : Int} (h : askErr R p s fuel = 0) : errW p = 0 ∧ R.length ≤ 64 ∧ (∀ r ∈ R, errW r.2 = 0) ∧ s.size ≤ 65536 ∧ 0 ≤ fuel ∧ fuel ≤ 100000 := by
  unfold askErr at h
  by_cases h1 : patErr p = 0
  · rw [if_pos h1] at h
    by_cases h2 : rulesErr R = 0
    · rw [if_pos h2] at h
      by_cases h3 : 65536 < s.size
      · rw [if_pos h3] at h; cases h
      · rw [if_neg h3] at h
        by_cases h4 : fuel < 0 ∨ 100000 < fuel
        · rw [if_pos h4] at h; cases h
        · unfold rulesErr at h2
          by_cases h5 : 64 < R.length
          · rw [if_pos h5] at h2; cases h2
          · rw [if_neg h5] at h2
            exact ⟨patErr_none h1, by omega, fun r hr => patErr_none (rulesL_all R [] h2 r hr), by omega, by omega, by omega⟩
    · rw [if_neg h2] at h; exact absurd h h2
  · rw [if_neg h1] at h; exact absurd h h1
end
end Go.Proofs.YtmkldfjcpmoajabDoor
