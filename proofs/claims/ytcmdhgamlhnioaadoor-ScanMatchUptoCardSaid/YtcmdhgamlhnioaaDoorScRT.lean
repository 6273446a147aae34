/- The document's search tells what the form tells: its ways, its first one. Plain. -/
import Derived.Test.YtcmdhgamlhnioaaDoorScRK
import Derived.Test.YtcmdhgamlhnioaaDoorScMatch
namespace Go.Proofs.YtcmdhgamlhnioaaDoor
open Tr
set_option linter.unusedVariables false
section
variable {fuel : Nat}
/-- All ways, so many at most. -/
def Kw (most : Nat) : Cont (List Way) := fun a g s => (if most ≤ s.ways + 1 then 1 else 0, { s with out := s.out ++ [(a, g)], ways := s.ways + 1 })
def ansW (r : Nat × LS (List Way)) : List Way × Bool × Int := if r.1 = 3 then ([], false, r.2.err) else if r.1 = 4 then ([], false, 99) else (r.2.out, r.1 == 2, 0)
theorem runK_tell {most : Nat} : ∀ (T : Tr) (m : Nat) (s : LS (List Way)), s.ways + (m + 1) = most → s.ticks ≤ fuel → ansW (runK fuel T (Kw most) s) = after s.out (tell fuel (m + 1) s.ticks T)
  | .stop k, m, s, hm, ht => by
    cases k
    · simp [runK, ansW, tell, after]
    · simp [runK, ansW, tell, after]
    · simp [runK, ansW, tell, after]
    · simp [runK, ansW, tell, after]
  | .tick t, m, s, hm, ht => by
    rw [runK, tell]
    by_cases h : s.ticks = fuel
    · rw [if_neg (by omega), if_pos h]; simp [ansW, after]
    · rw [if_pos (by omega), if_neg h]; exact runK_tell t m { s with ticks := s.ticks + 1 } hm (by simp only []; omega)
  | .say g t, m, s, hm, ht => by rw [runK, tell]; exact runK_tell t m { s with said := s.said ++ [g] } hm ht
  | .way a g t, m, s, hm, ht => by
    rw [runK_way]
    unfold Kw
    by_cases h : most ≤ s.ways + 1
    · obtain rfl : m = 0 := by omega
      rw [if_pos h, thenK_yes (by simp)]
      simp [ansW, tell, after]
    · obtain ⟨m, rfl⟩ : ∃ k, m = k + 1 := ⟨m - 1, by omega⟩
      rw [if_neg h, thenK_no rfl]
      simp only []
      have ih := runK_tell (most := most) t m { s with out := s.out ++ [(a, g)], ways := s.ways + 1 } (by simp only []; omega) ht
      unfold Kw at ih
      rw [ih]
      show after (s.out ++ [(a, g)]) (tell fuel (m + 1) s.ticks t) = after s.out (more (a, g) (tell fuel (m + 1) s.ticks t))
      rw [after_more]
/-- The first one. -/
def Km (a : Nat) : Cont (Option (Nat × Nat × List Gift)) := fun e g s => (1, { s with out := some (a, e, g), ways := s.ways + 1 })
theorem runK_first (a : Nat) : ∀ (T : Tr) (s : LS (Option (Nat × Nat × List Gift))), s.ticks ≤ fuel → (match first fuel s.ticks s.said T with
    | .found b g t sd _ => runK fuel T (Km a) s = (1, ⟨t, sd, s.err, some (a, b, g), s.ways + 1⟩)
    | .over c t sd => runK fuel T (Km a) s = (if c = true then 2 else 0, ⟨t, sd, s.err, s.out, s.ways⟩)
    | .fuel => (runK fuel T (Km a) s).1 = 3 ∧ (runK fuel T (Km a) s).2.err = 10
    | .name => (runK fuel T (Km a) s).1 = 3 ∧ (runK fuel T (Km a) s).2.err = 7
    | .deep => (runK fuel T (Km a) s).1 = 4)
  | .stop k, s, ht => by
    cases k
    · simp [first, runK]
    · simp [first, runK]
    · simp [first, runK]
    · simp [first, runK]
  | .tick t, s, ht => by
    rw [first]
    by_cases h : s.ticks = fuel
    · rw [if_pos h, runK, if_neg (by omega)]
      exact ⟨rfl, rfl⟩
    · rw [if_neg h, runK, if_pos (by omega)]
      exact runK_first a t { s with ticks := s.ticks + 1 } (by simp only []; omega)
  | .say g t, s, ht => by
    rw [first, runK]
    exact runK_first a t { s with said := s.said ++ [g] } ht
  | .way b g t, s, ht => by
    rw [first, runK_way]
    exact thenK_yes (by simp [Km])
theorem runK_late {γ : Type} {K : Cont γ} (hK : ∀ a g s, s.ticks ≤ fuel → (K a g s).1 ≠ 4 ∧ s.ticks ≤ (K a g s).2.ticks ∧ (K a g s).2.ticks ≤ fuel) : ∀ (T : Tr) (n : Nat) (s : LS γ), late n T → fuel < s.ticks + n → s.ticks ≤ fuel → (runK fuel T K s).1 ≠ 4
  | .stop k, n, s, h, h1, h2 => by
    cases k
    · simp [runK]
    · simp [runK]
    · have := h rfl; omega
    · simp [runK]
  | .tick t, n, s, h, h1, h2 => by
    rw [runK]
    split
    · next hf => exact runK_late hK t (n - 1) { s with ticks := s.ticks + 1 } h (by simp only []; omega) hf
    · simp
  | .say g t, n, s, h, h1, h2 => by rw [runK]; exact runK_late hK t n { s with said := s.said ++ [g] } h h1 h2
  | .way a g t, n, s, h, h1, h2 => by
    rw [runK_way]
    obtain ⟨k1, k2, k3⟩ := hK a g s h2
    unfold thenK
    split
    · exact runK_late hK t n _ h (by omega) k3
    · exact k1
theorem Kw_okay (most : Nat) {L lo d a0 V : Nat} (hV : most ≤ V + 1) : KOk L fuel V lo d a0 (Kw most) := fun a g s _ _ _ h hw _ =>
  ⟨Nat.le_refl _, h, Nat.le_succ _, fun h0 => by
    by_cases k : most ≤ s.ways + 1
    · simp [Kw, k] at h0
    · show s.ways + 1 ≤ V; omega, by show s.said.length + 300000 * (s.ticks + s.ways) ≤ s.said.length + d + 300000 * (s.ticks + (s.ways + 1)); omega, fun _ _ => by show s.said.length + 300000 * (s.ticks + s.ways) + 200000 ≤ s.said.length + d + 300000 * (s.ticks + (s.ways + 1)); omega⟩
theorem Km_okay (a : Nat) {L lo d a0 V : Nat} : KOk L fuel V lo d a0 (Km a) := fun e g s _ _ _ h hw _ =>
  ⟨Nat.le_refl _, h, Nat.le_succ _, fun h0 => by simp [Km] at h0, by show s.said.length + 300000 * (s.ticks + s.ways) ≤ s.said.length + d + 300000 * (s.ticks + (s.ways + 1)); omega, fun _ _ => by show s.said.length + 300000 * (s.ticks + s.ways) + 200000 ≤ s.said.length + d + 300000 * (s.ticks + (s.ways + 1)); omega⟩
end
end Go.Proofs.YtcmdhgamlhnioaaDoor
