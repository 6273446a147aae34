/- A scope in which the run jumps back to a label; what lowers is a number of one's own. -/
import Derived.Test.YtmkldfjcpmoajabDoorBase
import Derived.WalkMore
import Derived.ScopeJumps
namespace Go.Proofs.YtmkldfjcpmoajabDoor
open Go.RowKit
set_option linter.unusedVariables false

theorem exists_least {p : Nat → Prop} (h : ∃ n, p n) : ∃ n, p n ∧ ∀ m, p m → n ≤ m := by
  obtain ⟨n, hn⟩ := h
  induction n using Nat.strongRecOn with
  | _ n ih =>
    by_cases e : ∃ m, m < n ∧ p m
    · obtain ⟨m, h1, h2⟩ := e
      exact ih m h1 h2
    · exact ⟨n, hn, fun m hm => by
        rcases Nat.lt_or_ge m n with h1 | h1
        · exact absurd ⟨m, h1, hm⟩ e
        · exact h1⟩
open Classical in
noncomputable def least (p : Nat → Prop) : Nat := if h : ∃ n, p n then Classical.choose (exists_least h) else 0
theorem least_at {p : Nat → Prop} (h : ∃ n, p n) : p (least p) := by
  unfold least; rw [dif_pos h]; exact (Classical.choose_spec (exists_least h)).1
theorem least_le {p : Nat → Prop} {n : Nat} (h : p n) : least p ≤ n := by
  unfold least; rw [dif_pos ⟨n, h⟩]; exact (Classical.choose_spec (exists_least ⟨n, h⟩)).2 n h
theorem jump_mono {l : Nat} {J K : Act → World → Prop} {Q : Exit → Act → World → Prop} (h : ∀ a w, J a w → K a w) : ∀ e a w, Exit.jump l J Q e a w → Exit.jump l K Q e a w := fun e a w hj => by
  cases e <;> first | exact hj | exact ⟨hj.1, h _ _ hj.2⟩
theorem wp_scope_ghost {P : Program} {a : Act} {w : World} {Q : Exit → Act → World → Prop} {c rest : Code} (l : Nat) (J : Nat → Act → World → Prop) (hf : findLabel c l = some rest)
    (first : ∀ Q', (∀ n a w, J n a w → rest.wp P Q' a w) → c.wp P Q' a w)
    (pass : ∀ n a w, J n a w → rest.wp P (Exit.jump l (fun a' w' => ∃ n', n' < n ∧ J n' a' w') Q) a w) : (Code.scope c).wp P Q a w := by
  refine wp_scope_jumps l (fun a w => ∃ n, J n a w) (fun a w => least fun n => J n a w) hf ?_ ?_
  · exact first _ (fun n a w h => Code.wp_mono (jump_mono fun a w ⟨n', _, h'⟩ => ⟨n', h'⟩) (pass n a w h))
  · intro a w h
    exact Code.wp_mono (jump_mono fun a' w' ⟨n', h1, h2⟩ => ⟨⟨n', h2⟩, Nat.lt_of_le_of_lt (least_le h2) h1⟩) (pass _ a w (least_at h))
theorem wp_scope_ghost_skip {P : Program} {a : Act} {w : World} {Q : Exit → Act → World → Prop} {c rest : Code} (l : Nat) (J : Nat → Act → World → Prop) (hf : findLabel c l = some (Code.skip.seq rest))
    (first : ∀ Q', (∀ n a w, J n a w → rest.wp P Q' a w) → c.wp P Q' a w)
    (pass : ∀ n a w, J n a w → rest.wp P (Exit.jump l (fun a' w' => ∃ n', n' < n ∧ J n' a' w') Q) a w) : (Code.scope c).wp P Q a w := by
  refine wp_scope_jumps l (fun a w => ∃ n, J n a w) (fun a w => least fun n => J n a w) hf ?_ ?_
  · exact first _ (fun n a w h => Code.wp_mono (jump_mono fun a w ⟨n', _, h'⟩ => ⟨n', h'⟩) (pass n a w h))
  · intro a w h
    refine wp_seq (wp_skip ?_)
    exact Code.wp_mono (jump_mono fun a' w' ⟨n', h1, h2⟩ => ⟨⟨n', h2⟩, Nat.lt_of_le_of_lt (least_le h2) h1⟩) (pass _ a w (least_at h))
end Go.Proofs.YtmkldfjcpmoajabDoor
