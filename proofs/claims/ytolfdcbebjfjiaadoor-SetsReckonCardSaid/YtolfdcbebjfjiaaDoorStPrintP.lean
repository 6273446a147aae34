/- What is printed of a set, in plain words; what is read of a text. No program. No condition. -/
import Derived.Test.YtolfdcbebjfjiaaDoorStSpell
import Derived.Test.YtolfdcbebjfjiaaDoorStOf
namespace Go.Proofs.YtolfdcbebjfjiaaDoor
set_option linter.unusedVariables false
/-- The last one of the run that begins at b. -/
def lastF (f : Nat → Bool) : Nat → Nat → Nat
  | 0, b => b
  | n + 1, b => if f (b + 1) then lastF f n (b + 1) else b
def last (f : Nat → Bool) (b : Nat) : Nat := lastF f (255 - b) b
theorem lastF_le (f : Nat → Bool) : ∀ n b, b ≤ lastF f n b ∧ lastF f n b ≤ b + n
  | 0, b => ⟨Nat.le_refl _, Nat.le_refl _⟩
  | n + 1, b => by
    have := lastF_le f n (b + 1)
    rw [lastF]; split <;> omega
theorem last_ge (f : Nat → Bool) (b : Nat) : b ≤ last f b := (lastF_le f _ b).1
theorem last_le (f : Nat → Bool) (b : Nat) (hb : b ≤ 255) : last f b ≤ 255 := by have := (lastF_le f (255 - b) b).2; unfold last; omega
theorem last_step {f : Nat → Bool} {b : Nat} (hb : b < 255) (h : f (b + 1) = true) : last f b = last f (b + 1) := by
  unfold last
  rw [show 255 - b = (255 - (b + 1)) + 1 by omega, lastF, if_pos h]
theorem last_stop {f : Nat → Bool} {b : Nat} (hb : b < 255) (h : f (b + 1) = false) : last f b = b := by
  unfold last
  rw [show 255 - b = (255 - (b + 1)) + 1 by omega, lastF, if_neg (by simp [h])]
theorem last_top (f : Nat → Bool) : last f 255 = 255 := rfl
theorem lastF_all (f : Nat → Bool) : ∀ n b j, b < j → j ≤ lastF f n b → f j = true
  | 0, b, j, h1, h2 => by simp only [lastF] at h2; omega
  | n + 1, b, j, h1, h2 => by
    rw [lastF] at h2
    split at h2
    · next h =>
      by_cases e : j = b + 1
      · subst e; exact h
      · exact lastF_all f n (b + 1) j (by omega) h2
    · omega
theorem last_all {f : Nat → Bool} {b j : Nat} (h0 : f b = true) (h1 : b ≤ j) (h2 : j ≤ last f b) : f j = true := by
  by_cases e : j = b
  · subst e; exact h0
  · exact lastF_all f _ b j (by omega) h2
theorem lastF_next (f : Nat → Bool) : ∀ n b, lastF f n b < b + n → f (lastF f n b + 1) = false
  | 0, b, h => by simp only [lastF] at h; omega
  | n + 1, b, h => by
    rw [lastF] at h ⊢
    by_cases e : f (b + 1) = true
    · rw [if_pos e] at h ⊢
      exact lastF_next f n (b + 1) (by omega)
    · rw [if_neg e] at h ⊢; simpa using e
theorem last_next {f : Nat → Bool} {b : Nat} (hb : b ≤ 255) (h : last f b < 255) : f (last f b + 1) = false := lastF_next f _ b (by unfold last at h; omega)
def segL (b l : Nat) : List Nat := spellL b ++ ((if b + 1 < l then [45] else []) ++ (if b < l then spellL l else []))
/-- What is written from b on. -/
def prF (f : Nat → Bool) : Nat → Nat → List Nat
  | 0, _ => []
  | n + 1, b => if b < 256 then if f b then segL b (last f b) ++ prF f n (last f b + 1) else prF f n (b + 1) else []
theorem prF_end (f : Nat → Bool) : ∀ n b, 256 ≤ b → prF f n b = []
  | 0, b, h => rfl
  | n + 1, b, h => by rw [prF, if_neg (by omega)]
theorem prF_fuel (f : Nat → Bool) : ∀ n m b, 256 - b ≤ n → 256 - b ≤ m → prF f n b = prF f m b
  | 0, m, b, h1, h2 => by rw [prF_end f 0 b (by omega), prF_end f m b (by omega)]
  | n + 1, 0, b, h1, h2 => by rw [prF_end f 0 b (by omega), prF_end f (n + 1) b (by omega)]
  | n + 1, m + 1, b, h1, h2 => by
    have hl := last_ge f b
    rw [prF, prF]
    rw [prF_fuel f n m (last f b + 1) (by omega) (by omega), prF_fuel f n m (b + 1) (by omega) (by omega)]
def pr (f : Nat → Bool) (b : Nat) : List Nat := prF f 256 b
theorem pr_end (f : Nat → Bool) (b : Nat) (h : 256 ≤ b) : pr f b = [] := prF_end f _ b h
theorem pr_in {f : Nat → Bool} {b : Nat} (hb : b < 256) (h : f b = true) : pr f b = segL b (last f b) ++ pr f (last f b + 1) := by
  have hl := last_ge f b
  unfold pr
  rw [prF, if_pos hb, if_pos h, prF_fuel f 255 256 (last f b + 1) (by omega) (by omega)]
theorem pr_out {f : Nat → Bool} {b : Nat} (hb : b < 256) (h : f b = false) : pr f b = pr f (b + 1) := by
  unfold pr
  rw [prF, if_pos hb, if_neg (by simp [h]), prF_fuel f 255 256 (b + 1) (by omega) (by omega)]
theorem spellL_length (b : Nat) : (spellL b).length ≤ 3 := by unfold spellL; split <;> simp
theorem segL_length (b l : Nat) : (segL b l).length ≤ 7 := by
  have h1 := spellL_length b
  have h2 := spellL_length l
  unfold segL
  simp only [List.length_append]
  split <;> split <;> simp <;> omega
theorem prF_length (f : Nat → Bool) : ∀ n b, (prF f n b).length ≤ 7 * n
  | 0, b => by simp [prF]
  | n + 1, b => by
    have h1 := prF_length f n (last f b + 1)
    have h2 := prF_length f n (b + 1)
    have h3 := segL_length b (last f b)
    rw [prF]
    split
    · split
      · rw [List.length_append]; omega
      · omega
    · simp
theorem pr_length (f : Nat → Bool) (b : Nat) : (pr f b).length ≤ 1792 := prF_length f 256 b
theorem spellL_lt {b x : Nat} (hb : b < 256) (h : x ∈ spellL b) : x < 256 := by
  have h1 := hexd_lt (b / 16) (by omega)
  have h2 := hexd_lt (b % 16) (by omega)
  unfold spellL at h
  split at h
  · simp at h; omega
  · simp at h; omega
theorem prF_lt {f : Nat → Bool} : ∀ n b x, x ∈ prF f n b → x < 256
  | 0, b, x, h => by simp [prF] at h
  | n + 1, b, x, h => by
    rw [prF] at h
    split at h
    · next hb =>
      split at h
      · rcases List.mem_append.1 h with h | h
        · unfold segL at h
          have hl := last_le f b (by omega)
          simp only [List.mem_append] at h
          rcases h with h | h | h
          · exact spellL_lt hb h
          · split at h <;> simp at h; omega
          · split at h
            · exact spellL_lt (by omega) h
            · simp at h
        · exact prF_lt n _ x h
      · exact prF_lt n _ x h
    · simp at h
end Go.Proofs.YtolfdcbebjfjiaaDoor
