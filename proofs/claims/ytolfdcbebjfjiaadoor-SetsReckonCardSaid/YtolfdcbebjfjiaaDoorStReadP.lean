/- What is read of a text, in plain words. No program. No condition. -/
import Derived.Test.YtolfdcbebjfjiaaDoorStPrintP
namespace Go.Proofs.YtolfdcbebjfjiaaDoor
set_option linter.unusedVariables false
/-- One byte that is written at a place; and where the next one is, or where it can't go on. -/
def oneR (B : Nat → Nat) (n a : Nat) : Option Nat × Nat :=
  if n ≤ a then (none, n) else if plainB (B a) then (some (B a), a + 1) else if B a ≠ 92 then (none, a)
  else if n ≤ a + 1 then (none, n) else if digV (B (a + 1)) < 0 then (none, a + 1)
  else if n ≤ a + 2 then (none, n) else if digV (B (a + 2)) < 0 then (none, a + 2)
  else (some (16 * (digV (B (a + 1))).toNat + (digV (B (a + 2))).toNat), a + 3)
theorem digV_lt (b : Nat) : digV b < 16 := by unfold digV; split <;> (try split) <;> omega
theorem plain_lt {b : Nat} (h : plainB b = true) : b < 127 := by
  unfold plainB at h
  simp at h
  omega
theorem oneR_some {B : Nat → Nat} {n a c p : Nat} (h : oneR B n a = (some c, p)) : c < 256 ∧ a < p ∧ p ≤ n := by
  unfold oneR at h
  split at h
  · cases h
  · split at h
    · next h1 h2 => simp at h; have := plain_lt h2; omega
    · split at h
      · cases h
      · split at h
        · cases h
        · split at h
          · cases h
          · split at h
            · cases h
            · split at h
              · cases h
              · next h1 h2 h3 h4 h5 h6 h7 =>
                simp at h
                have d1 := digV_lt (B (a + 1))
                have d2 := digV_lt (B (a + 2))
                omega
theorem oneR_none {B : Nat → Nat} {n a p : Nat} (ha : a ≤ n) (h : oneR B n a = (none, p)) : p ≤ n := by
  unfold oneR at h
  split at h
  · cases h; exact Nat.le_refl _
  · split at h
    · cases h
    · split at h
      · cases h; omega
      · split at h
        · cases h; omega
        · split at h
          · cases h; omega
          · split at h
            · cases h; omega
            · split at h
              · cases h; omega
              · cases h
/-- A run of bytes more. -/
def rng (f : Nat → Bool) (a b : Nat) : Nat → Bool := fun c => f c || (decide (a ≤ c) && decide (c ≤ b))
/-- What the loop comes to: the fault and its place, or the set. -/
def loopR (B : Nat → Nat) (n : Nat) : Nat → Nat → (Nat → Bool) → Nat × Nat × (Nat → Bool)
  | 0, _, f => (0, 0, f)
  | k + 1, a, f =>
    if n ≤ a then (0, 0, f) else
    match oneR B n a with
    | (none, p) => (2, p, emptyS)
    | (some x, p) =>
      if p < n ∧ B p = 45 then
        match oneR B n (p + 1) with
        | (none, p2) => (2, p2, emptyS)
        | (some y, p2) => if y < x then (3, p + 1, emptyS) else loopR B n k p2 (rng f x y)
      else loopR B n k p (rng f x x)
def byteAt (t : ByteArray) (i : Nat) : Nat := (t.data.toList.getD i 0).toNat
def notR (t : ByteArray) : Bool := decide (0 < t.size) && decide (byteAt t 0 = 94)
/-- Read of a text: the fault and its place, and the set. -/
def readR (t : ByteArray) : Nat × Nat × (Nat → Bool) :=
  if 65536 < t.size then (4, 0, emptyS) else
  let r := loopR (byteAt t) t.size t.size (notR t).toNat emptyS
  if r.1 = 0 then (0, 0, fun c => r.2.2 c != notR t) else r
theorem loopR_fault {B : Nat → Nat} {n : Nat} : ∀ (k a : Nat) (f : Nat → Bool), a ≤ n → (loopR B n k a f).2.1 ≤ n ∧ ((loopR B n k a f).1 ≠ 0 → (loopR B n k a f).2.2 = emptyS) ∧ ((loopR B n k a f).1 = 0 → (loopR B n k a f).2.1 = 0)
  | 0, a, f, ha => ⟨Nat.zero_le _, fun h => absurd rfl h, fun _ => rfl⟩
  | k + 1, a, f, ha => by
    rw [loopR]
    split
    · exact ⟨Nat.zero_le _, fun h => absurd rfl h, fun _ => rfl⟩
    · split
      · next p h => exact ⟨oneR_none ha h, fun _ => rfl, fun h => by simp at h⟩
      · next x p h =>
        obtain ⟨_, _, hp⟩ := oneR_some h
        split
        · next h2 =>
          split
          · next p2 h3 => exact ⟨oneR_none (by omega) h3, fun _ => rfl, fun h => by simp at h⟩
          · next y p2 h3 =>
            obtain ⟨_, _, hp2⟩ := oneR_some h3
            split
            · exact ⟨by show p + 1 ≤ n; omega, fun _ => rfl, fun h => by simp at h⟩
            · exact loopR_fault k p2 _ hp2
        · exact loopR_fault k p _ hp
/-! What is written is read. -/
theorem oneR_spell {B : Nat → Nat} {n a b : Nat} (hb : b < 256) (hn : a + (spellL b).length ≤ n) (hB : ∀ i (h : i < (spellL b).length), B (a + i) = (spellL b)[i]) : oneR B n a = (some b, a + (spellL b).length) := by
  unfold spellL at hn hB ⊢
  by_cases hp : plainB b = true
  · simp only [hp, if_true, List.length_cons, List.length_nil] at hn hB ⊢
    have h0 := hB 0 (by omega)
    simp only [Nat.add_zero, List.getElem_cons_zero] at h0
    unfold oneR
    rw [if_neg (by omega), h0, if_pos hp]
  · simp only [hp, if_false, Bool.false_eq_true, List.length_cons, List.length_nil] at hn hB ⊢
    have h0 := hB 0 (by omega)
    have h1 := hB 1 (by omega)
    have h2 := hB 2 (by omega)
    simp only [Nat.add_zero, List.getElem_cons_zero, List.getElem_cons_succ] at h0 h1 h2
    have d1 := digV_hex ⟨b / 16, by omega⟩
    have d2 := digV_hex ⟨b % 16, by omega⟩
    simp only at d1 d2
    unfold oneR
    rw [if_neg (by omega), h0, if_neg (by decide), if_neg (by omega), if_neg (by omega), h1, d1, if_neg (by omega), if_neg (by omega), h2, d2, if_neg (by omega)]
    simp only [Int.toNat_natCast]
    rw [show 16 * (b / 16) + b % 16 = b by omega]
end Go.Proofs.YtolfdcbebjfjiaaDoor
