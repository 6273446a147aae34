/- Words of 32 bits: the digits of a number, sums, what is taken away, products, lengths. Plain. -/
namespace Go.Proofs.YthhcpocgfmlbeaaDoor
set_option linter.unusedVariables false
/-- 2 ^ 32. -/
abbrev B32 : Nat := 4294967296
theorem b32_pos (n : Nat) : 0 < B32 ^ n := Nat.pow_pos (by decide)
/-- Word j of a number. -/
def dg (A j : Nat) : Nat := A / B32 ^ j % B32
theorem dg_lt (A j : Nat) : dg A j < 4294967296 := Nat.mod_lt _ (by decide)
theorem dg_high {A n j : Nat} (h : A < B32 ^ n) (hj : n ≤ j) : dg A j = 0 := by
  unfold dg
  rw [Nat.div_eq_of_lt (Nat.lt_of_lt_of_le h (Nat.pow_le_pow_right (by decide) hj))]
  exact Nat.zero_mod _
/-- The number of some words. -/
def vs (f : Nat → Nat) : Nat → Nat
  | 0 => 0
  | n + 1 => vs f n + f n * B32 ^ n
theorem vs_lt {f : Nat → Nat} : ∀ {n : Nat}, (∀ j, j < n → f j < B32) → vs f n < B32 ^ n
  | 0, _ => by simp [vs]
  | n + 1, h => by
    rw [vs, Nat.pow_succ]
    have h1 := vs_lt (n := n) fun j hj => h j (by omega)
    have h2 : f n + 1 ≤ B32 := h n (by omega)
    have h3 : (f n + 1) * B32 ^ n ≤ B32 * B32 ^ n := Nat.mul_le_mul_right _ h2
    rw [Nat.add_mul, Nat.one_mul, Nat.mul_comm B32] at h3
    omega
theorem vs_congr {f g : Nat → Nat} : ∀ {n : Nat}, (∀ j, j < n → f j = g j) → vs f n = vs g n
  | 0, _ => rfl
  | n + 1, h => by rw [vs, vs, vs_congr (fun j hj => h j (by omega)), h n (by omega)]
theorem vs_dg (A : Nat) : ∀ n, vs (dg A) n = A % B32 ^ n
  | 0 => by simp [vs, Nat.mod_one]
  | n + 1 => by
    rw [vs, vs_dg A n, Nat.pow_succ, Nat.mod_mul, Nat.mul_comm]; rfl
theorem vs_dg' {A n : Nat} (h : A < B32 ^ n) : vs (dg A) n = A := by rw [vs_dg, Nat.mod_eq_of_lt h]
theorem dg_vs {f : Nat → Nat} : ∀ {n j : Nat}, (∀ j, j < n → f j < B32) → j < n → dg (vs f n) j = f j
  | 0, j, _, hj => by omega
  | n + 1, j, h, hj => by
    have h1 := vs_lt (n := n) fun j hj => h j (by omega)
    rw [vs]
    by_cases e : j = n
    · subst e
      unfold dg
      rw [Nat.add_mul_div_right _ _ (b32_pos _), Nat.div_eq_of_lt h1, Nat.zero_add, Nat.mod_eq_of_lt (h j (by omega))]
    · have ih := dg_vs (n := n) (j := j) (fun j hj => h j (by omega)) (by omega)
      rw [← ih]
      unfold dg
      obtain ⟨k, rfl⟩ : ∃ k, n = j + (k + 1) := ⟨n - j - 1, by omega⟩
      rw [show f (j + (k + 1)) * B32 ^ (j + (k + 1)) = f (j + (k + 1)) * B32 ^ k * B32 * B32 ^ j by rw [Nat.pow_add, Nat.pow_succ, Nat.mul_assoc, Nat.mul_assoc, Nat.mul_comm (B32 ^ j), Nat.mul_assoc], Nat.add_mul_div_right _ _ (b32_pos _), Nat.add_mul_mod_self_right]
/-- How many words a number has. -/
def nw (A : Nat) : Nat := if h : A = 0 then 0 else nw (A / B32) + 1
termination_by A
decreasing_by exact Nat.div_lt_self (by omega) (by decide)
theorem nw_zero : nw 0 = 0 := by rw [nw]; rfl
theorem nw_pos {A : Nat} (h : A ≠ 0) : nw A = nw (A / B32) + 1 := by rw [nw]; simp [h]
theorem nw_lt (A : Nat) : A < B32 ^ nw A := by
  induction A using Nat.strongRecOn with
  | _ A ih =>
    by_cases h : A = 0
    · subst h; rw [nw_zero]; decide
    · have := ih (A / B32) (Nat.div_lt_self (by omega) (by decide))
      rw [nw_pos h, Nat.pow_succ]
      exact (Nat.div_lt_iff_lt_mul (by decide)).1 this
theorem nw_ge : ∀ {n A : Nat}, B32 ^ n ≤ A → n + 1 ≤ nw A
  | 0, A, h => by
    have h : A ≠ 0 := by simp at h; omega
    rw [nw_pos h]; omega
  | n + 1, A, h => by
    have h0 : A ≠ 0 := by have := b32_pos (n + 1); omega
    rw [nw_pos h0]
    have : n + 1 ≤ nw (A / B32) := nw_ge ((Nat.le_div_iff_mul_le (by decide)).2 (by rw [Nat.pow_succ] at h; exact h))
    omega
theorem nw_le {A n : Nat} (h : A < B32 ^ n) : nw A ≤ n := by
  by_cases e : nw A ≤ n
  · exact e
  · exfalso
    have h0 : A ≠ 0 := by rintro rfl; rw [nw_zero] at e; omega
    have : ∀ (k A : Nat), A ≠ 0 → nw A = k + 1 → B32 ^ k ≤ A := by
      intro k
      induction k with
      | zero => intro A h0 _; simp; omega
      | succ k ih =>
        intro A h0 hk
        rw [nw_pos h0] at hk
        have hd : A / B32 ≠ 0 := by rintro e; rw [e, nw_zero] at hk; omega
        have := ih (A / B32) hd (by omega)
        rw [Nat.pow_succ]
        exact (Nat.le_div_iff_mul_le (by decide)).1 this
    have h2 := this (nw A - 1) A h0 (by omega)
    have h3 : B32 ^ n ≤ B32 ^ (nw A - 1) := Nat.pow_le_pow_right (by decide) (by omega)
    omega
theorem nw_low {A : Nat} (h : A ≠ 0) : B32 ^ (nw A - 1) ≤ A := by
  rcases Nat.lt_or_ge A (B32 ^ (nw A - 1)) with hl | hl
  · have := nw_le hl
    have : nw A ≠ 0 := by rw [nw_pos h]; omega
    omega
  · exact hl
theorem nw_top {A n : Nat} (h : A < B32 ^ (n + 1)) (hd : dg A n ≠ 0) : nw A = n + 1 := by
  have h1 := nw_le h
  have h2 : B32 ^ n ≤ A := by
    rcases Nat.lt_or_ge A (B32 ^ n) with hl | hl
    · exact absurd (dg_high hl (Nat.le_refl _)) hd
    · exact hl
  have := nw_ge h2
  omega
theorem lt_top {A n : Nat} (h : A < B32 ^ (n + 1)) (hd : dg A n = 0) : A < B32 ^ n := by
  unfold dg at hd
  have h1 : A / B32 ^ n < B32 := (Nat.div_lt_iff_lt_mul (b32_pos n)).2 (by rw [Nat.mul_comm, ← Nat.pow_succ]; exact h)
  rw [Nat.mod_eq_of_lt h1] at hd
  rcases Nat.div_eq_zero_iff.1 hd with h2 | h2
  · have := b32_pos n; omega
  · exact h2
theorem top_ne {A : Nat} (h : A ≠ 0) : dg A (nw A - 1) ≠ 0 := by
  intro e
  have h1 : nw A ≠ 0 := by rw [nw_pos h]; omega
  have := lt_top (n := nw A - 1) (by rw [show nw A - 1 + 1 = nw A by omega]; exact nw_lt A) e
  have := nw_low h
  omega
theorem nw_mono {A C : Nat} (h : A ≤ C) : nw A ≤ nw C := nw_le (Nat.lt_of_le_of_lt h (nw_lt C))
theorem lt_of_nw {A C : Nat} (h : nw A < nw C) : A < C := by
  rcases Nat.lt_or_ge A C with k | k
  · exact k
  · have := nw_mono k; omega
/-! Sums. -/
def cA (a b : Nat → Nat) : Nat → Nat
  | 0 => 0
  | i + 1 => (cA a b i + a i + b i) / B32
def rA (a b : Nat → Nat) (i : Nat) : Nat := (cA a b i + a i + b i) % B32
theorem rA_lt (a b : Nat → Nat) (i : Nat) : rA a b i < B32 := Nat.mod_lt _ (by decide)
theorem cA_le {a b : Nat → Nat} (ha : ∀ j, a j < B32) (hb : ∀ j, b j < B32) : ∀ i, cA a b i ≤ 1
  | 0 => by simp [cA]
  | i + 1 => by
    rw [cA]
    have := cA_le ha hb i
    have := ha i
    have := hb i
    exact Nat.le_of_lt_succ ((Nat.div_lt_iff_lt_mul (by decide)).2 (by omega))
theorem step_mul {r q s P : Nat} (h : r + B32 * q = s) : r * P + q * (P * B32) = s * P := by
  rw [← h, Nat.add_mul, Nat.mul_comm P B32, ← Nat.mul_assoc, Nat.mul_comm q B32]
theorem sum_words (a b : Nat → Nat) : ∀ n, vs (rA a b) n + cA a b n * B32 ^ n = vs a n + vs b n
  | 0 => by simp [vs, cA]
  | n + 1 => by
    have ih := sum_words a b n
    have h := step_mul (P := B32 ^ n) (Nat.mod_add_div (cA a b n + a n + b n) B32)
    rw [Nat.add_mul, Nat.add_mul] at h
    rw [vs, vs, vs, cA, Nat.pow_succ]
    unfold rA
    unfold rA at ih
    omega
theorem sum_dg {A C n : Nat} (hA : A < B32 ^ n) (hC : C < B32 ^ n) : (∀ j, j < n → dg (A + C) j = rA (dg A) (dg C) j) ∧ dg (A + C) n = cA (dg A) (dg C) n ∧ A + C < B32 ^ (n + 1) := by
  have h := sum_words (dg A) (dg C) n
  rw [vs_dg' hA, vs_dg' hC] at h
  have hc := cA_le (fun j => dg_lt A j) (fun j => dg_lt C j) n
  let f : Nat → Nat := fun j => if j < n then rA (dg A) (dg C) j else cA (dg A) (dg C) n
  have hf : ∀ j, j < n + 1 → f j < B32 := fun j hj => by
    show (if j < n then rA (dg A) (dg C) j else cA (dg A) (dg C) n) < B32
    split
    · exact rA_lt _ _ _
    · show _ < 4294967296; omega
  have hv : vs f (n + 1) = A + C := by
    rw [vs, vs_congr (g := rA (dg A) (dg C)) (fun j hj => if_pos hj), show f n = cA (dg A) (dg C) n from if_neg (Nat.lt_irrefl n)]
    exact h
  refine ⟨fun j hj => ?_, ?_, ?_⟩
  · rw [← hv, dg_vs hf (by omega)]; exact if_pos hj
  · rw [← hv, dg_vs hf (by omega)]; exact if_neg (Nat.lt_irrefl n)
  · rw [← hv]; exact vs_lt hf
/-! What is taken away. -/
def bS (a b : Nat → Nat) : Nat → Nat
  | 0 => 0
  | i + 1 => if a i < b i + bS a b i then 1 else 0
def rS (a b : Nat → Nat) (i : Nat) : Nat := (a i + 4294967296 - b i - bS a b i) % 4294967296
theorem rS_lt (a b : Nat → Nat) (i : Nat) : rS a b i < B32 := Nat.mod_lt _ (by decide)
theorem bS_le (a b : Nat → Nat) : ∀ i, bS a b i ≤ 1
  | 0 => by simp [bS]
  | i + 1 => by rw [bS]; split <;> omega
theorem less_words {a b : Nat → Nat} (ha : ∀ j, a j < B32) (hb : ∀ j, b j < B32) : ∀ n, vs (rS a b) n + vs b n = vs a n + bS a b n * B32 ^ n
  | 0 => by simp [vs, bS]
  | n + 1 => by
    have ih := less_words ha hb n
    have h1 : a n < 4294967296 := ha n
    have h2 : b n < 4294967296 := hb n
    have h3 := bS_le a b n
    have key : rS a b n + b n + bS a b n = a n + bS a b (n + 1) * B32 := by
      unfold rS
      rw [bS]
      show _ = a n + _ * 4294967296
      split <;> omega
    have k2 : rS a b n * B32 ^ n + b n * B32 ^ n + bS a b n * B32 ^ n = a n * B32 ^ n + bS a b (n + 1) * B32 * B32 ^ n := by
      rw [← Nat.add_mul, ← Nat.add_mul, key, Nat.add_mul]
    rw [vs, vs, vs, Nat.pow_succ, Nat.mul_comm (B32 ^ n) B32, ← Nat.mul_assoc]
    omega
theorem less_dg {A C n : Nat} (hA : A < B32 ^ n) (h : C ≤ A) : ∀ j, j < n → dg (A - C) j = rS (dg A) (dg C) j := by
  have hw := less_words (fun j => dg_lt A j) (fun j => dg_lt C j) n
  rw [vs_dg' hA, vs_dg' (Nat.lt_of_le_of_lt h hA)] at hw
  have hl : vs (rS (dg A) (dg C)) n < B32 ^ n := vs_lt fun j _ => rS_lt _ _ _
  have hb := bS_le (dg A) (dg C) n
  have h0 : bS (dg A) (dg C) n = 0 := by
    rcases Nat.eq_zero_or_pos (bS (dg A) (dg C) n) with e | e
    · exact e
    · rw [show bS (dg A) (dg C) n = 1 by omega, Nat.one_mul] at hw; omega
  rw [h0, Nat.zero_mul] at hw
  intro j hj
  rw [show A - C = vs (rS (dg A) (dg C)) n by omega]
  exact dg_vs (fun j _ => rS_lt _ _ _) hj
/-! Two numbers held against each other, from above. -/
theorem high_same {A C n : Nat} (hA : A < B32 ^ n) (hC : C < B32 ^ n) : A / B32 ^ n = C / B32 ^ n := by rw [Nat.div_eq_of_lt hA, Nat.div_eq_of_lt hC]
theorem div_step (A i : Nat) : A / B32 ^ i = A / B32 ^ (i + 1) * B32 + dg A i := by
  unfold dg
  rw [Nat.pow_succ, ← Nat.div_div_eq_div_mul]
  have := Nat.div_add_mod (A / B32 ^ i) B32
  rw [Nat.mul_comm]; omega
theorem high_down {A C i : Nat} (h : A / B32 ^ (i + 1) = C / B32 ^ (i + 1)) (hd : dg A i = dg C i) : A / B32 ^ i = C / B32 ^ i := by rw [div_step A, div_step C, h, hd]
theorem high_lt {A C i : Nat} (h : A / B32 ^ (i + 1) = C / B32 ^ (i + 1)) (hd : dg A i < dg C i) : A < C := by
  have : A / B32 ^ i < C / B32 ^ i := by rw [div_step A, div_step C, h]; omega
  rcases Nat.lt_or_ge A C with k | k
  · exact k
  · have := Nat.div_le_div_right (c := B32 ^ i) k; omega
/-! Products. -/
def updN (g : Nat → Nat) (k v : Nat) : Nat → Nat := fun j => if j = k then v else g j
theorem vs_upd (g : Nat → Nat) (k v : Nat) : ∀ n, k < n → vs (updN g k v) n + g k * B32 ^ k = vs g n + v * B32 ^ k
  | 0, h => by omega
  | n + 1, h => by
    rw [vs, vs]
    by_cases e : k = n
    · subst e
      rw [vs_congr (f := updN g k v) (g := g) (n := k) (fun j hj => if_neg (Nat.ne_of_lt hj)), show updN g k v k = v from if_pos rfl]
      omega
    · have := vs_upd g k v n (by omega)
      rw [show updN g k v n = g n from if_neg (by omega)]
      omega
/-- One step in: t is what stands there, the carry and the product of two words. -/
theorem mul_step {g : Nat → Nat} {n k c p V : Nat} (hk : k < n) (h : vs g n + c * B32 ^ k = V) : vs (updN g k ((c + (p + g k)) % B32)) n + (c + (p + g k)) / B32 * B32 ^ (k + 1) = V + p * B32 ^ k := by
  have h1 := vs_upd g k ((c + (p + g k)) % B32) n hk
  have h2 := step_mul (P := B32 ^ k) (Nat.mod_add_div (c + (p + g k)) B32)
  have h3 : (c + (p + g k)) * B32 ^ k = c * B32 ^ k + (p * B32 ^ k + g k * B32 ^ k) := by rw [Nat.add_mul, Nat.add_mul]
  rw [h3, show B32 ^ k * B32 = B32 ^ (k + 1) from rfl] at h2
  generalize (c + (p + g k)) % B32 = r at h1 h2 ⊢
  generalize (c + (p + g k)) / B32 = q at h2 ⊢
  omega
theorem mod_succ (A i : Nat) : A % B32 ^ (i + 1) = A % B32 ^ i + dg A i * B32 ^ i := by
  rw [← vs_dg, ← vs_dg, vs]
/-! Lengths in bits. -/
def blen (t : Nat) : Nat := if h : t = 0 then 0 else blen (t / 2) + 1
termination_by t
decreasing_by exact Nat.div_lt_self (by omega) (by decide)
theorem blen_zero : blen 0 = 0 := by rw [blen]; rfl
theorem blen_pos {t : Nat} (h : t ≠ 0) : blen t = blen (t / 2) + 1 := by rw [blen]; simp [h]
theorem blen_lt (t : Nat) : t < 2 ^ blen t := by
  induction t using Nat.strongRecOn with
  | _ t ih =>
    by_cases h : t = 0
    · subst h; rw [blen_zero]; decide
    · have := ih (t / 2) (Nat.div_lt_self (by omega) (by decide))
      rw [blen_pos h, Nat.pow_succ]
      omega
theorem blen_le : ∀ {n t : Nat}, t < 2 ^ n → blen t ≤ n
  | 0, t, h => by
    have : t = 0 := by simp at h; omega
    rw [this, blen_zero]; exact Nat.le_refl _
  | n + 1, t, h => by
    by_cases h0 : t = 0
    · rw [h0, blen_zero]; omega
    · rw [blen_pos h0]
      have := blen_le (n := n) (t := t / 2) (by rw [Nat.pow_succ] at h; omega)
      omega
/-- The length of a number in bits, as it is reckoned. -/
def blW (A : Nat) : Nat := if A = 0 then 0 else (nw A - 1) * 32 + blen (dg A (nw A - 1))
theorem top_div (A : Nat) : A / B32 ^ (nw A - 1) = dg A (nw A - 1) ∨ A = 0 := by
  by_cases h : A = 0
  · exact Or.inr h
  · left
    unfold dg
    rw [Nat.mod_eq_of_lt]
    refine (Nat.div_lt_iff_lt_mul (b32_pos _)).2 ?_
    have : nw A ≠ 0 := by rw [nw_pos h]; omega
    rw [Nat.mul_comm, ← Nat.pow_succ, show (nw A - 1).succ = nw A by omega]
    exact nw_lt A
theorem b32_two (n : Nat) : B32 ^ n = 2 ^ (n * 32) := by rw [show B32 = 2 ^ 32 by decide, ← Nat.pow_mul, Nat.mul_comm]
theorem blW_lt (A : Nat) : A < 2 ^ blW A := by
  unfold blW
  by_cases h : A = 0
  · subst h; decide
  · rw [if_neg h]
    have h1 := (top_div A).resolve_right h
    have h2 := blen_lt (dg A (nw A - 1))
    rw [← h1] at h2 ⊢
    rw [Nat.pow_add, ← b32_two, Nat.mul_comm]
    exact (Nat.div_lt_iff_lt_mul (b32_pos _)).1 h2
theorem blW_le {A n : Nat} (h : A < 2 ^ n) : blW A ≤ n := by
  unfold blW
  by_cases h0 : A = 0
  · rw [if_pos h0]; omega
  · rw [if_neg h0]
    have h1 := (top_div A).resolve_right h0
    have h3 : (nw A - 1) * 32 ≤ n := by
      rcases Nat.lt_or_ge n ((nw A - 1) * 32) with k | k
      · have := nw_low h0
        rw [b32_two] at this
        have : 2 ^ n ≤ 2 ^ ((nw A - 1) * 32) := Nat.pow_le_pow_right (by decide) (by omega)
        omega
      · exact k
    have : dg A (nw A - 1) < 2 ^ (n - (nw A - 1) * 32) := by
      rw [← h1]
      refine (Nat.div_lt_iff_lt_mul (b32_pos _)).2 ?_
      rw [b32_two, ← Nat.pow_add, show n - (nw A - 1) * 32 + (nw A - 1) * 32 = n by omega]
      exact h
    have := blen_le this
    omega
end Go.Proofs.YthhcpocgfmlbeaaDoor
