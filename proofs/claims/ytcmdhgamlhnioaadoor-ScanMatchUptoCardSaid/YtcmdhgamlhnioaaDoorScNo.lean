/- How many nodes a pattern has, how deep it is. Plain. -/
import Derived.Test.YtcmdhgamlhnioaaDoorScTell
namespace Go.Proofs.YtcmdhgamlhnioaaDoor
set_option linter.unusedVariables false
mutual
def nodesP : Pat → Nat
  | .mk _ _ _ _ l => 1 + nodesL l
def nodesL : List Pat → Nat
  | [] => 0
  | p :: l => nodesP p + nodesL l
end
mutual
def depthP : Pat → Nat
  | .mk _ _ _ _ l => 1 + depthL l
def depthL : List Pat → Nat
  | [] => 0
  | p :: l => max (depthP p) (depthL l)
end
theorem nodesP_pos (p : Pat) : 1 ≤ nodesP p := by cases p; rw [nodesP]; omega
theorem depthP_pos (p : Pat) : 1 ≤ depthP p := by cases p; rw [depthP]; omega
theorem nodesP_eq (p : Pat) : nodesP p = 1 + nodesL p.kids := by cases p; rfl
theorem depthP_eq (p : Pat) : depthP p = 1 + depthL p.kids := by cases p; rfl
theorem nodesL_append (a b : List Pat) : nodesL (a ++ b) = nodesL a + nodesL b := by
  induction a with
  | nil => simp [nodesL]
  | cons x a ih => rw [List.cons_append, nodesL, nodesL, ih]; omega
theorem depthL_append (a b : List Pat) : depthL (a ++ b) = max (depthL a) (depthL b) := by
  induction a with
  | nil => simp [depthL]
  | cons x a ih => rw [List.cons_append, depthL, depthL, ih]; omega
theorem length_le_nodes (l : List Pat) : l.length ≤ nodesL l := by
  induction l with
  | nil => simp [nodesL]
  | cons x l ih => have := nodesP_pos x; rw [nodesL, List.length_cons]; omega
theorem nodesL_mem {p : Pat} : ∀ {l : List Pat}, p ∈ l → nodesP p ≤ nodesL l
  | x :: l, h => by
    rw [nodesL]
    rcases List.mem_cons.1 h with rfl | h
    · omega
    · have := nodesL_mem h; omega
theorem depthL_mem {p : Pat} : ∀ {l : List Pat}, p ∈ l → depthP p ≤ depthL l
  | x :: l, h => by
    rw [depthL]
    rcases List.mem_cons.1 h with rfl | h
    · omega
    · have := depthL_mem h; omega

/-! As the program counts them. -/
mutual
theorem sizeW_fits : ∀ (p : Pat) (d N D : Nat), 1 ≤ d → N + nodesP p ≤ 4096 → d + depthP p ≤ 201 → sizeW p d N D = (true, N + nodesP p, max D (d + depthP p - 1))
  | .mk k t n m l, d, N, D, hd, h1, h2 => by
    rw [nodesP] at h1 ⊢
    rw [depthP] at h2 ⊢
    rw [sizeW, if_pos (by omega), sizeL_fits l (d + 1) (N + 1) (max D d) (by omega) (by omega) (by omega)]
    have e1 : N + 1 + nodesL l = N + (1 + nodesL l) := by omega
    have e2 : (if l = [] then max D d else max (max D d) (d + 1 + depthL l - 1)) = max D (d + (1 + depthL l) - 1) := by
      split
      · rename_i e; subst e; rw [depthL]; omega
      · omega
    rw [e1, e2]
theorem sizeL_fits : ∀ (l : List Pat) (d N D : Nat), 1 ≤ d → N + nodesL l ≤ 4096 → d + depthL l ≤ 201 → sizeL l d N D = (true, N + nodesL l, if l = [] then D else max D (d + depthL l - 1))
  | [], d, N, D, hd, h1, h2 => rfl
  | p :: l, d, N, D, hd, h1, h2 => by
    rw [nodesL] at h1 ⊢
    rw [depthL] at h2 ⊢
    rw [sizeL, sizeW_fits p d N D hd (by omega) (by omega)]
    dsimp only
    rw [sizeL_fits l d (N + nodesP p) (max D (d + depthP p - 1)) hd (by omega) (by omega), if_neg (List.cons_ne_nil p l)]
    have := depthP_pos p
    have e1 : N + nodesP p + nodesL l = N + (nodesP p + nodesL l) := by omega
    have e2 : (if l = [] then max D (d + depthP p - 1) else max (max D (d + depthP p - 1)) (d + depthL l - 1)) = max D (d + max (depthP p) (depthL l) - 1) := by
      split
      · rename_i e; subst e; rw [depthL]; omega
      · omega
    rw [e1, e2]
end
mutual
theorem fits_sizeW : ∀ (p : Pat) (d N D : Nat), 1 ≤ d → (sizeW p d N D).1 = true → N + nodesP p ≤ 4096 ∧ d + depthP p ≤ 201
  | .mk k t n m l, d, N, D, hd, h => by
    rw [sizeW] at h
    split at h
    · rename_i h1
      have := fits_sizeL l (d + 1) (N + 1) (max D d) (by omega) (by omega) (by omega) h
      rw [nodesP, depthP]; omega
    · simp at h
theorem fits_sizeL : ∀ (l : List Pat) (d N D : Nat), 1 ≤ d → N ≤ 4096 → d ≤ 201 → (sizeL l d N D).1 = true → N + nodesL l ≤ 4096 ∧ d + depthL l ≤ 201
  | [], d, N, D, hd, hN, hd2, h => by rw [nodesL, depthL]; omega
  | p :: l, d, N, D, hd, hN, hd2, h => by
    rw [sizeL] at h
    obtain ⟨b, N', D', e⟩ : ∃ b N' D', sizeW p d N D = (b, N', D') := ⟨_, _, _, rfl⟩
    rw [e] at h
    cases b with
    | false => simp at h
    | true =>
      have h1 := fits_sizeW p d N D hd (by rw [e])
      rw [sizeW_fits p d N D hd h1.1 h1.2] at e
      cases e
      have h2 := fits_sizeL l d (N + nodesP p) _ hd (by omega) hd2 h
      rw [nodesL, depthL]; omega
end
theorem size_iff (p : Pat) : (sizeW p 1 0 0).1 = true ↔ nodesP p ≤ 4096 ∧ depthP p ≤ 200 := by
  constructor
  · intro h
    have := fits_sizeW p 1 0 0 (by omega) h
    omega
  · intro h
    rw [sizeW_fits p 1 0 0 (by omega) (by omega) (by omega)]
end Go.Proofs.YtcmdhgamlhnioaaDoor
