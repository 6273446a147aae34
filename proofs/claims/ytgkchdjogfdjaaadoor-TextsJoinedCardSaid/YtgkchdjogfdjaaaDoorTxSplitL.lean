/- A text split at one byte: the plain law. -/
import Derived.Lib.Split
import Derived.Lib.SplitLaws
import Derived.Lib.Join
import Derived.Lib.CountLaws
namespace Go.Proofs.YtgkchdjogfdjaaaDoor
open Go
set_option linter.unusedVariables false

/-- What stands ahead goes to the first piece. -/
def glue (p : List UInt8) : List (List UInt8) → List (List UInt8)
  | [] => []
  | h :: t => (p ++ h) :: t
/-- The pieces between the bytes that are c. -/
def pieces (c : UInt8) : List UInt8 → List (List UInt8)
  | [] => [[]]
  | b :: l => if b = c then [] :: pieces c l else glue [b] (pieces c l)
theorem glue_nil (x : List (List UInt8)) : glue [] x = x := by cases x <;> rfl
theorem glue_glue (p q : List UInt8) (x : List (List UInt8)) : glue p (glue q x) = glue (p ++ q) x := by cases x <;> simp [glue]
theorem pieces_ne (c : UInt8) : ∀ l, ∃ h t, pieces c l = h :: t
  | [] => ⟨[], [], rfl⟩
  | b :: l => by
    obtain ⟨h, t, e⟩ := pieces_ne c l
    unfold pieces
    split
    · exact ⟨_, _, rfl⟩
    · rw [e]; exact ⟨_, _, rfl⟩
theorem pieces_skip (c : UInt8) : ∀ (p l : List UInt8), (∀ b ∈ p, b ≠ c) → pieces c (p ++ l) = glue p (pieces c l)
  | [], l, _ => (glue_nil _).symm
  | b :: p, l, h => by
    rw [List.cons_append, pieces, if_neg (h b (by simp)), pieces_skip c p l (fun x hx => h x (by simp [hx])), glue_glue]; rfl
theorem pieces_hit (c : UInt8) (p l : List UInt8) (h : ∀ b ∈ p, b ≠ c) : pieces c (p ++ c :: l) = p :: pieces c l := by
  rw [pieces_skip c p _ h, pieces, if_pos rfl]; simp [glue]
theorem pieces_none (c : UInt8) (p : List UInt8) (h : ∀ b ∈ p, b ≠ c) : pieces c p = [p] := by
  have := pieces_skip c p [] h
  rw [List.append_nil] at this
  rw [this]; simp [pieces, glue]
theorem pieces_length (c : UInt8) : ∀ l : List UInt8, (pieces c l).length = l.count c + 1
  | [] => rfl
  | b :: l => by
    have h := pieces_length c l
    obtain ⟨x, y, e⟩ := pieces_ne c l
    unfold pieces
    split
    · rename_i hb; subst hb; simp [h]
    · rename_i hb
      rw [e] at h ⊢
      rw [List.count_cons_of_ne (by simpa using hb)]
      simpa [glue] using h
theorem index_cut (c : UInt8) : ∀ (l : List UInt8), (Lib.index l [c] = -1 ∧ ∀ b ∈ l, b ≠ c) ∨ ∃ (p r : List UInt8), l = p ++ c :: r ∧ (∀ b ∈ p, b ≠ c) ∧ Lib.index l [c] = (p.length : Int)
  | [] => Or.inl ⟨rfl, fun b hb => by cases hb⟩
  | b :: l => by
    have hi : Lib.index (b :: l) [c] = if [c].isPrefixOf (b :: l) then 0 else if Lib.index l [c] == -1 then -1 else Lib.index l [c] + 1 := rfl
    by_cases hb : b = c
    · subst hb
      exact Or.inr ⟨[], l, rfl, (fun x hx => by cases hx), by rw [hi, if_pos (by simp)]; rfl⟩
    · have hp : ¬ ([c].isPrefixOf (b :: l) = true) := by simp [Ne.symm hb]
      rw [if_neg hp] at hi
      rcases index_cut c l with ⟨h1, h2⟩ | ⟨p, r, rfl, h2, h3⟩
      · refine Or.inl ⟨by rw [hi, h1]; rfl, fun x hx => ?_⟩
        rcases List.mem_cons.1 hx with rfl | hx
        · exact hb
        · exact h2 x hx
      · refine Or.inr ⟨b :: p, r, rfl, fun x hx => ?_, ?_⟩
        · rcases List.mem_cons.1 hx with rfl | hx
          · exact hb
          · exact h2 x hx
        · rw [hi, h3, if_neg (by simp <;> omega)]; simp
theorem splitK_pieces (c : UInt8) : ∀ (k : Nat) (l : List UInt8), l.count c ≤ k → Lib.splitK [c] 0 k l = pieces c l
  | 0, l, h => by
    have : ∀ b ∈ l, b ≠ c := fun b hb e => by subst e; have := List.count_pos_iff.2 hb; omega
    rw [pieces_none c l this]; rfl
  | k + 1, l, h => by
    rcases index_cut c l with ⟨h1, h2⟩ | ⟨p, r, rfl, h2, h3⟩
    · rw [pieces_none c l h2]; unfold Lib.splitK; rw [if_pos (by rw [h1]; rfl)]
    · rw [pieces_hit c p r h2]
      unfold Lib.splitK
      rw [if_neg (by rw [h3]; simp <;> omega), h3]
      have hc : r.count c ≤ k := by
        rw [List.count_append, List.count_cons_self] at h; omega
      simp [splitK_pieces c k r hc]

theorem split_one (c : UInt8) (l : List UInt8) : Lib.split l [c] = pieces c l := by
  unfold Lib.split; rw [Lib.count_one]; exact splitK_pieces c _ l (Nat.le_refl _)

theorem join_glue (c : UInt8) (p : List UInt8) (x : List (List UInt8)) (h : x ≠ []) : Lib.join (glue p x) [c] = p ++ Lib.join x [c] := by
  cases x with
  | nil => exact absurd rfl h
  | cons a t => rw [glue, Lib.join_cons, Lib.join_cons, List.append_assoc]
theorem join_pieces (c : UInt8) : ∀ l : List UInt8, Lib.join (pieces c l) [c] = l
  | [] => by simp [pieces, Lib.join_one]
  | b :: l => by
    have ih := join_pieces c l
    obtain ⟨h, t, e⟩ := pieces_ne c l
    unfold pieces
    split
    · rename_i hb
      subst hb
      rw [Lib.join_cons, List.nil_append]
      rw [e] at ih ⊢
      rw [Lib.join_cons] at ih
      simp only [Lib.joinTail, List.map_cons, List.flatten_cons] at ih ⊢
      simp [← ih]
    · rw [join_glue _ _ _ (by rw [e]; simp), ih]; rfl
theorem pieces_join (c : UInt8) : ∀ (x : List UInt8) (t : List (List UInt8)), (∀ y ∈ x :: t, ∀ b ∈ y, b ≠ c) → pieces c (Lib.join (x :: t) [c]) = x :: t
  | x, [], h => by rw [Lib.join_one]; exact pieces_none c x (h x (by simp))
  | x, y :: t, h => by
    have ih := pieces_join c y t (fun z hz => h z (by simp only [List.mem_cons] at hz ⊢; exact Or.inr hz))
    have e : Lib.join (x :: y :: t) [c] = x ++ c :: Lib.join (y :: t) [c] := by
      rw [Lib.join_cons, Lib.join_cons]; simp [Lib.joinTail]
    rw [e, pieces_hit c x _ (h x (by simp)), ih]
end Go.Proofs.YtgkchdjogfdjaaaDoor
