/- What a pattern is made into that is simpler. Plain. -/
import Derived.Test.YtmcfoefhenmjeaaDoorScTell
import Derived.Test.YtmcfoefhenmjeaaDoorStBits
/-! What a pattern is made into that is simpler. Plain. -/
namespace Go.Proofs.YtmcfoefhenmjeaaDoor
open Tr
set_option linter.unusedVariables false

def litP (t : ByteArray) : Pat := .mk 1 t 0 ByteArray.empty []
def bareP (k : Int) : Pat := .mk k ByteArray.empty 0 ByteArray.empty []
def textP (k : Int) (t : ByteArray) : Pat := .mk k t 0 ByteArray.empty []
def numP (k : Int) (n : Int) : Pat := .mk k ByteArray.empty n ByteArray.empty []
def kidsP (k : Int) (l : List Pat) : Pat := .mk k ByteArray.empty 0 ByteArray.empty l
/-- A text's bytes, rising, each once. -/
def spell (t : ByteArray) : ByteArray := ⟨(bytesL (bl (setOf t.data.toList) 0 256)).toArray⟩
def emptyP (p : Pat) : Bool := p.kind == 1 && p.text.size == 0
def failB (p : Pat) : Bool := p.kind == 15
def abortB (p : Pat) : Bool := p.kind == 17
def endsB (p : Pat) : Bool := p.kind == 15 || p.kind == 17
/-- Kids of a kind in their place. -/
def flatP (k : Int) : List Pat → List Pat
  | [] => []
  | p :: l => (if p.kind = k then p.kids else [p]) ++ flatP k l
/-- A list up to the first one of which something is true. -/
def upToP (f : Pat → Bool) : List Pat → List Pat
  | [] => []
  | p :: l => if f p then [p] else p :: upToP f l
def mergeF (two : Pat → Pat → Option Pat) : Pat → List Pat → List Pat
  | a, [] => [a]
  | a, b :: l => (match two a b with | some q => mergeF two q l | none => a :: mergeF two b l)
def mergedP (two : Pat → Pat → Option Pat) : List Pat → List Pat
  | [] => []
  | a :: l => mergeF two a l
def piecesP (a b : Pat) : Option Pat :=
  if a.kind = 1 ∧ b.kind = 1 ∧ a.text.size + b.text.size ≤ 65536 then some (litP (a.text ++ b.text))
  else if a.kind = 2 ∧ b.kind = 2 ∧ a.n + b.n ≤ 65536 then some (numP 2 (a.n + b.n)) else none
def oneB (p : Pat) : Bool := p.kind == 3 || (p.kind == 1 && p.text.size == 1)
def apartB (a b : ByteArray) : Bool := a.data.toList.all fun c => !b.data.toList.contains c
def othersP (a b : Pat) : Option Pat := if oneB a = true ∧ oneB b = true ∧ apartB a.text b.text = true then some (textP 3 (spell (a.text ++ b.text))) else none
def singleP (k : Int) (z : Pat) : List Pat → Pat
  | [] => z
  | [p] => p
  | l => kidsP k l
def catL (l : List Pat) : List Pat := mergedP piecesP (upToP endsB ((flatP 18 l).filter fun p => !emptyP p))
def altL (l : List Pat) : List Pat := mergedP othersP (upToP abortB ((flatP 19 l).filter fun p => !failB p))
/-- A node of which the kids are simple. -/
def makeP (k : Int) (t : ByteArray) (n : Int) (m : ByteArray) (l : List Pat) : Pat :=
  if k = 1 then litP t
  else if k = 2 then (if n = 0 then litP ByteArray.empty else numP 2 n)
  else if k = 3 then (if (spell t).size = 1 then litP (spell t) else textP 3 (spell t))
  else if k = 4 ∨ k = 5 ∨ k = 6 ∨ k = 7 then textP k (spell t)
  else if k = 8 ∨ k = 10 ∨ k = 11 then numP k n
  else if k = 9 then (if n = 0 then bareP 12 else numP 9 n)
  else if k = 18 then singleP 18 (litP ByteArray.empty) (catL l)
  else if k = 19 then singleP 19 (bareP 15) (altL l)
  else if k = 20 then (if emptyP (l.getD 0 Pat.zero) = true ∨ failB (l.getD 0 Pat.zero) = true then litP ByteArray.empty else if (l.getD 0 Pat.zero).kind = 2 ∧ (l.getD 0 Pat.zero).n = 1 then bareP 13 else kidsP 20 l)
  else if k = 21 ∨ k = 22 then (if endsB (l.getD 0 Pat.zero) = true then l.getD 0 Pat.zero else .mk k ByteArray.empty 0 m l)
  else if k = 23 ∨ k = 24 then .mk k ByteArray.empty 0 m []
  else bareP k
mutual
def simple : Pat → Pat
  | .mk k t n m l => makeP k t n m (simpleL l)
def simpleL : List Pat → List Pat
  | [] => []
  | p :: l => simple p :: simpleL l
end
theorem simpleL_map : ∀ l : List Pat, simpleL l = l.map simple
  | [] => rfl
  | p :: l => by rw [simpleL, simpleL_map l]; rfl

/-! Of a telling some nodes left out. -/
def Tr.fas : Tr → Tr → Prop
  | stop m, u => m = .deep ∨ u = stop m
  | tick t, u => fas t u ∨ ∃ v, u = tick v ∧ fas t v
  | say g t, u => ∃ v, u = say g v ∧ fas t v
  | way a g t, u => ∃ v, u = way a g v ∧ fas t v
namespace Tr
theorem fas_refl : ∀ t : Tr, fas t t
  | stop m => Or.inr rfl
  | tick t => Or.inr ⟨t, rfl, fas_refl t⟩
  | say g t => ⟨t, rfl, fas_refl t⟩
  | way a g t => ⟨t, rfl, fas_refl t⟩
theorem fas_of_le : ∀ {t u : Tr}, le t u → fas t u
  | stop m, u, h => h
  | tick t, u, ⟨v, e, h⟩ => Or.inr ⟨v, e, fas_of_le h⟩
  | say g t, u, ⟨v, e, h⟩ => ⟨v, e, fas_of_le h⟩
  | way a g t, u, ⟨v, e, h⟩ => ⟨v, e, fas_of_le h⟩
theorem fas_trans : ∀ {t u v : Tr}, fas t u → fas u v → fas t v
  | stop m, u, v, h, k => by
    rcases h with h | rfl
    · exact Or.inl h
    · exact k
  | tick t, u, v, h, k => by
    rcases h with h | ⟨x, rfl, h⟩
    · exact Or.inl (fas_trans h k)
    · rcases k with k | ⟨y, rfl, k⟩
      · exact Or.inl (fas_trans h k)
      · exact Or.inr ⟨y, rfl, fas_trans h k⟩
  | say g t, u, v, ⟨x, e, h⟩, k => by
    subst e; obtain ⟨y, rfl, k⟩ := k; exact ⟨y, rfl, fas_trans h k⟩
  | way a g t, u, v, ⟨x, e, h⟩, k => by
    subst e; obtain ⟨y, rfl, k⟩ := k; exact ⟨y, rfl, fas_trans h k⟩
theorem fas_deep (u : Tr) : fas (stop .deep) u := Or.inl rfl
theorem fas_tick {t u : Tr} (h : fas t u) : fas (tick t) (tick u) := Or.inr ⟨u, rfl, h⟩
theorem fas_skip {t u : Tr} (h : fas t u) : fas (tick t) u := Or.inl h
theorem fas_way {a : Nat} {g : List Gift} {t u : Tr} (h : fas t u) : fas (way a g t) (way a g u) := ⟨u, rfl, h⟩
theorem fas_seq {u v : Tr} (k : fas u v) : ∀ {t x : Tr}, fas t x → fas (seq t u) (seq x v)
  | stop m, x, h => by
    rcases h with rfl | rfl
    · exact Or.inl rfl
    · by_cases e : m = .done
      · subst e; rw [seq_done, seq_done]; exact k
      · rw [seq_stop e, seq_stop e]; exact fas_refl _
  | tick t, x, h => by
    rcases h with h | ⟨y, rfl, h⟩
    · exact Or.inl (fas_seq k h)
    · exact Or.inr ⟨_, rfl, fas_seq k h⟩
  | say g t, x, h => by obtain ⟨y, rfl, h⟩ := h; exact ⟨_, rfl, fas_seq k h⟩
  | way a g t, x, h => by obtain ⟨y, rfl, h⟩ := h; exact ⟨_, rfl, fas_seq k h⟩
/-- Behind each way something; the ways are at such places. -/
theorem fas_bind {P : Nat → Prop} {f h : Nat → List Gift → Tr} (k : ∀ a g, P a → fas (f a g) (h a g)) : ∀ {t x : Tr}, fas t x → allw P t → fas (bind t f) (bind x h)
  | stop m, x, e, _ => by
    rcases e with rfl | rfl
    · exact Or.inl rfl
    · exact fas_refl _
  | tick t, x, e, p => by
    rcases e with e | ⟨y, rfl, e⟩
    · exact Or.inl (fas_bind k (t := t) e p)
    · exact Or.inr ⟨_, rfl, fas_bind k (t := t) e p⟩
  | say g t, x, e, p => by obtain ⟨y, rfl, e⟩ := e; exact ⟨_, rfl, fas_bind k (t := t) e p⟩
  | way a g t, x, e, p => by obtain ⟨y, rfl, e⟩ := e; exact fas_seq (fas_bind k e p.2) (k a g p.1)
theorem fas_le {t u v : Tr} (h : fas t u) (k : le u v) : fas t v := fas_trans h (fas_of_le k)
theorem le_fas {t u v : Tr} (h : le t u) (k : fas u v) : fas t v := fas_trans (fas_of_le h) k
theorem allw_fas {P : Nat → Prop} : ∀ {t u : Tr}, fas t u → allw P u → allw P t
  | stop m, u, _, _ => trivial
  | tick t, u, h, k => by
    rcases h with h | ⟨v, rfl, h⟩
    · exact allw_fas (t := t) h k
    · exact allw_fas (t := t) (u := v) h k
  | say _ t, u, ⟨v, e, h⟩, k => by subst e; exact allw_fas (t := t) h k
  | way a g t, u, ⟨v, e, h⟩, k => by subst e; exact ⟨k.1, allw_fas (t := t) h k.2⟩
end Tr
/-- What is told at once is told the same with nodes left out. -/
theorem tell_fas {fuel : Nat} : ∀ {t u : Tr} {m k k' : Nat} {l : List Way} {c : Bool}, fas t u → k' ≤ k → k ≤ fuel → tell fuel m k t = (l, c, 0) → tell fuel m k' u = (l, c, 0)
  | t, u, 0, k, k', l, c, _, _, _, h => by
    cases t <;> cases u <;> (simp only [tell] at h ⊢; exact h)
  | stop x, u, m + 1, k, k', l, c, hf, hk, hle, h => by
    rcases hf with rfl | rfl
    · simp [tell] at h
    · cases x <;> (simp only [tell] at h ⊢; exact h)
  | tick t, u, m + 1, k, k', l, c, hf, hk, hle, h => by
    rw [tell] at h
    split at h
    · simp at h
    · rename_i hn
      rcases hf with hf | ⟨v, rfl, hf⟩
      · exact tell_fas hf (by omega) (by omega) h
      · rw [tell, if_neg (by omega)]
        exact tell_fas hf (by omega) (by omega) h
  | say g t, u, m + 1, k, k', l, c, ⟨v, e, hf⟩, hk, hle, h => by
    subst e
    rw [tell] at h ⊢
    exact tell_fas hf hk hle h
  | way a g t, u, m + 1, k, k', l, c, ⟨v, e, hf⟩, hk, hle, h => by
    subst e
    rw [tell] at h ⊢
    obtain ⟨l', c', e', he⟩ : ∃ l' c' e', tell fuel m k t = (l', c', e') := ⟨_, _, _, rfl⟩
    rw [he] at h
    dsimp only at h
    split at h
    · rename_i e0
      subst e0
      rw [tell_fas hf hk hle he]
      exact h
    · rename_i e0
      simp only [Prod.mk.injEq] at h
      exact absurd h.2.2 e0
end Go.Proofs.YtmcfoefhenmjeaaDoor
/-! How many nodes the simpler pattern has, how deep they are, and that it is right. Plain. -/
namespace Go.Proofs.YtmcfoefhenmjeaaDoor
open Tr
set_option linter.unusedVariables false
mutual
def nodesP : Pat → Nat
  | .mk _ _ _ _ l => 1 + nodesL l
def nodesL : List Pat → Nat
  | [] => 0
  | p :: l => nodesP p + nodesL l
end
mutual
def depthP : Pat → Nat
  | .mk _ _ _ _ l => 1 + depthL l
def depthL : List Pat → Nat
  | [] => 0
  | p :: l => max (depthP p) (depthL l)
end
theorem nodesP_pos (p : Pat) : 1 ≤ nodesP p := by cases p; rw [nodesP]; omega
theorem depthP_pos (p : Pat) : 1 ≤ depthP p := by cases p; rw [depthP]; omega
theorem nodesP_eq (p : Pat) : nodesP p = 1 + nodesL p.kids := by cases p; rfl
theorem depthP_eq (p : Pat) : depthP p = 1 + depthL p.kids := by cases p; rfl
theorem nodesL_append (a b : List Pat) : nodesL (a ++ b) = nodesL a + nodesL b := by
  induction a with
  | nil => simp [nodesL]
  | cons x a ih => rw [List.cons_append, nodesL, nodesL, ih]; omega
theorem depthL_append (a b : List Pat) : depthL (a ++ b) = max (depthL a) (depthL b) := by
  induction a with
  | nil => simp [depthL]
  | cons x a ih => rw [List.cons_append, depthL, depthL, ih]; omega
theorem length_le_nodes (l : List Pat) : l.length ≤ nodesL l := by
  induction l with
  | nil => simp [nodesL]
  | cons x l ih => have := nodesP_pos x; rw [nodesL, List.length_cons]; omega
theorem nodesL_mem {p : Pat} : ∀ {l : List Pat}, p ∈ l → nodesP p ≤ nodesL l
  | x :: l, h => by
    rw [nodesL]
    rcases List.mem_cons.1 h with rfl | h
    · omega
    · have := nodesL_mem h; omega
theorem depthL_mem {p : Pat} : ∀ {l : List Pat}, p ∈ l → depthP p ≤ depthL l
  | x :: l, h => by
    rw [depthL]
    rcases List.mem_cons.1 h with rfl | h
    · omega
    · have := depthL_mem h; omega

/-! As the program counts them. -/
mutual
theorem sizeW_fits : ∀ (p : Pat) (d N D : Nat), 1 ≤ d → N + nodesP p ≤ 4096 → d + depthP p ≤ 201 → sizeW p d N D = (true, N + nodesP p, max D (d + depthP p - 1))
  | .mk k t n m l, d, N, D, hd, h1, h2 => by
    rw [nodesP] at h1 ⊢
    rw [depthP] at h2 ⊢
    rw [sizeW, if_pos (by omega), sizeL_fits l (d + 1) (N + 1) (max D d) (by omega) (by omega) (by omega)]
    have e1 : N + 1 + nodesL l = N + (1 + nodesL l) := by omega
    have e2 : (if l = [] then max D d else max (max D d) (d + 1 + depthL l - 1)) = max D (d + (1 + depthL l) - 1) := by
      split
      · rename_i e; subst e; rw [depthL]; omega
      · omega
    rw [e1, e2]
theorem sizeL_fits : ∀ (l : List Pat) (d N D : Nat), 1 ≤ d → N + nodesL l ≤ 4096 → d + depthL l ≤ 201 → sizeL l d N D = (true, N + nodesL l, if l = [] then D else max D (d + depthL l - 1))
  | [], d, N, D, hd, h1, h2 => rfl
  | p :: l, d, N, D, hd, h1, h2 => by
    rw [nodesL] at h1 ⊢
    rw [depthL] at h2 ⊢
    rw [sizeL, sizeW_fits p d N D hd (by omega) (by omega)]
    dsimp only
    rw [sizeL_fits l d (N + nodesP p) (max D (d + depthP p - 1)) hd (by omega) (by omega), if_neg (List.cons_ne_nil p l)]
    have := depthP_pos p
    have e1 : N + nodesP p + nodesL l = N + (nodesP p + nodesL l) := by omega
    have e2 : (if l = [] then max D (d + depthP p - 1) else max (max D (d + depthP p - 1)) (d + depthL l - 1)) = max D (d + max (depthP p) (depthL l) - 1) := by
      split
      · rename_i e; subst e; rw [depthL]; omega
      · omega
    rw [e1, e2]
end
mutual
theorem fits_sizeW : ∀ (p : Pat) (d N D : Nat), 1 ≤ d → (sizeW p d N D).1 = true → N + nodesP p ≤ 4096 ∧ d + depthP p ≤ 201
  | .mk k t n m l, d, N, D, hd, h => by
    rw [sizeW] at h
    split at h
    · rename_i h1
      have := fits_sizeL l (d + 1) (N + 1) (max D d) (by omega) (by omega) (by omega) h
      rw [nodesP, depthP]; omega
    · simp at h
theorem fits_sizeL : ∀ (l : List Pat) (d N D : Nat), 1 ≤ d → N ≤ 4096 → d ≤ 201 → (sizeL l d N D).1 = true → N + nodesL l ≤ 4096 ∧ d + depthL l ≤ 201
  | [], d, N, D, hd, hN, hd2, h => by rw [nodesL, depthL]; omega
  | p :: l, d, N, D, hd, hN, hd2, h => by
    rw [sizeL] at h
    obtain ⟨b, N', D', e⟩ : ∃ b N' D', sizeW p d N D = (b, N', D') := ⟨_, _, _, rfl⟩
    rw [e] at h
    cases b with
    | false => simp at h
    | true =>
      have h1 := fits_sizeW p d N D hd (by rw [e])
      rw [sizeW_fits p d N D hd h1.1 h1.2] at e
      cases e
      have h2 := fits_sizeL l d (N + nodesP p) _ hd (by omega) hd2 h
      rw [nodesL, depthL]; omega
end
/-- What it means that nothing is wrong. -/
theorem patErr_iff (p : Pat) : patErr p = 0 ↔ errW p = 0 ∧ nodesP p ≤ 4096 ∧ depthP p ≤ 200 := by
  unfold patErr
  constructor
  · intro h
    split at h
    · rename_i h1
      have := fits_sizeW p 1 0 0 (by omega) h1
      exact ⟨h, by omega, by omega⟩
    · cases h
  · rintro ⟨h1, h2, h3⟩
    rw [sizeW_fits p 1 0 0 (by omega) (by omega) (by omega), if_pos rfl, h1]

/-! Sizes of what is made. -/
theorem flatP_nodes (k : Int) (l : List Pat) : nodesL (flatP k l) ≤ nodesL l := by
  induction l with
  | nil => simp [flatP]
  | cons p l ih =>
    rw [flatP, nodesL_append, nodesL]
    have := nodesP_eq p
    split
    · omega
    · rw [nodesL, nodesL]; omega
theorem flatP_depth (k : Int) (l : List Pat) : depthL (flatP k l) ≤ depthL l := by
  induction l with
  | nil => simp [flatP]
  | cons p l ih =>
    rw [flatP, depthL_append, depthL]
    have := depthP_eq p
    split
    · omega
    · rw [depthL, depthL]; omega
theorem filter_nodes (f : Pat → Bool) (l : List Pat) : nodesL (l.filter f) ≤ nodesL l := by
  induction l with
  | nil => simp
  | cons p l ih => rw [List.filter_cons, nodesL]; split <;> first | (rw [nodesL]; omega) | omega
theorem filter_depth (f : Pat → Bool) (l : List Pat) : depthL (l.filter f) ≤ depthL l := by
  induction l with
  | nil => simp
  | cons p l ih => rw [List.filter_cons, depthL]; split <;> first | (rw [depthL]; omega) | omega
theorem upToP_nodes (f : Pat → Bool) (l : List Pat) : nodesL (upToP f l) ≤ nodesL l := by
  induction l with
  | nil => simp [upToP]
  | cons p l ih => rw [upToP, nodesL]; split <;> first | (rw [nodesL, nodesL]; omega) | (rw [nodesL]; omega)
theorem upToP_depth (f : Pat → Bool) (l : List Pat) : depthL (upToP f l) ≤ depthL l := by
  induction l with
  | nil => simp [upToP]
  | cons p l ih => rw [upToP, depthL]; split <;> first | (rw [depthL, depthL]; omega) | (rw [depthL]; omega)
/-- Two become one without kids. -/
def Small (two : Pat → Pat → Option Pat) : Prop := ∀ a b q, two a b = some q → q.kids = []
theorem mergeF_nodes {two : Pat → Pat → Option Pat} (h : Small two) : ∀ (l : List Pat) (a : Pat), nodesL (mergeF two a l) ≤ nodesP a + nodesL l
  | [], a => by rw [mergeF, nodesL, nodesL, nodesL]; omega
  | b :: l, a => by
    rw [mergeF]
    split
    · rename_i q hq
      have h1 := mergeF_nodes h l q
      have h2 := nodesP_eq q
      rw [h _ _ _ hq, nodesL] at h2
      have := nodesP_pos b
      rw [nodesL]; omega
    · have := mergeF_nodes h l b
      rw [nodesL, nodesL]; omega
theorem mergeF_depth {two : Pat → Pat → Option Pat} (h : Small two) : ∀ (l : List Pat) (a : Pat), depthL (mergeF two a l) ≤ max (depthP a) (depthL l)
  | [], a => by rw [mergeF, depthL, depthL, depthL]; omega
  | b :: l, a => by
    rw [mergeF]
    split
    · rename_i q hq
      have h1 := mergeF_depth h l q
      have h2 := depthP_eq q
      rw [h _ _ _ hq, depthL] at h2
      have := depthP_pos b
      rw [depthL]; omega
    · have := mergeF_depth h l b
      rw [depthL, depthL]; omega
theorem mergedP_nodes {two : Pat → Pat → Option Pat} (h : Small two) (l : List Pat) : nodesL (mergedP two l) ≤ nodesL l := by
  cases l with
  | nil => simp [mergedP]
  | cons a l => rw [mergedP, nodesL]; exact mergeF_nodes h l a
theorem mergedP_depth {two : Pat → Pat → Option Pat} (h : Small two) (l : List Pat) : depthL (mergedP two l) ≤ depthL l := by
  cases l with
  | nil => simp [mergedP]
  | cons a l => rw [mergedP, depthL]; exact mergeF_depth h l a
theorem small_pieces : Small piecesP := by
  intro a b q h
  unfold piecesP at h
  split at h
  · cases h; rfl
  · split at h
    · cases h; rfl
    · cases h
theorem small_others : Small othersP := by
  intro a b q h
  unfold othersP at h
  split at h
  · cases h; rfl
  · cases h
theorem singleP_nodes (k : Int) (z : Pat) (hz : z.kids = []) (l : List Pat) : nodesP (singleP k z l) ≤ 1 + nodesL l := by
  have h2 := nodesP_eq z
  rw [hz, nodesL] at h2
  match l with
  | [] => rw [singleP]; omega
  | [p] => rw [singleP, nodesL, nodesL]; omega
  | p :: q :: l => exact Nat.le_refl _
theorem singleP_depth (k : Int) (z : Pat) (hz : z.kids = []) (l : List Pat) : depthP (singleP k z l) ≤ 1 + depthL l := by
  have h2 := depthP_eq z
  rw [hz, depthL] at h2
  match l with
  | [] => rw [singleP]; omega
  | [p] => rw [singleP, depthL, depthL]; omega
  | p :: q :: l => exact Nat.le_refl _
theorem catL_nodes (l : List Pat) : nodesL (catL l) ≤ nodesL l :=
  Nat.le_trans (mergedP_nodes small_pieces _) (Nat.le_trans (upToP_nodes _ _) (Nat.le_trans (filter_nodes _ _) (flatP_nodes _ _)))
theorem altL_nodes (l : List Pat) : nodesL (altL l) ≤ nodesL l :=
  Nat.le_trans (mergedP_nodes small_others _) (Nat.le_trans (upToP_nodes _ _) (Nat.le_trans (filter_nodes _ _) (flatP_nodes _ _)))
theorem catL_depth (l : List Pat) : depthL (catL l) ≤ depthL l :=
  Nat.le_trans (mergedP_depth small_pieces _) (Nat.le_trans (upToP_depth _ _) (Nat.le_trans (filter_depth _ _) (flatP_depth _ _)))
theorem altL_depth (l : List Pat) : depthL (altL l) ≤ depthL l :=
  Nat.le_trans (mergedP_depth small_others _) (Nat.le_trans (upToP_depth _ _) (Nat.le_trans (filter_depth _ _) (flatP_depth _ _)))
theorem leaf_nodes (k : Int) (t : ByteArray) (n : Int) (m : ByteArray) : nodesP (.mk k t n m []) = 1 := rfl
theorem leaf_depth (k : Int) (t : ByteArray) (n : Int) (m : ByteArray) : depthP (.mk k t n m []) = 1 := rfl
/-- A property of what is made: of leaves, of the first kid, of the node with these kids. -/
theorem makeP_cases {C : Pat → Prop} (k : Int) (t : ByteArray) (n : Int) (m : ByteArray) (l : List Pat)
    (h1 : ∀ k t n m, C (.mk k t n m [])) (h2 : C (singleP 18 (litP ByteArray.empty) (catL l))) (h3 : C (singleP 19 (bareP 15) (altL l)))
    (h4 : C (kidsP 20 l)) (h5 : C (l.getD 0 Pat.zero)) (h6 : ∀ k m, C (.mk k ByteArray.empty 0 m l)) : C (makeP k t n m l) := by
  unfold makeP
  repeat' (first | exact h1 _ _ _ _ | exact h2 | exact h3 | exact h4 | exact h5 | exact h6 _ _ | refine iteInduction (motive := C) (fun _ => ?_) (fun _ => ?_))
theorem getD_nodes (l : List Pat) : nodesP (l.getD 0 Pat.zero) ≤ 1 + nodesL l := by
  cases l with
  | nil => exact Nat.le_refl _
  | cons p l => rw [nodesL]; show nodesP p ≤ _; omega
theorem getD_depth (l : List Pat) : depthP (l.getD 0 Pat.zero) ≤ 1 + depthL l := by
  cases l with
  | nil => exact Nat.le_refl _
  | cons p l => rw [depthL]; show depthP p ≤ _; omega
theorem makeP_nodes (k : Int) (t : ByteArray) (n : Int) (m : ByteArray) (l : List Pat) : nodesP (makeP k t n m l) ≤ 1 + nodesL l := by
  refine makeP_cases (C := fun p => nodesP p ≤ 1 + nodesL l) k t n m l (fun k t n m => by rw [leaf_nodes]; omega) ?_ ?_ (Nat.le_refl _) (getD_nodes l) (fun _ _ => Nat.le_refl _)
  · exact Nat.le_trans (singleP_nodes 18 (litP ByteArray.empty) rfl _) (by have := catL_nodes l; omega)
  · exact Nat.le_trans (singleP_nodes 19 (bareP 15) rfl _) (by have := altL_nodes l; omega)
theorem makeP_depth (k : Int) (t : ByteArray) (n : Int) (m : ByteArray) (l : List Pat) : depthP (makeP k t n m l) ≤ 1 + depthL l := by
  refine makeP_cases (C := fun p => depthP p ≤ 1 + depthL l) k t n m l (fun k t n m => by rw [leaf_depth]; omega) ?_ ?_ (Nat.le_refl _) (getD_depth l) (fun _ _ => Nat.le_refl _)
  · exact Nat.le_trans (singleP_depth 18 (litP ByteArray.empty) rfl _) (by have := catL_depth l; omega)
  · exact Nat.le_trans (singleP_depth 19 (bareP 15) rfl _) (by have := altL_depth l; omega)
mutual
theorem simple_nodes : ∀ p : Pat, nodesP (simple p) ≤ nodesP p
  | .mk k t n m l => by rw [simple, nodesP]; exact Nat.le_trans (makeP_nodes _ _ _ _ _) (by have := simpleL_nodes l; omega)
theorem simpleL_nodes : ∀ l : List Pat, nodesL (simpleL l) ≤ nodesL l
  | [] => Nat.le_refl _
  | p :: l => by rw [simpleL, nodesL, nodesL]; have := simple_nodes p; have := simpleL_nodes l; omega
end
mutual
theorem simple_depth : ∀ p : Pat, depthP (simple p) ≤ depthP p
  | .mk k t n m l => by rw [simple, depthP]; exact Nat.le_trans (makeP_depth _ _ _ _ _) (by have := simpleL_depth l; omega)
theorem simpleL_depth : ∀ l : List Pat, depthL (simpleL l) ≤ depthL l
  | [] => Nat.le_refl _
  | p :: l => by rw [simpleL, depthL, depthL]; have := simple_depth p; have := simpleL_depth l; omega
end
end Go.Proofs.YtmcfoefhenmjeaaDoor
/-! The simpler pattern is right, where the pattern is. Plain. -/
namespace Go.Proofs.YtmcfoefhenmjeaaDoor
open Tr
set_option linter.unusedVariables false
/-! A text's bytes, rising. -/
theorem spell_data (t : ByteArray) : (spell t).data.toList = bytesL (bl (setOf t.data.toList) 0 256) := rfl
theorem setOf_iff (l : List UInt8) (c : UInt8) : setOf l c.toNat = true ↔ c ∈ l := by
  rw [setOf_mem, List.any_eq_true]
  constructor
  · rintro ⟨x, hx, e⟩
    have : c = x := UInt8.toNat_inj.1 (by simpa using e)
    rw [this]; exact hx
  · intro h; exact ⟨c, h, by simp⟩
theorem mem_bytesL {L : List Nat} (hL : ∀ x ∈ L, x < 256) (c : UInt8) : c ∈ bytesL L ↔ c.toNat ∈ L := by
  unfold bytesL
  rw [List.mem_map]
  constructor
  · rintro ⟨x, hx, rfl⟩
    rw [UInt8.toNat_ofNat_of_lt' (hL x hx)]; exact hx
  · intro h; exact ⟨_, h, by simp⟩
theorem bl_lt256 (f : Nat → Bool) : ∀ x ∈ bl f 0 256, x < 256 := fun x hx => by have := bl_mem _ _ _ hx; omega
theorem spell_mem (t : ByteArray) (c : UInt8) : c ∈ (spell t).data.toList ↔ c ∈ t.data.toList := by
  rw [spell_data, mem_bytesL (bl_lt256 _), ← setOf_iff]
  constructor
  · intro h; exact (bl_mem _ _ _ h).2.2
  · intro h; exact mem_bl 256 0 _ (Nat.zero_le _) (by have := c.toNat_lt; omega) h
theorem spell_has (t : ByteArray) (c : UInt8) : (spell t).data.toList.contains c = t.data.toList.contains c := by
  rw [Bool.eq_iff_iff, List.contains_iff_mem, List.contains_iff_mem]; exact spell_mem t c
theorem setOf_spell (t : ByteArray) {b : Nat} (hb : b < 256) : setOf (spell t).data.toList b = setOf t.data.toList b := by
  have e : b = (UInt8.ofNat b).toNat := (UInt8.toNat_ofNat_of_lt' hb).symm
  rw [Bool.eq_iff_iff, e, setOf_iff, setOf_iff]; exact spell_mem t _
theorem spell_congr {t u : ByteArray} (h : ∀ c, c ∈ t.data.toList ↔ c ∈ u.data.toList) : spell t = spell u := by
  unfold spell
  rw [bl_congr 256 0 (fun b _ hb => ?_)]
  have e : b = (UInt8.ofNat b).toNat := (UInt8.toNat_ofNat_of_lt' (by omega)).symm
  rw [Bool.eq_iff_iff, e, setOf_iff, setOf_iff]; exact h _
theorem spell_spell (t : ByteArray) : spell (spell t) = spell t := spell_congr (fun c => spell_mem t c)
theorem spell_le (t : ByteArray) : (spell t).size ≤ 256 := by
  rw [size_data, spell_data]; unfold bytesL; rw [List.length_map]; exact bl_length _ _ _
theorem pos_of_mem {t : ByteArray} {c : UInt8} (h : c ∈ t.data.toList) : 0 < t.size := by
  rw [size_data]; exact List.length_pos_of_mem h
theorem mem_of_pos {t : ByteArray} (h : 0 < t.size) : ∃ c, c ∈ t.data.toList := List.exists_mem_of_length_pos (by rw [← size_data]; exact h)
theorem spell_pos {t : ByteArray} (h : 0 < t.size) : 0 < (spell t).size := by
  obtain ⟨c, hc⟩ := mem_of_pos h
  exact pos_of_mem ((spell_mem t c).2 hc)
theorem spell_pos_iff {t : ByteArray} : 0 < (spell t).size ↔ 0 < t.size := by
  constructor
  · intro h; obtain ⟨c, hc⟩ := mem_of_pos h; exact pos_of_mem ((spell_mem t c).1 hc)
  · exact spell_pos

/-! What is right. -/
structure NodeOk (p : Pat) : Prop where
  kind : 1 ≤ p.kind ∧ p.kind ≤ 24
  lit : p.kind = 1 → p.text.size ≤ 65536
  text : p.kind = 3 ∨ p.kind = 4 ∨ p.kind = 5 ∨ p.kind = 6 ∨ p.kind = 7 → 0 < p.text.size ∧ p.text.size ≤ 65536
  num : p.kind = 2 ∨ p.kind = 8 ∨ p.kind = 9 ∨ p.kind = 10 ∨ p.kind = 11 → 0 ≤ p.n ∧ p.n ≤ 65536
  many : p.kind = 18 ∨ p.kind = 19 → 2 ≤ p.kids.length ∧ p.kids.length ≤ 4096
  only : p.kind = 20 ∨ p.kind = 21 ∨ p.kind = 22 → p.kids.length = 1
  name : p.kind = 21 ∨ p.kind = 22 ∨ p.kind = 23 ∨ p.kind = 24 → named p.name = true
  none : ¬ (18 ≤ p.kind ∧ p.kind ≤ 22) → p.kids = []
theorem many_zero {n : Nat} : manyErr n 0 0 = 0 ↔ n = 0 := by unfold manyErr; split <;> simp <;> omega
theorem nil_of {α : Type} {l : List α} (h : l.length = 0) : l = [] := List.eq_nil_of_length_eq_zero h
theorem nodeErr_iff (p : Pat) : nodeErr p = 0 ↔ NodeOk p := by
  constructor
  · intro h
    unfold nodeErr at h
    split at h
    · cases h
    rename_i hk
    split at h
    · rename_i h1
      split at h
      · cases h
      have hz := nil_of (many_zero.1 h)
      exact ⟨by omega, fun _ => by omega, fun _ => by omega, fun _ => by omega, fun _ => by omega, fun _ => by omega, fun _ => by omega, fun _ => hz⟩
    split at h
    · split at h
      · cases h
      split at h
      · cases h
      have hz := nil_of (many_zero.1 h)
      exact ⟨by omega, fun _ => by omega, fun _ => by omega, fun _ => by omega, fun _ => by omega, fun _ => by omega, fun _ => by omega, fun _ => hz⟩
    split at h
    · split at h
      · cases h
      have hz := nil_of (many_zero.1 h)
      exact ⟨by omega, fun _ => by omega, fun _ => by omega, fun _ => by omega, fun _ => by omega, fun _ => by omega, fun _ => by omega, fun _ => hz⟩
    split at h
    · have := many_none h
      exact ⟨by omega, fun _ => by omega, fun _ => by omega, fun _ => by omega, fun _ => by omega, fun _ => by omega, fun _ => by omega, fun _ => by omega⟩
    split at h
    · have := many_none h
      exact ⟨by omega, fun _ => by omega, fun _ => by omega, fun _ => by omega, fun _ => by omega, fun _ => by omega, fun _ => by omega, fun _ => by omega⟩
    split at h
    · split at h
      · cases h
      rename_i hnm
      have := many_none h
      exact ⟨by omega, fun _ => by omega, fun _ => by omega, fun _ => by omega, fun _ => by omega, fun _ => by omega, fun _ => by simpa using hnm, fun _ => by omega⟩
    split at h
    · split at h
      · cases h
      rename_i hnm
      have hz := nil_of (many_zero.1 h)
      exact ⟨by omega, fun _ => by omega, fun _ => by omega, fun _ => by omega, fun _ => by omega, fun _ => by omega, fun _ => by simpa using hnm, fun _ => hz⟩
    · have hz := nil_of (many_zero.1 h)
      exact ⟨by omega, fun _ => by omega, fun _ => by omega, fun _ => by omega, fun _ => by omega, fun _ => by omega, fun _ => by omega, fun _ => hz⟩
  · intro h
    have hk := h.kind
    unfold nodeErr
    rw [if_neg (by omega)]
    split
    · rename_i h1; have := h.lit h1; rw [if_neg (by omega), h.none (by omega)]; rfl
    split
    · rename_i h1; have := h.text h1; rw [if_neg (by omega), if_neg (by omega), h.none (by omega)]; rfl
    split
    · rename_i h1; have := h.num h1; rw [if_neg (by omega), h.none (by omega)]; rfl
    split
    · rename_i h1; have := h.many h1; unfold manyErr; rw [if_neg (by omega)]
    split
    · rename_i h1; have := h.only (by omega); unfold manyErr; rw [if_neg (by omega)]
    split
    · rename_i h1; have := h.only (by omega); have := h.name (by omega); rw [if_neg (by simp [this])]; unfold manyErr; rw [if_neg (by omega)]
    split
    · rename_i h1; have := h.name (by omega); rw [if_neg (by simp [this]), h.none (by omega)]; rfl
    · rw [h.none (by omega)]; rfl
theorem all_errL : ∀ {l : List Pat}, (∀ p ∈ l, errW p = 0) → errL l = 0
  | [], _ => rfl
  | p :: l, h => by rw [errL, if_pos (h p (by simp))]; exact all_errL fun q hq => h q (by simp [hq])
theorem errW_iff (p : Pat) : errW p = 0 ↔ NodeOk p ∧ ∀ q ∈ p.kids, errW q = 0 := by
  constructor
  · intro h; exact ⟨(nodeErr_iff p).1 (errW_node h).1, (errW_node h).2⟩
  · rintro ⟨h1, h2⟩
    obtain ⟨k, t, n, m, l⟩ := p
    rw [errW, if_pos ((nodeErr_iff _).2 h1)]
    exact all_errL h2
theorem lit_right {t : ByteArray} (h : t.size ≤ 65536) : errW (litP t) = 0 :=
  (errW_iff _).2 ⟨⟨by show (1 : Int) ≤ 1 ∧ (1 : Int) ≤ 24; omega, fun _ => h, fun hk => by have hk : (1 : Int) = 3 ∨ (1 : Int) = 4 ∨ (1 : Int) = 5 ∨ (1 : Int) = 6 ∨ (1 : Int) = 7 := hk; omega, fun _ => ⟨Int.le_refl 0, by show (0 : Int) ≤ 65536; omega⟩,
    fun hk => by have hk : (1 : Int) = 18 ∨ (1 : Int) = 19 := hk; omega, fun hk => by have hk : (1 : Int) = 20 ∨ (1 : Int) = 21 ∨ (1 : Int) = 22 := hk; omega, fun hk => by have hk : (1 : Int) = 21 ∨ (1 : Int) = 22 ∨ (1 : Int) = 23 ∨ (1 : Int) = 24 := hk; omega, fun _ => rfl⟩, fun q hq => by cases hq⟩
/-- A node without kids. -/
theorem leaf_right {k : Int} {t : ByteArray} {n : Int} {m : ByteArray} (h0 : 1 ≤ k ∧ k ≤ 24) (h1 : k = 1 → t.size ≤ 65536) (h2 : k = 3 ∨ k = 4 ∨ k = 5 ∨ k = 6 ∨ k = 7 → 0 < t.size ∧ t.size ≤ 65536)
    (h3 : k = 2 ∨ k = 8 ∨ k = 9 ∨ k = 10 ∨ k = 11 → 0 ≤ n ∧ n ≤ 65536) (h4 : ¬ (18 ≤ k ∧ k ≤ 22)) (h5 : k = 21 ∨ k = 22 ∨ k = 23 ∨ k = 24 → named m = true) : errW (.mk k t n m []) = 0 :=
  (errW_iff _).2 ⟨⟨h0, h1, h2, h3, fun hk => by have hk : k = 18 ∨ k = 19 := hk; omega, fun hk => by have hk : k = 20 ∨ k = 21 ∨ k = 22 := hk; omega, h5, fun _ => rfl⟩, fun q hq => by cases hq⟩
theorem text_right {k : Int} {t : ByteArray} (hk : k = 3 ∨ k = 4 ∨ k = 5 ∨ k = 6 ∨ k = 7) (h0 : 0 < t.size) (h : t.size ≤ 65536) : errW (textP k t) = 0 :=
  leaf_right (by omega) (by omega) (fun _ => ⟨h0, h⟩) (by omega) (by omega) (by omega)
theorem num_right {k n : Int} (hk : k = 2 ∨ k = 8 ∨ k = 9 ∨ k = 10 ∨ k = 11) (h0 : 0 ≤ n) (h : n ≤ 65536) : errW (numP k n) = 0 :=
  leaf_right (by omega) (by omega) (by omega) (fun _ => ⟨h0, h⟩) (by omega) (by omega)
theorem bare_right {k : Int} (hk : 12 ≤ k ∧ k ≤ 17) : errW (bareP k) = 0 :=
  leaf_right (by omega) (by omega) (by omega) (by omega) (by omega) (by omega)
theorem kids_right {k : Int} {l : List Pat} (hk : k = 18 ∨ k = 19) (h : 2 ≤ l.length ∧ l.length ≤ 4096) (hl : ∀ q ∈ l, errW q = 0) : errW (kidsP k l) = 0 :=
  (errW_iff _).2 ⟨⟨by show 1 ≤ k ∧ k ≤ 24; omega, fun h => by have h : k = 1 := h; omega, fun h => by have h : k = 3 ∨ k = 4 ∨ k = 5 ∨ k = 6 ∨ k = 7 := h; omega, fun h => by have h : k = 2 ∨ k = 8 ∨ k = 9 ∨ k = 10 ∨ k = 11 := h; omega,
    fun _ => h, fun h => by have h : k = 20 ∨ k = 21 ∨ k = 22 := h; omega, fun h => by have h : k = 21 ∨ k = 22 ∨ k = 23 ∨ k = 24 := h; omega, fun h => by have h : ¬ (18 ≤ k ∧ k ≤ 22) := h; omega⟩, hl⟩
theorem only_right {k : Int} {m : ByteArray} {l : List Pat} (hk : k = 20 ∨ k = 21 ∨ k = 22) (h : l.length = 1) (hm : k = 21 ∨ k = 22 → named m = true) (hl : ∀ q ∈ l, errW q = 0) : errW (.mk k ByteArray.empty 0 m l) = 0 :=
  (errW_iff _).2 ⟨⟨by show 1 ≤ k ∧ k ≤ 24; omega, fun h => by have h : k = 1 := h; omega, fun h => by have h : k = 3 ∨ k = 4 ∨ k = 5 ∨ k = 6 ∨ k = 7 := h; omega, fun h => by have h : k = 2 ∨ k = 8 ∨ k = 9 ∨ k = 10 ∨ k = 11 := h; omega,
    fun h => by have h : k = 18 ∨ k = 19 := h; omega, fun _ => h, fun h => hm (by have h : k = 21 ∨ k = 22 ∨ k = 23 ∨ k = 24 := h; omega), fun h => by have h : ¬ (18 ≤ k ∧ k ≤ 22) := h; omega⟩, hl⟩

/-! What is so of all in a list stays so. -/
section
variable {C : Pat → Prop}
theorem flatP_all {k : Int} (hk : ∀ p, C p → ∀ q ∈ p.kids, C q) : ∀ {l : List Pat}, (∀ p ∈ l, C p) → ∀ q ∈ flatP k l, C q
  | [], _, q, hq => by cases hq
  | p :: l, h, q, hq => by
    rw [flatP] at hq
    rcases List.mem_append.1 hq with hq | hq
    · split at hq
      · exact hk p (h p (by simp)) q hq
      · rw [List.mem_singleton] at hq; rw [hq]; exact h p (by simp)
    · exact flatP_all hk (fun x hx => h x (by simp [hx])) q hq
theorem upToP_mem {f : Pat → Bool} : ∀ {l : List Pat}, ∀ q ∈ upToP f l, q ∈ l
  | [], q, hq => by cases hq
  | p :: l, q, hq => by
    rw [upToP] at hq
    split at hq
    · rw [List.mem_singleton] at hq; simp [hq]
    · rcases List.mem_cons.1 hq with rfl | hq
      · simp
      · have := upToP_mem q hq; simp [this]
theorem mergeF_all {two : Pat → Pat → Option Pat} (h2 : ∀ a b q, C a → C b → two a b = some q → C q) : ∀ (l : List Pat) (a : Pat), C a → (∀ p ∈ l, C p) → ∀ q ∈ mergeF two a l, C q
  | [], a, ha, _, q, hq => by rw [mergeF, List.mem_singleton] at hq; rw [hq]; exact ha
  | b :: l, a, ha, h, q, hq => by
    rw [mergeF] at hq
    split at hq
    · rename_i x hx
      exact mergeF_all h2 l x (h2 _ _ _ ha (h b (by simp)) hx) (fun y hy => h y (by simp [hy])) q hq
    · rcases List.mem_cons.1 hq with rfl | hq
      · exact ha
      · exact mergeF_all h2 l b (h b (by simp)) (fun y hy => h y (by simp [hy])) q hq
theorem mergedP_all {two : Pat → Pat → Option Pat} (h2 : ∀ a b q, C a → C b → two a b = some q → C q) {l : List Pat} (h : ∀ p ∈ l, C p) : ∀ q ∈ mergedP two l, C q := by
  cases l with
  | nil => intro q hq; cases hq
  | cons a l => exact mergeF_all h2 l a (h a (by simp)) (fun y hy => h y (by simp [hy]))
theorem catL_all (hk : ∀ p, C p → ∀ q ∈ p.kids, C q) (h2 : ∀ a b q, C a → C b → piecesP a b = some q → C q) {l : List Pat} (h : ∀ p ∈ l, C p) : ∀ q ∈ catL l, C q :=
  mergedP_all h2 (fun p hp => flatP_all hk h p ((List.mem_filter.1 (upToP_mem p hp)).1))
theorem altL_all (hk : ∀ p, C p → ∀ q ∈ p.kids, C q) (h2 : ∀ a b q, C a → C b → othersP a b = some q → C q) {l : List Pat} (h : ∀ p ∈ l, C p) : ∀ q ∈ altL l, C q :=
  mergedP_all h2 (fun p hp => flatP_all hk h p ((List.mem_filter.1 (upToP_mem p hp)).1))
end
theorem right_kids (p : Pat) (h : errW p = 0) : ∀ q ∈ p.kids, errW q = 0 := ((errW_iff p).1 h).2
theorem pieces_right (a b q : Pat) (ha : errW a = 0) (hb : errW b = 0) (h : piecesP a b = some q) : errW q = 0 := by
  unfold piecesP at h
  split at h
  · rename_i hh; cases h; exact lit_right (by rw [ByteArray.size_append]; exact hh.2.2)
  · split at h
    · rename_i hh
      cases h
      have h1 := ((errW_iff a).1 ha).1.num (by omega)
      have h2 := ((errW_iff b).1 hb).1.num (by omega)
      exact num_right (by omega) (by omega) hh.2.2
    · cases h
theorem oneB_pos {p : Pat} (hp : errW p = 0) (h : oneB p = true) : 0 < p.text.size := by
  unfold oneB at h
  rw [Bool.or_eq_true] at h
  rcases h with h | h
  · exact (((errW_iff p).1 hp).1.text (Or.inl (by simpa using h))).1
  · rw [Bool.and_eq_true] at h
    have : p.text.size = 1 := by simpa using h.2
    omega
theorem others_right (a b q : Pat) (ha : errW a = 0) (hb : errW b = 0) (h : othersP a b = some q) : errW q = 0 := by
  unfold othersP at h
  split at h
  · rename_i hh
    cases h
    have := oneB_pos ha hh.1
    exact text_right (by omega) (spell_pos (by rw [ByteArray.size_append]; omega)) (Nat.le_trans (spell_le _) (by omega))
  · cases h
theorem single_right {k : Int} {z : Pat} (hk : k = 18 ∨ k = 19) (hz : errW z = 0) {l : List Pat} (hl : ∀ q ∈ l, errW q = 0) (hn : l.length ≤ 4096) : errW (singleP k z l) = 0 := by
  match l with
  | [] => exact hz
  | [p] => exact hl p (by simp)
  | p :: q :: l => exact kids_right hk ⟨by simp, hn⟩ hl
theorem getD_mem {l : List Pat} (h : 0 < l.length) : l.getD 0 Pat.zero ∈ l := by
  cases l with
  | nil => simp at h
  | cons p l => simp
theorem makeP_right {k : Int} {t : ByteArray} {n : Int} {m : ByteArray} {l l' : List Pat} (h : NodeOk (.mk k t n m l')) (hl : l.length = l'.length) (hr : ∀ q ∈ l, errW q = 0) (hN : 1 + nodesL l ≤ 4096) : errW (makeP k t n m l) = 0 := by
  obtain ⟨h0, h1, h2, h3, h4, h5, h6, h7⟩ := h
  simp only [Pat.kind, Pat.text, Pat.n, Pat.name, Pat.kids] at h0 h1 h2 h3 h4 h5 h6 h7
  unfold makeP
  refine iteInduction (motive := fun p => errW p = 0) (fun _ => ?_) (fun _ => ?_)
  · exact lit_right (h1 (by assumption))
  refine iteInduction (motive := fun p => errW p = 0) (fun _ => ?_) (fun _ => ?_)
  · have := h3 (by omega)
    refine iteInduction (motive := fun p => errW p = 0) (fun _ => ?_) (fun _ => ?_)
    · exact lit_right (by show 0 ≤ 65536; omega)
    · exact num_right (by omega) this.1 this.2
  refine iteInduction (motive := fun p => errW p = 0) (fun _ => ?_) (fun _ => ?_)
  · have := h2 (by omega)
    refine iteInduction (motive := fun p => errW p = 0) (fun _ => ?_) (fun _ => ?_)
    · exact lit_right (Nat.le_trans (spell_le _) (by omega))
    · exact text_right (by omega) (spell_pos this.1) (Nat.le_trans (spell_le _) (by omega))
  refine iteInduction (motive := fun p => errW p = 0) (fun _ => ?_) (fun _ => ?_)
  · have := h2 (by omega)
    exact text_right (by omega) (spell_pos this.1) (Nat.le_trans (spell_le _) (by omega))
  refine iteInduction (motive := fun p => errW p = 0) (fun _ => ?_) (fun _ => ?_)
  · have := h3 (by omega)
    exact num_right (by omega) this.1 this.2
  refine iteInduction (motive := fun p => errW p = 0) (fun _ => ?_) (fun _ => ?_)
  · have := h3 (by omega)
    refine iteInduction (motive := fun p => errW p = 0) (fun _ => ?_) (fun _ => ?_)
    · exact bare_right (by omega)
    · exact num_right (by omega) this.1 this.2
  refine iteInduction (motive := fun p => errW p = 0) (fun _ => ?_) (fun _ => ?_)
  · exact single_right (by omega) (lit_right (by show 0 ≤ 65536; omega)) (catL_all right_kids pieces_right hr) (by have := catL_nodes l; have := length_le_nodes (catL l); omega)
  refine iteInduction (motive := fun p => errW p = 0) (fun _ => ?_) (fun _ => ?_)
  · exact single_right (by omega) (bare_right (by omega)) (altL_all right_kids others_right hr) (by have := altL_nodes l; have := length_le_nodes (altL l); omega)
  refine iteInduction (motive := fun p => errW p = 0) (fun _ => ?_) (fun _ => ?_)
  · have := h5 (by omega)
    refine iteInduction (motive := fun p => errW p = 0) (fun _ => ?_) (fun _ => ?_)
    · exact lit_right (by show 0 ≤ 65536; omega)
    · refine iteInduction (motive := fun p => errW p = 0) (fun _ => ?_) (fun _ => ?_)
      · exact bare_right (by omega)
      · exact only_right (by omega) (by omega) (by omega) hr
  refine iteInduction (motive := fun p => errW p = 0) (fun _ => ?_) (fun _ => ?_)
  · have := h5 (by omega)
    refine iteInduction (motive := fun p => errW p = 0) (fun _ => ?_) (fun _ => ?_)
    · exact hr _ (getD_mem (by omega))
    · exact only_right (by omega) (by omega) (fun _ => h6 (by omega)) hr
  refine iteInduction (motive := fun p => errW p = 0) (fun _ => ?_) (fun _ => ?_)
  · exact leaf_right (by omega) (by omega) (by omega) (by omega) (by omega) (fun _ => h6 (by omega))
  · exact leaf_right (by omega) (by omega) (by omega) (by omega) (by omega) (by omega)
mutual
theorem simple_right : ∀ p : Pat, errW p = 0 → nodesP p ≤ 4096 → errW (simple p) = 0
  | .mk k t n m l, h, hn => by
    obtain ⟨h1, h2⟩ := (errW_iff _).1 h
    rw [nodesP] at hn
    rw [simple]
    refine makeP_right h1 (by rw [simpleL_map, List.length_map]) (simpleL_right l h2 (by omega)) ?_
    have := simpleL_nodes l
    omega
theorem simpleL_right : ∀ l : List Pat, (∀ q ∈ l, errW q = 0) → nodesL l ≤ 4096 → ∀ q ∈ simpleL l, errW q = 0
  | [], _, _, q, hq => by cases hq
  | p :: l, h, hn, q, hq => by
    rw [nodesL] at hn
    rw [simpleL] at hq
    rcases List.mem_cons.1 hq with rfl | hq
    · exact simple_right p (h p (by simp)) (by omega)
    · exact simpleL_right l (fun x hx => h x (by simp [hx])) (by omega) q hq
end
theorem patErr_simple {p : Pat} (h : patErr p = 0) : patErr (simple p) = 0 := by
  obtain ⟨h1, h2, h3⟩ := (patErr_iff p).1 h
  exact (patErr_iff _).2 ⟨simple_right p h1 h2, Nat.le_trans (simple_nodes p) h2, Nat.le_trans (simple_depth p) h3⟩
end Go.Proofs.YtmcfoefhenmjeaaDoor
/-! The simpler pattern tells the same, with nodes left out. Plain. -/
namespace Go.Proofs.YtmcfoefhenmjeaaDoor
open Tr
set_option linter.unusedVariables false
section
variable (R : List Rule) (s : ByteArray)
/-! A node by its kind. -/
theorem den_cat {p : Pat} (h : p.kind = 18) (n a : Nat) (g : List Gift) : den R s (n + 1) p a g = tick (cats (den R s n) p.kids a g) := by
  show tick (node R s (den R s n) n p a g) = _
  unfold node; rw [h]; rfl
theorem den_alt {p : Pat} (h : p.kind = 19) (n a : Nat) (g : List Gift) : den R s (n + 1) p a g = tick (alts (den R s n) (p.kid 0 :: p.kids.drop 1) a g) := by
  show tick (node R s (den R s n) n p a g) = _
  unfold node; rw [h]; rfl
theorem den_arbno {p : Pat} (h : p.kind = 20) (n a : Nat) (g : List Gift) : den R s (n + 1) p a g = tick (seq (one a g) (star (den R s n (p.kid 0)) n a g)) := by
  show tick (node R s (den R s n) n p a g) = _
  unfold node; rw [h]; rfl
theorem den_cond {p : Pat} (h : p.kind = 21) (n a : Nat) (g : List Gift) : den R s (n + 1) p a g = tick (Tr.bind (den R s n (p.kid 0) a g) (fun e h => one e (h ++ [(p.name, s.extract a e)]))) := by
  show tick (node R s (den R s n) n p a g) = _
  unfold node; rw [h]; rfl
theorem den_imm {p : Pat} (h : p.kind = 22) (n a : Nat) (g : List Gift) : den R s (n + 1) p a g = tick (Tr.bind (den R s n (p.kid 0) a g) (fun e h => say (p.name, s.extract a e) (one e h))) := by
  show tick (node R s (den R s n) n p a g) = _
  unfold node; rw [h]; rfl
theorem den_fail {p : Pat} (h : p.kind = 15) (n a : Nat) (g : List Gift) : den R s (n + 1) p a g = tick naught := by
  show tick (node R s (den R s n) n p a g) = _
  unfold node; rw [h]; rfl
theorem den_abort {p : Pat} (h : p.kind = 17) (n a : Nat) (g : List Gift) : den R s (n + 1) p a g = tick (stop .cut) := by
  show tick (node R s (den R s n) n p a g) = _
  unfold node; rw [h]; rfl
theorem den_arb {p : Pat} (h : p.kind = 13) (n a : Nat) (g : List Gift) : den R s (n + 1) p a g = tick (wayL g (mores s.data.toList.length a)) := by
  show tick (node R s (den R s n) n p a g) = _
  unfold node; rw [h]; rfl
theorem den_breaks {p : Pat} (h : p.kind = 7) (n a : Nat) (g : List Gift) : den R s (n + 1) p a g = tick (wayL g (breaks p.bytes (s.data.toList.drop a) a)) := by
  show tick (node R s (den R s n) n p a g) = _
  unfold node; rw [h]; rfl
theorem den_end {p : Pat} (h : p.kind = 1 ∨ p.kind = 2 ∨ p.kind = 3 ∨ p.kind = 4 ∨ p.kind = 5 ∨ p.kind = 6 ∨ p.kind = 8 ∨ p.kind = 9 ∨ p.kind = 10 ∨ p.kind = 11 ∨ p.kind = 12) (n a : Nat) (g : List Gift) : den R s (n + 1) p a g = tick (wayL g (endAt s.data.toList p a).toList) := by
  show tick (node R s (den R s n) n p a g) = _
  unfold node
  dsimp only
  rw [if_neg (by omega), if_neg (by omega), if_neg (by omega), if_neg (by omega), if_neg (by omega), if_neg (by omega), if_neg (by omega), if_neg (by omega), if_neg (by omega), if_neg (by omega), if_neg (by omega), if_neg (by omega), if_neg (by omega)]
/-- Nodes that have neither text nor number nor kids. -/
theorem den_same {p q : Pat} (hk : p.kind = q.kind) (h : p.kind = 14 ∨ p.kind = 16 ∨ p.kind = 23 ∨ p.kind = 24) (hm : p.name = q.name) : ∀ (n a : Nat) (g : List Gift), den R s n p a g = den R s n q a g
  | 0, a, g => rfl
  | n + 1, a, g => by
    show tick (node R s (den R s n) n p a g) = tick (node R s (den R s n) n q a g)
    unfold node
    rw [← hk, ← hm]
    rcases h with h | h | h | h <;> rw [h] <;> rfl
variable {R s}
theorem kid_zero (p : Pat) (h : 0 < p.kids.length) : p.kid 0 :: p.kids.drop 1 = p.kids := by
  obtain ⟨k, t, n, m, l⟩ := p
  cases l with
  | nil => simp [Pat.kids] at h
  | cons x l => rfl
theorem den_bounds (n : Nat) (p : Pat) (a : Nat) (g : List Gift) (ha : a ≤ s.size) : allw (fun e => e ≤ s.size) (den R s n p a g) := allw_mono (fun e he => he.2) (den_places n p a g ha)
theorem cats_bounds (n : Nat) (l : List Pat) (a : Nat) (g : List Gift) (ha : a ≤ s.size) : allw (fun e => e ≤ s.size) (cats (den R s n) l a g) := allw_mono (fun e he => he.2) (cats_places (fun p a g ha => den_places n p a g ha) l a g ha)
theorem allw_true : ∀ t : Tr, allw (fun _ => True) t
  | stop _ => trivial
  | tick t => allw_true t
  | say _ t => allw_true t
  | way _ _ t => ⟨trivial, allw_true t⟩
theorem fas_bind' {f h : Nat → List Gift → Tr} (k : ∀ a g, fas (f a g) (h a g)) {t x : Tr} (e : fas t x) : fas (Tr.bind t f) (Tr.bind x h) := fas_bind (P := fun _ => True) (fun a g _ => k a g) e (allw_true t)
theorem cats_append (D : Pat → Nat → List Gift → Tr) (m : List Pat) : ∀ (l : List Pat) (a : Nat) (g : List Gift), cats D (l ++ m) a g = Tr.bind (cats D l a g) (cats D m)
  | [], a, g => by rw [List.nil_append, cats, one_bind]
  | p :: l, a, g => by
    rw [List.cons_append, cats, cats, Tr.bind_assoc]
    exact bind_congr (fun e h => cats_append D m l e h) _
theorem alts_append (D : Pat → Nat → List Gift → Tr) (m : List Pat) : ∀ (l : List Pat) (a : Nat) (g : List Gift), alts D (l ++ m) a g = seq (alts D l a g) (alts D m a g)
  | [], a, g => by rw [List.nil_append, alts, seq_naught]
  | p :: l, a, g => by rw [List.cons_append, alts, alts, seq_assoc, alts_append D m l a g]
theorem cats_single (D : Pat → Nat → List Gift → Tr) (p : Pat) (a : Nat) (g : List Gift) : cats D [p] a g = D p a g := by
  rw [cats, bind_congr (fun e h => by rw [cats]) , bind_one]
theorem alts_single (D : Pat → Nat → List Gift → Tr) (p : Pat) (a : Nat) (g : List Gift) : alts D [p] a g = D p a g := by
  rw [alts, alts, naught, seq_right]

/-! Lists. -/
section
variable {n : Nat} {f : Pat → Pat}
theorem cats_fas : ∀ {l : List Pat}, (∀ p ∈ l, ∀ a g, a ≤ s.size → fas (den R s n p a g) (den R s n (f p) a g)) → ∀ a g, a ≤ s.size → fas (cats (den R s n) l a g) (cats (den R s n) (l.map f) a g)
  | [], _, a, g, _ => fas_refl _
  | p :: l, h, a, g, ha => by
    rw [List.map_cons, cats, cats]
    exact fas_bind (fun e k he => cats_fas (fun q hq => h q (by simp [hq])) e k he) (h p (by simp) a g ha) (den_bounds n p a g ha)
theorem alts_fas : ∀ {l : List Pat}, (∀ p ∈ l, ∀ a g, a ≤ s.size → fas (den R s n p a g) (den R s n (f p) a g)) → ∀ a g, a ≤ s.size → fas (alts (den R s n) l a g) (alts (den R s n) (l.map f) a g)
  | [], _, a, g, _ => fas_refl _
  | p :: l, h, a, g, ha => by
    rw [List.map_cons, alts, alts]
    exact fas_seq (alts_fas (fun q hq => h q (by simp [hq])) a g ha) (h p (by simp) a g ha)
end
theorem cats_flat (n : Nat) : ∀ (l : List Pat) (a : Nat) (g : List Gift), fas (cats (den R s n) l a g) (cats (den R s n) (flatP 18 l) a g)
  | [], a, g => fas_refl _
  | p :: l, a, g => by
    rw [flatP, cats_append, cats]
    refine fas_bind' (fun e h => cats_flat n l e h) ?_
    split
    · rename_i hk
      cases n with
      | zero => exact fas_deep _
      | succ n =>
        rw [den_cat R s hk]
        exact fas_skip (fas_of_le (cats_le (fun q a g => den_le R s (by omega) q a g) _ _ _))
    · rw [cats_single]; exact fas_refl _
theorem alts_flat (n : Nat) : ∀ (l : List Pat), (∀ p ∈ l, p.kind = 19 → 0 < p.kids.length) → ∀ (a : Nat) (g : List Gift), fas (alts (den R s n) l a g) (alts (den R s n) (flatP 19 l) a g)
  | [], _, a, g => fas_refl _
  | p :: l, h, a, g => by
    rw [flatP, alts_append, alts]
    refine fas_seq (alts_flat n l (fun q hq => h q (by simp [hq])) a g) ?_
    split
    · rename_i hk
      cases n with
      | zero => exact fas_deep _
      | succ n =>
        rw [den_alt R s hk, kid_zero p (h p (by simp) hk)]
        exact fas_skip (fas_of_le (alts_le (fun q a g => den_le R s (by omega) q a g) _ _ _))
    · rw [alts_single]; exact fas_refl _
theorem den_empty (n : Nat) {p : Pat} (h : emptyP p = true) (a : Nat) (g : List Gift) : fas (den R s n p a g) (one a g) := by
  unfold emptyP at h
  rw [Bool.and_eq_true] at h
  have h1 : p.kind = 1 := by simpa using h.1
  have h2 : p.text.size = 0 := by simpa using h.2
  cases n with
  | zero => exact fas_deep _
  | succ n =>
    rw [den_end R s (Or.inl h1)]
    have e : endAt s.data.toList p a = some a := by
      unfold endAt
      rw [if_pos h1]
      have : p.bytes = [] := List.eq_nil_of_length_eq_zero (by show p.text.data.toList.length = 0; rw [← size_data]; exact h2)
      rw [this]; simp
    rw [e]
    exact fas_skip (fas_refl _)
theorem cats_full (n : Nat) : ∀ (l : List Pat) (a : Nat) (g : List Gift), fas (cats (den R s n) l a g) (cats (den R s n) (l.filter fun p => !emptyP p) a g)
  | [], a, g => fas_refl _
  | p :: l, a, g => by
    rw [List.filter_cons, cats]
    by_cases h : emptyP p = true
    · rw [if_neg (by simp [h])]
      have := fas_bind' (fun e h => cats_full n l e h) (den_empty (R := R) (s := s) n h a g)
      rwa [one_bind] at this
    · rw [if_pos (by simp [h]), cats]
      exact fas_bind' (fun e h => cats_full n l e h) (fas_refl _)
theorem den_nofail (n : Nat) {p : Pat} (h : failB p = true) (a : Nat) (g : List Gift) : fas (den R s n p a g) naught := by
  cases n with
  | zero => exact fas_deep _
  | succ n => rw [den_fail R s (by unfold failB at h; simpa using h)]; exact fas_skip (fas_refl _)
theorem alts_full (n : Nat) : ∀ (l : List Pat) (a : Nat) (g : List Gift), fas (alts (den R s n) l a g) (alts (den R s n) (l.filter fun p => !failB p) a g)
  | [], a, g => fas_refl _
  | p :: l, a, g => by
    rw [List.filter_cons, alts]
    by_cases h : failB p = true
    · rw [if_neg (by simp [h])]
      have := fas_seq (alts_full n l a g) (den_nofail (R := R) (s := s) n h a g)
      rwa [seq_naught] at this
    · rw [if_pos (by simp [h]), alts]
      exact fas_seq (alts_full n l a g) (fas_refl _)
theorem den_noway (n : Nat) {p : Pat} (h : endsB p = true) (a : Nat) (g : List Gift) : allw (fun _ => False) (den R s n p a g) := by
  unfold endsB at h
  rw [Bool.or_eq_true] at h
  cases n with
  | zero => trivial
  | succ n =>
    rcases h with h | h
    · rw [den_fail R s (by simpa using h)]; trivial
    · rw [den_abort R s (by simpa using h)]; trivial
theorem cats_upTo (n : Nat) : ∀ (l : List Pat) (a : Nat) (g : List Gift), fas (cats (den R s n) l a g) (cats (den R s n) (upToP endsB l) a g)
  | [], a, g => fas_refl _
  | p :: l, a, g => by
    rw [upToP, cats]
    split
    · rename_i h
      rw [cats, bind_allw (P := fun _ => False) (h := cats (den R s n) []) (fun _ _ hf => hf.elim) (den_noway n h a g)]
      exact fas_refl _
    · rw [cats]
      exact fas_bind' (fun e h => cats_upTo n l e h) (fas_refl _)
theorem alts_upTo (n : Nat) : ∀ (l : List Pat) (a : Nat) (g : List Gift), fas (alts (den R s n) l a g) (alts (den R s n) (upToP abortB l) a g)
  | [], a, g => fas_refl _
  | p :: l, a, g => by
    rw [upToP, alts]
    split
    · rename_i h
      unfold abortB at h
      rw [alts]
      cases n with
      | zero => exact fas_deep _
      | succ n =>
        rw [den_abort R s (by simpa using h)]
        exact fas_refl _
    · rw [alts]
      exact fas_seq (alts_upTo n l a g) (fas_refl _)
/-! Two that become one. -/
theorem end_litP {p : Pat} (h : p.kind = 1) (l : List UInt8) (y : Nat) : endAt l p y = if p.text.data.toList.isPrefixOf (l.drop y) then some (y + p.text.data.toList.length) else none := by unfold endAt; rw [if_pos h]; rfl
theorem end_lenP {p : Pat} (h : p.kind = 2) (l : List UInt8) (y : Nat) : endAt l p y = if y + p.n.toNat ≤ l.length then some (y + p.n.toNat) else none := by unfold endAt; rw [if_neg (by omega), if_pos h]; rfl
theorem pieces_fas (n : Nat) {a b q : Pat} (ha : errW a = 0) (hb : errW b = 0) (h : piecesP a b = some q) (x : Nat) (g : List Gift) : fas (Tr.bind (den R s n a x g) (den R s n b)) (den R s n q x g) := by
  cases n with
  | zero => exact fas_deep _
  | succ n =>
    have key : ∀ {o : Option Nat} {f : Nat → Option Nat}, (∀ e, den R s (n + 1) b e g = tick (wayL g (f e).toList)) → fas (Tr.bind (wayL g o.toList) (den R s (n + 1) b)) (wayL g (o.bind f).toList) := by
      intro o f hb
      cases o with
      | none => exact fas_refl _
      | some e =>
        show fas (Tr.bind (wayL g [e]) _) _
        rw [wayL, Tr.bind, hb, show Tr.bind (wayL g []) (den R s (n + 1) b) = naught from rfl, naught, seq_right]
        exact fas_skip (fas_refl _)
    unfold piecesP at h
    split at h
    · rename_i hh
      cases h
      rw [den_end R s (Or.inl hh.1), den_end (p := litP _) R s (Or.inl rfl), Tr.bind]
      refine fas_tick (fas_trans (key (f := fun e => endAt s.data.toList b e) (fun e => den_end R s (Or.inl hh.2.1) n e g)) (fas_of_le (le_of_eq' (congrArg (fun o => wayL g (Option.toList o)) ?_))))
      have e1 : endAt s.data.toList (litP (a.text ++ b.text)) x = if (a.text ++ b.text).data.toList.isPrefixOf (s.data.toList.drop x) then some (x + (a.text ++ b.text).data.toList.length) else none := end_litP (p := litP _) rfl _ _
      have e2 : ∀ y, endAt s.data.toList a y = if a.text.data.toList.isPrefixOf (s.data.toList.drop y) then some (y + a.text.data.toList.length) else none := end_litP hh.1 _
      have e3 : ∀ y, endAt s.data.toList b y = if b.text.data.toList.isPrefixOf (s.data.toList.drop y) then some (y + b.text.data.toList.length) else none := end_litP hh.2.1 _
      rw [e1, e2, data_append, prefix_append, List.drop_drop]
      cases h : a.text.data.toList.isPrefixOf (s.data.toList.drop x) with
      | false => simp
      | true =>
        rw [if_pos rfl]
        show endAt _ _ _ = _
        rw [e3, Bool.true_and]
        cases h2 : b.text.data.toList.isPrefixOf (s.data.toList.drop (x + a.text.data.toList.length)) with
        | false => simp
        | true => simp [Nat.add_assoc]
    · split at h
      · rename_i hh
        cases h
        have h1 := ((errW_iff a).1 ha).1.num (by omega)
        have h2 := ((errW_iff b).1 hb).1.num (by omega)
        rw [den_end R s (Or.inr (Or.inl hh.1)), den_end (p := numP _ _) R s (Or.inr (Or.inl rfl)), Tr.bind]
        refine fas_tick (fas_trans (key (f := fun e => endAt s.data.toList b e) (fun e => den_end R s (Or.inr (Or.inl hh.2.1)) n e g)) (fas_of_le (le_of_eq' (congrArg (fun o => wayL g (Option.toList o)) ?_))))
        have e1 : endAt s.data.toList (numP 2 (a.n + b.n)) x = if x + (a.n + b.n).toNat ≤ s.data.toList.length then some (x + (a.n + b.n).toNat) else none := end_lenP (p := numP _ _) rfl _ _
        have e2 : ∀ y, endAt s.data.toList a y = if y + a.n.toNat ≤ s.data.toList.length then some (y + a.n.toNat) else none := end_lenP hh.1 _
        have e3 : ∀ y, endAt s.data.toList b y = if y + b.n.toNat ≤ s.data.toList.length then some (y + b.n.toNat) else none := end_lenP hh.2.1 _
        rw [e1, e2]
        by_cases h : x + a.n.toNat ≤ s.data.toList.length
        · rw [if_pos h]
          show endAt _ _ _ = _
          rw [e3]
          by_cases h2 : x + a.n.toNat + b.n.toNat ≤ s.data.toList.length
          · rw [if_pos h2, if_pos (by omega)]; congr 1; omega
          · rw [if_neg h2, if_neg (by omega)]
        · rw [if_neg h, if_neg (by omega)]; rfl
      · cases h
/-- A node of one byte. -/
theorem one_end {p : Pat} (h : oneB p = true) (x : Nat) : endAt s.data.toList p x = match s.data.toList[x]? with | some c => if p.text.data.toList.contains c then some (x + 1) else none | none => none := by
  unfold oneB at h
  rw [Bool.or_eq_true] at h
  rcases h with h | h
  · have h : p.kind = 3 := by simpa using h
    unfold endAt
    rw [if_neg (by omega), if_neg (by omega), if_pos h]; rfl
  · rw [Bool.and_eq_true] at h
    have h1 : p.kind = 1 := by simpa using h.1
    have h2 : p.text.size = 1 := by simpa using h.2
    obtain ⟨y, hy⟩ : ∃ y, p.text.data.toList = [y] := List.length_eq_one_iff.1 (by rw [← size_data]; exact h2)
    unfold endAt Pat.bytes
    rw [if_pos h1, hy]
    rcases Nat.lt_or_ge x s.data.toList.length with hx | hx
    · rw [List.getElem?_eq_getElem hx, List.drop_eq_getElem_cons hx]
      generalize s.data.toList[x] = z
      show (if (List.isPrefixOf [y] (z :: _)) = true then some (x + 1) else none) = if List.contains [y] z = true then some (x + 1) else none
      have e2 : List.isPrefixOf [y] (z :: List.drop (x + 1) s.data.toList) = List.contains [y] z := by
        by_cases e : y = z
        · subst e; simp [List.isPrefixOf]
        · have e' := Ne.symm e
          simp [List.isPrefixOf, e, e']
      rw [e2]
    · rw [List.getElem?_eq_none hx, List.drop_eq_nil_of_le hx]; rfl
theorem one_kind {p : Pat} (h : oneB p = true) : p.kind = 1 ∨ p.kind = 3 := by
  unfold oneB at h
  rw [Bool.or_eq_true] at h
  rcases h with h | h
  · exact Or.inr (by simpa using h)
  · rw [Bool.and_eq_true] at h; exact Or.inl (by simpa using h.1)
theorem others_fas (n : Nat) {a b q : Pat} (h : othersP a b = some q) (x : Nat) (g : List Gift) : fas (seq (den R s n a x g) (den R s n b x g)) (den R s n q x g) := by
  cases n with
  | zero => exact fas_deep _
  | succ n =>
    unfold othersP at h
    split at h
    · rename_i hh
      cases h
      have ka := one_kind hh.1
      have kb := one_kind hh.2.1
      rw [den_end R s (by omega), den_end R s (p := b) (by omega), den_end (p := textP _ _) R s (Or.inr (Or.inr (Or.inl rfl))), seq, one_end hh.1, one_end hh.2.1, one_end (p := textP 3 _) rfl]
      refine fas_tick ?_
      cases hc : s.data.toList[x]? with
      | none => exact fas_skip (fas_refl _)
      | some c =>
        have e : (textP 3 (spell (a.text ++ b.text))).text.data.toList.contains c = (a.text.data.toList.contains c || b.text.data.toList.contains c) := by
          show (spell (a.text ++ b.text)).data.toList.contains c = _
          rw [spell_has, data_append, List.contains_eq_mem, List.contains_eq_mem, List.contains_eq_mem]
          simp
        simp only [e]
        cases h1 : a.text.data.toList.contains c with
        | true =>
          have h2 : b.text.data.toList.contains c = false := by
            have := hh.2.2
            unfold apartB at this
            have := List.all_eq_true.1 this c (List.contains_iff_mem.1 h1)
            simpa using this
          simp only [h2, Bool.true_or, if_true]
          exact fas_way (fas_skip (fas_refl _))
        | false =>
          cases h2 : b.text.data.toList.contains c with
          | true => exact fas_skip (fas_refl _)
          | false => exact fas_skip (fas_refl _)
    · cases h
theorem cats_mergeF (n : Nat) : ∀ (l : List Pat) (b : Pat), errW b = 0 → (∀ p ∈ l, errW p = 0) → ∀ (a : Nat) (g : List Gift), fas (cats (den R s n) (b :: l) a g) (cats (den R s n) (mergeF piecesP b l) a g)
  | [], b, _, _, a, g => fas_refl _
  | c :: l, b, hb, hl, a, g => by
    rw [mergeF]
    split
    · rename_i q hq
      refine fas_trans ?_ (cats_mergeF n l q (pieces_right _ _ _ hb (hl c (by simp)) hq) (fun p hp => hl p (by simp [hp])) a g)
      have e : cats (den R s n) (b :: c :: l) a g = Tr.bind (Tr.bind (den R s n b a g) (den R s n c)) (cats (den R s n) l) := by
        rw [Tr.bind_assoc, cats]
        exact bind_congr (fun e h => by rw [cats]) _
      rw [e, cats]
      exact fas_bind' (fun _ _ => fas_refl _) (pieces_fas n hb (hl c (by simp)) hq a g)
    · rw [cats, cats]
      exact fas_bind' (fun e h => cats_mergeF n l c (hl c (by simp)) (fun p hp => hl p (by simp [hp])) e h) (fas_refl _)
theorem alts_mergeF (n : Nat) : ∀ (l : List Pat) (b : Pat) (a : Nat) (g : List Gift), fas (alts (den R s n) (b :: l) a g) (alts (den R s n) (mergeF othersP b l) a g)
  | [], b, a, g => fas_refl _
  | c :: l, b, a, g => by
    rw [mergeF]
    split
    · rename_i q hq
      refine fas_trans ?_ (alts_mergeF n l q a g)
      rw [alts, alts, ← seq_assoc, alts]
      exact fas_seq (fas_refl _) (others_fas n hq a g)
    · rw [alts, alts]
      exact fas_seq (alts_mergeF n l c a g) (fas_refl _)
theorem cats_catL (n : Nat) {l : List Pat} (hl : ∀ p ∈ l, errW p = 0) (a : Nat) (g : List Gift) : fas (cats (den R s n) l a g) (cats (den R s n) (catL l) a g) := by
  refine fas_trans (cats_flat n l a g) (fas_trans (cats_full n _ a g) (fas_trans (cats_upTo n _ a g) ?_))
  have hr : ∀ p ∈ upToP endsB ((flatP 18 l).filter fun p => !emptyP p), errW p = 0 := fun p hp => flatP_all right_kids hl p ((List.mem_filter.1 (upToP_mem p hp)).1)
  unfold catL
  generalize upToP endsB ((flatP 18 l).filter fun p => !emptyP p) = L at hr
  cases L with
  | nil => exact fas_refl _
  | cons b L => exact cats_mergeF n L b (hr b (by simp)) (fun p hp => hr p (by simp [hp])) a g
theorem alts_altL (n : Nat) {l : List Pat} (hl : ∀ p ∈ l, errW p = 0) (a : Nat) (g : List Gift) : fas (alts (den R s n) l a g) (alts (den R s n) (altL l) a g) := by
  refine fas_trans (alts_flat n l (fun p hp hk => by have := ((errW_iff p).1 (hl p hp)).1.many (Or.inr hk); omega) a g) (fas_trans (alts_full n _ a g) (fas_trans (alts_upTo n _ a g) ?_))
  unfold altL
  generalize upToP abortB ((flatP 19 l).filter fun p => !failB p) = L
  cases L with
  | nil => exact fas_refl _
  | cons b L => exact alts_mergeF n L b a g
theorem lit_empty (n a : Nat) (g : List Gift) : den R s (n + 1) (litP ByteArray.empty) a g = tick (one a g) := by
  rw [den_end R s (Or.inl rfl)]
  have e : endAt s.data.toList (litP ByteArray.empty) a = some a := by simp [endAt, litP, Pat.kind, Pat.bytes, Pat.text]
  rw [e]; rfl
theorem cat_single (n : Nat) (l : List Pat) (a : Nat) (g : List Gift) : fas (tick (cats (den R s n) l a g)) (den R s (n + 1) (singleP 18 (litP ByteArray.empty) l) a g) := by
  match l with
  | [] => rw [singleP, lit_empty]; exact fas_refl _
  | [p] =>
    rw [singleP, cats_single]
    exact fas_skip (fas_of_le (den_le R s (by omega) p a g))
  | p :: q :: l =>
    show fas _ (den R s (n + 1) (kidsP 18 (p :: q :: l)) a g)
    rw [den_cat (p := kidsP 18 _) R s rfl]
    exact fas_refl _
theorem alt_single (n : Nat) (l : List Pat) (a : Nat) (g : List Gift) : fas (tick (alts (den R s n) l a g)) (den R s (n + 1) (singleP 19 (bareP 15) l) a g) := by
  match l with
  | [] => rw [singleP, den_fail R s rfl]; exact fas_refl _
  | [p] =>
    rw [singleP, alts_single]
    exact fas_skip (fas_of_le (den_le R s (by omega) p a g))
  | p :: q :: l =>
    show fas _ (den R s (n + 1) (kidsP 19 (p :: q :: l)) a g)
    rw [den_alt (p := kidsP 19 _) R s rfl]
    exact fas_refl _
theorem star_fas {n : Nat} {p q : Pat} (h : ∀ a g, a ≤ s.size → fas (den R s n p a g) (den R s n q a g)) : ∀ (c a : Nat) (g : List Gift), a ≤ s.size → fas (star (den R s n p) c a g) (star (den R s n q) c a g)
  | 0, a, g, _ => fas_deep _
  | c + 1, a, g, ha => by
    rw [star, star]
    refine fas_bind (fun e k he => ?_) (h a g ha) (den_bounds n p a g ha)
    split
    · exact fas_refl _
    · exact fas_seq (star_fas h c e k he) (fas_refl _)
theorem star_empty {n : Nat} {p : Pat} (h : emptyP p = true ∨ failB p = true) (c a : Nat) (g : List Gift) : fas (star (den R s n p) c a g) naught := by
  cases c with
  | zero => exact fas_deep _
  | succ c =>
    rw [star]
    rcases h with h | h
    · have := fas_bind' (f := fun e h => if e = a then naught else seq (one e h) (star (den R s n p) c e h)) (fun _ _ => fas_refl _) (den_empty (R := R) (s := s) n h a g)
      rwa [one_bind, if_pos rfl] at this
    · have := fas_bind' (f := fun e h => if e = a then naught else seq (one e h) (star (den R s n p) c e h)) (fun _ _ => fas_refl _) (den_nofail (R := R) (s := s) n h a g)
      rwa [none_bind] at this
theorem star_one {n : Nat} {p : Pat} (hk : p.kind = 2) (hn : p.n = 1) : ∀ (c a : Nat) (g : List Gift), a ≤ s.size → fas (star (den R s n p) c a g) (wayL g (List.range' (a + 1) (s.size - a)))
  | 0, a, g, _ => fas_deep _
  | c + 1, a, g, ha => by
    rw [star]
    cases n with
    | zero => exact fas_deep _
    | succ n =>
      rw [den_end R s (Or.inr (Or.inl hk)), Tr.bind]
      refine fas_skip ?_
      have e1 : endAt s.data.toList p a = if a + 1 ≤ s.size then some (a + 1) else none := by
        rw [end_lenP hk, hn]; rfl
      rw [e1]
      by_cases h : a + 1 ≤ s.size
      · rw [if_pos h]
        obtain ⟨d, hd⟩ : ∃ d, s.size - a = d + 1 := ⟨s.size - a - 1, by omega⟩
        rw [hd, List.range'_succ]
        show fas (Tr.bind (wayL g [a + 1]) _) (wayL g ((a + 1) :: List.range' (a + 1 + 1) d))
        rw [wayL, wayL, Tr.bind, wayL, naught, Tr.bind, seq_right, if_neg (by omega)]
        have := star_one (n := n + 1) hk hn c (a + 1) g h
        rw [show s.size - (a + 1) = d by omega] at this
        exact fas_way (by rw [seq_done]; exact this)
      · rw [if_neg h, show s.size - a = 0 by omega]
        exact fas_refl _
theorem breaks_has {t u : List UInt8} (h : ∀ c, t.contains c = u.contains c) : ∀ (l : List UInt8) (a : Nat), breaks t l a = breaks u l a
  | [], a => rfl
  | c :: l, a => by rw [breaks, breaks, h c, breaks_has h l (a + 1)]
theorem has_fun {t u : List UInt8} (h : ∀ c, t.contains c = u.contains c) : t.contains = u.contains := funext h
/-- Of a node with a text as its bytes. -/
theorem text_end {k : Int} (hk : k = 3 ∨ k = 4 ∨ k = 5 ∨ k = 6) {t u : ByteArray} {n n' : Int} {m m' : ByteArray} {l l' : List Pat} (h : ∀ c, t.data.toList.contains c = u.data.toList.contains c) (L : List UInt8) (a : Nat) : endAt L (.mk k t n m l) a = endAt L (.mk k u n' m' l') a := by
  have hh := has_fun h
  have hb : (Pat.mk k t n m l).bytes = t.data.toList := rfl
  have hb' : (Pat.mk k u n' m' l').bytes = u.data.toList := rfl
  have hn : (fun c => !t.data.toList.contains c) = fun c => !u.data.toList.contains c := by rw [hh]
  unfold endAt
  rw [hb, hb', hn, hh]
  rcases hk with rfl | rfl | rfl | rfl <;> rfl
theorem fas_ite {c : Prop} [Decidable c] {t : Tr} {p q : Pat} {n a : Nat} {g : List Gift} (h1 : c → fas t (den R s n p a g)) (h2 : ¬c → fas t (den R s n q a g)) : fas t (den R s n (if c then p else q) a g) := by
  by_cases h : c
  · rw [if_pos h]; exact h1 h
  · rw [if_neg h]; exact h2 h
/-- A node, its kids simple already. -/
theorem make_fas {n : Nat} {k : Int} {t : ByteArray} {z : Int} {m : ByteArray} {l : List Pat} (h : errW (.mk k t z m l) = 0) (hN : nodesL l ≤ 4096) (ih : ∀ p ∈ l, ∀ a g, a ≤ s.size → fas (den R s n p a g) (den R s n (simple p) a g))
    (a : Nat) (g : List Gift) (ha : a ≤ s.size) : fas (den R s (n + 1) (.mk k t z m l) a g) (den R s (n + 1) (makeP k t z m (l.map simple)) a g) := by
  obtain ⟨h1, h2⟩ := (errW_iff _).1 h
  have hsr : ∀ q ∈ l.map simple, errW q = 0 := by rw [← simpleL_map]; exact simpleL_right l h2 hN
  have hkd : (Pat.mk k t z m l).kind = k := rfl
  have hkids : (Pat.mk k t z m l).kids = l := rfl
  obtain ⟨g0, g1, g2, g3, g4, g5, g6, g7⟩ := h1
  simp only [Pat.kind, Pat.text, Pat.n, Pat.name, Pat.kids] at g0 g1 g2 g3 g4 g5 g6 g7
  unfold makeP
  refine fas_ite (fun _ => ?_) (fun _ => ?_)
  · rename_i e; subst e
    rw [den_end R s (Or.inl rfl), den_end (p := litP t) R s (Or.inl rfl)]
    exact fas_refl _
  refine fas_ite (fun _ => ?_) (fun _ => ?_)
  · rename_i e; subst e
    have := g3 (by omega)
    refine fas_ite (fun _ => ?_) (fun _ => ?_)
    · rename_i e; subst e
      rw [den_end R s (Or.inr (Or.inl rfl)), lit_empty]
      have e1 : endAt s.data.toList (.mk 2 t 0 m l) a = some a := by
        rw [end_lenP rfl, if_pos (by show a + 0 ≤ _; exact ha)]; rfl
      rw [e1]; exact fas_refl _
    · rw [den_end R s (Or.inr (Or.inl rfl)), den_end (p := numP 2 z) R s (Or.inr (Or.inl rfl))]
      exact fas_refl _
  refine fas_ite (fun _ => ?_) (fun _ => ?_)
  · rename_i e; subst e
    refine fas_ite (fun _ => ?_) (fun _ => ?_)
    · rename_i e1
      rw [den_end R s (Or.inr (Or.inr (Or.inl rfl))), den_end (p := litP _) R s (Or.inl rfl), one_end (p := .mk 3 t z m l) rfl, one_end (p := litP _) (by show ((false : Bool) || (true && (spell t).size == 1)) = true; simp [e1])]
      have : ∀ c, (Pat.mk 3 t z m l).text.data.toList.contains c = (litP (spell t)).text.data.toList.contains c := fun c => (spell_has t c).symm
      simp only [this]
      exact fas_refl _
    · rw [den_end R s (Or.inr (Or.inr (Or.inl rfl))), den_end (p := textP 3 _) R s (Or.inr (Or.inr (Or.inl rfl)))]
      rw [show textP 3 (spell t) = .mk 3 (spell t) 0 ByteArray.empty [] from rfl, text_end (k := 3) (by omega) (fun c => (spell_has t c).symm)]
      exact fas_refl _
  refine fas_ite (fun _ => ?_) (fun _ => ?_)
  · rename_i e
    by_cases h7 : k = 7
    · subst h7
      rw [den_breaks R s rfl, den_breaks (p := textP 7 _) R s rfl]
      rw [show (textP 7 (spell t)).bytes = (spell t).data.toList from rfl, show (Pat.mk 7 t z m l).bytes = t.data.toList from rfl, breaks_has (fun c => spell_has t c)]
      exact fas_refl _
    · have hk : k = 4 ∨ k = 5 ∨ k = 6 := by omega
      rw [den_end R s (by rw [hkd]; omega), den_end (p := textP k _) R s (by show k = 1 ∨ k = 2 ∨ k = 3 ∨ k = 4 ∨ k = 5 ∨ k = 6 ∨ k = 8 ∨ k = 9 ∨ k = 10 ∨ k = 11 ∨ k = 12; omega)]
      rw [show textP k (spell t) = .mk k (spell t) 0 ByteArray.empty [] from rfl, text_end (k := k) (by omega) (fun c => (spell_has t c).symm)]
      exact fas_refl _
  refine fas_ite (fun _ => ?_) (fun _ => ?_)
  · rename_i e
    rw [den_end R s (by rw [hkd]; omega), den_end (p := numP k _) R s (by show k = 1 ∨ k = 2 ∨ k = 3 ∨ k = 4 ∨ k = 5 ∨ k = 6 ∨ k = 8 ∨ k = 9 ∨ k = 10 ∨ k = 11 ∨ k = 12; omega)]
    have e1 : endAt s.data.toList (.mk k t z m l) a = endAt s.data.toList (numP k z) a := by
      rcases e with rfl | rfl | rfl <;> rfl
    rw [e1]; exact fas_refl _
  refine fas_ite (fun _ => ?_) (fun _ => ?_)
  · rename_i e; subst e
    refine fas_ite (fun _ => ?_) (fun _ => ?_)
    · rename_i e; subst e
      rw [den_end R s (by show (9 : Int) = 1 ∨ (9 : Int) = 2 ∨ (9 : Int) = 3 ∨ (9 : Int) = 4 ∨ (9 : Int) = 5 ∨ (9 : Int) = 6 ∨ (9 : Int) = 8 ∨ (9 : Int) = 9 ∨ (9 : Int) = 10 ∨ (9 : Int) = 11 ∨ (9 : Int) = 12; omega), den_end (p := bareP 12) R s (by show (12 : Int) = 1 ∨ (12 : Int) = 2 ∨ (12 : Int) = 3 ∨ (12 : Int) = 4 ∨ (12 : Int) = 5 ∨ (12 : Int) = 6 ∨ (12 : Int) = 8 ∨ (12 : Int) = 9 ∨ (12 : Int) = 10 ∨ (12 : Int) = 11 ∨ (12 : Int) = 12; omega)]
      have e1 : endAt s.data.toList (.mk 9 t 0 m l) a = some s.data.toList.length := by
        have : endAt s.data.toList (.mk 9 t 0 m l) a = if a + 0 ≤ s.data.toList.length then some (s.data.toList.length - 0) else none := rfl
        rw [this, if_pos (show a + 0 ≤ s.data.toList.length from ha)]; rfl
      rw [e1]; exact fas_refl _
    · rw [den_end R s (by show (9 : Int) = 1 ∨ (9 : Int) = 2 ∨ (9 : Int) = 3 ∨ (9 : Int) = 4 ∨ (9 : Int) = 5 ∨ (9 : Int) = 6 ∨ (9 : Int) = 8 ∨ (9 : Int) = 9 ∨ (9 : Int) = 10 ∨ (9 : Int) = 11 ∨ (9 : Int) = 12; omega), den_end (p := numP 9 z) R s (by show (9 : Int) = 1 ∨ (9 : Int) = 2 ∨ (9 : Int) = 3 ∨ (9 : Int) = 4 ∨ (9 : Int) = 5 ∨ (9 : Int) = 6 ∨ (9 : Int) = 8 ∨ (9 : Int) = 9 ∨ (9 : Int) = 10 ∨ (9 : Int) = 11 ∨ (9 : Int) = 12; omega)]
      exact fas_refl _
  refine fas_ite (fun _ => ?_) (fun _ => ?_)
  · rename_i e; subst e
    rw [den_cat (p := .mk 18 t z m l) R s rfl]
    exact fas_trans (fas_tick (fas_trans (cats_fas ih a g ha) (cats_catL n hsr a g))) (cat_single n _ a g)
  refine fas_ite (fun _ => ?_) (fun _ => ?_)
  · rename_i e; subst e
    have := g4 (by omega)
    rw [den_alt (p := .mk 19 t z m l) R s rfl, kid_zero (.mk 19 t z m l) (by show 0 < l.length; omega)]
    exact fas_trans (fas_tick (fas_trans (alts_fas ih a g ha) (alts_altL n hsr a g))) (alt_single n _ a g)
  refine fas_ite (fun _ => ?_) (fun _ => ?_)
  · rename_i e; subst e
    have hl := g5 (by omega)
    obtain ⟨x, rfl⟩ := List.length_eq_one_iff.1 hl
    have ihx := ih x (by simp)
    rw [den_arbno (p := .mk 20 t z m [x]) R s rfl]
    show fas (tick (seq (one a g) (star (den R s n x) n a g))) _
    have hs := star_fas ihx n a g ha
    rw [show ((List.map simple [x]).getD 0 Pat.zero) = simple x from rfl]
    refine fas_ite (fun _ => ?_) (fun _ => ?_)
    · rename_i he
      rw [lit_empty]
      refine fas_tick ?_
      rw [one, seq, seq_done]
      exact fas_way (fas_trans hs (star_empty he n a g))
    · refine fas_ite (fun _ => ?_) (fun _ => ?_)
      · rename_i he
        rw [den_arb (p := bareP 13) R s rfl]
        refine fas_tick ?_
        have e1 : mores s.data.toList.length a = a :: List.range' (a + 1) (s.size - a) := by
          unfold mores; rw [List.range'_succ]; rfl
        rw [e1, one, seq, seq_done, wayL]
        exact fas_way (fas_trans hs (star_one he.1 he.2 n a g ha))
      · rw [den_arbno (p := kidsP 20 _) R s rfl]
        exact fas_tick (fas_seq hs (fas_refl _))
  refine fas_ite (fun _ => ?_) (fun _ => ?_)
  · rename_i e
    have hl := g5 (by omega)
    obtain ⟨x, rfl⟩ := List.length_eq_one_iff.1 hl
    have ihx := ih x (by simp)
    rw [show ((List.map simple [x]).getD 0 Pat.zero) = simple x from rfl]
    refine fas_ite (fun _ => ?_) (fun _ => ?_)
    · rename_i he
      have key : ∀ F : Nat → List Gift → Tr, fas (tick (Tr.bind (den R s n x a g) F)) (den R s (n + 1) (simple x) a g) := fun F => by
        refine fas_skip (fas_trans (fas_bind' (fun _ _ => fas_refl _) (ihx a g ha)) ?_)
        rw [bind_allw (P := fun _ => False) (h := one) (fun _ _ hf => hf.elim) (den_noway n he a g), bind_one]
        exact fas_of_le (den_le R s (by omega) _ a g)
      rcases e with rfl | rfl
      · rw [den_cond (p := .mk 21 t z m [x]) R s rfl]; exact key _
      · rw [den_imm (p := .mk 22 t z m [x]) R s rfl]; exact key _
    · rcases e with rfl | rfl
      · rw [den_cond (p := .mk 21 t z m [x]) R s rfl, den_cond (p := .mk 21 ByteArray.empty 0 m _) R s rfl]
        exact fas_tick (fas_bind' (fun _ _ => fas_refl _) (ihx a g ha))
      · rw [den_imm (p := .mk 22 t z m [x]) R s rfl, den_imm (p := .mk 22 ByteArray.empty 0 m _) R s rfl]
        exact fas_tick (fas_bind' (fun _ _ => fas_refl _) (ihx a g ha))
  refine fas_ite (fun _ => ?_) (fun _ => ?_)
  · rename_i e
    rw [den_same R s (p := .mk k t z m l) (q := .mk k ByteArray.empty 0 m []) rfl (by show k = 14 ∨ k = 16 ∨ k = 23 ∨ k = 24; omega) rfl]
    exact fas_refl _
  · by_cases e12 : k = 12
    · subst e12
      have h12 : (12 : Int) = 1 ∨ (12 : Int) = 2 ∨ (12 : Int) = 3 ∨ (12 : Int) = 4 ∨ (12 : Int) = 5 ∨ (12 : Int) = 6 ∨ (12 : Int) = 8 ∨ (12 : Int) = 9 ∨ (12 : Int) = 10 ∨ (12 : Int) = 11 ∨ (12 : Int) = 12 := by omega
      rw [den_end (p := .mk 12 t z m l) R s h12, den_end (p := bareP 12) R s h12]
      exact fas_refl _
    by_cases e13 : k = 13
    · subst e13
      rw [den_arb R s rfl, den_arb (p := bareP 13) R s rfl]; exact fas_refl _
    by_cases e15 : k = 15
    · subst e15
      rw [den_fail R s rfl, den_fail (p := bareP 15) R s rfl]; exact fas_refl _
    by_cases e17 : k = 17
    · subst e17
      rw [den_abort R s rfl, den_abort (p := bareP 17) R s rfl]; exact fas_refl _
    by_cases e14 : k = 14
    · subst e14
      show fas (tick (node R s (den R s n) n (.mk 14 t z m l) a g)) (tick (node R s (den R s n) n (bareP 14) a g))
      exact fas_refl _
    have e16 : k = 16 := by omega
    subst e16
    show fas (tick (node R s (den R s n) n (.mk 16 t z m l) a g)) (tick (node R s (den R s n) n (bareP 16) a g))
    exact fas_refl _
/-- THE SIMPLER PATTERN TELLS THE SAME, WITH NODES LEFT OUT. -/
theorem simple_fas : ∀ (n : Nat) (p : Pat), errW p = 0 → nodesP p ≤ 4096 → ∀ (a : Nat) (g : List Gift), a ≤ s.size → fas (den R s n p a g) (den R s n (simple p) a g)
  | 0, p, _, _, a, g, _ => fas_deep _
  | n + 1, .mk k t z m l, h, hN, a, g, ha => by
    rw [nodesP] at hN
    have h2 := ((errW_iff _).1 h).2
    rw [simple, simpleL_map]
    refine make_fas h (by omega) (fun p hp a g ha => ?_) a g ha
    have := nodesL_mem hp
    exact simple_fas n p (h2 p hp) (by omega) a g ha
end
end Go.Proofs.YtmcfoefhenmjeaaDoor
