/- What a pattern is made into that is simpler. Plain. -/
import Derived.Test.YtkkdpafkafjfgaaDoorAsPLwDoor
import Derived.Test.YtkkdpafkafjfgaaDoorAsStBits
namespace Go.Proofs.YtkkdpafkafjfgaaDoor
open Tr
set_option linter.unusedVariables false
def litP (t : ByteArray) : Pat := .mk 1 t 0 ByteArray.empty []
def bareP (k : Int) : Pat := .mk k ByteArray.empty 0 ByteArray.empty []
def textP (k : Int) (t : ByteArray) : Pat := .mk k t 0 ByteArray.empty []
def numP (k : Int) (n : Int) : Pat := .mk k ByteArray.empty n ByteArray.empty []
def kidsP (k : Int) (l : List Pat) : Pat := .mk k ByteArray.empty 0 ByteArray.empty l
def spell (t : ByteArray) : ByteArray := ⟨(bytesL (bl (setOf t.data.toList) 0 256)).toArray⟩
def emptyP (p : Pat) : Bool := p.kind == 1 && p.text.size == 0
def failB (p : Pat) : Bool := p.kind == 15
def abortB (p : Pat) : Bool := p.kind == 17
def endsB (p : Pat) : Bool := p.kind == 15 || p.kind == 17
def flatP (k : Int) : List Pat → List Pat
  | [] => []
  | p :: l => (if p.kind = k then p.kids else [p]) ++ flatP k l
def upToP (f : Pat → Bool) : List Pat → List Pat
  | [] => []
  | p :: l => if f p then [p] else p :: upToP f l
def mergeF (two : Pat → Pat → Option Pat) : Pat → List Pat → List Pat
  | a, [] => [a]
  | a, b :: l => (match two a b with | some q => mergeF two q l | none => a :: mergeF two b l)
def mergedP (two : Pat → Pat → Option Pat) : List Pat → List Pat
  | [] => []
  | a :: l => mergeF two a l
def piecesP (a b : Pat) : Option Pat :=
  if a.kind = 1 ∧ b.kind = 1 ∧ a.text.size + b.text.size ≤ 65536 then some (litP (a.text ++ b.text))
  else if a.kind = 2 ∧ b.kind = 2 ∧ a.n + b.n ≤ 65536 then some (numP 2 (a.n + b.n)) else none
def oneB (p : Pat) : Bool := p.kind == 3 || (p.kind == 1 && p.text.size == 1)
def apartB (a b : ByteArray) : Bool := a.data.toList.all fun c => !b.data.toList.contains c
def othersP (a b : Pat) : Option Pat := if oneB a = true ∧ oneB b = true ∧ apartB a.text b.text = true then some (textP 3 (spell (a.text ++ b.text))) else none
def singleP (k : Int) (z : Pat) : List Pat → Pat
  | [] => z
  | [p] => p
  | l => kidsP k l
def catL (l : List Pat) : List Pat := mergedP piecesP (upToP endsB ((flatP 18 l).filter fun p => !emptyP p))
def altL (l : List Pat) : List Pat := mergedP othersP (upToP abortB ((flatP 19 l).filter fun p => !failB p))
def makeP (k : Int) (t : ByteArray) (n : Int) (m : ByteArray) (l : List Pat) : Pat :=
  if k = 1 then litP t
  else if k = 2 then (if n = 0 then litP ByteArray.empty else numP 2 n)
  else if k = 3 then (if (spell t).size = 1 then litP (spell t) else textP 3 (spell t))
  else if k = 4 ∨ k = 5 ∨ k = 6 ∨ k = 7 then textP k (spell t)
  else if k = 8 ∨ k = 10 ∨ k = 11 then numP k n
  else if k = 9 then (if n = 0 then bareP 12 else numP 9 n)
  else if k = 18 then singleP 18 (litP ByteArray.empty) (catL l)
  else if k = 19 then singleP 19 (bareP 15) (altL l)
  else if k = 20 then (if emptyP (l.getD 0 Pat.zero) = true ∨ failB (l.getD 0 Pat.zero) = true then litP ByteArray.empty else if (l.getD 0 Pat.zero).kind = 2 ∧ (l.getD 0 Pat.zero).n = 1 then bareP 13 else kidsP 20 l)
  else if k = 21 ∨ k = 22 then (if endsB (l.getD 0 Pat.zero) = true then l.getD 0 Pat.zero else .mk k ByteArray.empty 0 m l)
  else if k = 23 ∨ k = 24 then .mk k ByteArray.empty 0 m []
  else bareP k
mutual
def simple : Pat → Pat
  | .mk k t n m l => makeP k t n m (simpleL l)
def simpleL : List Pat → List Pat
  | [] => []
  | p :: l => simple p :: simpleL l
end
theorem simpleL_map : ∀ l : List Pat, simpleL l = l.map simple
  | [] => rfl
  | p :: l => by rw [simpleL, simpleL_map l]; rfl
namespace Tr
end Tr
end Go.Proofs.YtkkdpafkafjfgaaDoor
namespace Go.Proofs.YtkkdpafkafjfgaaDoor
open Tr
set_option linter.unusedVariables false
theorem patErr_iff (p : Pat) : patErr p = 0 ↔ errW p = 0 ∧ nodesP p ≤ 4096 ∧ depthP p ≤ 200 := by
  unfold patErr
  constructor
  · intro h
    split at h
    · rename_i h1
      have := fits_sizeW p 1 0 0 (by omega) h1
      exact ⟨h, by omega, by omega⟩
    · cases h
  · rintro ⟨h1, h2, h3⟩
    rw [sizeW_fits p 1 0 0 (by omega) (by omega) (by omega), if_pos rfl, h1]
theorem flatP_nodes (k : Int) (l : List Pat) : nodesL (flatP k l) ≤ nodesL l := by
  induction l with
  | nil => simp [flatP]
  | cons p l ih =>
    rw [flatP, nodesL_append, nodesL]
    have := nodesP_eq p
    split
    · omega
    · rw [nodesL, nodesL]; omega
theorem flatP_depth (k : Int) (l : List Pat) : depthL (flatP k l) ≤ depthL l := by
  induction l with
  | nil => simp [flatP]
  | cons p l ih =>
    rw [flatP, depthL_append, depthL]
    have := depthP_eq p
    split
    · omega
    · rw [depthL, depthL]; omega
theorem filter_nodes (f : Pat → Bool) (l : List Pat) : nodesL (l.filter f) ≤ nodesL l := by
  induction l with
  | nil => simp
  | cons p l ih => rw [List.filter_cons, nodesL]; split <;> first | (rw [nodesL]; omega) | omega
theorem filter_depth (f : Pat → Bool) (l : List Pat) : depthL (l.filter f) ≤ depthL l := by
  induction l with
  | nil => simp
  | cons p l ih => rw [List.filter_cons, depthL]; split <;> first | (rw [depthL]; omega) | omega
theorem upToP_nodes (f : Pat → Bool) (l : List Pat) : nodesL (upToP f l) ≤ nodesL l := by
  induction l with
  | nil => simp [upToP]
  | cons p l ih => rw [upToP, nodesL]; split <;> first | (rw [nodesL, nodesL]; omega) | (rw [nodesL]; omega)
theorem upToP_depth (f : Pat → Bool) (l : List Pat) : depthL (upToP f l) ≤ depthL l := by
  induction l with
  | nil => simp [upToP]
  | cons p l ih => rw [upToP, depthL]; split <;> first | (rw [depthL, depthL]; omega) | (rw [depthL]; omega)
def Small (two : Pat → Pat → Option Pat) : Prop := ∀ a b q, two a b = some q → q.kids = []
theorem mergeF_nodes {two : Pat → Pat → Option Pat} (h : Small two) : ∀ (l : List Pat) (a : Pat), nodesL (mergeF two a l) ≤ nodesP a + nodesL l
  | [], a => by rw [mergeF, nodesL, nodesL, nodesL]; omega
  | b :: l, a => by
    rw [mergeF]
    split
    · rename_i q hq
      have h1 := mergeF_nodes h l q
      have h2 := nodesP_eq q
      rw [h _ _ _ hq, nodesL] at h2
      have := nodesP_pos b
      rw [nodesL]; omega
    · have := mergeF_nodes h l b
      rw [nodesL, nodesL]; omega
theorem mergeF_depth {two : Pat → Pat → Option Pat} (h : Small two) : ∀ (l : List Pat) (a : Pat), depthL (mergeF two a l) ≤ max (depthP a) (depthL l)
  | [], a => by rw [mergeF, depthL, depthL, depthL]; omega
  | b :: l, a => by
    rw [mergeF]
    split
    · rename_i q hq
      have h1 := mergeF_depth h l q
      have h2 := depthP_eq q
      rw [h _ _ _ hq, depthL] at h2
      have := depthP_pos b
      rw [depthL]; omega
    · have := mergeF_depth h l b
      rw [depthL, depthL]; omega
theorem mergedP_nodes {two : Pat → Pat → Option Pat} (h : Small two) (l : List Pat) : nodesL (mergedP two l) ≤ nodesL l := by
  cases l with
  | nil => simp [mergedP]
  | cons a l => rw [mergedP, nodesL]; exact mergeF_nodes h l a
theorem mergedP_depth {two : Pat → Pat → Option Pat} (h : Small two) (l : List Pat) : depthL (mergedP two l) ≤ depthL l := by
  cases l with
  | nil => simp [mergedP]
  | cons a l => rw [mergedP, depthL]; exact mergeF_depth h l a
theorem small_pieces : Small piecesP := by
  intro a b q h
  unfold piecesP at h
  split at h
  · cases h; rfl
  · split at h
    · cases h; rfl
    · cases h
theorem small_others : Small othersP := by
  intro a b q h
  unfold othersP at h
  split at h
  · cases h; rfl
  · cases h
theorem singleP_nodes (k : Int) (z : Pat) (hz : z.kids = []) (l : List Pat) : nodesP (singleP k z l) ≤ 1 + nodesL l := by
  have h2 := nodesP_eq z
  rw [hz, nodesL] at h2
  match l with
  | [] => rw [singleP]; omega
  | [p] => rw [singleP, nodesL, nodesL]; omega
  | p :: q :: l => exact Nat.le_refl _
theorem singleP_depth (k : Int) (z : Pat) (hz : z.kids = []) (l : List Pat) : depthP (singleP k z l) ≤ 1 + depthL l := by
  have h2 := depthP_eq z
  rw [hz, depthL] at h2
  match l with
  | [] => rw [singleP]; omega
  | [p] => rw [singleP, depthL, depthL]; omega
  | p :: q :: l => exact Nat.le_refl _
theorem catL_nodes (l : List Pat) : nodesL (catL l) ≤ nodesL l :=
  Nat.le_trans (mergedP_nodes small_pieces _) (Nat.le_trans (upToP_nodes _ _) (Nat.le_trans (filter_nodes _ _) (flatP_nodes _ _)))
theorem altL_nodes (l : List Pat) : nodesL (altL l) ≤ nodesL l :=
  Nat.le_trans (mergedP_nodes small_others _) (Nat.le_trans (upToP_nodes _ _) (Nat.le_trans (filter_nodes _ _) (flatP_nodes _ _)))
theorem catL_depth (l : List Pat) : depthL (catL l) ≤ depthL l :=
  Nat.le_trans (mergedP_depth small_pieces _) (Nat.le_trans (upToP_depth _ _) (Nat.le_trans (filter_depth _ _) (flatP_depth _ _)))
theorem altL_depth (l : List Pat) : depthL (altL l) ≤ depthL l :=
  Nat.le_trans (mergedP_depth small_others _) (Nat.le_trans (upToP_depth _ _) (Nat.le_trans (filter_depth _ _) (flatP_depth _ _)))
theorem leaf_nodes (k : Int) (t : ByteArray) (n : Int) (m : ByteArray) : nodesP (.mk k t n m []) = 1 := rfl
theorem leaf_depth (k : Int) (t : ByteArray) (n : Int) (m : ByteArray) : depthP (.mk k t n m []) = 1 := rfl
theorem makeP_cases {C : Pat → Prop} (k : Int) (t : ByteArray) (n : Int) (m : ByteArray) (l : List Pat)
    (h1 : ∀ k t n m, C (.mk k t n m [])) (h2 : C (singleP 18 (litP ByteArray.empty) (catL l))) (h3 : C (singleP 19 (bareP 15) (altL l)))
    (h4 : C (kidsP 20 l)) (h5 : C (l.getD 0 Pat.zero)) (h6 : ∀ k m, C (.mk k ByteArray.empty 0 m l)) : C (makeP k t n m l) := by
  unfold makeP
  repeat' (first | exact h1 _ _ _ _ | exact h2 | exact h3 | exact h4 | exact h5 | exact h6 _ _ | refine iteInduction (motive := C) (fun _ => ?_) (fun _ => ?_))
theorem getD_nodes (l : List Pat) : nodesP (l.getD 0 Pat.zero) ≤ 1 + nodesL l := by
  cases l with
  | nil => exact Nat.le_refl _
  | cons p l => rw [nodesL]; show nodesP p ≤ _; omega
theorem getD_depth (l : List Pat) : depthP (l.getD 0 Pat.zero) ≤ 1 + depthL l := by
  cases l with
  | nil => exact Nat.le_refl _
  | cons p l => rw [depthL]; show depthP p ≤ _; omega
theorem makeP_nodes (k : Int) (t : ByteArray) (n : Int) (m : ByteArray) (l : List Pat) : nodesP (makeP k t n m l) ≤ 1 + nodesL l := by
  refine makeP_cases (C := fun p => nodesP p ≤ 1 + nodesL l) k t n m l (fun k t n m => by rw [leaf_nodes]; omega) ?_ ?_ (Nat.le_refl _) (getD_nodes l) (fun _ _ => Nat.le_refl _)
  · exact Nat.le_trans (singleP_nodes 18 (litP ByteArray.empty) rfl _) (by have := catL_nodes l; omega)
  · exact Nat.le_trans (singleP_nodes 19 (bareP 15) rfl _) (by have := altL_nodes l; omega)
theorem makeP_depth (k : Int) (t : ByteArray) (n : Int) (m : ByteArray) (l : List Pat) : depthP (makeP k t n m l) ≤ 1 + depthL l := by
  refine makeP_cases (C := fun p => depthP p ≤ 1 + depthL l) k t n m l (fun k t n m => by rw [leaf_depth]; omega) ?_ ?_ (Nat.le_refl _) (getD_depth l) (fun _ _ => Nat.le_refl _)
  · exact Nat.le_trans (singleP_depth 18 (litP ByteArray.empty) rfl _) (by have := catL_depth l; omega)
  · exact Nat.le_trans (singleP_depth 19 (bareP 15) rfl _) (by have := altL_depth l; omega)
mutual
theorem simple_nodes : ∀ p : Pat, nodesP (simple p) ≤ nodesP p
  | .mk k t n m l => by rw [simple, nodesP]; exact Nat.le_trans (makeP_nodes _ _ _ _ _) (by have := simpleL_nodes l; omega)
theorem simpleL_nodes : ∀ l : List Pat, nodesL (simpleL l) ≤ nodesL l
  | [] => Nat.le_refl _
  | p :: l => by rw [simpleL, nodesL, nodesL]; have := simple_nodes p; have := simpleL_nodes l; omega
end
mutual
theorem simple_depth : ∀ p : Pat, depthP (simple p) ≤ depthP p
  | .mk k t n m l => by rw [simple, depthP]; exact Nat.le_trans (makeP_depth _ _ _ _ _) (by have := simpleL_depth l; omega)
theorem simpleL_depth : ∀ l : List Pat, depthL (simpleL l) ≤ depthL l
  | [] => Nat.le_refl _
  | p :: l => by rw [simpleL, depthL, depthL]; have := simple_depth p; have := simpleL_depth l; omega
end
end Go.Proofs.YtkkdpafkafjfgaaDoor
namespace Go.Proofs.YtkkdpafkafjfgaaDoor
open Tr
set_option linter.unusedVariables false
theorem spell_data (t : ByteArray) : (spell t).data.toList = bytesL (bl (setOf t.data.toList) 0 256) := rfl
theorem setOf_iff (l : List UInt8) (c : UInt8) : setOf l c.toNat = true ↔ c ∈ l := by
  rw [setOf_mem, List.any_eq_true]
  constructor
  · rintro ⟨x, hx, e⟩
    have : c = x := UInt8.toNat_inj.1 (by simpa using e)
    rw [this]; exact hx
  · intro h; exact ⟨c, h, by simp⟩
theorem mem_bytesL {L : List Nat} (hL : ∀ x ∈ L, x < 256) (c : UInt8) : c ∈ bytesL L ↔ c.toNat ∈ L := by
  unfold bytesL
  rw [List.mem_map]
  constructor
  · rintro ⟨x, hx, rfl⟩
    rw [UInt8.toNat_ofNat_of_lt' (hL x hx)]; exact hx
  · intro h; exact ⟨_, h, by simp⟩
theorem bl_lt256 (f : Nat → Bool) : ∀ x ∈ bl f 0 256, x < 256 := fun x hx => by have := bl_mem _ _ _ hx; omega
theorem spell_mem (t : ByteArray) (c : UInt8) : c ∈ (spell t).data.toList ↔ c ∈ t.data.toList := by
  rw [spell_data, mem_bytesL (bl_lt256 _), ← setOf_iff]
  constructor
  · intro h; exact (bl_mem _ _ _ h).2.2
  · intro h; exact mem_bl 256 0 _ (Nat.zero_le _) (by have := c.toNat_lt; omega) h
theorem spell_le (t : ByteArray) : (spell t).size ≤ 256 := by
  rw [size_data, spell_data]; unfold bytesL; rw [List.length_map]; exact bl_length _ _ _
theorem pos_of_mem {t : ByteArray} {c : UInt8} (h : c ∈ t.data.toList) : 0 < t.size := by
  rw [size_data]; exact List.length_pos_of_mem h
theorem mem_of_pos {t : ByteArray} (h : 0 < t.size) : ∃ c, c ∈ t.data.toList := List.exists_mem_of_length_pos (by rw [← size_data]; exact h)
theorem spell_pos {t : ByteArray} (h : 0 < t.size) : 0 < (spell t).size := by
  obtain ⟨c, hc⟩ := mem_of_pos h
  exact pos_of_mem ((spell_mem t c).2 hc)
structure NodeOk (p : Pat) : Prop where
  kind : 1 ≤ p.kind ∧ p.kind ≤ 24
  lit : p.kind = 1 → p.text.size ≤ 65536
  text : p.kind = 3 ∨ p.kind = 4 ∨ p.kind = 5 ∨ p.kind = 6 ∨ p.kind = 7 → 0 < p.text.size ∧ p.text.size ≤ 65536
  num : p.kind = 2 ∨ p.kind = 8 ∨ p.kind = 9 ∨ p.kind = 10 ∨ p.kind = 11 → 0 ≤ p.n ∧ p.n ≤ 65536
  many : p.kind = 18 ∨ p.kind = 19 → 2 ≤ p.kids.length ∧ p.kids.length ≤ 4096
  only : p.kind = 20 ∨ p.kind = 21 ∨ p.kind = 22 → p.kids.length = 1
  name : p.kind = 21 ∨ p.kind = 22 ∨ p.kind = 23 ∨ p.kind = 24 → named p.name = true
  none : ¬ (18 ≤ p.kind ∧ p.kind ≤ 22) → p.kids = []
theorem many_zero {n : Nat} : manyErr n 0 0 = 0 ↔ n = 0 := by unfold manyErr; split <;> simp <;> omega
theorem nil_of {α : Type} {l : List α} (h : l.length = 0) : l = [] := List.eq_nil_of_length_eq_zero h
theorem nodeErr_iff (p : Pat) : nodeErr p = 0 ↔ NodeOk p := by
  constructor
  · intro h
    unfold nodeErr at h
    split at h
    · cases h
    rename_i hk
    split at h
    · rename_i h1
      split at h
      · cases h
      have hz := nil_of (many_zero.1 h)
      exact ⟨by omega, fun _ => by omega, fun _ => by omega, fun _ => by omega, fun _ => by omega, fun _ => by omega, fun _ => by omega, fun _ => hz⟩
    split at h
    · split at h
      · cases h
      split at h
      · cases h
      have hz := nil_of (many_zero.1 h)
      exact ⟨by omega, fun _ => by omega, fun _ => by omega, fun _ => by omega, fun _ => by omega, fun _ => by omega, fun _ => by omega, fun _ => hz⟩
    split at h
    · split at h
      · cases h
      have hz := nil_of (many_zero.1 h)
      exact ⟨by omega, fun _ => by omega, fun _ => by omega, fun _ => by omega, fun _ => by omega, fun _ => by omega, fun _ => by omega, fun _ => hz⟩
    split at h
    · have := many_none h
      exact ⟨by omega, fun _ => by omega, fun _ => by omega, fun _ => by omega, fun _ => by omega, fun _ => by omega, fun _ => by omega, fun _ => by omega⟩
    split at h
    · have := many_none h
      exact ⟨by omega, fun _ => by omega, fun _ => by omega, fun _ => by omega, fun _ => by omega, fun _ => by omega, fun _ => by omega, fun _ => by omega⟩
    split at h
    · split at h
      · cases h
      rename_i hnm
      have := many_none h
      exact ⟨by omega, fun _ => by omega, fun _ => by omega, fun _ => by omega, fun _ => by omega, fun _ => by omega, fun _ => by simpa using hnm, fun _ => by omega⟩
    split at h
    · split at h
      · cases h
      rename_i hnm
      have hz := nil_of (many_zero.1 h)
      exact ⟨by omega, fun _ => by omega, fun _ => by omega, fun _ => by omega, fun _ => by omega, fun _ => by omega, fun _ => by simpa using hnm, fun _ => hz⟩
    · have hz := nil_of (many_zero.1 h)
      exact ⟨by omega, fun _ => by omega, fun _ => by omega, fun _ => by omega, fun _ => by omega, fun _ => by omega, fun _ => by omega, fun _ => hz⟩
  · intro h
    have hk := h.kind
    unfold nodeErr
    rw [if_neg (by omega)]
    split
    · rename_i h1; have := h.lit h1; rw [if_neg (by omega), h.none (by omega)]; rfl
    split
    · rename_i h1; have := h.text h1; rw [if_neg (by omega), if_neg (by omega), h.none (by omega)]; rfl
    split
    · rename_i h1; have := h.num h1; rw [if_neg (by omega), h.none (by omega)]; rfl
    split
    · rename_i h1; have := h.many h1; unfold manyErr; rw [if_neg (by omega)]
    split
    · rename_i h1; have := h.only (by omega); unfold manyErr; rw [if_neg (by omega)]
    split
    · rename_i h1; have := h.only (by omega); have := h.name (by omega); rw [if_neg (by simp [this])]; unfold manyErr; rw [if_neg (by omega)]
    split
    · rename_i h1; have := h.name (by omega); rw [if_neg (by simp [this]), h.none (by omega)]; rfl
    · rw [h.none (by omega)]; rfl
theorem all_errL : ∀ {l : List Pat}, (∀ p ∈ l, errW p = 0) → errL l = 0
  | [], _ => rfl
  | p :: l, h => by rw [errL, if_pos (h p (by simp))]; exact all_errL fun q hq => h q (by simp [hq])
theorem errW_iff (p : Pat) : errW p = 0 ↔ NodeOk p ∧ ∀ q ∈ p.kids, errW q = 0 := by
  constructor
  · intro h; exact ⟨(nodeErr_iff p).1 (errW_node h).1, (errW_node h).2⟩
  · rintro ⟨h1, h2⟩
    obtain ⟨k, t, n, m, l⟩ := p
    rw [errW, if_pos ((nodeErr_iff _).2 h1)]
    exact all_errL h2
theorem lit_right {t : ByteArray} (h : t.size ≤ 65536) : errW (litP t) = 0 :=
  (errW_iff _).2 ⟨⟨by show (1 : Int) ≤ 1 ∧ (1 : Int) ≤ 24; omega, fun _ => h, fun hk => by have hk : (1 : Int) = 3 ∨ (1 : Int) = 4 ∨ (1 : Int) = 5 ∨ (1 : Int) = 6 ∨ (1 : Int) = 7 := hk; omega, fun _ => ⟨Int.le_refl 0, by show (0 : Int) ≤ 65536; omega⟩,
    fun hk => by have hk : (1 : Int) = 18 ∨ (1 : Int) = 19 := hk; omega, fun hk => by have hk : (1 : Int) = 20 ∨ (1 : Int) = 21 ∨ (1 : Int) = 22 := hk; omega, fun hk => by have hk : (1 : Int) = 21 ∨ (1 : Int) = 22 ∨ (1 : Int) = 23 ∨ (1 : Int) = 24 := hk; omega, fun _ => rfl⟩, fun q hq => by cases hq⟩
theorem leaf_right {k : Int} {t : ByteArray} {n : Int} {m : ByteArray} (h0 : 1 ≤ k ∧ k ≤ 24) (h1 : k = 1 → t.size ≤ 65536) (h2 : k = 3 ∨ k = 4 ∨ k = 5 ∨ k = 6 ∨ k = 7 → 0 < t.size ∧ t.size ≤ 65536)
    (h3 : k = 2 ∨ k = 8 ∨ k = 9 ∨ k = 10 ∨ k = 11 → 0 ≤ n ∧ n ≤ 65536) (h4 : ¬ (18 ≤ k ∧ k ≤ 22)) (h5 : k = 21 ∨ k = 22 ∨ k = 23 ∨ k = 24 → named m = true) : errW (.mk k t n m []) = 0 :=
  (errW_iff _).2 ⟨⟨h0, h1, h2, h3, fun hk => by have hk : k = 18 ∨ k = 19 := hk; omega, fun hk => by have hk : k = 20 ∨ k = 21 ∨ k = 22 := hk; omega, h5, fun _ => rfl⟩, fun q hq => by cases hq⟩
theorem text_right {k : Int} {t : ByteArray} (hk : k = 3 ∨ k = 4 ∨ k = 5 ∨ k = 6 ∨ k = 7) (h0 : 0 < t.size) (h : t.size ≤ 65536) : errW (textP k t) = 0 :=
  leaf_right (by omega) (by omega) (fun _ => ⟨h0, h⟩) (by omega) (by omega) (by omega)
theorem num_right {k n : Int} (hk : k = 2 ∨ k = 8 ∨ k = 9 ∨ k = 10 ∨ k = 11) (h0 : 0 ≤ n) (h : n ≤ 65536) : errW (numP k n) = 0 :=
  leaf_right (by omega) (by omega) (by omega) (fun _ => ⟨h0, h⟩) (by omega) (by omega)
theorem bare_right {k : Int} (hk : 12 ≤ k ∧ k ≤ 17) : errW (bareP k) = 0 :=
  leaf_right (by omega) (by omega) (by omega) (by omega) (by omega) (by omega)
theorem kids_right {k : Int} {l : List Pat} (hk : k = 18 ∨ k = 19) (h : 2 ≤ l.length ∧ l.length ≤ 4096) (hl : ∀ q ∈ l, errW q = 0) : errW (kidsP k l) = 0 :=
  (errW_iff _).2 ⟨⟨by show 1 ≤ k ∧ k ≤ 24; omega, fun h => by have h : k = 1 := h; omega, fun h => by have h : k = 3 ∨ k = 4 ∨ k = 5 ∨ k = 6 ∨ k = 7 := h; omega, fun h => by have h : k = 2 ∨ k = 8 ∨ k = 9 ∨ k = 10 ∨ k = 11 := h; omega,
    fun _ => h, fun h => by have h : k = 20 ∨ k = 21 ∨ k = 22 := h; omega, fun h => by have h : k = 21 ∨ k = 22 ∨ k = 23 ∨ k = 24 := h; omega, fun h => by have h : ¬ (18 ≤ k ∧ k ≤ 22) := h; omega⟩, hl⟩
theorem only_right {k : Int} {m : ByteArray} {l : List Pat} (hk : k = 20 ∨ k = 21 ∨ k = 22) (h : l.length = 1) (hm : k = 21 ∨ k = 22 → named m = true) (hl : ∀ q ∈ l, errW q = 0) : errW (.mk k ByteArray.empty 0 m l) = 0 :=
  (errW_iff _).2 ⟨⟨by show 1 ≤ k ∧ k ≤ 24; omega, fun h => by have h : k = 1 := h; omega, fun h => by have h : k = 3 ∨ k = 4 ∨ k = 5 ∨ k = 6 ∨ k = 7 := h; omega, fun h => by have h : k = 2 ∨ k = 8 ∨ k = 9 ∨ k = 10 ∨ k = 11 := h; omega,
    fun h => by have h : k = 18 ∨ k = 19 := h; omega, fun _ => h, fun h => hm (by have h : k = 21 ∨ k = 22 ∨ k = 23 ∨ k = 24 := h; omega), fun h => by have h : ¬ (18 ≤ k ∧ k ≤ 22) := h; omega⟩, hl⟩
section
variable {C : Pat → Prop}
theorem flatP_all {k : Int} (hk : ∀ p, C p → ∀ q ∈ p.kids, C q) : ∀ {l : List Pat}, (∀ p ∈ l, C p) → ∀ q ∈ flatP k l, C q
  | [], _, q, hq => by cases hq
  | p :: l, h, q, hq => by
    rw [flatP] at hq
    rcases List.mem_append.1 hq with hq | hq
    · split at hq
      · exact hk p (h p (by simp)) q hq
      · rw [List.mem_singleton] at hq; rw [hq]; exact h p (by simp)
    · exact flatP_all hk (fun x hx => h x (by simp [hx])) q hq
theorem upToP_mem {f : Pat → Bool} : ∀ {l : List Pat}, ∀ q ∈ upToP f l, q ∈ l
  | [], q, hq => by cases hq
  | p :: l, q, hq => by
    rw [upToP] at hq
    split at hq
    · rw [List.mem_singleton] at hq; simp [hq]
    · rcases List.mem_cons.1 hq with rfl | hq
      · simp
      · have := upToP_mem q hq; simp [this]
theorem mergeF_all {two : Pat → Pat → Option Pat} (h2 : ∀ a b q, C a → C b → two a b = some q → C q) : ∀ (l : List Pat) (a : Pat), C a → (∀ p ∈ l, C p) → ∀ q ∈ mergeF two a l, C q
  | [], a, ha, _, q, hq => by rw [mergeF, List.mem_singleton] at hq; rw [hq]; exact ha
  | b :: l, a, ha, h, q, hq => by
    rw [mergeF] at hq
    split at hq
    · rename_i x hx
      exact mergeF_all h2 l x (h2 _ _ _ ha (h b (by simp)) hx) (fun y hy => h y (by simp [hy])) q hq
    · rcases List.mem_cons.1 hq with rfl | hq
      · exact ha
      · exact mergeF_all h2 l b (h b (by simp)) (fun y hy => h y (by simp [hy])) q hq
theorem mergedP_all {two : Pat → Pat → Option Pat} (h2 : ∀ a b q, C a → C b → two a b = some q → C q) {l : List Pat} (h : ∀ p ∈ l, C p) : ∀ q ∈ mergedP two l, C q := by
  cases l with
  | nil => intro q hq; cases hq
  | cons a l => exact mergeF_all h2 l a (h a (by simp)) (fun y hy => h y (by simp [hy]))
theorem catL_all (hk : ∀ p, C p → ∀ q ∈ p.kids, C q) (h2 : ∀ a b q, C a → C b → piecesP a b = some q → C q) {l : List Pat} (h : ∀ p ∈ l, C p) : ∀ q ∈ catL l, C q :=
  mergedP_all h2 (fun p hp => flatP_all hk h p ((List.mem_filter.1 (upToP_mem p hp)).1))
theorem altL_all (hk : ∀ p, C p → ∀ q ∈ p.kids, C q) (h2 : ∀ a b q, C a → C b → othersP a b = some q → C q) {l : List Pat} (h : ∀ p ∈ l, C p) : ∀ q ∈ altL l, C q :=
  mergedP_all h2 (fun p hp => flatP_all hk h p ((List.mem_filter.1 (upToP_mem p hp)).1))
end
theorem right_kids (p : Pat) (h : errW p = 0) : ∀ q ∈ p.kids, errW q = 0 := ((errW_iff p).1 h).2
theorem pieces_right (a b q : Pat) (ha : errW a = 0) (hb : errW b = 0) (h : piecesP a b = some q) : errW q = 0 := by
  unfold piecesP at h
  split at h
  · rename_i hh; cases h; exact lit_right (by rw [ByteArray.size_append]; exact hh.2.2)
  · split at h
    · rename_i hh
      cases h
      have h1 := ((errW_iff a).1 ha).1.num (by omega)
      have h2 := ((errW_iff b).1 hb).1.num (by omega)
      exact num_right (by omega) (by omega) hh.2.2
    · cases h
theorem oneB_pos {p : Pat} (hp : errW p = 0) (h : oneB p = true) : 0 < p.text.size := by
  unfold oneB at h
  rw [Bool.or_eq_true] at h
  rcases h with h | h
  · exact (((errW_iff p).1 hp).1.text (Or.inl (by simpa using h))).1
  · rw [Bool.and_eq_true] at h
    have : p.text.size = 1 := by simpa using h.2
    omega
theorem others_right (a b q : Pat) (ha : errW a = 0) (hb : errW b = 0) (h : othersP a b = some q) : errW q = 0 := by
  unfold othersP at h
  split at h
  · rename_i hh
    cases h
    have := oneB_pos ha hh.1
    exact text_right (by omega) (spell_pos (by rw [ByteArray.size_append]; omega)) (Nat.le_trans (spell_le _) (by omega))
  · cases h
theorem single_right {k : Int} {z : Pat} (hk : k = 18 ∨ k = 19) (hz : errW z = 0) {l : List Pat} (hl : ∀ q ∈ l, errW q = 0) (hn : l.length ≤ 4096) : errW (singleP k z l) = 0 := by
  match l with
  | [] => exact hz
  | [p] => exact hl p (by simp)
  | p :: q :: l => exact kids_right hk ⟨by simp, hn⟩ hl
theorem getD_mem {l : List Pat} (h : 0 < l.length) : l.getD 0 Pat.zero ∈ l := by
  cases l with
  | nil => simp at h
  | cons p l => simp
theorem makeP_right {k : Int} {t : ByteArray} {n : Int} {m : ByteArray} {l l' : List Pat} (h : NodeOk (.mk k t n m l')) (hl : l.length = l'.length) (hr : ∀ q ∈ l, errW q = 0) (hN : 1 + nodesL l ≤ 4096) : errW (makeP k t n m l) = 0 := by
  obtain ⟨h0, h1, h2, h3, h4, h5, h6, h7⟩ := h
  simp only [Pat.kind, Pat.text, Pat.n, Pat.name, Pat.kids] at h0 h1 h2 h3 h4 h5 h6 h7
  unfold makeP
  refine iteInduction (motive := fun p => errW p = 0) (fun _ => ?_) (fun _ => ?_)
  · exact lit_right (h1 (by assumption))
  refine iteInduction (motive := fun p => errW p = 0) (fun _ => ?_) (fun _ => ?_)
  · have := h3 (by omega)
    refine iteInduction (motive := fun p => errW p = 0) (fun _ => ?_) (fun _ => ?_)
    · exact lit_right (by show 0 ≤ 65536; omega)
    · exact num_right (by omega) this.1 this.2
  refine iteInduction (motive := fun p => errW p = 0) (fun _ => ?_) (fun _ => ?_)
  · have := h2 (by omega)
    refine iteInduction (motive := fun p => errW p = 0) (fun _ => ?_) (fun _ => ?_)
    · exact lit_right (Nat.le_trans (spell_le _) (by omega))
    · exact text_right (by omega) (spell_pos this.1) (Nat.le_trans (spell_le _) (by omega))
  refine iteInduction (motive := fun p => errW p = 0) (fun _ => ?_) (fun _ => ?_)
  · have := h2 (by omega)
    exact text_right (by omega) (spell_pos this.1) (Nat.le_trans (spell_le _) (by omega))
  refine iteInduction (motive := fun p => errW p = 0) (fun _ => ?_) (fun _ => ?_)
  · have := h3 (by omega)
    exact num_right (by omega) this.1 this.2
  refine iteInduction (motive := fun p => errW p = 0) (fun _ => ?_) (fun _ => ?_)
  · have := h3 (by omega)
    refine iteInduction (motive := fun p => errW p = 0) (fun _ => ?_) (fun _ => ?_)
    · exact bare_right (by omega)
    · exact num_right (by omega) this.1 this.2
  refine iteInduction (motive := fun p => errW p = 0) (fun _ => ?_) (fun _ => ?_)
  · exact single_right (by omega) (lit_right (by show 0 ≤ 65536; omega)) (catL_all right_kids pieces_right hr) (by have := catL_nodes l; have := length_le_nodes (catL l); omega)
  refine iteInduction (motive := fun p => errW p = 0) (fun _ => ?_) (fun _ => ?_)
  · exact single_right (by omega) (bare_right (by omega)) (altL_all right_kids others_right hr) (by have := altL_nodes l; have := length_le_nodes (altL l); omega)
  refine iteInduction (motive := fun p => errW p = 0) (fun _ => ?_) (fun _ => ?_)
  · have := h5 (by omega)
    refine iteInduction (motive := fun p => errW p = 0) (fun _ => ?_) (fun _ => ?_)
    · exact lit_right (by show 0 ≤ 65536; omega)
    · refine iteInduction (motive := fun p => errW p = 0) (fun _ => ?_) (fun _ => ?_)
      · exact bare_right (by omega)
      · exact only_right (by omega) (by omega) (by omega) hr
  refine iteInduction (motive := fun p => errW p = 0) (fun _ => ?_) (fun _ => ?_)
  · have := h5 (by omega)
    refine iteInduction (motive := fun p => errW p = 0) (fun _ => ?_) (fun _ => ?_)
    · exact hr _ (getD_mem (by omega))
    · exact only_right (by omega) (by omega) (fun _ => h6 (by omega)) hr
  refine iteInduction (motive := fun p => errW p = 0) (fun _ => ?_) (fun _ => ?_)
  · exact leaf_right (by omega) (by omega) (by omega) (by omega) (by omega) (fun _ => h6 (by omega))
  · exact leaf_right (by omega) (by omega) (by omega) (by omega) (by omega) (by omega)
mutual
theorem simple_right : ∀ p : Pat, errW p = 0 → nodesP p ≤ 4096 → errW (simple p) = 0
  | .mk k t n m l, h, hn => by
    obtain ⟨h1, h2⟩ := (errW_iff _).1 h
    rw [nodesP] at hn
    rw [simple]
    refine makeP_right h1 (by rw [simpleL_map, List.length_map]) (simpleL_right l h2 (by omega)) ?_
    have := simpleL_nodes l
    omega
theorem simpleL_right : ∀ l : List Pat, (∀ q ∈ l, errW q = 0) → nodesL l ≤ 4096 → ∀ q ∈ simpleL l, errW q = 0
  | [], _, _, q, hq => by cases hq
  | p :: l, h, hn, q, hq => by
    rw [nodesL] at hn
    rw [simpleL] at hq
    rcases List.mem_cons.1 hq with rfl | hq
    · exact simple_right p (h p (by simp)) (by omega)
    · exact simpleL_right l (fun x hx => h x (by simp [hx])) (by omega) q hq
end
theorem patErr_simple {p : Pat} (h : patErr p = 0) : patErr (simple p) = 0 := by
  obtain ⟨h1, h2, h3⟩ := (patErr_iff p).1 h
  exact (patErr_iff _).2 ⟨simple_right p h1 h2, Nat.le_trans (simple_nodes p) h2, Nat.le_trans (simple_depth p) h3⟩
end Go.Proofs.YtkkdpafkafjfgaaDoor
namespace Go.Proofs.YtkkdpafkafjfgaaDoor
open Tr
set_option linter.unusedVariables false
section
variable (R : List Rule) (s : ByteArray)
variable {R s}
section
variable {n : Nat} {f : Pat → Pat}
end
end
end Go.Proofs.YtkkdpafkafjfgaaDoor
