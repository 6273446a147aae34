/- Automata: an automaton as it stands in memory, what is wrong with one; the shortest text; how many texts. Plain. -/
import Derived.Test.YtkkdpafkafjfgaaTwAuU
namespace Go.Proofs.Ytkkdpafkafjfgaa
set_option linter.unusedVariables false
structure Aut where
  cls : List Int
  next : List (List Int)
  ends : List Bool
def rowErr (n k : Nat) (r : List Int) : Int := if r.length ≠ k then 8 else if r.any (fun t => decide (t < 0) || decide ((n : Int) ≤ t)) then 3 else 0
def rowsErr (n k : Nat) : List (List Int) → Int
  | [] => 0
  | r :: l => if rowErr n k r = 0 then rowsErr n k l else rowErr n k r
def clsErr (k : Nat) (l : List Int) : Int := if l.any (fun t => decide (t < 0) || decide ((k : Int) ≤ t)) then 3 else 0
def wrongA (A : Aut) : Int :=
  if A.next.length < 1 ∨ 8192 < A.next.length ∨ A.ends.length ≠ A.next.length then 5
  else if rowsErr A.next.length (A.next.getD 0 []).length A.next = 0 then clsErr (A.next.getD 0 []).length A.cls
  else rowsErr A.next.length (A.next.getD 0 []).length A.next
structure RightA (A : Aut) : Prop where
  n0 : 0 < A.next.length
  n1 : A.next.length ≤ 8192
  ne : A.ends.length = A.next.length
  row : ∀ r ∈ A.next, r.length = (A.next.getD 0 []).length ∧ ∀ t ∈ r, 0 ≤ t ∧ t < A.next.length
  cls : ∀ c ∈ A.cls, 0 ≤ c ∧ c < (A.next.getD 0 []).length
theorem rowErr_zero {n k : Nat} {r : List Int} : rowErr n k r = 0 ↔ r.length = k ∧ ∀ t ∈ r, 0 ≤ t ∧ t < n := by
  unfold rowErr
  by_cases h : r.length = k
  · rw [if_neg (by simp [h])]
    by_cases h2 : r.any (fun t => decide (t < 0) || decide ((n : Int) ≤ t)) = true
    · rw [if_pos h2]
      refine ⟨fun e => by simp at e, fun ⟨_, e⟩ => ?_⟩
      obtain ⟨t, ht, hb⟩ := List.any_eq_true.1 h2
      have := e t ht
      simp at hb
      omega
    · rw [if_neg h2]
      refine ⟨fun _ => ⟨h, fun t ht => ?_⟩, fun _ => rfl⟩
      have : ¬ ((decide (t < 0) || decide ((n : Int) ≤ t)) = true) := fun e => h2 (List.any_eq_true.2 ⟨t, ht, e⟩)
      simp at this
      omega
  · rw [if_pos h]
    exact ⟨fun e => by simp at e, fun e => absurd e.1 h⟩
theorem rowsErr_zero {n k : Nat} : ∀ {l : List (List Int)}, rowsErr n k l = 0 ↔ ∀ r ∈ l, rowErr n k r = 0
  | [] => by simp [rowsErr]
  | r :: l => by
    rw [rowsErr]
    by_cases h : rowErr n k r = 0
    · rw [if_pos h, rowsErr_zero]
      exact ⟨fun e x hx => (List.mem_cons.1 hx).elim (fun k => by rw [k]; exact h) (fun k => e x k), fun e x hx => e x (by simp [hx])⟩
    · rw [if_neg h]
      exact ⟨fun e => absurd e h, fun e => e r (by simp)⟩
theorem clsErr_zero {k : Nat} {l : List Int} : clsErr k l = 0 ↔ ∀ t ∈ l, 0 ≤ t ∧ t < k := by
  have := @rowErr_zero k l.length l
  unfold rowErr at this
  rw [if_neg (by simp)] at this
  unfold clsErr
  rw [this]
  exact ⟨fun e => e.2, fun e => ⟨rfl, e⟩⟩
theorem wrongA_zero {A : Aut} : wrongA A = 0 ↔ RightA A := by
  unfold wrongA
  by_cases h1 : A.next.length < 1 ∨ 8192 < A.next.length ∨ A.ends.length ≠ A.next.length
  · rw [if_pos h1]
    exact ⟨fun e => by simp at e, fun e => by have := e.n0; have := e.n1; have := e.ne; omega⟩
  · rw [if_neg h1]
    by_cases h2 : rowsErr A.next.length (A.next.getD 0 []).length A.next = 0
    · rw [if_pos h2, clsErr_zero]
      exact ⟨fun e => ⟨by omega, by omega, by omega, fun r hr => rowErr_zero.1 (rowsErr_zero.1 h2 r hr), e⟩, fun e => e.cls⟩
    · rw [if_neg h2]
      exact ⟨fun e => absurd e h2, fun e => absurd (rowsErr_zero.2 fun r hr => rowErr_zero.2 (e.row r hr)) h2⟩
def stepA (A : Aut) (s c : Nat) : Nat := ((A.next.getD s []).getD (A.cls.getD c 0).toNat 0).toNat
def raA (A : Aut) : RA := ⟨A.next.length, stepA A, fun s => A.ends.getD s false⟩
theorem getD_memL {α : Type} {l : List α} {k : Nat} {d : α} (h : k < l.length) : l.getD k d ∈ l := by
  rw [List.getD_eq_getElem?_getD, List.getElem?_eq_getElem h]; exact List.getElem_mem h
theorem RightA.cl {A : Aut} (h : RightA A) (hc : A.cls.length = 256) {c : Nat} (hb : c < 256) : 0 ≤ A.cls.getD c 0 ∧ A.cls.getD c 0 < (A.next.getD 0 []).length := h.cls _ (getD_memL (by omega))
theorem RightA.to {A : Aut} (h : RightA A) (hc : A.cls.length = 256) {s c : Nat} (hs : s < A.next.length) (hb : c < 256) : (A.cls.getD c 0).toNat < (A.next.getD s []).length ∧ 0 ≤ (A.next.getD s []).getD (A.cls.getD c 0).toNat 0 ∧ (A.next.getD s []).getD (A.cls.getD c 0).toNat 0 < A.next.length := by
  have h1 := h.cl hc hb
  have h2 := h.row _ (getD_memL (d := []) hs)
  have h3 : (A.cls.getD c 0).toNat < (A.next.getD s []).length := by rw [h2.1]; omega
  exact ⟨h3, h2.2 _ (getD_memL h3)⟩
theorem RightA.ok {A : Aut} (h : RightA A) (hc : A.cls.length = 256) : (raA A).Ok :=
  ⟨h.n0, fun s c hs hb => by have := h.to hc (s := s) hs hb; show stepA A s c < A.next.length; unfold stepA; omega⟩
def addTo (nx : Nat → Nat) (t : List UInt8) (l : List (Nat × List UInt8)) (c : Nat) : List (Nat × List UInt8) := if nx c ∈ l.map (·.1) then l else l ++ [(nx c, t ++ [UInt8.ofNat c])]
def addUp (nx : Nat → Nat) (t : List UInt8) (l : List (Nat × List UInt8)) (m : Nat) : List (Nat × List UInt8) := (List.range m).foldl (addTo nx t) l
def bfs (A : RA) : Nat → List (Nat × List UInt8)
  | 0 => [(0, [])]
  | i + 1 => match (bfs A i)[i]? with
    | some (s, t) => addUp (A.nx s) t (bfs A i) 256
    | none => bfs A i
theorem nodup_lt : ∀ (n : Nat) {l : List Nat}, l.Nodup → (∀ x ∈ l, x < n) → l.length ≤ n
  | 0, l, _, h => by cases l with
    | nil => simp
    | cons x l => exact absurd (h x (by simp)) (by omega)
  | n + 1, l, hd, h => by
    have h1 : (l.filter (· ≠ n)).Nodup := hd.filter _
    have h2 := nodup_lt n h1 (fun x hx => by
      obtain ⟨a, b⟩ := List.mem_filter.1 hx
      have := h x a
      simp at b
      omega)
    by_cases hm : n ∈ l
    · have h3 : l.length = (l.filter (· ≠ n)).length + 1 := by
        have e := hd.erase_eq_filter n
        have e2 := List.length_erase_of_mem hm
        rw [e] at e2
        have : 0 < l.length := List.length_pos_of_mem hm
        have e3 : (l.filter (· ≠ n)) = l.filter (· != n) := by congr 1; funext x; by_cases hx : x = n <;> simp [bne, hx]
        rw [e3]; omega
      omega
    · rw [List.filter_eq_self.2 (fun x hx => by simp; exact fun e => hm (e ▸ hx))] at h2
      omega
end Go.Proofs.Ytkkdpafkafjfgaa
