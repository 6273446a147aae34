/- Automata: an automaton as it stands in memory, what is wrong with one; the shortest text; how many texts. Plain. -/
import Derived.Test.YtkkdpafkafjfgaaDoorShAuU
namespace Go.Proofs.YtkkdpafkafjfgaaDoor
set_option linter.unusedVariables false
structure Aut where
  cls : List Int
  next : List (List Int)
  ends : List Bool
def rowErr (n k : Nat) (r : List Int) : Int := if r.length ≠ k then 8 else if r.any (fun t => decide (t < 0) || decide ((n : Int) ≤ t)) then 3 else 0
def rowsErr (n k : Nat) : List (List Int) → Int
  | [] => 0
  | r :: l => if rowErr n k r = 0 then rowsErr n k l else rowErr n k r
def clsErr (k : Nat) (l : List Int) : Int := if l.any (fun t => decide (t < 0) || decide ((k : Int) ≤ t)) then 3 else 0
def wrongA (A : Aut) : Int :=
  if A.next.length < 1 ∨ 8192 < A.next.length ∨ A.ends.length ≠ A.next.length then 5
  else if rowsErr A.next.length (A.next.getD 0 []).length A.next = 0 then clsErr (A.next.getD 0 []).length A.cls
  else rowsErr A.next.length (A.next.getD 0 []).length A.next
structure RightA (A : Aut) : Prop where
  n0 : 0 < A.next.length
  n1 : A.next.length ≤ 8192
  ne : A.ends.length = A.next.length
  row : ∀ r ∈ A.next, r.length = (A.next.getD 0 []).length ∧ ∀ t ∈ r, 0 ≤ t ∧ t < A.next.length
  cls : ∀ c ∈ A.cls, 0 ≤ c ∧ c < (A.next.getD 0 []).length
theorem rowErr_zero {n k : Nat} {r : List Int} : rowErr n k r = 0 ↔ r.length = k ∧ ∀ t ∈ r, 0 ≤ t ∧ t < n := by
  unfold rowErr
  by_cases h : r.length = k
  · rw [if_neg (by simp [h])]
    by_cases h2 : r.any (fun t => decide (t < 0) || decide ((n : Int) ≤ t)) = true
    · rw [if_pos h2]
      refine ⟨fun e => by simp at e, fun ⟨_, e⟩ => ?_⟩
      obtain ⟨t, ht, hb⟩ := List.any_eq_true.1 h2
      have := e t ht
      simp at hb
      omega
    · rw [if_neg h2]
      refine ⟨fun _ => ⟨h, fun t ht => ?_⟩, fun _ => rfl⟩
      have : ¬ ((decide (t < 0) || decide ((n : Int) ≤ t)) = true) := fun e => h2 (List.any_eq_true.2 ⟨t, ht, e⟩)
      simp at this
      omega
  · rw [if_pos h]
    exact ⟨fun e => by simp at e, fun e => absurd e.1 h⟩
theorem rowsErr_zero {n k : Nat} : ∀ {l : List (List Int)}, rowsErr n k l = 0 ↔ ∀ r ∈ l, rowErr n k r = 0
  | [] => by simp [rowsErr]
  | r :: l => by
    rw [rowsErr]
    by_cases h : rowErr n k r = 0
    · rw [if_pos h, rowsErr_zero]
      exact ⟨fun e x hx => (List.mem_cons.1 hx).elim (fun k => by rw [k]; exact h) (fun k => e x k), fun e x hx => e x (by simp [hx])⟩
    · rw [if_neg h]
      exact ⟨fun e => absurd e h, fun e => e r (by simp)⟩
theorem clsErr_zero {k : Nat} {l : List Int} : clsErr k l = 0 ↔ ∀ t ∈ l, 0 ≤ t ∧ t < k := by
  have := @rowErr_zero k l.length l
  unfold rowErr at this
  rw [if_neg (by simp)] at this
  unfold clsErr
  rw [this]
  exact ⟨fun e => e.2, fun e => ⟨rfl, e⟩⟩
theorem wrongA_zero {A : Aut} : wrongA A = 0 ↔ RightA A := by
  unfold wrongA
  by_cases h1 : A.next.length < 1 ∨ 8192 < A.next.length ∨ A.ends.length ≠ A.next.length
  · rw [if_pos h1]
    exact ⟨fun e => by simp at e, fun e => by have := e.n0; have := e.n1; have := e.ne; omega⟩
  · rw [if_neg h1]
    by_cases h2 : rowsErr A.next.length (A.next.getD 0 []).length A.next = 0
    · rw [if_pos h2, clsErr_zero]
      exact ⟨fun e => ⟨by omega, by omega, by omega, fun r hr => rowErr_zero.1 (rowsErr_zero.1 h2 r hr), e⟩, fun e => e.cls⟩
    · rw [if_neg h2]
      exact ⟨fun e => absurd e h2, fun e => absurd (rowsErr_zero.2 fun r hr => rowErr_zero.2 (e.row r hr)) h2⟩
def stepA (A : Aut) (s c : Nat) : Nat := ((A.next.getD s []).getD (A.cls.getD c 0).toNat 0).toNat
def raA (A : Aut) : RA := ⟨A.next.length, stepA A, fun s => A.ends.getD s false⟩
theorem getD_memL {α : Type} {l : List α} {k : Nat} {d : α} (h : k < l.length) : l.getD k d ∈ l := by
  rw [List.getD_eq_getElem?_getD, List.getElem?_eq_getElem h]; exact List.getElem_mem h
theorem RightA.cl {A : Aut} (h : RightA A) (hc : A.cls.length = 256) {c : Nat} (hb : c < 256) : 0 ≤ A.cls.getD c 0 ∧ A.cls.getD c 0 < (A.next.getD 0 []).length := h.cls _ (getD_memL (by omega))
theorem RightA.to {A : Aut} (h : RightA A) (hc : A.cls.length = 256) {s c : Nat} (hs : s < A.next.length) (hb : c < 256) : (A.cls.getD c 0).toNat < (A.next.getD s []).length ∧ 0 ≤ (A.next.getD s []).getD (A.cls.getD c 0).toNat 0 ∧ (A.next.getD s []).getD (A.cls.getD c 0).toNat 0 < A.next.length := by
  have h1 := h.cl hc hb
  have h2 := h.row _ (getD_memL (d := []) hs)
  have h3 : (A.cls.getD c 0).toNat < (A.next.getD s []).length := by rw [h2.1]; omega
  exact ⟨h3, h2.2 _ (getD_memL h3)⟩
theorem RightA.ok {A : Aut} (h : RightA A) (hc : A.cls.length = 256) : (raA A).Ok :=
  ⟨h.n0, fun s c hs hb => by have := h.to hc (s := s) hs hb; show stepA A s c < A.next.length; unfold stepA; omega⟩
def addTo (nx : Nat → Nat) (t : List UInt8) (l : List (Nat × List UInt8)) (c : Nat) : List (Nat × List UInt8) := if nx c ∈ l.map (·.1) then l else l ++ [(nx c, t ++ [UInt8.ofNat c])]
def addUp (nx : Nat → Nat) (t : List UInt8) (l : List (Nat × List UInt8)) (m : Nat) : List (Nat × List UInt8) := (List.range m).foldl (addTo nx t) l
theorem addUp_succ (nx : Nat → Nat) (t : List UInt8) (l : List (Nat × List UInt8)) (m : Nat) : addUp nx t l (m + 1) = addTo nx t (addUp nx t l m) m := by unfold addUp; rw [List.range_succ, List.foldl_append]; rfl
def bfs (A : RA) : Nat → List (Nat × List UInt8)
  | 0 => [(0, [])]
  | i + 1 => match (bfs A i)[i]? with
    | some (s, t) => addUp (A.nx s) t (bfs A i) 256
    | none => bfs A i
theorem bfs_succ {A : RA} {i s : Nat} {t : List UInt8} (h : (bfs A i)[i]? = some (s, t)) : bfs A (i + 1) = addUp (A.nx s) t (bfs A i) 256 := by rw [bfs, h]
theorem addTo_pre (nx : Nat → Nat) (t : List UInt8) (l : List (Nat × List UInt8)) (c : Nat) : ∃ r, addTo nx t l c = l ++ r := by
  unfold addTo; split
  · exact ⟨[], by simp⟩
  · exact ⟨_, rfl⟩
theorem addUp_pre (nx : Nat → Nat) (t : List UInt8) (l : List (Nat × List UInt8)) : ∀ m, ∃ r, addUp nx t l m = l ++ r
  | 0 => ⟨[], by simp [addUp]⟩
  | m + 1 => by
    obtain ⟨r, hr⟩ := addUp_pre nx t l m
    obtain ⟨r2, hr2⟩ := addTo_pre nx t (addUp nx t l m) m
    exact ⟨r ++ r2, by rw [addUp_succ, hr2, hr, List.append_assoc]⟩
theorem bfs_pre1 (A : RA) (i : Nat) : ∃ r, bfs A (i + 1) = bfs A i ++ r := by
  rw [bfs]; split
  · exact addUp_pre _ _ _ _
  · exact ⟨[], by simp⟩
theorem bfs_pre (A : RA) {i j : Nat} (h : i ≤ j) : ∃ r, bfs A j = bfs A i ++ r := by
  induction h with
  | refl => exact ⟨[], by simp⟩
  | step _ ih =>
    obtain ⟨r, hr⟩ := ih
    obtain ⟨r2, hr2⟩ := bfs_pre1 A _
    exact ⟨r ++ r2, by rw [hr2, hr, List.append_assoc]⟩
theorem bfs_get (A : RA) {i j k : Nat} (h : i ≤ j) (hk : k < (bfs A i).length) : (bfs A j)[k]? = (bfs A i)[k]? := by
  obtain ⟨r, hr⟩ := bfs_pre A h
  rw [hr, List.getElem?_append_left hk]
theorem addTo_lt {n : Nat} {nx : Nat → Nat} {t : List UInt8} {l : List (Nat × List UInt8)} {c : Nat} (h : ∀ x ∈ l, x.1 < n) (hc : nx c < n) : ∀ x ∈ addTo nx t l c, x.1 < n := by
  intro x hx
  unfold addTo at hx
  split at hx
  · exact h x hx
  · rcases List.mem_append.1 hx with hx | hx
    · exact h x hx
    · rw [List.mem_singleton] at hx; rw [hx]; exact hc
theorem addTo_nodup {nx : Nat → Nat} {t : List UInt8} {l : List (Nat × List UInt8)} {c : Nat} (h : (l.map (·.1)).Nodup) : ((addTo nx t l c).map (·.1)).Nodup := by
  unfold addTo
  split
  · exact h
  · rw [List.map_append]; exact nodup_snoc h (by assumption)
structure BfsOk (n : Nat) (l : List (Nat × List UInt8)) : Prop where
  lt : ∀ x ∈ l, x.1 < n
  dis : (l.map (·.1)).Nodup
  zero : ∃ r, l = (0, []) :: r
theorem BfsOk.add {n : Nat} {nx : Nat → Nat} {t : List UInt8} {l : List (Nat × List UInt8)} (h : BfsOk n l) {c : Nat} (hc : nx c < n) : BfsOk n (addTo nx t l c) :=
  ⟨addTo_lt h.lt hc, addTo_nodup h.dis, by obtain ⟨r, hr⟩ := h.zero; obtain ⟨r2, h2⟩ := addTo_pre nx t l c; exact ⟨r ++ r2, by rw [h2, hr]; rfl⟩⟩
theorem BfsOk.addUp {n : Nat} {nx : Nat → Nat} {t : List UInt8} {l : List (Nat × List UInt8)} (h : BfsOk n l) : ∀ m, (∀ c, c < m → nx c < n) → BfsOk n (addUp nx t l m)
  | 0, _ => h
  | m + 1, hc => by rw [addUp_succ]; exact (h.addUp m fun c h => hc c (by omega)).add (hc m (by omega))
theorem bfs_ok {A : RA} (ok : A.Ok) : ∀ i, BfsOk A.n (bfs A i)
  | 0 => ⟨fun x hx => by rw [bfs, List.mem_singleton] at hx; rw [hx]; exact ok.pos, by simp [bfs], ⟨[], rfl⟩⟩
  | i + 1 => by
    rw [bfs]; split
    · rename_i s t h
      have hs : s < A.n := (bfs_ok ok i).lt _ (List.mem_of_getElem? h)
      exact (bfs_ok ok i).addUp 256 fun c hc => ok.nx s c hs hc
    · exact bfs_ok ok i
theorem nodup_lt : ∀ (n : Nat) {l : List Nat}, l.Nodup → (∀ x ∈ l, x < n) → l.length ≤ n
  | 0, l, _, h => by cases l with
    | nil => simp
    | cons x l => exact absurd (h x (by simp)) (by omega)
  | n + 1, l, hd, h => by
    have h1 : (l.filter (· ≠ n)).Nodup := hd.filter _
    have h2 := nodup_lt n h1 (fun x hx => by
      obtain ⟨a, b⟩ := List.mem_filter.1 hx
      have := h x a
      simp at b
      omega)
    by_cases hm : n ∈ l
    · have h3 : l.length = (l.filter (· ≠ n)).length + 1 := by
        have e := hd.erase_eq_filter n
        have e2 := List.length_erase_of_mem hm
        rw [e] at e2
        have : 0 < l.length := List.length_pos_of_mem hm
        have e3 : (l.filter (· ≠ n)) = l.filter (· != n) := by congr 1; funext x; by_cases hx : x = n <;> simp [bne, hx]
        rw [e3]; omega
      omega
    · rw [List.filter_eq_self.2 (fun x hx => by simp; exact fun e => hm (e ▸ hx))] at h2
      omega
theorem BfsOk.le {n : Nat} {l : List (Nat × List UInt8)} (h : BfsOk n l) : l.length ≤ n := by
  have := nodup_lt n h.dis (fun x hx => by obtain ⟨y, hy, rfl⟩ := List.mem_map.1 hx; exact h.lt y hy)
  rw [List.length_map] at this; exact this
def shortAt (A : RA) (i : Nat) : Prop := ∀ j, j < i → ∃ s t, (bfs A j)[j]? = some (s, t) ∧ A.en s = false
inductive Short (A : RA) : Option (List UInt8) → Prop where
  | found (i : Nat) (s : Nat) (t : List UInt8) (h : shortAt A i) (hi : (bfs A i)[i]? = some (s, t)) (he : A.en s = true) : Short A (some t)
  | none (i : Nat) (h : shortAt A i) (hi : (bfs A i)[i]? = none) : Short A none
theorem Short.one {A : RA} {x y : Option (List UInt8)} (hx : Short A x) (hy : Short A y) : x = y := by
  cases hx with
  | found i s t h hi he =>
    cases hy with
    | found i2 s2 t2 h2 hi2 he2 =>
      rcases Nat.lt_trichotomy i i2 with hlt | rfl | hlt
      · obtain ⟨a, b, e1, e2⟩ := h2 i hlt; rw [hi] at e1; cases e1; rw [he] at e2; cases e2
      · rw [hi] at hi2; cases hi2; rfl
      · obtain ⟨a, b, e1, e2⟩ := h i2 hlt; rw [hi2] at e1; cases e1; rw [he2] at e2; cases e2
    | none i2 h2 hi2 =>
      rcases Nat.lt_trichotomy i i2 with hlt | rfl | hlt
      · obtain ⟨a, b, e1, e2⟩ := h2 i hlt; rw [hi] at e1; cases e1; rw [he] at e2; cases e2
      · rw [hi] at hi2; cases hi2
      · obtain ⟨a, b, e1, e2⟩ := h i2 hlt; rw [hi2] at e1; cases e1
  | none i h hi =>
    cases hy with
    | found i2 s2 t2 h2 hi2 he2 =>
      rcases Nat.lt_trichotomy i i2 with hlt | rfl | hlt
      · obtain ⟨a, b, e1, e2⟩ := h2 i hlt; rw [hi] at e1; cases e1
      · rw [hi] at hi2; cases hi2
      · obtain ⟨a, b, e1, e2⟩ := h i2 hlt; rw [hi2] at e1; cases e1; rw [he2] at e2; cases e2
    | none i2 h2 hi2 => rfl
def dot : List Nat → (Nat → Nat) → Nat
  | [], _ => 0
  | x :: l, f => x * f 0 + dot l fun i => f (i + 1)
theorem dot_add : ∀ (l : List Nat) (i k : Nat) (f : Nat → Nat), i < l.length → dot (l.set i (l.getD i 0 + k)) f = dot l f + k * f i
  | [], i, k, f, h => by simp at h
  | x :: l, 0, k, f, _ => by rw [List.set_cons_zero, dot, dot, List.getD_cons_zero, Nat.add_mul]; omega
  | x :: l, i + 1, k, f, h => by
    rw [List.set_cons_succ, dot, dot, List.getD_cons_succ, dot_add l i k (fun j => f (j + 1)) (by simpa using h)]
    omega
theorem dot_zero : ∀ (n : Nat) (f : Nat → Nat), dot (List.replicate n 0) f = 0
  | 0, _ => rfl
  | n + 1, f => by rw [List.replicate_succ, dot, dot_zero n]; omega
theorem dot_get : ∀ (l : List Nat) (i : Nat), i < l.length → l.getD i 0 ≤ dot l fun _ => 1
  | [], i, h => by simp at h
  | x :: l, 0, _ => by rw [List.getD_cons_zero, dot]; omega
  | x :: l, i + 1, h => by have := dot_get l i (by simpa using h); rw [List.getD_cons_succ, dot]; omega
theorem dot_snoc : ∀ (l : List Nat) (x : Nat) (f : Nat → Nat), dot (l ++ [x]) f = dot l f + x * f l.length
  | [], x, f => by simp [dot]
  | y :: l, x, f => by rw [List.cons_append, dot, dot, dot_snoc l x, List.length_cons]; omega
theorem dot_take {l : List Nat} {i : Nat} (h : i < l.length) (f : Nat → Nat) : dot (l.take (i + 1)) f = dot (l.take i) f + l.getD i 0 * f i := by
  have e : l.take (i + 1) = l.take i ++ [l.getD i 0] := by
    rw [List.take_add_one, List.getD_eq_getElem?_getD, List.getElem?_eq_getElem h]; rfl
  rw [e, dot_snoc, List.length_take, Nat.min_eq_left (by omega)]
theorem dot_mul : ∀ (l : List Nat) (f : Nat → Nat) (k : Nat), dot l (fun i => k * f i) = k * dot l f
  | [], _, _ => rfl
  | x :: l, f, k => by rw [dot, dot, dot_mul l (fun i => f (i + 1)) k, Nat.mul_add, Nat.mul_left_comm]
def sumB (f : Nat → Nat) : Nat → Nat
  | 0 => 0
  | m + 1 => sumB f m + f m
theorem sumB_le {f : Nat → Nat} {k : Nat} : ∀ m, (∀ c, c < m → f c ≤ k) → sumB f m ≤ m * k
  | 0, _ => Nat.zero_le _
  | m + 1, h => by have := sumB_le m fun c hc => h c (by omega); have := h m (by omega); rw [sumB, Nat.add_mul]; omega
theorem sumB_one : ∀ m, sumB (fun _ => 1) m = m
  | 0 => rfl
  | m + 1 => by rw [sumB, sumB_one m]
def cntA (A : RA) : Nat → Nat → Nat
  | 0, s => if A.en s then 1 else 0
  | k + 1, s => sumB (fun c => cntA A k (A.nx s c)) 256
theorem cntA_le {A : RA} : ∀ k s, cntA A k s ≤ 256 ^ k
  | 0, s => by rw [cntA]; split <;> simp
  | k + 1, s => by
    rw [cntA, Nat.pow_succ, Nat.mul_comm]
    exact sumB_le 256 fun c _ => cntA_le k _
end Go.Proofs.YtkkdpafkafjfgaaDoor
