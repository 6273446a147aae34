/- Automata: an automaton as it stands in memory, what is wrong with one; the shortest text; how many texts. Plain. -/
import Derived.Test.YtkkdpafkafjfgaaDoorAlAuU
namespace Go.Proofs.YtkkdpafkafjfgaaDoor
set_option linter.unusedVariables false
structure Aut where
  cls : List Int
  next : List (List Int)
  ends : List Bool
def rowErr (n k : Nat) (r : List Int) : Int := if r.length ≠ k then 8 else if r.any (fun t => decide (t < 0) || decide ((n : Int) ≤ t)) then 3 else 0
def rowsErr (n k : Nat) : List (List Int) → Int
  | [] => 0
  | r :: l => if rowErr n k r = 0 then rowsErr n k l else rowErr n k r
def clsErr (k : Nat) (l : List Int) : Int := if l.any (fun t => decide (t < 0) || decide ((k : Int) ≤ t)) then 3 else 0
def wrongA (A : Aut) : Int :=
  if A.next.length < 1 ∨ 8192 < A.next.length ∨ A.ends.length ≠ A.next.length then 5
  else if rowsErr A.next.length (A.next.getD 0 []).length A.next = 0 then clsErr (A.next.getD 0 []).length A.cls
  else rowsErr A.next.length (A.next.getD 0 []).length A.next
structure RightA (A : Aut) : Prop where
  n0 : 0 < A.next.length
  n1 : A.next.length ≤ 8192
  ne : A.ends.length = A.next.length
  row : ∀ r ∈ A.next, r.length = (A.next.getD 0 []).length ∧ ∀ t ∈ r, 0 ≤ t ∧ t < A.next.length
  cls : ∀ c ∈ A.cls, 0 ≤ c ∧ c < (A.next.getD 0 []).length
theorem rowErr_zero {n k : Nat} {r : List Int} : rowErr n k r = 0 ↔ r.length = k ∧ ∀ t ∈ r, 0 ≤ t ∧ t < n := by
  unfold rowErr
  by_cases h : r.length = k
  · rw [if_neg (by simp [h])]
    by_cases h2 : r.any (fun t => decide (t < 0) || decide ((n : Int) ≤ t)) = true
    · rw [if_pos h2]
      refine ⟨fun e => by simp at e, fun ⟨_, e⟩ => ?_⟩
      obtain ⟨t, ht, hb⟩ := List.any_eq_true.1 h2
      have := e t ht
      simp at hb
      omega
    · rw [if_neg h2]
      refine ⟨fun _ => ⟨h, fun t ht => ?_⟩, fun _ => rfl⟩
      have : ¬ ((decide (t < 0) || decide ((n : Int) ≤ t)) = true) := fun e => h2 (List.any_eq_true.2 ⟨t, ht, e⟩)
      simp at this
      omega
  · rw [if_pos h]
    exact ⟨fun e => by simp at e, fun e => absurd e.1 h⟩
theorem rowsErr_zero {n k : Nat} : ∀ {l : List (List Int)}, rowsErr n k l = 0 ↔ ∀ r ∈ l, rowErr n k r = 0
  | [] => by simp [rowsErr]
  | r :: l => by
    rw [rowsErr]
    by_cases h : rowErr n k r = 0
    · rw [if_pos h, rowsErr_zero]
      exact ⟨fun e x hx => (List.mem_cons.1 hx).elim (fun k => by rw [k]; exact h) (fun k => e x k), fun e x hx => e x (by simp [hx])⟩
    · rw [if_neg h]
      exact ⟨fun e => absurd e h, fun e => e r (by simp)⟩
theorem clsErr_zero {k : Nat} {l : List Int} : clsErr k l = 0 ↔ ∀ t ∈ l, 0 ≤ t ∧ t < k := by
  have := @rowErr_zero k l.length l
  unfold rowErr at this
  rw [if_neg (by simp)] at this
  unfold clsErr
  rw [this]
  exact ⟨fun e => e.2, fun e => ⟨rfl, e⟩⟩
theorem wrongA_zero {A : Aut} : wrongA A = 0 ↔ RightA A := by
  unfold wrongA
  by_cases h1 : A.next.length < 1 ∨ 8192 < A.next.length ∨ A.ends.length ≠ A.next.length
  · rw [if_pos h1]
    exact ⟨fun e => by simp at e, fun e => by have := e.n0; have := e.n1; have := e.ne; omega⟩
  · rw [if_neg h1]
    by_cases h2 : rowsErr A.next.length (A.next.getD 0 []).length A.next = 0
    · rw [if_pos h2, clsErr_zero]
      exact ⟨fun e => ⟨by omega, by omega, by omega, fun r hr => rowErr_zero.1 (rowsErr_zero.1 h2 r hr), e⟩, fun e => e.cls⟩
    · rw [if_neg h2]
      exact ⟨fun e => absurd e h2, fun e => absurd (rowsErr_zero.2 fun r hr => rowErr_zero.2 (e.row r hr)) h2⟩
def stepA (A : Aut) (s c : Nat) : Nat := ((A.next.getD s []).getD (A.cls.getD c 0).toNat 0).toNat
def raA (A : Aut) : RA := ⟨A.next.length, stepA A, fun s => A.ends.getD s false⟩
theorem getD_memL {α : Type} {l : List α} {k : Nat} {d : α} (h : k < l.length) : l.getD k d ∈ l := by
  rw [List.getD_eq_getElem?_getD, List.getElem?_eq_getElem h]; exact List.getElem_mem h
theorem RightA.cl {A : Aut} (h : RightA A) (hc : A.cls.length = 256) {c : Nat} (hb : c < 256) : 0 ≤ A.cls.getD c 0 ∧ A.cls.getD c 0 < (A.next.getD 0 []).length := h.cls _ (getD_memL (by omega))
theorem RightA.to {A : Aut} (h : RightA A) (hc : A.cls.length = 256) {s c : Nat} (hs : s < A.next.length) (hb : c < 256) : (A.cls.getD c 0).toNat < (A.next.getD s []).length ∧ 0 ≤ (A.next.getD s []).getD (A.cls.getD c 0).toNat 0 ∧ (A.next.getD s []).getD (A.cls.getD c 0).toNat 0 < A.next.length := by
  have h1 := h.cl hc hb
  have h2 := h.row _ (getD_memL (d := []) hs)
  have h3 : (A.cls.getD c 0).toNat < (A.next.getD s []).length := by rw [h2.1]; omega
  exact ⟨h3, h2.2 _ (getD_memL h3)⟩
theorem RightA.ok {A : Aut} (h : RightA A) (hc : A.cls.length = 256) : (raA A).Ok :=
  ⟨h.n0, fun s c hs hb => by have := h.to hc (s := s) hs hb; show stepA A s c < A.next.length; unfold stepA; omega⟩
def addTo (nx : Nat → Nat) (t : List UInt8) (l : List (Nat × List UInt8)) (c : Nat) : List (Nat × List UInt8) := if nx c ∈ l.map (·.1) then l else l ++ [(nx c, t ++ [UInt8.ofNat c])]
def addUp (nx : Nat → Nat) (t : List UInt8) (l : List (Nat × List UInt8)) (m : Nat) : List (Nat × List UInt8) := (List.range m).foldl (addTo nx t) l
def bfs (A : RA) : Nat → List (Nat × List UInt8)
  | 0 => [(0, [])]
  | i + 1 => match (bfs A i)[i]? with
    | some (s, t) => addUp (A.nx s) t (bfs A i) 256
    | none => bfs A i
theorem nodup_lt : ∀ (n : Nat) {l : List Nat}, l.Nodup → (∀ x ∈ l, x < n) → l.length ≤ n
  | 0, l, _, h => by cases l with
    | nil => simp
    | cons x l => exact absurd (h x (by simp)) (by omega)
  | n + 1, l, hd, h => by
    have h1 : (l.filter (· ≠ n)).Nodup := hd.filter _
    have h2 := nodup_lt n h1 (fun x hx => by
      obtain ⟨a, b⟩ := List.mem_filter.1 hx
      have := h x a
      simp at b
      omega)
    by_cases hm : n ∈ l
    · have h3 : l.length = (l.filter (· ≠ n)).length + 1 := by
        have e := hd.erase_eq_filter n
        have e2 := List.length_erase_of_mem hm
        rw [e] at e2
        have : 0 < l.length := List.length_pos_of_mem hm
        have e3 : (l.filter (· ≠ n)) = l.filter (· != n) := by congr 1; funext x; by_cases hx : x = n <;> simp [bne, hx]
        rw [e3]; omega
      omega
    · rw [List.filter_eq_self.2 (fun x hx => by simp; exact fun e => hm (e ▸ hx))] at h2
      omega
end Go.Proofs.YtkkdpafkafjfgaaDoor

namespace Go.Proofs.YtkkdpafkafjfgaaDoor
set_option linter.unusedVariables false
section
variable {α : Type} [DecidableEq α]
theorem fsts_congr {f g : Nat → α} : ∀ n, (∀ i, i < n → f i = g i) → fsts f n = fsts g n
  | 0, _ => rfl
  | n + 1, h => by
    have e : (List.range n).map f = (List.range n).map g := List.map_congr_left fun i hi => h i (by have := List.mem_range.1 hi; omega)
    rw [fsts, fsts, fsts_congr n (fun i hi => h i (by omega)), e, h n (by omega)]
theorem numb_congr {f g : Nat → α} {n i : Nat} (hi : i < n) (h : ∀ i, i < n → f i = g i) : numb f n i = numb g n i := by
  have e : (List.range n).map f = (List.range n).map g := List.map_congr_left fun i hi => h i (by have := List.mem_range.1 hi; omega)
  unfold numb; rw [e, h i hi]
theorem numb_fsts (f : Nat → α) (n i : Nat) : numb f n i = ((fsts f n).map f).idxOf (f i) := by unfold numb; rw [uniq_fsts]
theorem fsts_numb (f : Nat → α) {n i : Nat} (hi : i < n) : numb f n i < (fsts f n).length ∧ f ((fsts f n).getD (numb f n i) 0) = f i := by
  have h1 := idx_get (mem_of_lt f hi)
  rw [uniq_fsts] at h1
  have hl : numb f n i < (fsts f n).length := by have := numb_lt f hi; rwa [uniq_fsts, List.length_map] at this
  refine ⟨hl, ?_⟩
  rw [numb_fsts] at hl ⊢
  rw [List.getElem?_map, List.getElem?_eq_getElem hl] at h1
  rw [List.getD_eq_getElem?_getD, List.getElem?_eq_getElem hl]
  exact Option.some.inj h1
end
def colA (C : RA) (c : Nat) : List Nat := (List.range C.n).map fun s => C.nx s c
def autOf (C : RA) : Aut := ⟨(List.range 256).map fun c => (numb (colA C) 256 c : Int), (List.range C.n).map fun s => (fsts (colA C) 256).map fun c => (C.nx s c : Int), (List.range C.n).map C.en⟩
theorem colA_congr {A B : RA} (h : RaEq A B) {c : Nat} (hc : c < 256) : colA A c = colA B c := by
  unfold colA; rw [← h.n]
  exact List.map_congr_left fun s hs => h.nx s c (List.mem_range.1 hs) hc
theorem autOf_congr {A B : RA} (h : RaEq A B) : autOf A = autOf B := by
  have hf : fsts (colA A) 256 = fsts (colA B) 256 := fsts_congr 256 fun c hc => colA_congr h hc
  have e1 : (List.range 256).map (fun c => (numb (colA A) 256 c : Int)) = (List.range 256).map fun c => (numb (colA B) 256 c : Int) := List.map_congr_left fun c hc => by rw [numb_congr (List.mem_range.1 hc) fun c hc => colA_congr h hc]
  have e2 : ((List.range A.n).map fun s => (fsts (colA A) 256).map fun c => (A.nx s c : Int)) = (List.range B.n).map fun s => (fsts (colA B) 256).map fun c => (B.nx s c : Int) := by
    rw [← h.n, ← hf]
    exact List.map_congr_left fun s hs => List.map_congr_left fun c hc => by rw [h.nx s c (List.mem_range.1 hs) (fsts_lt _ _ _ hc)]
  have e3 : (List.range A.n).map A.en = (List.range B.n).map B.en := by
    rw [← h.n]
    exact List.map_congr_left fun s hs => h.en s (List.mem_range.1 hs)
  unfold autOf
  rw [e1, e2, e3]
theorem getD_map_range {α : Type} (f : Nat → α) {n i : Nat} (hi : i < n) (d : α) : ((List.range n).map f).getD i d = f i := by
  rw [List.getD_eq_getElem?_getD, List.getElem?_map, List.getElem?_range hi]; rfl
theorem getD_map_lt {α β : Type} (f : α → β) {l : List α} {i : Nat} (hi : i < l.length) (a : α) (d : β) : (l.map f).getD i d = f (l.getD i a) := by
  rw [List.getD_eq_getElem?_getD, List.getElem?_map, List.getElem?_eq_getElem hi, List.getD_eq_getElem?_getD, List.getElem?_eq_getElem hi]; rfl
theorem colA_nx {C : RA} {c d : Nat} (e : colA C c = colA C d) {s : Nat} (hs : s < C.n) : C.nx s c = C.nx s d := by
  have := congrArg (fun l : List Nat => l.getD s 0) e
  unfold colA at this
  rwa [getD_map_range _ hs, getD_map_range _ hs] at this
theorem autOf_step {C : RA} {s c : Nat} (hs : s < C.n) (hc : c < 256) : stepA (autOf C) s c = C.nx s c := by
  unfold stepA autOf
  dsimp only
  rw [getD_map_range _ hs, getD_map_range _ hc, Int.toNat_natCast]
  obtain ⟨h1, h2⟩ := fsts_numb (colA C) hc
  rw [getD_map_lt _ h1 0, Int.toNat_natCast]
  exact colA_nx h2 hs
theorem autOf_n (C : RA) : (autOf C).next.length = C.n := by simp [autOf]
theorem autOf_ne (C : RA) : (autOf C).ends.length = C.n := by simp [autOf]
theorem autOf_c (C : RA) : (autOf C).cls.length = 256 := by simp [autOf]
theorem autOf_row {C : RA} {s : Nat} (hs : s < C.n) : (autOf C).next.getD s [] = (fsts (colA C) 256).map fun c => (C.nx s c : Int) := by
  unfold autOf; dsimp only; rw [getD_map_range _ hs]
theorem autOf_right {C : RA} (ok : C.Ok) (h : C.n ≤ 8192) : RightA (autOf C) := by
  refine ⟨by rw [autOf_n]; exact ok.pos, by rw [autOf_n]; exact h, by rw [autOf_ne, autOf_n], fun r hr => ?_, fun c hc => ?_⟩
  · rw [autOf_row ok.pos, List.length_map]
    obtain ⟨s, hs, rfl⟩ := List.mem_map.1 hr
    refine ⟨List.length_map _, fun t ht => ?_⟩
    obtain ⟨c, hc, rfl⟩ := List.mem_map.1 ht
    have := ok.nx s c (List.mem_range.1 hs) (fsts_lt _ _ _ hc)
    rw [autOf_n]; omega
  · rw [autOf_row ok.pos, List.length_map]
    obtain ⟨d, hd, rfl⟩ := List.mem_map.1 hc
    have := (fsts_numb (colA C) (List.mem_range.1 hd)).1
    omega
theorem autOf_ra {C : RA} (ok : C.Ok) : RaEq (raA (autOf C)) C := by
  refine ⟨autOf_n C, fun s c hs hc => autOf_step (by rw [← autOf_n C]; exact hs) hc, fun s hs => ?_⟩
  have hs : s < C.n := by rw [← autOf_n C]; exact hs
  show (autOf C).ends.getD s false = C.en s
  unfold autOf; dsimp only; rw [getD_map_range _ hs]
theorem RaEq.eqv {A B : RA} (h : RaEq A B) (ok : A.Ok) : ∀ (l : List UInt8) (s : Nat), s < A.n → A.tak s l = B.tak s l
  | [], s, hs => h.en s hs
  | c :: l, s, hs => by
    have h1 := h.nx s c.toNat hs (u8_lt c)
    have := h.eqv ok l (A.nx s c.toNat) (ok.nx s _ hs (u8_lt c))
    unfold RA.tak at this ⊢
    rw [RA.go, RA.go, this, h1]
theorem RaEq.symm {A B : RA} (h : RaEq A B) : RaEq B A := ⟨h.n.symm, fun s c hs hc => (h.nx s c (by rw [h.n]; exact hs) hc).symm, fun s hs => (h.en s (by rw [h.n]; exact hs)).symm⟩
theorem nodup_of_map {α β : Type} (f : α → β) : ∀ {l : List α}, (l.map f).Nodup → l.Nodup
  | [], _ => List.nodup_nil
  | x :: l, h => by
    rw [List.map_cons, List.nodup_cons] at h
    exact List.nodup_cons.2 ⟨fun k => h.1 (List.mem_map.2 ⟨x, k, rfl⟩), nodup_of_map f h.2⟩
def LeastOf (R : RA) (A : Aut) : Prop := ∃ C, Can C ∧ Eqv C R 0 0 ∧ A = autOf C ∧ C.n ≤ R.n
theorem LeastOf.one {R S : RA} {A B : Aut} (h : LeastOf R A) (k : LeastOf S B) (e : Eqv R S 0 0) : A = B := by
  obtain ⟨C, c1, c2, rfl, _⟩ := h
  obtain ⟨D, d1, d2, rfl, _⟩ := k
  exact autOf_congr (can_one c1 d1 (c2.trans (e.trans d2.symm)))
theorem Made.least {R : RA} {g : Nat → Nat} {ord : List Nat} {C : RA} (ok : R.Ok) (hg : Groups R g) (h : Made R g ord C) : LeastOf R (autOf C) := by
  have hc := h.can ok hg
  refine ⟨C, hc.1, hc.2, rfl, ?_⟩
  rw [h.n]
  have h1 : ord.Nodup := nodup_of_map g h.dis
  exact nodup_lt R.n h1 h.lt
end Go.Proofs.YtkkdpafkafjfgaaDoor
