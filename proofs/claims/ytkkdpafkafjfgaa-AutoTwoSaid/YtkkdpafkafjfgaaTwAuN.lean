/- The least automaton as it is handed back: classes of bytes by what they do. Plain. -/
import Derived.Test.YtkkdpafkafjfgaaTwAuS
namespace Go.Proofs.Ytkkdpafkafjfgaa
set_option linter.unusedVariables false
section
variable {α : Type} [DecidableEq α]
theorem fsts_congr {f g : Nat → α} : ∀ n, (∀ i, i < n → f i = g i) → fsts f n = fsts g n
  | 0, _ => rfl
  | n + 1, h => by
    have e : (List.range n).map f = (List.range n).map g := List.map_congr_left fun i hi => h i (by have := List.mem_range.1 hi; omega)
    rw [fsts, fsts, fsts_congr n (fun i hi => h i (by omega)), e, h n (by omega)]
theorem numb_congr {f g : Nat → α} {n i : Nat} (hi : i < n) (h : ∀ i, i < n → f i = g i) : numb f n i = numb g n i := by
  have e : (List.range n).map f = (List.range n).map g := List.map_congr_left fun i hi => h i (by have := List.mem_range.1 hi; omega)
  unfold numb; rw [e, h i hi]
theorem numb_fsts (f : Nat → α) (n i : Nat) : numb f n i = ((fsts f n).map f).idxOf (f i) := by unfold numb; rw [uniq_fsts]
theorem fsts_numb (f : Nat → α) {n i : Nat} (hi : i < n) : numb f n i < (fsts f n).length ∧ f ((fsts f n).getD (numb f n i) 0) = f i := by
  have h1 := idx_get (mem_of_lt f hi)
  rw [uniq_fsts] at h1
  have hl : numb f n i < (fsts f n).length := by have := numb_lt f hi; rwa [uniq_fsts, List.length_map] at this
  refine ⟨hl, ?_⟩
  rw [numb_fsts] at hl ⊢
  rw [List.getElem?_map, List.getElem?_eq_getElem hl] at h1
  rw [List.getD_eq_getElem?_getD, List.getElem?_eq_getElem hl]
  exact Option.some.inj h1
end
def colA (C : RA) (c : Nat) : List Nat := (List.range C.n).map fun s => C.nx s c
def autOf (C : RA) : Aut := ⟨(List.range 256).map fun c => (numb (colA C) 256 c : Int), (List.range C.n).map fun s => (fsts (colA C) 256).map fun c => (C.nx s c : Int), (List.range C.n).map C.en⟩
theorem colA_congr {A B : RA} (h : RaEq A B) {c : Nat} (hc : c < 256) : colA A c = colA B c := by
  unfold colA; rw [← h.n]
  exact List.map_congr_left fun s hs => h.nx s c (List.mem_range.1 hs) hc
theorem autOf_congr {A B : RA} (h : RaEq A B) : autOf A = autOf B := by
  have hf : fsts (colA A) 256 = fsts (colA B) 256 := fsts_congr 256 fun c hc => colA_congr h hc
  have e1 : (List.range 256).map (fun c => (numb (colA A) 256 c : Int)) = (List.range 256).map fun c => (numb (colA B) 256 c : Int) := List.map_congr_left fun c hc => by rw [numb_congr (List.mem_range.1 hc) fun c hc => colA_congr h hc]
  have e2 : ((List.range A.n).map fun s => (fsts (colA A) 256).map fun c => (A.nx s c : Int)) = (List.range B.n).map fun s => (fsts (colA B) 256).map fun c => (B.nx s c : Int) := by
    rw [← h.n, ← hf]
    exact List.map_congr_left fun s hs => List.map_congr_left fun c hc => by rw [h.nx s c (List.mem_range.1 hs) (fsts_lt _ _ _ hc)]
  have e3 : (List.range A.n).map A.en = (List.range B.n).map B.en := by
    rw [← h.n]
    exact List.map_congr_left fun s hs => h.en s (List.mem_range.1 hs)
  unfold autOf
  rw [e1, e2, e3]
theorem getD_map_range {α : Type} (f : Nat → α) {n i : Nat} (hi : i < n) (d : α) : ((List.range n).map f).getD i d = f i := by
  rw [List.getD_eq_getElem?_getD, List.getElem?_map, List.getElem?_range hi]; rfl
theorem getD_map_lt {α β : Type} (f : α → β) {l : List α} {i : Nat} (hi : i < l.length) (a : α) (d : β) : (l.map f).getD i d = f (l.getD i a) := by
  rw [List.getD_eq_getElem?_getD, List.getElem?_map, List.getElem?_eq_getElem hi, List.getD_eq_getElem?_getD, List.getElem?_eq_getElem hi]; rfl
theorem colA_nx {C : RA} {c d : Nat} (e : colA C c = colA C d) {s : Nat} (hs : s < C.n) : C.nx s c = C.nx s d := by
  have := congrArg (fun l : List Nat => l.getD s 0) e
  unfold colA at this
  rwa [getD_map_range _ hs, getD_map_range _ hs] at this
theorem autOf_n (C : RA) : (autOf C).next.length = C.n := by simp [autOf]
theorem autOf_ne (C : RA) : (autOf C).ends.length = C.n := by simp [autOf]
theorem autOf_c (C : RA) : (autOf C).cls.length = 256 := by simp [autOf]
theorem autOf_row {C : RA} {s : Nat} (hs : s < C.n) : (autOf C).next.getD s [] = (fsts (colA C) 256).map fun c => (C.nx s c : Int) := by
  unfold autOf; dsimp only; rw [getD_map_range _ hs]
theorem autOf_right {C : RA} (ok : C.Ok) (h : C.n ≤ 8192) : RightA (autOf C) := by
  refine ⟨by rw [autOf_n]; exact ok.pos, by rw [autOf_n]; exact h, by rw [autOf_ne, autOf_n], fun r hr => ?_, fun c hc => ?_⟩
  · rw [autOf_row ok.pos, List.length_map]
    obtain ⟨s, hs, rfl⟩ := List.mem_map.1 hr
    refine ⟨List.length_map _, fun t ht => ?_⟩
    obtain ⟨c, hc, rfl⟩ := List.mem_map.1 ht
    have := ok.nx s c (List.mem_range.1 hs) (fsts_lt _ _ _ hc)
    rw [autOf_n]; omega
  · rw [autOf_row ok.pos, List.length_map]
    obtain ⟨d, hd, rfl⟩ := List.mem_map.1 hc
    have := (fsts_numb (colA C) (List.mem_range.1 hd)).1
    omega
theorem RaEq.eqv {A B : RA} (h : RaEq A B) (ok : A.Ok) : ∀ (l : List UInt8) (s : Nat), s < A.n → A.tak s l = B.tak s l
  | [], s, hs => h.en s hs
  | c :: l, s, hs => by
    have h1 := h.nx s c.toNat hs (u8_lt c)
    have := h.eqv ok l (A.nx s c.toNat) (ok.nx s _ hs (u8_lt c))
    unfold RA.tak at this ⊢
    rw [RA.go, RA.go, this, h1]
theorem RaEq.symm {A B : RA} (h : RaEq A B) : RaEq B A := ⟨h.n.symm, fun s c hs hc => (h.nx s c (by rw [h.n]; exact hs) hc).symm, fun s hs => (h.en s (by rw [h.n]; exact hs)).symm⟩
theorem nodup_of_map {α β : Type} (f : α → β) : ∀ {l : List α}, (l.map f).Nodup → l.Nodup
  | [], _ => List.nodup_nil
  | x :: l, h => by
    rw [List.map_cons, List.nodup_cons] at h
    exact List.nodup_cons.2 ⟨fun k => h.1 (List.mem_map.2 ⟨x, k, rfl⟩), nodup_of_map f h.2⟩
def LeastOf (R : RA) (A : Aut) : Prop := ∃ C, Can C ∧ Eqv C R 0 0 ∧ A = autOf C ∧ C.n ≤ R.n
theorem LeastOf.one {R S : RA} {A B : Aut} (h : LeastOf R A) (k : LeastOf S B) (e : Eqv R S 0 0) : A = B := by
  obtain ⟨C, c1, c2, rfl, _⟩ := h
  obtain ⟨D, d1, d2, rfl, _⟩ := k
  exact autOf_congr (can_one c1 d1 (c2.trans (e.trans d2.symm)))
theorem Made.least {R : RA} {g : Nat → Nat} {ord : List Nat} {C : RA} (ok : R.Ok) (hg : Groups R g) (h : Made R g ord C) : LeastOf R (autOf C) := by
  have hc := h.can ok hg
  refine ⟨C, hc.1, hc.2, rfl, ?_⟩
  rw [h.n]
  have h1 : ord.Nodup := nodup_of_map g h.dis
  exact nodup_lt R.n h1 h.lt
end Go.Proofs.Ytkkdpafkafjfgaa
