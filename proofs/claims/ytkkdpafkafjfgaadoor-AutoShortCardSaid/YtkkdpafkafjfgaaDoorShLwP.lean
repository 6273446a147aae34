/- What the shortest text and the counts tell: none is shorter; what is taken and what is not are all there is. Plain. -/
import Derived.Test.YtkkdpafkafjfgaaDoorShAuS
import Derived.Test.YtkkdpafkafjfgaaDoorShAuN
namespace Go.Proofs.YtkkdpafkafjfgaaDoor
set_option linter.unusedVariables false
theorem sumB_add (f g : Nat → Nat) : ∀ m, sumB f m + sumB g m = sumB (fun c => f c + g c) m
  | 0 => rfl
  | m + 1 => by rw [sumB, sumB, sumB, ← sumB_add f g m]; omega
theorem sumB_const (k : Nat) : ∀ m, sumB (fun _ => k) m = m * k
  | 0 => by simp [sumB]
  | m + 1 => by rw [sumB, sumB_const k m, Nat.add_mul, Nat.one_mul]
theorem cntA_not {A B : RA} : ∀ (k s t : Nat), (∀ l, A.tak s l = !B.tak t l) → cntA A k s + cntA B k t = 256 ^ k
  | 0, s, t, h => by
    have h0 := h []
    unfold RA.tak RA.go at h0
    rw [cntA, cntA, h0]
    cases B.en t <;> rfl
  | k + 1, s, t, h => by
    rw [cntA, cntA, sumB_add]
    have : ∀ m, m ≤ 256 → sumB (fun c => cntA A k (A.nx s c) + cntA B k (B.nx t c)) m = sumB (fun _ => 256 ^ k) m := by
      intro m
      induction m with
      | zero => intro _; rfl
      | succ m ih =>
        intro hm
        rw [sumB, sumB, ih (by omega), cntA_not k _ _ (fun l => ?_)]
        have := h (UInt8.ofNat m :: l)
        unfold RA.tak at this ⊢
        rw [RA.go, RA.go, UInt8.toNat_ofNat_of_lt' (by show m < 256; omega)] at this
        exact this
    rw [this 256 (Nat.le_refl _), sumB_const, Nat.pow_succ, Nat.mul_comm]
theorem sumB_zero {f : Nat → Nat} : ∀ m, (∀ c, c < m → f c = 0) → sumB f m = 0
  | 0, _ => rfl
  | m + 1, h => by rw [sumB, sumB_zero m fun c hc => h c (by omega), h m (by omega)]
theorem sumB_pos {f : Nat → Nat} {c : Nat} : ∀ m, c < m → 0 < f c → 0 < sumB f m
  | 0, h, _ => by omega
  | m + 1, h, hf => by
    rw [sumB]
    by_cases e : c = m
    · subst e; omega
    · have := sumB_pos (f := f) (c := c) m (by omega) hf; omega
theorem cntA_none {A : RA} : ∀ (k s : Nat), (∀ l : List UInt8, l.length = k → A.tak s l = false) → cntA A k s = 0
  | 0, s, h => by
    have h0 := h [] rfl
    unfold RA.tak RA.go at h0
    rw [cntA, h0]; rfl
  | k + 1, s, h => by
    rw [cntA]
    refine sumB_zero 256 fun c hc => cntA_none k _ fun l hl => ?_
    have := h (UInt8.ofNat c :: l) (by simp [hl])
    unfold RA.tak at this ⊢
    rw [RA.go, UInt8.toNat_ofNat_of_lt' (by exact hc)] at this
    exact this
theorem cntA_some {A : RA} : ∀ (l : List UInt8) (s : Nat), A.tak s l = true → 0 < cntA A l.length s
  | [], s, h => by
    unfold RA.tak RA.go at h
    rw [List.length_nil, cntA, h]; decide
  | c :: l, s, h => by
    rw [List.length_cons, cntA]
    exact sumB_pos (c := c.toNat) 256 (u8_lt c) (cntA_some l _ h)
structure Bf (A : RA) (L : List (Nat × List UInt8)) (b : Nat) : Prop where
  go : ∀ x ∈ L, A.go 0 x.2 = x.1
  srt : L.Pairwise fun x y => x.2.length ≤ y.2.length
  le : ∀ x ∈ L, x.2.length ≤ b
theorem Bf.add {A : RA} {L : List (Nat × List UInt8)} {s : Nat} {t : List UInt8} (h : Bf A L (t.length + 1)) (hs : A.go 0 t = s) {c : Nat} (hc : c < 256) : Bf A (addTo (A.nx s) t L c) (t.length + 1) := by
  unfold addTo
  split
  · exact h
  · refine ⟨fun x hx => ?_, ?_, fun x hx => ?_⟩
    · rcases List.mem_append.1 hx with hx | hx
      · exact h.go x hx
      · rw [List.mem_singleton] at hx; subst hx
        show A.go 0 (t ++ [UInt8.ofNat c]) = A.nx s c
        rw [A.go_append, hs, RA.go, RA.go, UInt8.toNat_ofNat_of_lt' (by exact hc)]
    · rw [List.pairwise_append]
      refine ⟨h.srt, List.pairwise_singleton _ _, fun x hx y hy => ?_⟩
      rw [List.mem_singleton] at hy; subst hy
      have := h.le x hx
      simp; omega
    · rcases List.mem_append.1 hx with hx | hx
      · exact h.le x hx
      · rw [List.mem_singleton] at hx; subst hx; simp
theorem Bf.up {A : RA} {L : List (Nat × List UInt8)} {s : Nat} {t : List UInt8} (h : Bf A L (t.length + 1)) (hs : A.go 0 t = s) : ∀ m, m ≤ 256 → Bf A (addUp (A.nx s) t L m) (t.length + 1)
  | 0, _ => h
  | m + 1, hm => by rw [addUp_succ]; exact (h.up hs m (by omega)).add hs (by omega)
theorem addUp_mem (nx : Nat → Nat) (t : List UInt8) (L : List (Nat × List UInt8)) : ∀ m c, c < m → nx c ∈ (addUp nx t L m).map (·.1)
  | 0, c, h => by omega
  | m + 1, c, h => by
    rw [addUp_succ]
    by_cases e : c = m
    · subst e
      unfold addTo
      split
      · assumption
      · rw [List.map_append]; exact List.mem_append.2 (Or.inr (by simp))
    · obtain ⟨r, hr⟩ := addTo_pre nx t (addUp nx t L m) m
      rw [hr, List.map_append]
      exact List.mem_append.2 (Or.inl (addUp_mem nx t L m c (by omega)))
theorem Bf.mono {A : RA} {L : List (Nat × List UInt8)} {b d : Nat} (h : Bf A L b) (hd : b ≤ d) : Bf A L d := ⟨h.go, h.srt, fun x hx => Nat.le_trans (h.le x hx) hd⟩
theorem pair_at' {L : List (Nat × List UInt8)} (h : L.Pairwise fun x y => x.2.length ≤ y.2.length) {i j : Nat} {x y : Nat × List UInt8} (hi : L[i]? = some x) (hj : L[j]? = some y) (hij : i < j) : x.2.length ≤ y.2.length := by
  obtain ⟨hi1, hi2⟩ := List.getElem?_eq_some_iff.1 hi
  obtain ⟨hj1, hj2⟩ := List.getElem?_eq_some_iff.1 hj
  have := List.pairwise_iff_getElem.1 h i j hi1 hj1 hij
  rwa [hi2, hj2] at this
theorem bfs_bf (A : RA) : ∀ i s t, (bfs A i)[i]? = some (s, t) → Bf A (bfs A i) (t.length + 1)
  | 0, s, t, h => by
    have e : bfs A 0 = [(0, [])] := rfl
    rw [e] at h ⊢
    exact ⟨fun x hx => by rw [List.mem_singleton] at hx; rw [hx]; rfl, List.pairwise_singleton _ _, fun x hx => by rw [List.mem_singleton] at hx; rw [hx]; simp⟩
  | i + 1, s, t, h => by
    cases e : (bfs A i)[i]? with
    | none =>
      have e2 : bfs A (i + 1) = bfs A i := by rw [bfs, e]
      rw [e2] at h
      have h1 := List.getElem?_eq_none_iff.1 e
      rw [List.getElem?_eq_none (by omega)] at h; cases h
    | some x =>
      obtain ⟨s1, t1⟩ := x
      have h1 := bfs_bf A i s1 t1 e
      have hgo := h1.go _ (List.mem_of_getElem? e)
      have h2 := h1.up hgo 256 (Nat.le_refl _)
      have e3 := bfs_succ e
      rw [← e3] at h2
      have e4 : (bfs A (i + 1))[i]? = some (s1, t1) := by rw [bfs_get A (Nat.le_succ i) (List.getElem?_eq_some_iff.1 e).1]; exact e
      exact h2.mono (by have := pair_at' h2.srt e4 h (Nat.lt_succ_self i); dsimp only at this; omega)
theorem bfs_step {A : RA} {j s : Nat} {t : List UInt8} (h : (bfs A j)[j]? = some (s, t)) {c : Nat} (hc : c < 256) : ∃ (k : Nat) (t' : List UInt8), (bfs A (j + 1))[k]? = some (A.nx s c, t') ∧ t'.length ≤ t.length + 1 := by
  have h1 := bfs_bf A j s t h
  have hgo := h1.go _ (List.mem_of_getElem? h)
  have h2 := h1.up hgo 256 (Nat.le_refl _)
  have hm := addUp_mem (A.nx s) t (bfs A j) 256 c hc
  rw [← bfs_succ h] at h2 hm
  obtain ⟨x, hx, e⟩ := List.mem_map.1 hm
  obtain ⟨k, hk⟩ := List.mem_iff_getElem?.1 hx
  obtain ⟨s', t'⟩ := x
  exact ⟨k, t', by rw [hk, ← e], h2.le _ hx⟩
theorem snoc_ind' {P : List UInt8 → Prop} (h0 : P []) (h1 : ∀ l x, P l → P (l ++ [x])) (l : List UInt8) : P l := by
  have : ∀ r : List UInt8, P r.reverse := fun r => by
    induction r with
    | nil => exact h0
    | cons x r ih => rw [List.reverse_cons]; exact h1 _ x ih
  have := this l.reverse
  rwa [List.reverse_reverse] at this
theorem shortAt_get {A : RA} {i j : Nat} (h : shortAt A i) (hj : j < i) {s : Nat} {t : List UInt8} (he : (bfs A i)[j]? = some (s, t)) : (bfs A j)[j]? = some (s, t) ∧ A.en s = false := by
  obtain ⟨s1, t1, e, hen⟩ := h j hj
  have := bfs_get A (show j ≤ i by omega) (List.getElem?_eq_some_iff.1 e).1
  rw [he, e] at this
  cases this
  exact ⟨e, hen⟩
theorem short_found {A : RA} (ok : A.Ok) {t : List UInt8} (h : Short A (some t)) : A.tak 0 t = true ∧ ∀ l : List UInt8, l.length < t.length → A.tak 0 l = false := by
  cases h with
  | found i s t h hi he =>
    have hB := bfs_bf A i s t hi
    refine ⟨?_, fun l hl => ?_⟩
    · unfold RA.tak; rw [hB.go _ (List.mem_of_getElem? hi)]; exact he
    · have key : ∀ l : List UInt8, l.length < t.length → ∃ (j : Nat) (t' : List UInt8), j < i ∧ (bfs A i)[j]? = some (A.go 0 l, t') ∧ t'.length ≤ l.length := by
        intro l
        refine snoc_ind' (P := fun l => l.length < t.length → ∃ (j : Nat) (t' : List UInt8), j < i ∧ (bfs A i)[j]? = some (A.go 0 l, t') ∧ t'.length ≤ l.length) (fun h0 => ?_) (fun l c ih hlt => ?_) l
        · obtain ⟨r, hr⟩ := (bfs_ok ok i).zero
          have hi0 : 0 < i := by
            rcases Nat.eq_zero_or_pos i with e | e
            · subst e
              rw [hr] at hi
              simp at hi
              rw [← hi.2] at h0; simp at h0
            · exact e
          exact ⟨0, [], hi0, by rw [hr]; rfl, Nat.le_refl _⟩
        · rw [List.length_append, List.length_singleton] at hlt
          obtain ⟨j, t1, hj, e, hl1⟩ := ih (by omega)
          obtain ⟨e1, _⟩ := shortAt_get h hj e
          obtain ⟨k, t', hk, hl2⟩ := bfs_step e1 (u8_lt c)
          have hk2 := bfs_get A (show j + 1 ≤ i by omega) (List.getElem?_eq_some_iff.1 hk).1
          rw [hk] at hk2
          refine ⟨k, t', ?_, ?_, by rw [List.length_append, List.length_singleton]; omega⟩
          · apply Classical.byContradiction; intro hn
            rcases Nat.lt_or_ge i k with hik | hik
            · have := pair_at' hB.srt hi hk2 hik
              dsimp only at this; omega
            · have : k = i := by omega
              subst this
              rw [hi] at hk2; cases hk2; omega
          · rw [hk2, A.go_append]; rfl
      obtain ⟨j, t', hj, e, _⟩ := key l hl
      exact (shortAt_get h hj e).2
theorem short_none {A : RA} (ok : A.Ok) (h : Short A none) : ∀ l : List UInt8, A.tak 0 l = false := by
  cases h with
  | none i h hi =>
    have hlen := List.getElem?_eq_none_iff.1 hi
    intro l
    have key : ∀ l : List UInt8, ∃ (j : Nat) (t' : List UInt8), j < i ∧ (bfs A i)[j]? = some (A.go 0 l, t') := by
      intro l
      refine snoc_ind' (P := fun l => ∃ (j : Nat) (t' : List UInt8), j < i ∧ (bfs A i)[j]? = some (A.go 0 l, t')) ?_ (fun l c ih => ?_) l
      · obtain ⟨r, hr⟩ := (bfs_ok ok i).zero
        exact ⟨0, [], by rw [hr] at hlen; simp at hlen; omega, by rw [hr]; rfl⟩
      · obtain ⟨j, t1, hj, e⟩ := ih
        obtain ⟨e1, _⟩ := shortAt_get h hj e
        obtain ⟨k, t', hk, _⟩ := bfs_step e1 (u8_lt c)
        have hk1 := (List.getElem?_eq_some_iff.1 hk).1
        have hk2 := bfs_get A (show j + 1 ≤ i by omega) hk1
        rw [hk] at hk2
        have := (List.getElem?_eq_some_iff.1 hk2).1
        exact ⟨k, t', by omega, by rw [hk2, A.go_append]; rfl⟩
    obtain ⟨j, t', hj, e⟩ := key l
    exact (shortAt_get h hj e).2
structure IsAut (B : Aut) (L : List UInt8 → Bool) : Prop where
  right : RightA B
  cls : B.cls.length = 256
  lang : ∀ l, (raA B).tak 0 l = L l
  can : ∃ C, Can C ∧ B = autOf C
theorem LeastOf.is {S : RA} {B : Aut} {L : List UInt8 → Bool} (h : LeastOf S B) (hn : S.n ≤ 8192) (hl : ∀ l, S.tak 0 l = L l) : IsAut B L := by
  obtain ⟨C, hC, he, rfl, hle⟩ := h
  have hC8 : C.n ≤ 8192 := by omega
  have hr := autOf_ra hC.ok
  refine ⟨autOf_right hC.ok hC8, autOf_c C, fun l => ?_, C, hC, rfl⟩
  rw [(hr.eqv ((autOf_right hC.ok hC8).ok (autOf_c C))) l 0 (autOf_right hC.ok hC8).n0, ← hl l]
  exact he l
theorem IsAut.one {A B : Aut} {L M : List UInt8 → Bool} (h : IsAut A L) (k : IsAut B M) (e : ∀ l, L l = M l) : A = B := by
  obtain ⟨C, hC, rfl⟩ := h.can
  obtain ⟨D, hD, rfl⟩ := k.can
  have hra := autOf_ra hC.ok
  have hrb := autOf_ra hD.ok
  refine autOf_congr (can_one hC hD fun l => ?_)
  have h1 := (hra.eqv (h.right.ok h.cls)) l 0 h.right.n0
  have h2 := (hrb.eqv (k.right.ok k.cls)) l 0 k.right.n0
  rw [← h1, ← h2, h.lang, k.lang, e]
end Go.Proofs.YtkkdpafkafjfgaaDoor
