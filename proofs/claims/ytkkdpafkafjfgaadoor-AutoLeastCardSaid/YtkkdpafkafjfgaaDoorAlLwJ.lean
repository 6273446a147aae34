/- AutoLeast: plain: states are come to in order, columns are apart, states are apart. -/
import Derived.Test.YtkkdpafkafjfgaaDoorAlPAuS
namespace Go.Proofs.YtkkdpafkafjfgaaDoor
set_option linter.unusedVariables false
section
variable {α : Type} [DecidableEq α]
theorem fsts_pre (f : Nat → α) (c : Nat) : ∀ m, ∃ r, fsts f (c + m) = fsts f c ++ r ∧ ∀ x ∈ r, c ≤ x
  | 0 => ⟨[], by simp, by simp⟩
  | m + 1 => by
    obtain ⟨r, h1, h2⟩ := fsts_pre f c m
    rw [← Nat.add_assoc, fsts]
    split
    · exact ⟨r, h1, h2⟩
    · refine ⟨r ++ [c + m], by rw [h1, List.append_assoc], fun x hx => ?_⟩
      rcases List.mem_append.1 hx with h | h
      · exact h2 x h
      · rw [List.mem_singleton] at h; omega
theorem fsts_before (f : Nat → α) {n d k : Nat} (hd : d < n) (hk : k ≤ (fsts f n).length) (h : k < (fsts f n).length → d < (fsts f n).getD k 0) : ∃ a, a < k ∧ f ((fsts f n).getD a 0) = f d := by
  obtain ⟨m, rfl⟩ : ∃ m, n = d + 1 + m := ⟨n - (d + 1), by omega⟩
  obtain ⟨r, h1, h2⟩ := fsts_pre f (d + 1) m
  obtain ⟨j, hj, e⟩ := fsts_of f (d + 1) d (by omega)
  obtain ⟨a, ha, hja⟩ := List.mem_iff_getElem.1 hj
  have hkl : (fsts f (d + 1)).length ≤ k := by
    rcases Nat.lt_or_ge k (fsts f (d + 1)).length with hlt | hge
    · exfalso
      have h3 : k < (fsts f (d + 1 + m)).length := by rw [h1, List.length_append]; omega
      have h4 := h h3
      rw [h1, List.getD_eq_getElem?_getD, List.getElem?_append_left hlt, List.getElem?_eq_getElem hlt, Option.getD_some] at h4
      have := fsts_lt f (d + 1) _ (List.getElem_mem hlt)
      omega
    · exact hge
  refine ⟨a, by omega, ?_⟩
  rw [h1, List.getD_eq_getElem?_getD, List.getElem?_append_left ha, List.getElem?_eq_getElem ha, Option.getD_some, hja, e]
theorem fsts_nodup (f : Nat → α) : ∀ n, (fsts f n).Nodup
  | 0 => List.nodup_nil
  | n + 1 => by
    rw [fsts]
    split
    · exact fsts_nodup f n
    · exact nodup_snoc (fsts_nodup f n) fun h => by have := fsts_lt f n n h; omega
end
def fstC (C : RA) (k : Nat) : Nat := (fsts (colA C) 256).getD k 0
def clsN (C : RA) : Nat := (fsts (colA C) 256).length
theorem fstC_lt (C : RA) {k : Nat} (hk : k < clsN C) : fstC C k < 256 := fsts_lt (colA C) 256 _ (getD_mem0 hk)
theorem top_below (C : RA) {T : Nat} (hT : 1 ≤ T) : ∀ p, (∀ q, q < p → C.arr q < T) → C.top p ≤ T
  | 0, _ => hT
  | p + 1, h => by
    rw [RA.top]
    have h1 := top_below C hT p fun q hq => h q (by omega)
    have h2 := h p (by omega)
    omega
structure Cmt (C : RA) (T i k : Nat) : Prop where
  pos : 1 ≤ T
  le : T ≤ C.n
  done : ∀ s, s < i → ∀ c, c < 256 → C.nx s c < T
  row : ∀ j, j < k → C.nx i (fstC C j) < T
theorem Cmt.start {C : RA} (ok : C.Ok) : Cmt C 1 0 0 := ⟨Nat.le_refl _, ok.pos, fun s hs => absurd hs (Nat.not_lt_zero _), fun j hj => absurd hj (Nat.not_lt_zero _)⟩
theorem Cmt.bytes {C : RA} {T i k : Nat} (h : Cmt C T i k) (hi : i < C.n) (hk : k ≤ clsN C) {d : Nat} (hd : d < 256) (hf : k < clsN C → d < fstC C k) : C.nx i d < T := by
  obtain ⟨a, ha, e⟩ := fsts_before (colA C) hd hk hf
  rw [← colA_nx e hi]
  exact h.row a ha
theorem Cmt.next {C : RA} {T i k : Nat} (h : Cmt C T i k) (hc : Can C) (hi : i < C.n) (hk : k < clsN C) : C.nx i (fstC C k) ≤ T := by
  have hf := fstC_lt C hk
  have h1 := hc.next (256 * i + fstC C k) (by omega)
  have h2 : C.top (256 * i + fstC C k) ≤ T := top_below C h.pos _ fun q hq => by
    unfold RA.arr
    rcases Nat.lt_or_ge (q / 256) i with hlt | hge
    · exact h.done _ hlt _ (Nat.mod_lt _ (by omega))
    · have e : q / 256 = i := by omega
      rw [e]
      exact h.bytes hi (by omega) (Nat.mod_lt _ (by omega)) fun _ => by omega
  have e : C.arr (256 * i + fstC C k) = C.nx i (fstC C k) := by
    unfold RA.arr
    rw [show (256 * i + fstC C k) / 256 = i by omega, show (256 * i + fstC C k) % 256 = fstC C k by omega]
  omega
theorem Cmt.old {C : RA} {T i k : Nat} (h : Cmt C T i k) (ht : C.nx i (fstC C k) < T) : Cmt C T i (k + 1) := ⟨h.pos, h.le, h.done, fun j hj => by
  rcases Nat.lt_or_ge j k with hl | hl
  · exact h.row j hl
  · obtain rfl : j = k := by omega
    exact ht⟩
theorem Cmt.new {C : RA} {T i k : Nat} (h : Cmt C T i k) (hc : Can C) (hi : i < C.n) (hk : k < clsN C) (ht : C.nx i (fstC C k) = T) : T < C.n ∧ Cmt C (T + 1) i (k + 1) := by
  have h1 := hc.ok.nx i (fstC C k) hi (fstC_lt C hk)
  refine ⟨by omega, by omega, by omega, fun s hs c hc => Nat.lt_succ_of_lt (h.done s hs c hc), fun j hj => ?_⟩
  rcases Nat.lt_or_ge j k with hl | hl
  · exact Nat.lt_succ_of_lt (h.row j hl)
  · obtain rfl : j = k := by omega
    omega
theorem Cmt.rowed {C : RA} {T i : Nat} (h : Cmt C T i (clsN C)) (hi : i < C.n) : Cmt C T (i + 1) 0 := ⟨h.pos, h.le, fun s hs c hc => by
  rcases Nat.lt_or_ge s i with hl | hl
  · exact h.done s hl c hc
  · obtain rfl : s = i := by omega
    exact h.bytes hi (Nat.le_refl _) hc fun h => absurd h (Nat.lt_irrefl _), fun j hj => absurd hj (Nat.not_lt_zero _)⟩
theorem Cmt.all {C : RA} {T i : Nat} (h : Cmt C T i 0) (hc : Can C) (hi : T ≤ i) : T = C.n := by
  rcases Nat.lt_or_ge T C.n with hl | hl
  · exfalso
    have h1 := hc.come T hl
    have h2 : C.top (256 * T) ≤ T := top_below C h.pos _ fun q hq => h.done _ (by omega) _ (Nat.mod_lt _ (by omega))
    omega
  · have := h.le; omega
theorem cols_apart (C : RA) {x y : Nat} (hx : x < clsN C) (hy : y < clsN C) (h : ∀ s, s < C.n → C.nx s (fstC C x) = C.nx s (fstC C y)) : x = y := by
  refine nodup_getD (fsts_nodup (colA C) 256) hx hy (fsts_inj (colA C) 256 _ _ (getD_mem0 hx) (getD_mem0 hy) ?_)
  unfold colA
  exact List.map_congr_left fun s hs => h s (List.mem_range.1 hs)
theorem idx_of_mem {α : Type} {l : List α} {x : α} (h : x ∈ l) : ∃ j, j < l.length ∧ l[j]? = some x := by
  obtain ⟨j, hj, e⟩ := List.mem_iff_getElem.1 h
  exact ⟨j, hj, by rw [List.getElem?_eq_getElem hj, e]⟩
structure Apt (C : RA) (x y : Nat) (ks : List (Nat × Nat)) (i k : Nat) : Prop where
  head : (x, y) ∈ ks
  dis : ks.Nodup
  dom : ∀ p ∈ ks, p.1 < C.n ∧ p.2 < C.n
  ends : ∀ j p, j < i → ks[j]? = some p → C.en p.1 = C.en p.2
  done : ∀ j p, j < i → ks[j]? = some p → ∀ c, c < 256 → (C.nx p.1 c, C.nx p.2 c) ∈ ks ∨ C.nx p.1 c = C.nx p.2 c
  row : ∀ p, ks[i]? = some p → ∀ j, j < k → (C.nx p.1 (fstC C j), C.nx p.2 (fstC C j)) ∈ ks ∨ C.nx p.1 (fstC C j) = C.nx p.2 (fstC C j)
theorem Apt.start {C : RA} {x y : Nat} (hx : x < C.n) (hy : y < C.n) : Apt C x y [(x, y)] 0 0 :=
  ⟨List.mem_singleton.2 rfl, by simp, fun p hp => by rw [List.mem_singleton] at hp; rw [hp]; exact ⟨hx, hy⟩, fun j p hj => absurd hj (Nat.not_lt_zero _), fun j p hj => absurd hj (Nat.not_lt_zero _), fun p _ j hj => absurd hj (Nat.not_lt_zero _)⟩
theorem Apt.old {C : RA} {x y : Nat} {ks : List (Nat × Nat)} {i k : Nat} {p : Nat × Nat} (h : Apt C x y ks i k) (hp : ks[i]? = some p) (ho : (C.nx p.1 (fstC C k), C.nx p.2 (fstC C k)) ∈ ks ∨ C.nx p.1 (fstC C k) = C.nx p.2 (fstC C k)) : Apt C x y ks i (k + 1) :=
  ⟨h.head, h.dis, h.dom, h.ends, h.done, fun q hq j hj => by
    rcases Nat.lt_or_ge j k with hl | hl
    · exact h.row q hq j hl
    · obtain rfl : j = k := by omega
      obtain rfl : p = q := Option.some.inj (hp.symm.trans hq)
      exact ho⟩
theorem Apt.new {C : RA} {x y : Nat} {ks : List (Nat × Nat)} {i k : Nat} {p : Nat × Nat} (h : Apt C x y ks i k) (ok : C.Ok) (hk : k < clsN C) (hp : ks[i]? = some p) (hn : (C.nx p.1 (fstC C k), C.nx p.2 (fstC C k)) ∉ ks) : Apt C x y (ks ++ [(C.nx p.1 (fstC C k), C.nx p.2 (fstC C k))]) i (k + 1) := by
  have hi := (List.getElem?_eq_some_iff.1 hp).1
  have hd := h.dom p (List.mem_of_getElem? hp)
  have hb : ∀ {j : Nat} {q : Nat × Nat}, j ≤ i → (ks ++ [(C.nx p.1 (fstC C k), C.nx p.2 (fstC C k))])[j]? = some q → ks[j]? = some q := fun {j} {q} hj hq => by
    rwa [List.getElem?_append_left (by omega)] at hq
  have hs : ∀ {q : Nat × Nat} {P : Prop}, q ∈ ks ∨ P → q ∈ ks ++ [(C.nx p.1 (fstC C k), C.nx p.2 (fstC C k))] ∨ P := fun h => h.imp_left fun h => List.mem_append_left _ h
  refine ⟨List.mem_append_left _ h.head, nodup_snoc h.dis hn, fun q hq => ?_, fun j q hj hq => h.ends j q hj (hb (by omega) hq), fun j q hj hq c hc => hs (h.done j q hj (hb (by omega) hq) c hc), fun q hq j hj => ?_⟩
  · rcases List.mem_append.1 hq with hq | hq
    · exact h.dom q hq
    · rw [List.mem_singleton] at hq; rw [hq]
      exact ⟨ok.nx _ _ hd.1 (fstC_lt C hk), ok.nx _ _ hd.2 (fstC_lt C hk)⟩
  · replace hq := hb (Nat.le_refl _) hq
    rcases Nat.lt_or_ge j k with hl | hl
    · exact hs (h.row q hq j hl)
    · obtain rfl : j = k := by omega
      obtain rfl : p = q := Option.some.inj (hp.symm.trans hq)
      exact Or.inl (List.mem_append_right _ (List.mem_singleton.2 rfl))
theorem Apt.next {C : RA} {x y : Nat} {ks : List (Nat × Nat)} {i : Nat} {p : Nat × Nat} (h : Apt C x y ks i (clsN C)) (hp : ks[i]? = some p) (he : C.en p.1 = C.en p.2) : Apt C x y ks (i + 1) 0 := by
  have hd := h.dom p (List.mem_of_getElem? hp)
  refine ⟨h.head, h.dis, h.dom, fun j q hj hq => ?_, fun j q hj hq c hc => ?_, fun q _ j hj => absurd hj (Nat.not_lt_zero _)⟩
  · rcases Nat.lt_or_ge j i with hl | hl
    · exact h.ends j q hl hq
    · obtain rfl : j = i := by omega
      obtain rfl : p = q := Option.some.inj (hp.symm.trans hq)
      exact he
  · rcases Nat.lt_or_ge j i with hl | hl
    · exact h.done j q hl hq c hc
    · obtain rfl : j = i := by omega
      obtain rfl : p = q := Option.some.inj (hp.symm.trans hq)
      obtain ⟨a, ha, e⟩ := fsts_before (colA C) hc (Nat.le_refl _) fun h => absurd h (Nat.lt_irrefl _)
      have := h.row p hq a ha
      unfold fstC at this
      rwa [colA_nx e hd.1, colA_nx e hd.2] at this
theorem Apt.same {C : RA} {x y : Nat} {ks : List (Nat × Nat)} {i : Nat} (h : Apt C x y ks i 0) (hi : ks.length ≤ i) : ∀ (l : List UInt8) (s t : Nat), ((s, t) ∈ ks ∨ s = t) → C.tak s l = C.tak t l
  | l, s, t, .inr e => by rw [e]
  | [], s, t, .inl hm => by
    obtain ⟨j, hj, e⟩ := idx_of_mem hm
    exact h.ends j _ (by omega) e
  | c :: l, s, t, .inl hm => by
    obtain ⟨j, hj, e⟩ := idx_of_mem hm
    exact h.same hi l _ _ (h.done j _ (by omega) e _ (u8_lt c))
theorem Apt.end {C : RA} {x y : Nat} {ks : List (Nat × Nat)} {i : Nat} (h : Apt C x y ks i 0) (hc : Can C) (hi : ks.length ≤ i) : x = y :=
  have hd := h.dom _ h.head
  hc.apart x y hd.1 hd.2 fun l => h.same hi l x y (.inl h.head)
end Go.Proofs.YtkkdpafkafjfgaaDoor
