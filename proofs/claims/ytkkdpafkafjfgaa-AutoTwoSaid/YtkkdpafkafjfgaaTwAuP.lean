/- Automata over bytes: raw ones, the canonical one; there is but one for a language. Plain. -/
namespace Go.Proofs.Ytkkdpafkafjfgaa
set_option linter.unusedVariables false
structure RA where
  n : Nat
  nx : Nat → Nat → Nat
  en : Nat → Bool
structure RA.Ok (A : RA) : Prop where
  pos : 0 < A.n
  nx : ∀ s c, s < A.n → c < 256 → A.nx s c < A.n
def RA.go (A : RA) (s : Nat) : List UInt8 → Nat
  | [] => s
  | c :: l => A.go (A.nx s c.toNat) l
def RA.tak (A : RA) (s : Nat) (l : List UInt8) : Bool := A.en (A.go s l)
theorem u8_lt (c : UInt8) : c.toNat < 256 := c.toNat_lt
theorem RA.Ok.go {A : RA} (h : A.Ok) : ∀ (l : List UInt8) (s : Nat), s < A.n → A.go s l < A.n
  | [], _, hs => hs
  | c :: l, s, hs => h.go l _ (h.nx s _ hs (u8_lt c))
def Eqv (A B : RA) (s t : Nat) : Prop := ∀ l, A.tak s l = B.tak t l
theorem Eqv.refl (A : RA) (s : Nat) : Eqv A A s s := fun _ => rfl
theorem Eqv.symm {A B : RA} {s t : Nat} (h : Eqv A B s t) : Eqv B A t s := fun l => (h l).symm
theorem Eqv.trans {A B C : RA} {s t u : Nat} (h : Eqv A B s t) (k : Eqv B C t u) : Eqv A C s u := fun l => (h l).trans (k l)
theorem Eqv.nx {A B : RA} {s t : Nat} (h : Eqv A B s t) {c : Nat} (hc : c < 256) : Eqv A B (A.nx s c) (B.nx t c) := fun l => by
  have := h (UInt8.ofNat c :: l)
  unfold RA.tak at this ⊢
  rw [RA.go, RA.go, UInt8.toNat_ofNat_of_lt' (by exact hc)] at this
  exact this
theorem Eqv.en {A B : RA} {s t : Nat} (h : Eqv A B s t) : A.en s = B.en t := h []
def RA.arr (A : RA) (p : Nat) : Nat := A.nx (p / 256) (p % 256)
def RA.top (A : RA) : Nat → Nat
  | 0 => 1
  | p + 1 => max (A.top p) (A.arr p + 1)
structure Can (A : RA) : Prop where
  ok : A.Ok
  apart : ∀ s t, s < A.n → t < A.n → Eqv A A s t → s = t
  next : ∀ p, p < 256 * A.n → A.arr p ≤ A.top p
  come : ∀ s, s < A.n → s < A.top (256 * s)
theorem RA.top_mono (A : RA) {p q : Nat} (h : p ≤ q) : A.top p ≤ A.top q := by
  induction h with
  | refl => exact Nat.le_refl _
  | step _ ih => rw [RA.top]; omega
theorem RA.top_le {A : RA} (h : A.Ok) : ∀ p, p ≤ 256 * A.n → A.top p ≤ A.n
  | 0, _ => h.pos
  | p + 1, hp => by
    rw [RA.top]
    have h1 := RA.top_le h p (by omega)
    have h2 : A.arr p < A.n := h.nx _ _ (Nat.div_lt_of_lt_mul (by omega)) (Nat.mod_lt _ (by omega))
    omega
theorem Can.arr_lt {A : RA} (h : Can A) {p : Nat} (hp : p < 256 * A.n) : A.arr p < A.n := h.ok.nx _ _ (Nat.div_lt_of_lt_mul (by omega)) (Nat.mod_lt _ (by omega))
theorem can_upto {A B : RA} (a : Can A) (b : Can B) (h : Eqv A B 0 0) : ∀ p, p ≤ 256 * A.n → p ≤ 256 * B.n → A.top p = B.top p ∧ (∀ s, s < A.top p → Eqv A B s s) ∧ ∀ q, q < p → A.arr q = B.arr q
  | 0, _, _ => ⟨rfl, fun s hs => by have : s = 0 := by simp [RA.top] at hs; omega
                                    rw [this]; exact h, fun q hq => by omega⟩
  | p + 1, hA, hB => by
    obtain ⟨e, hq, ha⟩ := can_upto a b h p (by omega) (by omega)
    have hs : p / 256 < A.top p := Nat.lt_of_lt_of_le (a.come _ (Nat.div_lt_of_lt_mul (by omega))) (A.top_mono (Nat.mul_div_le p 256))
    have hc : p % 256 < 256 := Nat.mod_lt _ (by omega)
    have ht : Eqv A B (A.arr p) (B.arr p) := (hq _ hs).nx hc
    have hal := a.arr_lt (p := p) (by omega)
    have hbl := b.arr_lt (p := p) (by omega)
    have hat := RA.top_le a.ok p (by omega)
    have hbt := RA.top_le b.ok p (by omega)
    have han := a.next p (by omega)
    have hbn := b.next p (by omega)
    have key : A.arr p = B.arr p := by
      by_cases h1 : A.arr p < A.top p
      · exact b.apart _ _ (by omega) hbl ((hq _ h1).symm.trans ht)
      · by_cases h2 : B.arr p < B.top p
        · exact a.apart _ _ hal (by omega) (ht.trans (hq _ (by omega)).symm)
        · omega
    refine ⟨by rw [RA.top, RA.top, e, key], fun s hs => ?_, fun q hq' => ?_⟩
    · rw [RA.top] at hs
      by_cases h1 : s < A.top p
      · exact hq s h1
      · have : s = A.arr p := by omega
        rw [this]
        conv => arg 4; rw [key]
        exact ht
    · by_cases h1 : q < p
      · exact ha q h1
      · have : q = p := by omega
        rw [this]; exact key
structure RaEq (A B : RA) : Prop where
  n : A.n = B.n
  nx : ∀ s c, s < A.n → c < 256 → A.nx s c = B.nx s c
  en : ∀ s, s < A.n → A.en s = B.en s
theorem can_n {A B : RA} (a : Can A) (b : Can B) (h : Eqv A B 0 0) : ¬ A.n < B.n := fun hlt => by
  have h1 := (can_upto a b h (256 * A.n) (Nat.le_refl _) (by omega)).1
  have h2 := b.come A.n hlt
  have h3 := RA.top_le a.ok (256 * A.n) (Nat.le_refl _)
  omega
theorem can_one {A B : RA} (a : Can A) (b : Can B) (h : Eqv A B 0 0) : RaEq A B := by
  have hn : A.n = B.n := by
    have := can_n a b h
    have := can_n b a h.symm
    omega
  obtain ⟨e, hq, ha⟩ := can_upto a b h (256 * A.n) (Nat.le_refl _) (by omega)
  refine ⟨hn, fun s c hs hc => ?_, fun s hs => ?_⟩
  · have := ha (256 * s + c) (by omega)
    unfold RA.arr at this
    rw [show (256 * s + c) / 256 = s by omega, show (256 * s + c) % 256 = c by omega] at this
    exact this
  · have h1 := a.come s hs
    exact (hq s (Nat.lt_of_lt_of_le h1 (A.top_mono (by omega)))).en
def Groups (R : RA) (g : Nat → Nat) : Prop := ∀ i j, i < R.n → j < R.n → (g i = g j ↔ Eqv R R i j)
theorem groups_of {R : RA} (ok : R.Ok) {g : Nat → Nat} (h1 : ∀ i j, i < R.n → j < R.n → g i = g j → R.en i = R.en j) (h2 : ∀ i j c, i < R.n → j < R.n → c < 256 → g i = g j → g (R.nx i c) = g (R.nx j c))
    (h3 : ∀ i j, i < R.n → j < R.n → Eqv R R i j → g i = g j) : Groups R g := fun i j hi hj => by
  refine ⟨fun e l => ?_, h3 i j hi hj⟩
  induction l generalizing i j with
  | nil => exact h1 i j hi hj e
  | cons c l ih => exact ih _ _ (ok.nx _ _ hi (u8_lt c)) (ok.nx _ _ hj (u8_lt c)) (h2 i j _ hi hj (u8_lt c) e)
structure Made (R : RA) (g : Nat → Nat) (ord : List Nat) (A : RA) : Prop where
  n : A.n = ord.length
  zero : ∃ r, ord = 0 :: r
  lt : ∀ s ∈ ord, s < R.n
  dis : (ord.map g).Nodup
  en : ∀ k, k < A.n → A.en k = R.en (ord.getD k 0)
  to : ∀ k c, k < A.n → c < 256 → A.nx k c < A.n ∧ g (ord.getD (A.nx k c) 0) = g (R.nx (ord.getD k 0) c)
  next : ∀ p, p < 256 * A.n → A.arr p ≤ A.top p
  come : ∀ s, s < A.n → s < A.top (256 * s)
theorem getD_mem0 {l : List Nat} {k : Nat} (h : k < l.length) : l.getD k 0 ∈ l := by
  rw [List.getD_eq_getElem?_getD, List.getElem?_eq_getElem h]; exact List.getElem_mem h
theorem Made.eqv {R : RA} {g : Nat → Nat} {ord : List Nat} {A : RA} (ok : R.Ok) (hg : Groups R g) (h : Made R g ord A) : ∀ (l : List UInt8) (k : Nat), k < A.n → A.tak k l = R.tak (ord.getD k 0) l
  | [], k, hk => h.en k hk
  | c :: l, k, hk => by
    obtain ⟨h1, h2⟩ := h.to k c.toNat hk (u8_lt c)
    have hr : ord.getD k 0 < R.n := h.lt _ (getD_mem0 (by rw [← h.n]; exact hk))
    have e := (hg _ _ (h.lt _ (getD_mem0 (by rw [← h.n]; exact h1))) (ok.nx _ _ hr (u8_lt c))).1 h2
    exact (h.eqv ok hg l _ h1).trans (e l)
theorem nodup_getD {l : List Nat} (h : l.Nodup) {i j : Nat} (hi : i < l.length) (hj : j < l.length) (e : l.getD i 0 = l.getD j 0) : i = j := by
  rw [List.getD_eq_getElem?_getD, List.getD_eq_getElem?_getD, List.getElem?_eq_getElem hi, List.getElem?_eq_getElem hj] at e
  exact (List.getElem_inj h).1 e
theorem Made.can {R : RA} {g : Nat → Nat} {ord : List Nat} {A : RA} (ok : R.Ok) (hg : Groups R g) (h : Made R g ord A) : Can A ∧ Eqv A R 0 0 := by
  have hpos : 0 < A.n := by obtain ⟨r, hr⟩ := h.zero; rw [h.n, hr]; simp
  have h0 : ord.getD 0 0 = 0 := by obtain ⟨r, hr⟩ := h.zero; rw [hr]; rfl
  refine ⟨⟨⟨hpos, fun s c hs hc => (h.to s c hs hc).1⟩, fun s t hs ht e => ?_, h.next, h.come⟩, fun l => by rw [h.eqv ok hg l 0 hpos, h0]⟩
  have es : Eqv R R (ord.getD s 0) (ord.getD t 0) := fun l => by rw [← h.eqv ok hg l s hs, ← h.eqv ok hg l t ht]; exact e l
  have hs' : s < ord.length := by rw [← h.n]; exact hs
  have ht' : t < ord.length := by rw [← h.n]; exact ht
  have eg := (hg _ _ (h.lt _ (getD_mem0 hs')) (h.lt _ (getD_mem0 ht'))).2 es
  refine nodup_getD h.dis (by rw [List.length_map]; exact hs') (by rw [List.length_map]; exact ht') ?_
  have em : ∀ k, k < ord.length → (ord.map g).getD k 0 = g (ord.getD k 0) := fun k hk => by
    rw [List.getD_eq_getElem?_getD, List.getD_eq_getElem?_getD, List.getElem?_map, List.getElem?_eq_getElem hk]; rfl
  rw [em s hs', em t ht']; exact eg
end Go.Proofs.Ytkkdpafkafjfgaa
