/- Automata over bytes: raw ones, the canonical one; there is but one for a language. Plain. -/
import Derived.Test.YtkkdpafkafjfgaaDoorMkGlP
namespace Go.Proofs.YtkkdpafkafjfgaaDoor
set_option linter.unusedVariables false
structure RA where
  n : Nat
  nx : Nat → Nat → Nat
  en : Nat → Bool
structure RA.Ok (A : RA) : Prop where
  pos : 0 < A.n
  nx : ∀ s c, s < A.n → c < 256 → A.nx s c < A.n
def RA.go (A : RA) (s : Nat) : List UInt8 → Nat
  | [] => s
  | c :: l => A.go (A.nx s c.toNat) l
def RA.tak (A : RA) (s : Nat) (l : List UInt8) : Bool := A.en (A.go s l)
theorem u8_lt (c : UInt8) : c.toNat < 256 := c.toNat_lt
theorem RA.Ok.go {A : RA} (h : A.Ok) : ∀ (l : List UInt8) (s : Nat), s < A.n → A.go s l < A.n
  | [], _, hs => hs
  | c :: l, s, hs => h.go l _ (h.nx s _ hs (u8_lt c))
def Eqv (A B : RA) (s t : Nat) : Prop := ∀ l, A.tak s l = B.tak t l
theorem Eqv.refl (A : RA) (s : Nat) : Eqv A A s s := fun _ => rfl
theorem Eqv.symm {A B : RA} {s t : Nat} (h : Eqv A B s t) : Eqv B A t s := fun l => (h l).symm
theorem Eqv.trans {A B C : RA} {s t u : Nat} (h : Eqv A B s t) (k : Eqv B C t u) : Eqv A C s u := fun l => (h l).trans (k l)
theorem Eqv.nx {A B : RA} {s t : Nat} (h : Eqv A B s t) {c : Nat} (hc : c < 256) : Eqv A B (A.nx s c) (B.nx t c) := fun l => by
  have := h (UInt8.ofNat c :: l)
  unfold RA.tak at this ⊢
  rw [RA.go, RA.go, UInt8.toNat_ofNat_of_lt' (by exact hc)] at this
  exact this
theorem Eqv.en {A B : RA} {s t : Nat} (h : Eqv A B s t) : A.en s = B.en t := h []
def RA.arr (A : RA) (p : Nat) : Nat := A.nx (p / 256) (p % 256)
def RA.top (A : RA) : Nat → Nat
  | 0 => 1
  | p + 1 => max (A.top p) (A.arr p + 1)
structure Can (A : RA) : Prop where
  ok : A.Ok
  apart : ∀ s t, s < A.n → t < A.n → Eqv A A s t → s = t
  next : ∀ p, p < 256 * A.n → A.arr p ≤ A.top p
  come : ∀ s, s < A.n → s < A.top (256 * s)
theorem RA.top_mono (A : RA) {p q : Nat} (h : p ≤ q) : A.top p ≤ A.top q := by
  induction h with
  | refl => exact Nat.le_refl _
  | step _ ih => rw [RA.top]; omega
theorem RA.top_le {A : RA} (h : A.Ok) : ∀ p, p ≤ 256 * A.n → A.top p ≤ A.n
  | 0, _ => h.pos
  | p + 1, hp => by
    rw [RA.top]
    have h1 := RA.top_le h p (by omega)
    have h2 : A.arr p < A.n := h.nx _ _ (Nat.div_lt_of_lt_mul (by omega)) (Nat.mod_lt _ (by omega))
    omega
theorem Can.arr_lt {A : RA} (h : Can A) {p : Nat} (hp : p < 256 * A.n) : A.arr p < A.n := h.ok.nx _ _ (Nat.div_lt_of_lt_mul (by omega)) (Nat.mod_lt _ (by omega))
theorem can_upto {A B : RA} (a : Can A) (b : Can B) (h : Eqv A B 0 0) : ∀ p, p ≤ 256 * A.n → p ≤ 256 * B.n → A.top p = B.top p ∧ (∀ s, s < A.top p → Eqv A B s s) ∧ ∀ q, q < p → A.arr q = B.arr q
  | 0, _, _ => ⟨rfl, fun s hs => by have : s = 0 := by simp [RA.top] at hs; omega
                                    rw [this]; exact h, fun q hq => by omega⟩
  | p + 1, hA, hB => by
    obtain ⟨e, hq, ha⟩ := can_upto a b h p (by omega) (by omega)
    have hs : p / 256 < A.top p := Nat.lt_of_lt_of_le (a.come _ (Nat.div_lt_of_lt_mul (by omega))) (A.top_mono (Nat.mul_div_le p 256))
    have hc : p % 256 < 256 := Nat.mod_lt _ (by omega)
    have ht : Eqv A B (A.arr p) (B.arr p) := (hq _ hs).nx hc
    have hal := a.arr_lt (p := p) (by omega)
    have hbl := b.arr_lt (p := p) (by omega)
    have hat := RA.top_le a.ok p (by omega)
    have hbt := RA.top_le b.ok p (by omega)
    have han := a.next p (by omega)
    have hbn := b.next p (by omega)
    have key : A.arr p = B.arr p := by
      by_cases h1 : A.arr p < A.top p
      · exact b.apart _ _ (by omega) hbl ((hq _ h1).symm.trans ht)
      · by_cases h2 : B.arr p < B.top p
        · exact a.apart _ _ hal (by omega) (ht.trans (hq _ (by omega)).symm)
        · omega
    refine ⟨by rw [RA.top, RA.top, e, key], fun s hs => ?_, fun q hq' => ?_⟩
    · rw [RA.top] at hs
      by_cases h1 : s < A.top p
      · exact hq s h1
      · have : s = A.arr p := by omega
        rw [this]
        conv => arg 4; rw [key]
        exact ht
    · by_cases h1 : q < p
      · exact ha q h1
      · have : q = p := by omega
        rw [this]; exact key
structure RaEq (A B : RA) : Prop where
  n : A.n = B.n
  nx : ∀ s c, s < A.n → c < 256 → A.nx s c = B.nx s c
  en : ∀ s, s < A.n → A.en s = B.en s
theorem can_n {A B : RA} (a : Can A) (b : Can B) (h : Eqv A B 0 0) : ¬ A.n < B.n := fun hlt => by
  have h1 := (can_upto a b h (256 * A.n) (Nat.le_refl _) (by omega)).1
  have h2 := b.come A.n hlt
  have h3 := RA.top_le a.ok (256 * A.n) (Nat.le_refl _)
  omega
theorem can_one {A B : RA} (a : Can A) (b : Can B) (h : Eqv A B 0 0) : RaEq A B := by
  have hn : A.n = B.n := by
    have := can_n a b h
    have := can_n b a h.symm
    omega
  obtain ⟨e, hq, ha⟩ := can_upto a b h (256 * A.n) (Nat.le_refl _) (by omega)
  refine ⟨hn, fun s c hs hc => ?_, fun s hs => ?_⟩
  · have := ha (256 * s + c) (by omega)
    unfold RA.arr at this
    rw [show (256 * s + c) / 256 = s by omega, show (256 * s + c) % 256 = c by omega] at this
    exact this
  · have h1 := a.come s hs
    exact (hq s (Nat.lt_of_lt_of_le h1 (A.top_mono (by omega)))).en
def Groups (R : RA) (g : Nat → Nat) : Prop := ∀ i j, i < R.n → j < R.n → (g i = g j ↔ Eqv R R i j)
theorem groups_of {R : RA} (ok : R.Ok) {g : Nat → Nat} (h1 : ∀ i j, i < R.n → j < R.n → g i = g j → R.en i = R.en j) (h2 : ∀ i j c, i < R.n → j < R.n → c < 256 → g i = g j → g (R.nx i c) = g (R.nx j c))
    (h3 : ∀ i j, i < R.n → j < R.n → Eqv R R i j → g i = g j) : Groups R g := fun i j hi hj => by
  refine ⟨fun e l => ?_, h3 i j hi hj⟩
  induction l generalizing i j with
  | nil => exact h1 i j hi hj e
  | cons c l ih => exact ih _ _ (ok.nx _ _ hi (u8_lt c)) (ok.nx _ _ hj (u8_lt c)) (h2 i j _ hi hj (u8_lt c) e)
structure Made (R : RA) (g : Nat → Nat) (ord : List Nat) (A : RA) : Prop where
  n : A.n = ord.length
  zero : ∃ r, ord = 0 :: r
  lt : ∀ s ∈ ord, s < R.n
  dis : (ord.map g).Nodup
  en : ∀ k, k < A.n → A.en k = R.en (ord.getD k 0)
  to : ∀ k c, k < A.n → c < 256 → A.nx k c < A.n ∧ g (ord.getD (A.nx k c) 0) = g (R.nx (ord.getD k 0) c)
  next : ∀ p, p < 256 * A.n → A.arr p ≤ A.top p
  come : ∀ s, s < A.n → s < A.top (256 * s)
theorem getD_mem0 {l : List Nat} {k : Nat} (h : k < l.length) : l.getD k 0 ∈ l := by
  rw [List.getD_eq_getElem?_getD, List.getElem?_eq_getElem h]; exact List.getElem_mem h
theorem Made.eqv {R : RA} {g : Nat → Nat} {ord : List Nat} {A : RA} (ok : R.Ok) (hg : Groups R g) (h : Made R g ord A) : ∀ (l : List UInt8) (k : Nat), k < A.n → A.tak k l = R.tak (ord.getD k 0) l
  | [], k, hk => h.en k hk
  | c :: l, k, hk => by
    obtain ⟨h1, h2⟩ := h.to k c.toNat hk (u8_lt c)
    have hr : ord.getD k 0 < R.n := h.lt _ (getD_mem0 (by rw [← h.n]; exact hk))
    have e := (hg _ _ (h.lt _ (getD_mem0 (by rw [← h.n]; exact h1))) (ok.nx _ _ hr (u8_lt c))).1 h2
    exact (h.eqv ok hg l _ h1).trans (e l)
theorem nodup_getD {l : List Nat} (h : l.Nodup) {i j : Nat} (hi : i < l.length) (hj : j < l.length) (e : l.getD i 0 = l.getD j 0) : i = j := by
  rw [List.getD_eq_getElem?_getD, List.getD_eq_getElem?_getD, List.getElem?_eq_getElem hi, List.getElem?_eq_getElem hj] at e
  exact (List.getElem_inj h).1 e
theorem Made.can {R : RA} {g : Nat → Nat} {ord : List Nat} {A : RA} (ok : R.Ok) (hg : Groups R g) (h : Made R g ord A) : Can A ∧ Eqv A R 0 0 := by
  have hpos : 0 < A.n := by obtain ⟨r, hr⟩ := h.zero; rw [h.n, hr]; simp
  have h0 : ord.getD 0 0 = 0 := by obtain ⟨r, hr⟩ := h.zero; rw [hr]; rfl
  refine ⟨⟨⟨hpos, fun s c hs hc => (h.to s c hs hc).1⟩, fun s t hs ht e => ?_, h.next, h.come⟩, fun l => by rw [h.eqv ok hg l 0 hpos, h0]⟩
  have es : Eqv R R (ord.getD s 0) (ord.getD t 0) := fun l => by rw [← h.eqv ok hg l s hs, ← h.eqv ok hg l t ht]; exact e l
  have hs' : s < ord.length := by rw [← h.n]; exact hs
  have ht' : t < ord.length := by rw [← h.n]; exact ht
  have eg := (hg _ _ (h.lt _ (getD_mem0 hs')) (h.lt _ (getD_mem0 ht'))).2 es
  refine nodup_getD h.dis (by rw [List.length_map]; exact hs') (by rw [List.length_map]; exact ht') ?_
  have em : ∀ k, k < ord.length → (ord.map g).getD k 0 = g (ord.getD k 0) := fun k hk => by
    rw [List.getD_eq_getElem?_getD, List.getD_eq_getElem?_getD, List.getElem?_map, List.getElem?_eq_getElem hk]; rfl
  rw [em s hs', em t ht']; exact eg
end Go.Proofs.YtkkdpafkafjfgaaDoor

namespace Go.Proofs.YtkkdpafkafjfgaaDoor
set_option linter.unusedVariables false
structure Fits (g : Gl) : Prop where
  len : g.fo.length = g.sets.length
  le : g.sets.length ≤ 12
  fo : ∀ q, g.fo.getD q 0 < 4096
structure SmallG (o : Part) : Prop where
  first : o.first < 4096
  last : o.last < 4096
structure Ext (g h : Gl) : Prop where
  sets : ∀ q, q < g.sets.length → h.sets.getD q (fun _ => false) = g.sets.getD q (fun _ => false)
  fo : ∀ q, q < g.sets.length → h.fo.getD q 0 = g.fo.getD q 0
structure GoodG (g h : Gl) (n : Nat) (o : Part) (L : Lang) : Prop where
  much : h.much = false
  len : h.sets.length = g.sets.length + n
  ext : Ext g h
  frag : Frag h g.sets.length h.sets.length o L
theorem Ext.refl (g : Gl) : Ext g g := ⟨fun _ _ => rfl, fun _ _ => rfl⟩
theorem Ext.trans {a b c : Gl} (h : Ext a b) (k : Ext b c) (hl : a.sets.length ≤ b.sets.length) : Ext a c := ⟨fun q hq => (k.sets q (by omega)).trans (h.sets q hq), fun q hq => (k.fo q (by omega)).trans (h.fo q hq)⟩
theorem small0 : SmallG part0 := ⟨by decide, by decide⟩
theorem or_lt {a b : Nat} (ha : a < 4096) (hb : b < 4096) : a ||| b < 4096 := Nat.or_lt_two_pow (n := 12) ha hb
theorem fits0 : Fits gl0 := ⟨rfl, by decide, fun q => by simp [gl0]⟩
theorem Fits.join {g : Gl} (h : Fits g) {a b : Nat} (hb : b < 4096) : Fits (g.join a b) := ⟨by rw [join_len]; exact h.len, h.le, fun q => by
  rw [join_getD]
  split
  · split
    · exact or_lt (h.fo q) hb
    · exact h.fo q
  · decide⟩
theorem SmallG.then {a b : Part} (h : SmallG a) (k : SmallG b) : SmallG (thenP a b) := by
  refine ⟨?_, ?_⟩
  · unfold thenP; dsimp only; split
    · exact or_lt h.first k.first
    · exact h.first
  · unfold thenP; dsimp only; split
    · exact or_lt k.last h.last
    · exact k.last
theorem SmallG.alt {a b : Part} (h : SmallG a) (k : SmallG b) : SmallG (altP2 a b) := ⟨or_lt h.first k.first, or_lt h.last k.last⟩
theorem SmallG.again {a : Part} (h : SmallG a) : SmallG (againP a) := ⟨h.first, h.last⟩
theorem op2_fits {c : Bool} {o k : Part} {g : Gl} (h : Fits g) (ho : SmallG o) (hk : SmallG k) : Fits (op2 c o k g).2 ∧ SmallG (op2 c o k g).1 := by
  cases c
  · exact ⟨h, ho.alt hk⟩
  · exact ⟨h.join hk.first, ho.then hk⟩
theorem op2_much (c : Bool) (o k : Part) (g : Gl) : (op2 c o k g).2.much = g.much := by cases c <;> rfl
theorem op2_sets (c : Bool) (o k : Part) (g : Gl) : (op2 c o k g).2.sets = g.sets := by cases c <;> rfl
theorem getD_snoc0 (l : List Nat) (q : Nat) : (l ++ [0]).getD q 0 = l.getD q 0 := by
  rw [List.getD_eq_getElem?_getD, List.getD_eq_getElem?_getD]
  by_cases h : q < l.length
  · rw [List.getElem?_append_left h]
  · rw [List.getElem?_append_right (by omega), List.getElem?_eq_none (by omega : l.length ≤ q)]
    by_cases h2 : q - l.length = 0
    · rw [h2]; rfl
    · rw [List.getElem?_eq_none (by simp; omega)]
theorem getD_app_left {α : Type} (l m : List α) (q : Nat) (d : α) (h : q < l.length) : (l ++ m).getD q d = l.getD q d := by
  rw [List.getD_eq_getElem?_getD, List.getD_eq_getElem?_getD, List.getElem?_append_left h]
theorem getD_app_at {α : Type} (l : List α) (x d : α) : (l ++ [x]).getD l.length d = x := by
  rw [List.getD_eq_getElem?_getD, List.getElem?_append_right (Nat.le_refl _)]; simp
theorem one_fits {g : Gl} (h : Fits g) (s : Nat → Bool) : Fits (g.one s).2 ∧ SmallG (g.one s).1 := by
  unfold Gl.one
  split
  · exact ⟨⟨h.len, h.le, h.fo⟩, small0⟩
  · rename_i hn
    have hle := h.le
    have hl := h.len
    have hp : 2 ^ g.sets.length < 4096 := Nat.pow_lt_pow_right (a := 2) (by decide) (show g.sets.length < 12 by omega)
    refine ⟨⟨by simp [hl], by simp; omega, fun q => ?_⟩, hp, hp⟩
    show (g.fo ++ [0]).getD q 0 < 4096
    rw [getD_snoc0]; exact h.fo q
structure BuildOk (b : Builder) (L : Lang) (k : Option Nat) : Prop where
  none_iff : ∀ g, (b g).1 = none ↔ k = none
  fits : ∀ g, Fits g → Fits (b g).2 ∧ ∀ o, (b g).1 = some o → SmallG o
  much : ∀ g, g.much = true → (b g).2.much = true
  tells : ∀ g o n, Fits g → g.much = false → (b g).1 = some o → k = some n → if 12 < g.sets.length + n then (b g).2.much = true else GoodG g (b g).2 n o L
theorem one_ok (s : Nat → Bool) : BuildOk (fun g => someG (g.one s)) (fun l => ∃ c : UInt8, s c.toNat = true ∧ l = [c]) (some 1) := by
  refine ⟨fun g => by simp [someG], fun g h => ⟨(one_fits h s).1, fun o ho => by cases ho; exact (one_fits h s).2⟩, fun g hm => ?_, fun g o n hf hm ho hn => ?_⟩
  · show (g.one s).2.much = true
    unfold Gl.one; split
    · rfl
    · exact hm
  · cases hn; cases ho
    have hle := hf.le
    show if 12 < g.sets.length + 1 then (g.one s).2.much = true else GoodG g (g.one s).2 1 (g.one s).1 _
    unfold Gl.one
    by_cases h12 : g.sets.length = 12
    · rw [if_pos h12, if_pos (by omega)]
    · rw [if_neg h12, if_neg (by omega)]
      have hl := hf.len
      have hfol : ∀ q r, q = g.sets.length → ¬ fol ⟨g.sets ++ [s], g.fo ++ [0], g.much⟩ q r := fun q r hq => by
        unfold fol; dsimp only; rw [getD_snoc0, List.getD_eq_getElem?_getD, List.getElem?_eq_none (by omega)]
        exact not_bit0 r
      refine ⟨hm, by simp, ⟨fun q hq => getD_app_left _ _ _ _ hq, fun q hq => getD_snoc0 _ _⟩, by simp, Nat.le_refl _, by simp [hl], fun q r h1 h2 h3 => absurd h3 (hfol q r (by simp at h2; omega)), fun r hr => ?_, fun r hr => ?_, fun l => ?_⟩
      · have := bit_pow.1 hr; simp; omega
      · have := bit_pow.1 hr; simp; omega
      · have hset : ∀ c : UInt8, hasB ⟨g.sets ++ [s], g.fo ++ [0], g.much⟩ g.sets.length c ↔ s c.toNat = true := fun c => by unfold hasB; dsimp only; rw [getD_app_at]
        cases l with
        | nil => exact ⟨fun h => absurd h Bool.false_ne_true, fun ⟨c, _, h⟩ => by cases h⟩
        | cons c l =>
          constructor
          · rintro ⟨r, h1, h2, h3⟩
            obtain rfl := bit_pow.1 h1
            cases l with
            | nil => exact ⟨c, (hset c).1 h2, rfl⟩
            | cons d l => obtain ⟨r', h4, _⟩ := h3; exact absurd h4 (hfol _ _ rfl)
          · rintro ⟨d, h1, h2⟩
            cases h2
            exact ⟨g.sets.length, bit_pow.2 rfl, (hset c).2 h1, bit_pow.2 rfl⟩
theorem op2_good {c : Bool} {g0 g : Gl} {o k : Part} {n m : Nat} {A B : Lang} {b : Builder} (hf : Fits g) (h : GoodG g0 g n o A) (hb : BuildOk b B (some m)) (hk : (b g).1 = some k) :
    if 12 < g0.sets.length + (n + m) then (op2 c o k (b g).2).2.much = true else GoodG g0 (op2 c o k (b g).2).2 (n + m) (op2 c o k (b g).2).1 (opL c A B) := by
  have t := hb.tells g k m hf h.much hk rfl
  have hl := h.len
  by_cases h12 : 12 < g.sets.length + m
  · rw [if_pos h12] at t
    rw [if_pos (by omega), op2_much]; exact t
  · rw [if_neg h12] at t
    rw [if_neg (by omega)]
    have ha : Frag (b g).2 g0.sets.length g.sets.length o A := h.frag.congr (by rw [t.len]; omega) t.frag.len (fun q _ hq => t.ext.fo q hq) (fun q _ hq => t.ext.sets q hq)
    have hx := h.ext.trans t.ext (by omega)
    cases c
    · exact ⟨t.much, by show (b g).2.sets.length = _; rw [t.len, hl]; omega, hx, (ha.alt t.frag).as fun l => by simp [opL]⟩
    · refine ⟨t.much, by show (b g).2.sets.length = _; rw [t.len, hl]; omega, ⟨hx.sets, fun q hq => ?_⟩, (ha.cat t.frag).as fun l => by simp [opL]⟩
      show ((b g).2.join o.last k.first).fo.getD q 0 = _
      have hlen := t.len
      have hfl := t.frag.len
      rw [join_getD, if_pos (by omega), if_neg (fun hbit => by have := ha.last q hbit; omega)]
      exact hx.fo q hq
theorem assocL (c : Bool) (A B C : Lang) : opL c (opL c A B) C = opL c A (opL c B C) := by
  funext l
  cases c
  · simp [opL, or_assoc]
  · refine propext ?_
    show catL2 (fun l => catL2 A B l) C l ↔ catL2 A (fun l => catL2 B C l) l
    constructor
    · rintro ⟨_, z, rfl, ⟨x, y, rfl, h1, h2⟩, h3⟩; exact ⟨x, y ++ z, by rw [List.append_assoc], h1, y, z, rfl, h2, h3⟩
    · rintro ⟨x, _, rfl, h1, y, z, rfl, h2, h3⟩; exact ⟨x ++ y, z, by rw [List.append_assoc], ⟨x, y, rfl, h1, h2⟩, h3⟩
theorem unitL (c : Bool) (A : Lang) : opL c A (opsL c []) = A := by
  funext l
  cases c
  · simp [opL, opsL]
  · refine propext ?_
    show catL2 A (fun l => l = []) l ↔ A l
    constructor
    · rintro ⟨x, _, rfl, h1, rfl⟩; rw [List.append_nil]; exact h1
    · exact fun h => ⟨l, [], (List.append_nil _).symm, h, rfl⟩
def sumK : List (Option Nat) → Option Nat
  | [] => some 0
  | none :: _ => none
  | some n :: l => (sumK l).map (n + ·)
inductive AllOk : List Builder → List Lang → List (Option Nat) → Prop
  | nil : AllOk [] [] []
  | cons {b : Builder} {B : Lang} {k : Option Nat} {bs : List Builder} {Bs : List Lang} {ks : List (Option Nat)} : BuildOk b B k → AllOk bs Bs ks → AllOk (b :: bs) (B :: Bs) (k :: ks)
structure KidsOk (c : Bool) (bs : List Builder) (Bs : List Lang) (ks : List (Option Nat)) : Prop where
  none_iff : ∀ o g, (kidsG c bs o g).1 = none ↔ sumK ks = none
  fits : ∀ o g, Fits g → SmallG o → Fits (kidsG c bs o g).2 ∧ ∀ o', (kidsG c bs o g).1 = some o' → SmallG o'
  much : ∀ o g, g.much = true → (kidsG c bs o g).2.much = true
  tells : ∀ g0 o g n A o' m, Fits g → SmallG o → GoodG g0 g n o A → (kidsG c bs o g).1 = some o' → sumK ks = some m → if 12 < g0.sets.length + (n + m) then (kidsG c bs o g).2.much = true else GoodG g0 (kidsG c bs o g).2 (n + m) o' (opL c A (opsL c Bs))
theorem kids_ok (c : Bool) : ∀ {bs : List Builder} {Bs : List Lang} {ks : List (Option Nat)}, AllOk bs Bs ks → KidsOk c bs Bs ks
  | _, _, _, .nil => by
    refine ⟨fun o g => by simp [kidsG, sumK], fun o g hf ho => ⟨hf, fun o' h => by cases h; exact ho⟩, fun o g h => h, fun g0 o g n A o' m hf ho hg h1 h2 => ?_⟩
    cases h1; cases h2
    have := hg.len
    have := hf.le
    rw [if_neg (by omega), unitL]; exact hg
  | _, _, _, .cons (b := b) (k := none) (bs := bs) (Bs := Bs) (ks := ks) hb hr => by
    have hn : ∀ g, (b g).1 = none := fun g => (hb.none_iff g).2 rfl
    have e : ∀ o g, kidsG c (b :: bs) o g = (none, (b g).2) := fun o g => by rw [kidsG, hn g]
    refine ⟨fun o g => by rw [e]; simp [sumK], fun o g hf ho => ?_, fun o g h => ?_, fun g0 o g n A o' m hf ho hg h1 h2 => by cases h2⟩
    · rw [e]; exact ⟨(hb.fits g hf).1, fun o' h => by cases h⟩
    · rw [e]; exact hb.much g h
  | _, _, _, .cons (b := b) (k := some m1) (bs := bs) (Bs := Bs) (ks := ks) hb hr => by
    have K := kids_ok c hr
    have hs : ∀ g, ∃ k, (b g).1 = some k := fun g => by
      cases h : (b g).1 with
      | none => exact absurd ((hb.none_iff g).1 h) (by simp)
      | some k => exact ⟨k, rfl⟩
    have e : ∀ o g k, (b g).1 = some k → kidsG c (b :: bs) o g = kidsG c bs (op2 c o k (b g).2).1 (op2 c o k (b g).2).2 := fun o g k hk => by rw [kidsG, hk]
    have hnn : sumK (some m1 :: ks) = none ↔ sumK ks = none := by rw [sumK]; cases sumK ks <;> simp
    refine ⟨fun o g => ?_, fun o g hf ho => ?_, fun o g h => ?_, fun g0 o g n A o' m hf ho hg h1 h2 => ?_⟩
    · obtain ⟨k, hk⟩ := hs g
      rw [e o g k hk, hnn]; exact K.none_iff _ _
    · obtain ⟨k, hk⟩ := hs g
      obtain ⟨q1, q2⟩ := op2_fits (c := c) (hb.fits g hf).1 ho ((hb.fits g hf).2 k hk)
      rw [e o g k hk]; exact K.fits _ _ q1 q2
    · obtain ⟨k, hk⟩ := hs g
      rw [e o g k hk]; exact K.much _ _ (by rw [op2_much]; exact hb.much g h)
    · obtain ⟨k, hk⟩ := hs g
      obtain ⟨q1, q2⟩ := op2_fits (c := c) (hb.fits g hf).1 ho ((hb.fits g hf).2 k hk)
      rw [e o g k hk] at h1 ⊢
      obtain ⟨m2, hm2, rfl⟩ : ∃ m2, sumK ks = some m2 ∧ m = m1 + m2 := by
        rw [sumK] at h2
        cases hq : sumK ks with
        | none => rw [hq] at h2; cases h2
        | some m2 => rw [hq] at h2; cases h2; exact ⟨m2, rfl, rfl⟩
      have t := op2_good (c := c) hf hg hb hk
      by_cases h12 : 12 < g0.sets.length + (n + m1)
      · rw [if_pos h12] at t
        rw [if_pos (by omega)]; exact K.much _ _ t
      · rw [if_neg h12] at t
        have := K.tells g0 _ _ _ _ o' m2 q1 q2 t h1 hm2
        rw [assocL, Nat.add_assoc] at this
        exact this
theorem head_ok (c : Bool) {b : Builder} {B : Lang} {k : Option Nat} {bs : List Builder} {Bs : List Lang} {ks : List (Option Nat)} (hb : BuildOk b B k) (hr : AllOk bs Bs ks) : BuildOk (headG c (b :: bs)) (opsL c (B :: Bs)) (sumK (k :: ks)) := by
  have K := kids_ok c hr
  cases k with
  | none =>
    have hn : ∀ g, (b g).1 = none := fun g => (hb.none_iff g).2 rfl
    have e : ∀ g, headG c (b :: bs) g = (none, (b g).2) := fun g => by rw [headG, hn g]
    refine ⟨fun g => by rw [e]; simp [sumK], fun g hf => ?_, fun g h => ?_, fun g o n hf hm h1 h2 => by cases h2⟩
    · rw [e]; exact ⟨(hb.fits g hf).1, fun o' h => by cases h⟩
    · rw [e]; exact hb.much g h
  | some m1 =>
    have hs : ∀ g, ∃ k, (b g).1 = some k := fun g => by
      cases h : (b g).1 with
      | none => exact absurd ((hb.none_iff g).1 h) (by simp)
      | some k => exact ⟨k, rfl⟩
    have e : ∀ g k, (b g).1 = some k → headG c (b :: bs) g = kidsG c bs k (b g).2 := fun g k hk => by rw [headG, hk]
    have hnn : sumK (some m1 :: ks) = none ↔ sumK ks = none := by rw [sumK]; cases sumK ks <;> simp
    refine ⟨fun g => ?_, fun g hf => ?_, fun g h => ?_, fun g o n hf hm h1 h2 => ?_⟩
    · obtain ⟨k, hk⟩ := hs g
      rw [e g k hk, hnn]; exact K.none_iff _ _
    · obtain ⟨k, hk⟩ := hs g
      rw [e g k hk]; exact K.fits _ _ (hb.fits g hf).1 ((hb.fits g hf).2 k hk)
    · obtain ⟨k, hk⟩ := hs g
      rw [e g k hk]; exact K.much _ _ (hb.much g h)
    · obtain ⟨k, hk⟩ := hs g
      rw [e g k hk] at h1 ⊢
      obtain ⟨m2, hm2, rfl⟩ : ∃ m2, sumK ks = some m2 ∧ n = m1 + m2 := by
        rw [sumK] at h2
        cases hq : sumK ks with
        | none => rw [hq] at h2; cases h2
        | some m2 => rw [hq] at h2; cases h2; exact ⟨m2, rfl, rfl⟩
      have t := hb.tells g k m1 hf hm hk rfl
      by_cases h12 : 12 < g.sets.length + m1
      · rw [if_pos h12] at t
        rw [if_pos (by omega)]; exact K.much _ _ t
      · rw [if_neg h12] at t
        exact K.tells g k _ _ _ o m2 (hb.fits g hf).1 ((hb.fits g hf).2 k hk) t h1 hm2
theorem star_ok {b : Builder} {B : Lang} {k : Option Nat} (hb : BuildOk b B k) : BuildOk (fun g => starG (b g)) (StarL B) k := by
  have e0 : ∀ g, (b g).1 = none → starG (b g) = (none, (b g).2) := fun g h => by unfold starG; rw [h]
  have e1 : ∀ g o, (b g).1 = some o → starG (b g) = (some (againP o), (b g).2.join o.last o.first) := fun g o h => by unfold starG; rw [h]
  refine ⟨fun g => ?_, fun g hf => ?_, fun g h => ?_, fun g o n hf hm h1 h2 => ?_⟩
  · rw [← hb.none_iff g]
    cases h : (b g).1 with
    | none => rw [e0 g h]
    | some o => rw [e1 g o h]; simp
  · cases h : (b g).1 with
    | none => rw [e0 g h]; exact ⟨(hb.fits g hf).1, fun o h => by cases h⟩
    | some o => rw [e1 g o h]; have := (hb.fits g hf).2 o h; exact ⟨(hb.fits g hf).1.join this.first, fun o' h => by cases h; exact this.again⟩
  · cases h' : (b g).1 with
    | none => rw [e0 g h']; exact hb.much g h
    | some o => rw [e1 g o h']; exact hb.much g h
  · cases h' : (b g).1 with
    | none => rw [e0 g h'] at h1; cases h1
    | some a =>
      rw [e1 g a h'] at h1 ⊢; cases h1
      have t := hb.tells g a n hf hm h' h2
      by_cases h12 : 12 < g.sets.length + n
      · rw [if_pos h12] at t ⊢; exact t
      · rw [if_neg h12] at t ⊢
        refine ⟨t.much, t.len, ⟨t.ext.sets, fun q hq => ?_⟩, t.frag.star⟩
        have hlen := t.len
        have hfl := t.frag.len
        rw [join_getD, if_pos (by omega), if_neg (fun hbit => by have := t.frag.last q hbit; omega)]
        exact t.ext.fo q hq
end Go.Proofs.YtkkdpafkafjfgaaDoor
