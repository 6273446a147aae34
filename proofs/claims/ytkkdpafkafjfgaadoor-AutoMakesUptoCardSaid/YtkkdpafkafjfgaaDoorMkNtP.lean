/- A net of arrows, as the document draws a pattern: what it takes. Plain. -/
import Derived.Test.YtkkdpafkafjfgaaDoorMkPScNo
namespace Go.Proofs.YtkkdpafkafjfgaaDoor
set_option linter.unusedVariables false
structure NArr where
  fr : Nat
  «to» : Nat
  bs : Option (Nat → Bool)
structure NetP where
  places : Nat
  arrows : List NArr
inductive Pth (A : List NArr) (t : Nat) : Nat → List UInt8 → Prop
  | nil : Pth A t t []
  | eps {a : NArr} {l : List UInt8} : a ∈ A → a.bs = none → Pth A t a.to l → Pth A t a.fr l
  | byte {a : NArr} {s : Nat → Bool} {c : UInt8} {l : List UInt8} : a ∈ A → a.bs = some s → s c.toNat = true → Pth A t a.to l → Pth A t a.fr (c :: l)
theorem Pth.mono {A B : List NArr} {t q : Nat} {l : List UInt8} (h : Pth A t q l) (s : ∀ a ∈ A, a ∈ B) : Pth B t q l := by
  induction h with
  | nil => exact .nil
  | eps h1 h2 _ ih => exact .eps (s _ h1) h2 ih
  | byte h1 h2 h3 _ ih => exact .byte (s _ h1) h2 h3 ih
theorem Pth.comp {A : List NArr} {t m q : Nat} {k l : List UInt8} (h : Pth A m q k) (h2 : Pth A t m l) : Pth A t q (k ++ l) := by
  induction h with
  | nil => exact h2
  | eps h1 h2 _ ih => exact .eps h1 h2 ih
  | byte h1 h2 h3 _ ih => exact .byte h1 h2 h3 ih
theorem pth_cat {A B : List NArr} {n t : Nat} {X : Nat → Prop} (h1 : ∀ a ∈ A, X a.fr ∧ (X a.to ∨ a.to = n)) (h2 : ∀ a ∈ B, ¬ X a.fr ∧ ¬ X a.to) (hn : ¬ X n) (ht : ¬ X t) {q : Nat} {l : List UInt8} (h : Pth (A ++ B) t q l) :
    (X q → ∃ k m, l = k ++ m ∧ Pth A n q k ∧ Pth B t n m) ∧ (¬ X q → Pth B t q l) := by
  induction h with
  | nil => exact ⟨fun h => absurd h ht, fun _ => .nil⟩
  | @eps a l ha hb _ ih =>
    rcases List.mem_append.1 ha with hA | hB
    · refine ⟨fun _ => ?_, fun h => absurd (h1 a hA).1 h⟩
      rcases (h1 a hA).2 with hx | he
      · obtain ⟨k, m, rfl, k1, k2⟩ := ih.1 hx
        exact ⟨k, m, rfl, .eps hA hb k1, k2⟩
      · exact ⟨[], l, rfl, .eps hA hb (he ▸ .nil), he ▸ ih.2 (he ▸ hn)⟩
    · exact ⟨fun h => absurd h (h2 a hB).1, fun _ => .eps hB hb (ih.2 (h2 a hB).2)⟩
  | @byte a s c l ha hb hs _ ih =>
    rcases List.mem_append.1 ha with hA | hB
    · refine ⟨fun _ => ?_, fun h => absurd (h1 a hA).1 h⟩
      rcases (h1 a hA).2 with hx | he
      · obtain ⟨k, m, rfl, k1, k2⟩ := ih.1 hx
        exact ⟨c :: k, m, rfl, .byte hA hb hs k1, k2⟩
      · exact ⟨[c], l, rfl, .byte hA hb hs (he ▸ .nil), he ▸ ih.2 (he ▸ hn)⟩
    · exact ⟨fun h => absurd h (h2 a hB).1, fun _ => .byte hB hb hs (ih.2 (h2 a hB).2)⟩
theorem pth_alt {A B : List NArr} {f t : Nat} {X Y : Nat → Prop} (h1 : ∀ a ∈ A, (a.fr = f ∨ X a.fr) ∧ (a.to = t ∨ X a.to)) (h2 : ∀ a ∈ B, (a.fr = f ∨ Y a.fr) ∧ (a.to = t ∨ Y a.to)) (hd : ∀ q, X q → ¬ Y q) (xf : ¬ X f) (yf : ¬ Y f) (xt : ¬ X t) (yt : ¬ Y t) (hft : f ≠ t) {q : Nat} {l : List UInt8} (h : Pth (A ++ B) t q l) :
    (X q → Pth A t q l) ∧ (Y q → Pth B t q l) ∧ (q = f → Pth A t q l ∨ Pth B t q l) ∧ (q = t → l = []) := by
  have onA : ∀ a ∈ A, ∀ q, a.fr = q → q ≠ t := fun a ha q e e2 => by
    rcases (h1 a ha).1 with h | h
    · exact hft (by rw [← h, e, e2])
    · exact xt (by rw [e, e2] at h; exact h)
  have onB : ∀ a ∈ B, ∀ q, a.fr = q → q ≠ t := fun a ha q e e2 => by
    rcases (h2 a ha).1 with h | h
    · exact hft (by rw [← h, e, e2])
    · exact yt (by rw [e, e2] at h; exact h)
  have step : ∀ a, a ∈ A ++ B → ∀ (k l : List UInt8), (a.to = t → l = []) → (X a.to → Pth A t a.to l) → (Y a.to → Pth B t a.to l) →
      (∀ C, a ∈ C → Pth C t a.to l → Pth C t a.fr (k ++ l)) →
      (X a.fr → Pth A t a.fr (k ++ l)) ∧ (Y a.fr → Pth B t a.fr (k ++ l)) ∧ (a.fr = f → Pth A t a.fr (k ++ l) ∨ Pth B t a.fr (k ++ l)) ∧ (a.fr = t → k ++ l = []) := by
    intro a ha k l it ix iy go
    rcases List.mem_append.1 ha with hA | hB
    · have hp : Pth A t a.fr (k ++ l) := go A hA (by
        rcases (h1 a hA).2 with e | e
        · rw [it e, e]; exact .nil
        · exact ix e)
      refine ⟨fun _ => hp, fun hy => ?_, fun _ => Or.inl hp, fun e => absurd e (onA a hA _ rfl)⟩
      rcases (h1 a hA).1 with e | e
      · exact absurd (e ▸ hy) yf
      · exact absurd hy (hd _ e)
    · have hp : Pth B t a.fr (k ++ l) := go B hB (by
        rcases (h2 a hB).2 with e | e
        · rw [it e, e]; exact .nil
        · exact iy e)
      refine ⟨fun hx => ?_, fun _ => hp, fun _ => Or.inr hp, fun e => absurd e (onB a hB _ rfl)⟩
      rcases (h2 a hB).1 with e | e
      · exact absurd (e ▸ hx) xf
      · exact absurd e (hd _ hx)
  induction h with
  | nil => exact ⟨fun h => absurd h xt, fun h => absurd h yt, fun h => absurd h.symm hft, fun _ => rfl⟩
  | @eps a l ha hb _ ih => exact step a ha [] l ih.2.2.2 ih.1 ih.2.1 fun C hC hp => .eps hC hb hp
  | @byte a s c l ha hb hs _ ih => exact step a ha [c] l ih.2.2.2 ih.1 ih.2.1 fun C hC hp => .byte hC hb hs hp
theorem pth_star {A : List NArr} {f t m b : Nat} {X : Nat → Prop} {L : List UInt8 → Prop} (h1 : ∀ a ∈ A, (a.fr = m ∨ X a.fr) ∧ (a.to = b ∨ X a.to)) (xf : ¬ X f) (xt : ¬ X t) (xm : ¬ X m) (xb : ¬ X b) (hft : f ≠ t) (hfm : f ≠ m) (hfb : f ≠ b) (htm : t ≠ m) (htb : t ≠ b) (hmb : m ≠ b) (hL : ∀ l, Pth A b m l → L l)
    {q : Nat} {l : List UInt8} (h : Pth ([⟨f, m, none⟩, ⟨m, t, none⟩] ++ A ++ [⟨b, m, none⟩]) t q l) :
    (q = t → l = []) ∧ (q = m → StarL L l) ∧ (q = b → StarL L l) ∧ (q = f → StarL L l) ∧ (X q → ∃ k n, l = k ++ n ∧ Pth A b q k ∧ StarL L n) := by
  have step : ∀ a, a ∈ A → ∀ (k l : List UInt8), ((a.to = b → StarL L l) ∧ (X a.to → ∃ k n, l = k ++ n ∧ Pth A b a.to k ∧ StarL L n)) → (∀ l, Pth A b a.to l → Pth A b a.fr (k ++ l)) →
      (a.fr = t → k ++ l = []) ∧ (a.fr = m → StarL L (k ++ l)) ∧ (a.fr = b → StarL L (k ++ l)) ∧ (a.fr = f → StarL L (k ++ l)) ∧ (X a.fr → ∃ i n, k ++ l = i ++ n ∧ Pth A b a.fr i ∧ StarL L n) := by
    intro a ha k l ih go
    have key : ∃ i n, k ++ l = i ++ n ∧ Pth A b a.fr i ∧ StarL L n := by
      rcases (h1 a ha).2 with e | e
      · exact ⟨k, l, rfl, by have := go [] (by rw [e]; exact .nil); rwa [List.append_nil] at this, ih.1 e⟩
      · obtain ⟨i, n, rfl, k1, k2⟩ := ih.2 e
        exact ⟨k ++ i, n, by rw [List.append_assoc], go i k1, k2⟩
    have hf : ∀ q, ¬ X q → q ≠ m → a.fr ≠ q := fun q hx hq e => by
      rcases (h1 a ha).1 with h | h
      · exact hq (by rw [← e, h])
      · exact hx (e ▸ h)
    refine ⟨fun e => absurd e (hf t xt htm), fun e => ?_, fun e => absurd e (hf b xb (Ne.symm hmb)), fun e => absurd e (hf f xf hfm), fun _ => key⟩
    obtain ⟨i, n, e1, k1, k2⟩ := key
    rw [e1]
    exact .cons (hL i (e ▸ k1)) k2
  induction h with
  | nil => exact ⟨fun _ => rfl, fun h => absurd h htm, fun h => absurd h htb, fun h => absurd h.symm hft, fun h => absurd h xt⟩
  | @eps a l ha hb _ ih =>
    rcases List.mem_append.1 ha with ha | ha
    · rcases List.mem_append.1 ha with ha | ha
      · rcases List.mem_cons.1 ha with rfl | ha
        · exact ⟨fun h => absurd h hft, fun h => absurd h hfm, fun h => absurd h hfb, fun _ => ih.2.1 rfl, fun h => absurd h xf⟩
        · rw [List.mem_singleton] at ha
          subst ha
          have : l = [] := ih.1 rfl
          subst this
          exact ⟨fun h => absurd h.symm htm, fun _ => .nil, fun h => absurd h hmb, fun h => absurd h.symm hfm, fun h => absurd h xm⟩
      · exact step a ha [] l ⟨ih.2.2.1, ih.2.2.2.2⟩ fun l h => .eps ha hb h
    · rw [List.mem_singleton] at ha
      subst ha
      exact ⟨fun h => absurd h.symm htb, fun h => absurd h.symm hmb, fun _ => ih.2.1 rfl, fun h => absurd h.symm hfb, fun h => absurd h xb⟩
  | @byte a s c l ha hb hs _ ih =>
    rcases List.mem_append.1 ha with ha | ha
    · rcases List.mem_append.1 ha with ha | ha
      · rcases List.mem_cons.1 ha with rfl | ha
        · cases hb
        · rw [List.mem_singleton] at ha
          subst ha; cases hb
      · exact step a ha [c] l ⟨ih.2.2.1, ih.2.2.2.2⟩ fun l h => .byte ha hb hs h
    · rw [List.mem_singleton] at ha
      subst ha; cases hb
def NetP.more (N : NetP) (f t : Nat) (s : Option (Nat → Bool)) : NetP := ⟨N.places, N.arrows ++ [⟨f, t, s⟩]⟩
def NetP.one (N : NetP) : NetP := ⟨N.places + 1, N.arrows⟩
abbrev Drw := NetP → Nat → Nat → NetP
def oneN (s : Nat → Bool) : Drw := fun N f t => N.more f t (some s)
def catN : List Drw → Drw
  | [], N, f, t => N.more f t none
  | d :: l, N, f, t => catN l (d N.one f N.places) N.places t
def altN : List Drw → Drw
  | [], N, f, t => N
  | d :: l, N, f, t => altN l (d N f t) f t
def arbN : Drw := fun N f t => ((N.one.more f N.places none).more N.places N.places (some allB)).more N.places t none
def starN (ds : List Drw) : Drw := fun N f t => match ds with
  | [] => N
  | d :: _ => (d ((N.one.one.more f N.places none).more N.places t none) N.places (N.places + 1)).more (N.places + 1) N.places none
def drawK (k : Int) (t : ByteArray) (n : Int) (ds : List Drw) : Drw :=
  if k = 1 ∨ k = 2 then catN ((litsOf k t n).map oneN)
  else if k = 3 then oneN (someB t)
  else if k = 4 then oneN (notB (someB t))
  else if k = 13 then arbN
  else if k = 18 then catN ds
  else if k = 19 then altN ds
  else if k = 20 then starN ds
  else fun N _ _ => N
mutual
def drawP : Pat → Drw
  | .mk k t n m l => drawK k t n (drawL l)
def drawL : List Pat → List Drw
  | [] => []
  | p :: l => drawP p :: drawL l
end
theorem drawL_map : ∀ l : List Pat, drawL l = l.map drawP
  | [] => rfl
  | p :: l => by rw [drawL, drawL_map l]; rfl
def nbytes (A : List NArr) : Nat := (A.filter (·.bs.isSome)).length
theorem nbytes_app (A B : List NArr) : nbytes (A ++ B) = nbytes A + nbytes B := by unfold nbytes; rw [List.filter_append, List.length_append]
structure Drawn (N N' : NetP) (f t : Nat) (L : Lang) (nb bd : Nat) (A : List NArr) : Prop where
  arr : N'.arrows = N.arrows ++ A
  le : N.places ≤ N'.places
  few : N'.places + 1 ≤ N.places + bd
  num : A.length ≤ bd
  nby : nbytes A = nb
  fr : ∀ a ∈ A, a.fr = f ∨ (N.places ≤ a.fr ∧ a.fr < N'.places)
  «to» : ∀ a ∈ A, a.to = t ∨ (N.places ≤ a.to ∧ a.to < N'.places)
  lang : ∀ l, Pth A t f l ↔ L l
def DrawOk (d : Drw) (L : Lang) (nb bd : Nat) : Prop := ∀ N f t, f < N.places → t < N.places → f ≠ t → ∃ A, Drawn N (d N f t) f t L nb bd A
theorem DrawOk.as {d : Drw} {L M : Lang} {nb bd : Nat} (h : DrawOk d L nb bd) (e : ∀ l, L l ↔ M l) : DrawOk d M nb bd := fun N f t h1 h2 h3 => by
  obtain ⟨A, k⟩ := h N f t h1 h2 h3
  exact ⟨A, k.arr, k.le, k.few, k.num, k.nby, k.fr, k.to, fun l => (k.lang l).trans (e l)⟩
theorem DrawOk.bd {d : Drw} {L : Lang} {nb bd bd' : Nat} (h : DrawOk d L nb bd) (e : bd ≤ bd') : DrawOk d L nb bd' := fun N f t h1 h2 h3 => by
  obtain ⟨A, k⟩ := h N f t h1 h2 h3
  exact ⟨A, k.arr, k.le, by have := k.few; omega, by have := k.num; omega, k.nby, k.fr, k.to, k.lang⟩
theorem pth_none {t q : Nat} {l : List UInt8} (h : Pth [] t q l) : q = t ∧ l = [] := by
  cases h with
  | nil => exact ⟨rfl, rfl⟩
  | eps h _ _ => cases h
  | byte h _ _ _ => cases h
theorem pth_single {x : NArr} {t q : Nat} {l : List UInt8} (h : Pth [x] t q l) : (q = t ∧ l = []) ∨ (q = x.fr ∧ ∃ k, Pth [x] t x.to k ∧ (x.bs = none ∧ l = k ∨ ∃ s c, x.bs = some s ∧ s c.toNat = true ∧ l = c :: k)) := by
  cases h with
  | nil => exact Or.inl ⟨rfl, rfl⟩
  | eps ha hb h =>
    have e := List.mem_singleton.1 ha
    exact Or.inr ⟨by rw [e], l, e ▸ h, Or.inl ⟨e ▸ hb, rfl⟩⟩
  | @byte a s c k ha hb hs h =>
    have e := List.mem_singleton.1 ha
    exact Or.inr ⟨by rw [e], k, e ▸ h, Or.inr ⟨s, c, e ▸ hb, hs, rfl⟩⟩
theorem one_drawn (s : Nat → Bool) : DrawOk (oneN s) (oneL s) 1 1 := fun N f t h1 h2 h3 => by
  refine ⟨[⟨f, t, some s⟩], rfl, Nat.le_refl _, by show N.places + 1 ≤ N.places + 1; omega, by simp, rfl, fun a ha => by rw [List.mem_singleton] at ha; subst ha; exact Or.inl rfl, fun a ha => by rw [List.mem_singleton] at ha; subst ha; exact Or.inl rfl, fun l => ⟨fun h => ?_, fun h => ?_⟩⟩
  · rcases pth_single h with ⟨e, _⟩ | ⟨_, k, hk, ⟨e, _⟩ | ⟨s', c, e, hs, rfl⟩⟩
    · exact absurd e h3
    · cases e
    · cases e
      rcases pth_single hk with ⟨_, rfl⟩ | ⟨e, _⟩
      · exact ⟨c, hs, rfl⟩
      · exact absurd e.symm h3
  · obtain ⟨c, hs, rfl⟩ := h
    exact .byte (a := ⟨f, t, some s⟩) (by simp) rfl hs .nil
structure DK where
  d : Drw
  L : Lang
  nb : Nat
  bd : Nat
theorem eps_one {f t : Nat} (hft : f ≠ t) {l : List UInt8} : Pth [⟨f, t, none⟩] t f l ↔ l = [] := by
  constructor
  · intro h
    rcases pth_single h with ⟨e, _⟩ | ⟨_, k, hk, ⟨_, rfl⟩ | ⟨s, c, e, _⟩⟩
    · exact absurd e hft
    · rcases pth_single hk with ⟨_, e⟩ | ⟨e, _⟩
      · exact e
      · exact absurd e.symm hft
    · cases e
  · rintro rfl
    exact .eps (a := ⟨f, t, none⟩) (by simp) rfl .nil
theorem cat_drawn : ∀ (xs : List DK), (∀ x ∈ xs, DrawOk x.d x.L x.nb x.bd) → DrawOk (catN (xs.map (·.d))) (opsL true (xs.map (·.L))) (xs.map (·.nb)).sum ((xs.map (·.bd)).sum + 1)
  | [], _ => fun N f t h1 h2 h3 => ⟨[⟨f, t, none⟩], rfl, Nat.le_refl _, by show N.places + 1 ≤ N.places + (0 + 1); omega, by simp, rfl, fun a ha => by rw [List.mem_singleton] at ha; subst ha; exact Or.inl rfl, fun a ha => by rw [List.mem_singleton] at ha; subst ha; exact Or.inl rfl, fun l => (eps_one h3).trans (by simp [opsL])⟩
  | x :: xs, h => fun N f t h1 h2 h3 => by
    obtain ⟨A, hA⟩ := h x (by simp) N.one f N.places (Nat.lt_succ_of_lt h1) (Nat.lt_succ_self _) (Nat.ne_of_lt h1)
    have hle := hA.le
    have hp1 : N.one.places = N.places + 1 := rfl
    rw [hp1] at hle
    obtain ⟨B, hB⟩ := cat_drawn xs (fun y hy => h y (by simp [hy])) (x.d N.one f N.places) N.places t (by omega) (by omega) (by omega)
    refine ⟨A ++ B, ?_, ?_, ?_, ?_, ?_, ?_, ?_, fun l => ?_⟩
    · show (catN (xs.map (·.d)) (x.d N.one f N.places) N.places t).arrows = _
      rw [hB.arr, hA.arr, List.append_assoc]; rfl
    · have := hB.le
      show N.places ≤ (catN (xs.map (·.d)) (x.d N.one f N.places) N.places t).places
      omega
    · have k1 := hB.few
      have k2 := hA.few
      show (catN (xs.map (·.d)) (x.d N.one f N.places) N.places t).places + 1 ≤ _
      simp only [List.map_cons, List.sum_cons]
      omega
    · have k1 := hB.num
      have k2 := hA.num
      simp only [List.length_append, List.map_cons, List.sum_cons]
      omega
    · rw [nbytes_app, hA.nby, hB.nby]; simp
    · intro a ha
      have hbl := hB.le
      show _ ∨ _ ∧ _ < (catN (xs.map (·.d)) (x.d N.one f N.places) N.places t).places
      rcases List.mem_append.1 ha with ha | ha
      · rcases hA.fr a ha with e | ⟨e1, e2⟩
        · exact Or.inl e
        · exact Or.inr ⟨by omega, by omega⟩
      · rcases hB.fr a ha with e | ⟨e1, e2⟩
        · exact Or.inr ⟨by omega, by omega⟩
        · exact Or.inr ⟨by omega, by omega⟩
    · intro a ha
      have hbl := hB.le
      show _ ∨ _ ∧ _ < (catN (xs.map (·.d)) (x.d N.one f N.places) N.places t).places
      rcases List.mem_append.1 ha with ha | ha
      · rcases hA.to a ha with e | ⟨e1, e2⟩
        · exact Or.inr ⟨by omega, by omega⟩
        · exact Or.inr ⟨by omega, by omega⟩
      · rcases hB.to a ha with e | ⟨e1, e2⟩
        · exact Or.inl e
        · exact Or.inr ⟨by omega, by omega⟩
    · show _ ↔ catL2 x.L (opsL true (xs.map (·.L))) l
      constructor
      · intro hp
        have := (pth_cat (A := A) (B := B) (n := N.places) (X := fun q => q = f ∨ (N.places + 1 ≤ q ∧ q < (x.d N.one f N.places).places)) (fun a ha => ?_) (fun a ha => ?_) (by omega) (by omega) hp).1 (Or.inl rfl)
        · obtain ⟨k, m, rfl, k1, k2⟩ := this
          exact ⟨k, m, rfl, (hA.lang k).1 k1, (hB.lang m).1 k2⟩
        · refine ⟨?_, ?_⟩
          · rcases hA.fr a ha with e | ⟨e1, e2⟩
            · exact Or.inl e
            · exact Or.inr ⟨by omega, e2⟩
          · rcases hA.to a ha with e | ⟨e1, e2⟩
            · exact Or.inr e
            · exact Or.inl (Or.inr ⟨by omega, e2⟩)
        · refine ⟨?_, ?_⟩
          · rcases hB.fr a ha with e | ⟨e1, e2⟩ <;> omega
          · rcases hB.to a ha with e | ⟨e1, e2⟩ <;> omega
      · rintro ⟨k, m, rfl, k1, k2⟩
        exact (((hA.lang k).2 k1).mono fun a ha => List.mem_append_left _ ha).comp (((hB.lang m).2 k2).mono fun a ha => List.mem_append_right _ ha)
theorem alt_drawn : ∀ (xs : List DK), (∀ x ∈ xs, DrawOk x.d x.L x.nb x.bd) → DrawOk (altN (xs.map (·.d))) (opsL false (xs.map (·.L))) (xs.map (·.nb)).sum ((xs.map (·.bd)).sum + 1)
  | [], _ => fun N f t h1 h2 h3 => ⟨[], by simp [altN], Nat.le_refl _, by show N.places + 1 ≤ N.places + (0 + 1); omega, by simp, rfl, (fun a ha => absurd ha (by simp)), (fun a ha => absurd ha (by simp)), fun l => ⟨fun h => absurd (pth_none h).1 h3, fun h => by simp [opsL] at h⟩⟩
  | x :: xs, h => fun N f t h1 h2 h3 => by
    obtain ⟨A, hA⟩ := h x (by simp) N f t h1 h2 h3
    have hle := hA.le
    obtain ⟨B, hB⟩ := alt_drawn xs (fun y hy => h y (by simp [hy])) (x.d N f t) f t (by omega) (by omega) h3
    refine ⟨A ++ B, ?_, ?_, ?_, ?_, ?_, ?_, ?_, fun l => ?_⟩
    · show (altN (xs.map (·.d)) (x.d N f t) f t).arrows = _
      rw [hB.arr, hA.arr, List.append_assoc]
    · have := hB.le
      show N.places ≤ (altN (xs.map (·.d)) (x.d N f t) f t).places
      omega
    · have k1 := hB.few
      have k2 := hA.few
      show (altN (xs.map (·.d)) (x.d N f t) f t).places + 1 ≤ _
      simp only [List.map_cons, List.sum_cons]
      omega
    · have k1 := hB.num
      have k2 := hA.num
      simp only [List.length_append, List.map_cons, List.sum_cons]
      omega
    · rw [nbytes_app, hA.nby, hB.nby]; simp
    · intro a ha
      have hbl := hB.le
      show _ ∨ _ ∧ _ < (altN (xs.map (·.d)) (x.d N f t) f t).places
      rcases List.mem_append.1 ha with ha | ha
      · rcases hA.fr a ha with e | ⟨e1, e2⟩
        · exact Or.inl e
        · exact Or.inr ⟨by omega, by omega⟩
      · rcases hB.fr a ha with e | ⟨e1, e2⟩
        · exact Or.inl e
        · exact Or.inr ⟨by omega, by omega⟩
    · intro a ha
      have hbl := hB.le
      show _ ∨ _ ∧ _ < (altN (xs.map (·.d)) (x.d N f t) f t).places
      rcases List.mem_append.1 ha with ha | ha
      · rcases hA.to a ha with e | ⟨e1, e2⟩
        · exact Or.inl e
        · exact Or.inr ⟨by omega, by omega⟩
      · rcases hB.to a ha with e | ⟨e1, e2⟩
        · exact Or.inl e
        · exact Or.inr ⟨by omega, by omega⟩
    · show _ ↔ x.L l ∨ opsL false (xs.map (·.L)) l
      constructor
      · intro hp
        have := (pth_alt (A := A) (B := B) (f := f) (X := fun q => N.places ≤ q ∧ q < (x.d N f t).places) (Y := fun q => (x.d N f t).places ≤ q ∧ q < (altN (xs.map (·.d)) (x.d N f t) f t).places) (fun a ha => ⟨hA.fr a ha, hA.to a ha⟩) (fun a ha => ⟨hB.fr a ha, hB.to a ha⟩) (fun q => by omega) (by omega) (by omega) (by omega) (by omega) h3 hp).2.2.1 rfl
        exact this.imp (hA.lang l).1 (hB.lang l).1
      · rintro (k | k)
        · exact ((hA.lang l).2 k).mono fun a ha => List.mem_append_left _ ha
        · exact ((hB.lang l).2 k).mono fun a ha => List.mem_append_right _ ha
theorem arb_drawn : DrawOk arbN (fun _ => True) 1 4 := fun N f t h1 h2 h3 => by
  have hin : ∀ a, a ∈ ([⟨f, N.places, none⟩, ⟨N.places, N.places, some allB⟩, ⟨N.places, t, none⟩] : List NArr) → a = ⟨f, N.places, none⟩ ∨ a = ⟨N.places, N.places, some allB⟩ ∨ a = ⟨N.places, t, none⟩ := fun a ha => by simpa using ha
  have hpl : (arbN N f t).places = N.places + 1 := rfl
  refine ⟨[⟨f, N.places, none⟩, ⟨N.places, N.places, some allB⟩, ⟨N.places, t, none⟩], by simp [arbN, NetP.more, NetP.one], by omega, by omega, by simp, rfl, fun a ha => ?_, fun a ha => ?_, fun l => ⟨fun _ => trivial, fun _ => ?_⟩⟩
  · rcases hin a ha with rfl | rfl | rfl
    · exact Or.inl rfl
    · exact Or.inr ⟨Nat.le_refl _, by rw [hpl]; exact Nat.lt_succ_self _⟩
    · exact Or.inr ⟨Nat.le_refl _, by rw [hpl]; exact Nat.lt_succ_self _⟩
  · rcases hin a ha with rfl | rfl | rfl
    · exact Or.inr ⟨Nat.le_refl _, by rw [hpl]; exact Nat.lt_succ_self _⟩
    · exact Or.inr ⟨Nat.le_refl _, by rw [hpl]; exact Nat.lt_succ_self _⟩
    · exact Or.inl rfl
  · refine .eps (a := ⟨f, N.places, none⟩) (by simp) rfl ?_
    induction l with
    | nil => exact .eps (a := ⟨N.places, t, none⟩) (by simp) rfl .nil
    | cons c l ih => exact .byte (a := ⟨N.places, N.places, some allB⟩) (by simp) rfl rfl ih
theorem star_drawn {d : Drw} {L : Lang} {nb bd : Nat} (h : DrawOk d L nb bd) (ds : List Drw) : DrawOk (starN (d :: ds)) (StarL L) nb (bd + 3) := fun N f t h1 h2 h3 => by
  obtain ⟨M, hM⟩ : ∃ M, (N.one.one.more f N.places none).more N.places t none = M := ⟨_, rfl⟩
  have hMp : M.places = N.places + 2 := by rw [← hM]; rfl
  have hMa : M.arrows = N.arrows ++ [⟨f, N.places, none⟩] ++ [⟨N.places, t, none⟩] := by rw [← hM]; rfl
  obtain ⟨A, hA⟩ := h M N.places (N.places + 1) (by omega) (by omega) (by omega)
  have hle := hA.le
  have hfew := hA.few
  have hs : starN (d :: ds) N f t = (d M N.places (N.places + 1)).more (N.places + 1) N.places none := by rw [← hM]; rfl
  rw [hs]
  have hpl : ((d M N.places (N.places + 1)).more (N.places + 1) N.places none).places = (d M N.places (N.places + 1)).places := rfl
  refine ⟨[⟨f, N.places, none⟩, ⟨N.places, t, none⟩] ++ A ++ [⟨N.places + 1, N.places, none⟩], ?_, by rw [hpl]; omega, by rw [hpl]; omega, ?_, ?_, fun a ha => ?_, fun a ha => ?_, fun l => ⟨fun hp => ?_, fun hp => ?_⟩⟩
  · show (d M N.places (N.places + 1)).arrows ++ [_] = _
    rw [hA.arr, hMa]; simp
  · have := hA.num; simp; omega
  · rw [nbytes_app, nbytes_app, hA.nby]; simp [nbytes]
  · rw [hpl]
    rcases List.mem_append.1 ha with ha | ha
    · rcases List.mem_append.1 ha with ha | ha
      · rcases List.mem_cons.1 ha with rfl | ha
        · exact Or.inl rfl
        · rw [List.mem_singleton] at ha; subst ha; exact Or.inr ⟨Nat.le_refl _, by show N.places < _; omega⟩
      · rcases hA.fr a ha with e | ⟨e1, e2⟩
        · exact Or.inr ⟨by omega, by omega⟩
        · exact Or.inr ⟨by omega, by omega⟩
    · rw [List.mem_singleton] at ha; subst ha; exact Or.inr ⟨Nat.le_succ _, by show N.places + 1 < _; omega⟩
  · rw [hpl]
    rcases List.mem_append.1 ha with ha | ha
    · rcases List.mem_append.1 ha with ha | ha
      · rcases List.mem_cons.1 ha with rfl | ha
        · exact Or.inr ⟨Nat.le_refl _, by show N.places < _; omega⟩
        · rw [List.mem_singleton] at ha; subst ha; exact Or.inl rfl
      · rcases hA.to a ha with e | ⟨e1, e2⟩
        · exact Or.inr ⟨by omega, by omega⟩
        · exact Or.inr ⟨by omega, by omega⟩
    · rw [List.mem_singleton] at ha; subst ha; exact Or.inr ⟨Nat.le_refl _, by show N.places < _; omega⟩
  · exact (pth_star (L := L) (X := fun q => N.places + 2 ≤ q ∧ q < (d M N.places (N.places + 1)).places) (fun a ha => ⟨by have := hA.fr a ha; omega, by have := hA.to a ha; omega⟩) (by omega) (by omega) (by omega) (by omega) h3 (by omega) (by omega) (by omega) (by omega) (by omega) (fun l hl => (hA.lang l).1 hl) hp).2.2.2.1 rfl
  · refine .eps (a := ⟨f, N.places, none⟩) (by simp) rfl ?_
    show Pth _ t N.places l
    induction hp with
    | nil => exact .eps (a := ⟨N.places, t, none⟩) (by simp) rfl .nil
    | cons k1 _ ih =>
      exact (((hA.lang _).2 k1).mono fun a ha => List.mem_append_left _ (List.mem_append_right _ ha)).comp (.eps (a := ⟨N.places + 1, N.places, none⟩) (by simp) rfl ih)
theorem lits_drawn (ls : List (Nat → Bool)) : DrawOk (catN (ls.map oneN)) (opsL true (ls.map oneL)) ls.length (ls.length + 1) := by
  have h := cat_drawn (ls.map fun s => ⟨oneN s, oneL s, 1, 1⟩) (fun x hx => by obtain ⟨s, _, rfl⟩ := List.mem_map.1 hx; exact one_drawn s)
  rw [List.map_map, List.map_map, List.map_map, List.map_map] at h
  have e : ((ls.map ((fun x : DK => x.nb) ∘ fun s => ⟨oneN s, oneL s, 1, 1⟩)).sum) = ls.length := by
    clear h
    induction ls with
    | nil => rfl
    | cons a l ih => rw [List.map_cons, List.sum_cons, ih, List.length_cons]; exact Nat.add_comm _ _
  have e2 : ((ls.map ((fun x : DK => x.bd) ∘ fun s => ⟨oneN s, oneL s, 1, 1⟩)).sum) = ls.length := e
  rw [e, e2] at h
  exact h
theorem nothing_drawn : DrawOk (fun N _ _ => N) (fun _ => False) 0 1 := fun N f t h1 h2 h3 =>
  ⟨[], by simp, Nat.le_refl _, Nat.le_refl _, by simp, rfl, (fun a ha => absurd ha (by simp)), (fun a ha => absurd ha (by simp)), fun l => ⟨fun h => absurd (pth_none h).1 h3, fun h => h.elim⟩⟩
mutual
def kidP : Pat → Prop
  | .mk k t n m l => (k = 2 → 0 ≤ n) ∧ (k = 20 → l.length = 1) ∧ kidL l
def kidL : List Pat → Prop
  | [] => True
  | p :: l => kidP p ∧ kidL l
end
theorem nodeErr_kid {p : Pat} (h : nodeErr p = 0) : (p.kind = 2 → 0 ≤ p.n) ∧ (p.kind = 20 → p.kids.length = 1) := by
  unfold nodeErr manyErr at h
  repeat' split at h
  all_goals first | omega | (exact absurd h (by decide)) | (refine ⟨fun e => ?_, fun e => ?_⟩ <;> omega)
mutual
theorem err_kid : ∀ p : Pat, errW p = 0 → kidP p
  | .mk k t n m l, h => by
    rw [errW] at h
    by_cases h0 : nodeErr (.mk k t n m l) = 0
    · rw [if_pos h0] at h
      obtain ⟨a, b⟩ := nodeErr_kid h0
      rw [kidP]; exact ⟨a, b, errL_kid l h⟩
    · rw [if_neg h0] at h; exact absurd h h0
theorem errL_kid : ∀ l : List Pat, errL l = 0 → kidL l
  | [], _ => by rw [kidL]; trivial
  | p :: l, h => by
    rw [errL] at h
    by_cases h0 : errW p = 0
    · rw [if_pos h0] at h
      rw [kidL]; exact ⟨err_kid p h0, errL_kid l h⟩
    · rw [if_neg h0] at h; exact absurd h h0
end
theorem patErr_kid {p : Pat} (h : patErr p = 0) : kidP p := by
  unfold patErr at h
  split at h
  · exact err_kid p h
  · exact absurd h (by decide)
theorem sumK_some : ∀ {l : List (Option Nat)} {n : Nat}, sumK l = some n → ∃ ns : List Nat, l = ns.map some ∧ ns.sum = n
  | [], n, h => ⟨[], rfl, by cases h; rfl⟩
  | none :: l, n, h => by cases h
  | some a :: l, n, h => by
    rw [sumK] at h
    cases e : sumK l with
    | none => rw [e] at h; cases h
    | some m =>
      rw [e] at h
      obtain ⟨ns, h1, h2⟩ := sumK_some e
      refine ⟨a :: ns, by rw [h1]; rfl, ?_⟩
      rw [List.sum_cons, h2]
      simpa using h
mutual
theorem draw_ok : ∀ (p : Pat) {n : Nat}, kidP p → placesP p = some n → DrawOk (drawP p) (langP p) n (n + 3 * nodesP p)
  | .mk k t n m l, N, hk, hp => by
    rw [kidP] at hk
    rw [placesP] at hp
    rw [drawP, langP, nodesP]
    unfold placesK at hp
    by_cases h1 : k = 1
    · subst h1
      rw [if_pos rfl] at hp
      cases hp
      have e : drawK 1 t n (drawL l) = catN ((litsOf 1 t n).map oneN) := rfl
      rw [e]
      have h := (lits_drawn (t.data.toList.map one1)).as (M := langK 1 t n (langL l)) (fun l => (lit_lang t.data.toList l).trans (by unfold langK; rw [if_pos rfl]))
      rw [List.length_map] at h
      have hs : t.data.toList.length = t.size := Array.length_toList
      rw [hs] at h
      exact h.bd (by omega)
    by_cases h2 : k = 2
    · subst h2
      rw [if_neg h1, if_pos rfl] at hp
      cases hp
      have e : drawK 2 t n (drawL l) = catN ((litsOf 2 t n).map oneN) := rfl
      rw [e]
      have h := (lits_drawn (List.replicate n.toNat allB)).as (M := langK 2 t n (langL l)) (fun l => (len_lang n.toNat l).trans (by unfold langK; rw [if_neg (by decide), if_pos rfl]))
      rw [List.length_replicate] at h
      exact h.bd (by omega)
    rw [if_neg h1, if_neg h2] at hp
    have e12 : ¬ (k = 1 ∨ k = 2) := fun h => h.elim h1 h2
    by_cases h3 : k = 3
    · subst h3
      rw [if_pos (Or.inl rfl)] at hp
      cases hp
      refine ((one_drawn (someB t)).as (M := langK 3 t n (langL l)) fun l => ?_).bd (by omega)
      unfold langK
      rw [if_neg (by decide), if_neg (by decide), if_pos rfl]
      simp only [oneL, someB, List.any_eq_true, beq_iff_eq]
      exact ⟨fun ⟨c, ⟨d, hd, e⟩, h⟩ => ⟨c, by rw [UInt8.toNat_inj.1 e]; exact hd, h⟩, fun ⟨c, hc, h⟩ => ⟨c, ⟨c, hc, rfl⟩, h⟩⟩
    by_cases h4 : k = 4
    · subst h4
      rw [if_pos (Or.inr (Or.inl rfl))] at hp
      cases hp
      refine ((one_drawn (notB (someB t))).as (M := langK 4 t n (langL l)) fun l => ?_).bd (by omega)
      unfold langK
      rw [if_neg (by decide), if_neg (by decide), if_neg (by decide), if_pos rfl]
      simp only [oneL, notB, someB, Bool.not_eq_true', List.any_eq_false, beq_iff_eq]
      exact ⟨fun ⟨c, h, e⟩ => ⟨c, fun hc => h c hc rfl, e⟩, fun ⟨c, hc, e⟩ => ⟨c, fun d hd he => hc (by rw [UInt8.toNat_inj.1 he]; exact hd), e⟩⟩
    by_cases h13 : k = 13
    · subst h13
      rw [if_pos (Or.inr (Or.inr rfl))] at hp
      cases hp
      exact (arb_drawn.as (M := langK 13 t n (langL l)) fun l => by simp [langK]).bd (by omega)
    rw [if_neg (by omega)] at hp
    by_cases h15 : k = 15
    · subst h15
      rw [if_pos rfl] at hp
      cases hp
      exact (nothing_drawn.as (M := langK 15 t n (langL l)) fun l => by simp [langK]).bd (by omega)
    rw [if_neg h15] at hp
    by_cases hc : k = 18 ∨ k = 19 ∨ k = 20
    · rw [if_pos hc] at hp
      obtain ⟨ns, e1, e2⟩ := sumK_some hp
      obtain ⟨xs, x1, x2, x3, x4, x5⟩ := drawL_ok l hk.2.2 e1
      rcases hc with rfl | rfl | rfl
      · have h := cat_drawn xs x5
        rw [x1, x2, x3, x4, e2] at h
        exact (h.as (M := langK 18 t n (langL l)) fun l => by simp [langK]).bd (by omega)
      · have h := alt_drawn xs x5
        rw [x1, x2, x3, x4, e2] at h
        exact (h.as (M := langK 19 t n (langL l)) fun l => by simp [langK]).bd (by omega)
      · have hl := hk.2.1 rfl
        have hxl : xs.length = 1 := by
          have := congrArg List.length x1
          rw [List.length_map, drawL_map, List.length_map, hl] at this; exact this
        obtain ⟨x, rfl⟩ := List.length_eq_one_iff.1 hxl
        have h := star_drawn (x5 x (by simp)) []
        have y1 : drawL l = [x.d] := x1.symm
        have y2 : langL l = [x.L] := x2.symm
        have y3 : ns = [x.nb] := x3.symm
        have y4 : x.bd = ns.sum + 3 * nodesL l := by rw [← x4]; simp
        have y5 : x.nb = N := by rw [← e2, y3]; simp
        have e : drawK 20 t n (drawL l) = starN [x.d] := by rw [y1]; rfl
        rw [e, y2]
        rw [y4, e2, y5] at h
        refine (h.as (M := langK 20 t n [x.L]) fun l => ?_).bd (by omega)
        have e3 : opsL false [x.L] = x.L := by funext l; simp [opsL, opL]
        simp [langK, e3]
    · rw [if_neg hc] at hp; cases hp
theorem drawL_ok : ∀ (l : List Pat) {ns : List Nat}, kidL l → placesL l = ns.map some → ∃ xs : List DK, xs.map (·.d) = drawL l ∧ xs.map (·.L) = langL l ∧ xs.map (·.nb) = ns ∧ (xs.map (·.bd)).sum = ns.sum + 3 * nodesL l ∧ ∀ x ∈ xs, DrawOk x.d x.L x.nb x.bd
  | [], ns, _, h => by
    cases ns with
    | nil => exact ⟨[], by rw [drawL]; rfl, by rw [langL]; rfl, rfl, by rw [nodesL]; rfl, fun x hx => by cases hx⟩
    | cons a l => rw [placesL] at h; cases h
  | p :: l, ns, hk, h => by
    rw [kidL] at hk
    rw [placesL] at h
    cases ns with
    | nil => cases h
    | cons a ns =>
      rw [List.map_cons] at h
      injection h with h1 h2
      obtain ⟨xs, e1, e2, e3, e4, e5⟩ := drawL_ok l hk.2 h2
      refine ⟨⟨drawP p, langP p, a, a + 3 * nodesP p⟩ :: xs, by rw [List.map_cons, e1, drawL], by rw [List.map_cons, e2, langL], by rw [List.map_cons, e3], ?_, fun x hx => ?_⟩
      · rw [List.map_cons, List.sum_cons, e4, List.sum_cons, nodesL]; show a + 3 * nodesP p + _ = _; omega
      · rcases List.mem_cons.1 hx with rfl | hx
        · exact draw_ok p hk.1 h1
        · exact e5 x hx
end
end Go.Proofs.YtkkdpafkafjfgaaDoor
