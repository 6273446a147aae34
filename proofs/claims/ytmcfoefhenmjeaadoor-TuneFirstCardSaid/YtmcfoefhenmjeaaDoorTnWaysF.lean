/- With which bytes the ways of a pattern may begin: what the law wants of it. Plain. -/
import Derived.Test.YtmcfoefhenmjeaaDoorTnRight
import Derived.Test.YtmcfoefhenmjeaaDoorTnFiD
import Derived.Test.YtmcfoefhenmjeaaDoorScWays
namespace Go.Proofs.YtmcfoefhenmjeaaDoor
open Tr
set_option linter.unusedVariables false
theorem allw_and {P Q : Nat → Prop} : ∀ {t : Tr}, allw P t → allw Q t → allw (fun a => P a ∧ Q a) t
  | stop m, _, _ => trivial
  | tick t, h, k => allw_and (t := t) h k
  | say _ t, h, k => allw_and (t := t) h k
  | way a _ t, h, k => ⟨⟨h.1, k.1⟩, allw_and (t := t) h.2 k.2⟩
theorem pick {c : Prop} [Decidable c] {x y : Nat} (h : (if c then some x else none) = some y) : c ∧ y = x := by
  by_cases hc : c
  · rw [if_pos hc] at h; cases h; exact ⟨hc, rfl⟩
  · rw [if_neg hc] at h; cases h
section
variable {R : List Rule} {p : Pat} {s : ByteArray}
theorem ask_pat {fuel : Int} (h : askErr R p s fuel = 0) : patErr p = 0 := by
  unfold askErr at h
  by_cases e : patErr p = 0
  · exact e
  · rw [if_neg e] at h; exact absurd h e
end
section
variable {R : List Rule} {s : ByteArray}
theorem alts_fits {D : Pat → Nat → List Gift → Tr} {C : Nat → Prop} : ∀ {l : List Pat} {a : Nat} {g : List Gift}, (∀ p ∈ l, allw C (D p a g)) → allw C (alts D l a g)
  | [], a, g, _ => trivial
  | p :: l, a, g, h => by
    rw [alts]
    exact allw_seq (alts_fits fun q hq => h q (by simp [hq])) (h p (by simp))
theorem tell_allw {P : Nat → Prop} {fuel : Nat} : ∀ {t : Tr} {m k : Nat} {l : List Way} {c : Bool}, allw P t → tell fuel m k t = (l, c, 0) → ∀ x ∈ l, P x.1
  | t, 0, k, l, c, _, h, x, hx => by
    have : l = [] := by cases t <;> (simp only [tell] at h; cases h; rfl)
    rw [this] at hx; cases hx
  | stop y, m + 1, k, l, c, _, h, x, hx => by
    have : l = [] := by cases y <;> (simp only [tell] at h; cases h; try rfl)
    rw [this] at hx; cases hx
  | tick t, m + 1, k, l, c, ht, h, x, hx => by
    rw [tell] at h
    split at h
    · cases h
    · exact tell_allw (t := t) ht h x hx
  | say _ t, m + 1, k, l, c, ht, h, x, hx => by
    rw [tell] at h
    exact tell_allw (t := t) ht h x hx
  | way a g t, m + 1, k, l, c, ht, h, x, hx => by
    rw [tell] at h
    obtain ⟨l', c', e', he⟩ : ∃ l' c' e', tell fuel m k t = (l', c', e') := ⟨_, _, _, rfl⟩
    rw [he] at h
    dsimp only at h
    split at h
    · rename_i e0
      subst e0
      cases h
      rcases List.mem_cons.1 hx with rfl | hx
      · exact ht.1
      · exact tell_allw ht.2 he x hx
    · rename_i e0
      simp only [Prod.mk.injEq] at h
      exact absurd h.2.2 e0
theorem ways_allw {p : Pat} {a most fuel : Int} {P : Nat → Prop} (h : (waysOf R p s a most fuel).2.2 = 0) (hP : errW p = 0 → ∀ n : Nat, a = n → n ≤ s.size → allw P (den R s (fuel.toNat + 1) p n [])) : 0 ≤ a ∧ a ≤ s.size ∧ patErr p = 0 ∧ ∀ x ∈ (waysOf R p s a most fuel).1, P x.1 := by
  unfold waysOf at h ⊢
  by_cases h0 : askErr R p s fuel = 0
  · rw [if_pos h0] at h ⊢
    have he := ask_pat h0
    by_cases h1 : a < 0 ∨ (s.size : Int) < a ∨ most < 0 ∨ 4096 < most
    · rw [if_pos h1] at h; cases h
    · rw [if_neg h1] at h ⊢
      refine ⟨by omega, by omega, he, ?_⟩
      obtain ⟨l, c, e, hh⟩ : ∃ l c e, tell fuel.toNat most.toNat 0 (den R s (fuel.toNat + 1) p a.toNat []) = (l, c, e) := ⟨_, _, _, rfl⟩
      rw [hh] at h ⊢
      obtain rfl : e = 0 := h
      exact tell_allw (hP ((patErr_iff p).1 he).1 a.toNat (by omega) (by omega)) hh
  · rw [if_neg h0] at h; exact absurd h h0
def Beg (s : ByteArray) (F : Fi) (a e : Nat) : Prop := (e = a → F.2 = true) ∧ (a < e → ∃ c, s.data.toList[a]? = some c ∧ F.1 c.toNat = true)
theorem beg_cat {F f : Fi} {a x y : Nat} (ha : a ≤ x) (hx : x ≤ y) (h : Beg s F a x) (k : Beg s f x y) : Beg s (catF F f) a y := by
  unfold catF
  by_cases e : F.2 = true
  · rw [if_pos e]
    refine ⟨fun hy => k.1 (by omega), fun hy => ?_⟩
    by_cases hxa : x = a
    · subst hxa
      obtain ⟨c, h1, h2⟩ := k.2 hy
      exact ⟨c, h1, by show (F.1 c.toNat || f.1 c.toNat) = true; rw [h2, Bool.or_true]⟩
    · obtain ⟨c, h1, h2⟩ := h.2 (by omega)
      exact ⟨c, h1, by show (F.1 c.toNat || f.1 c.toNat) = true; rw [h2, Bool.true_or]⟩
  · rw [if_neg e]
    refine ⟨fun hy => h.1 (by omega), fun hy => ?_⟩
    by_cases hxa : x = a
    · exact absurd (h.1 hxa) e
    · exact h.2 (by omega)
theorem beg_left {F f : Fi} {a e : Nat} (h : Beg s F a e) : Beg s (altF F f) a e :=
  ⟨fun k => by show (F.2 || f.2) = true; rw [h.1 k, Bool.true_or], fun k => by
    obtain ⟨c, h1, h2⟩ := h.2 k
    exact ⟨c, h1, by show (F.1 c.toNat || f.1 c.toNat) = true; rw [h2, Bool.true_or]⟩⟩
theorem beg_right {F f : Fi} {a e : Nat} (h : Beg s f a e) : Beg s (altF F f) a e :=
  ⟨fun k => by show (F.2 || f.2) = true; rw [h.1 k, Bool.or_true], fun k => by
    obtain ⟨c, h1, h2⟩ := h.2 k
    exact ⟨c, h1, by show (F.1 c.toNat || f.1 c.toNat) = true; rw [h2, Bool.or_true]⟩⟩
theorem beg_fold {a e : Nat} : ∀ {l : List Fi} {b : Fi}, Beg s b a e → Beg s (l.foldl altF b) a e
  | [], b, h => h
  | c :: l, b, h => beg_fold (l := l) (beg_left h)
theorem beg_mem {a e : Nat} : ∀ {l : List Fi} {b c : Fi}, c ∈ l → Beg s c a e → Beg s (l.foldl altF b) a e
  | x :: l, b, c, hc, h => by
    rw [List.foldl_cons]
    rcases List.mem_cons.1 hc with rfl | hc
    · exact beg_fold (beg_right h)
    · exact beg_mem hc h
theorem cats_beg {D : Pat → Nat → List Gift → Tr} {L a0 : Nat} (hD : ∀ p a g, a ≤ L → allw (fun e => a ≤ e ∧ e ≤ L) (D p a g)) : ∀ {l : List Pat}, (∀ p ∈ l, ∀ a g, a ≤ L → allw (Beg s (firstP p) a) (D p a g)) → ∀ (F : Fi) (a : Nat) (g : List Gift), a0 ≤ a → a ≤ L → Beg s F a0 a → allw (Beg s ((l.map firstP).foldl catF F) a0) (cats D l a g)
  | [], _, F, a, g, h0, ha, h => ⟨h, trivial⟩
  | p :: l, ih, F, a, g, h0, ha, h => by
    rw [cats]
    exact allw_bind (fun e k he => cats_beg hD (fun q hq => ih q (by simp [hq])) _ e k (by omega) he.2.2 (beg_cat h0 he.2.1 h he.1)) (allw_and (ih p (by simp) a g ha) (hD p a g ha))
theorem beg_any {a e : Nat} (h : a ≤ e ∧ e ≤ s.size) : Beg s (allS, true) a e := by
  refine ⟨fun _ => rfl, fun k => ?_⟩
  have : a < s.data.toList.length := by show a < s.size; omega
  exact ⟨_, List.getElem?_eq_getElem this, rfl⟩
theorem beg_here (a : Nat) (S : Nat → Bool) : Beg s (S, true) a a := ⟨fun _ => rfl, fun k => by omega⟩
theorem headB_list (t : ByteArray) : (headB t).data.toList = t.data.toList.take 1 := by
  unfold headB
  rw [ByteArray.data_extract, Array.toList_extract]
  show (t.data.toList.drop 0).take (min 1 t.size - 0) = _
  rw [List.drop_zero, Nat.sub_zero]
  have : t.size = t.data.toList.length := rfl
  rw [this]
  cases t.data.toList with
  | nil => rfl
  | cons c l => rw [show min 1 (c :: l).length = 1 by rw [List.length_cons]; omega]
theorem end_beg {p : Pat} (h : NodeOk p) (hk : p.kind = 1 ∨ p.kind = 2 ∨ p.kind = 3 ∨ p.kind = 4 ∨ p.kind = 5 ∨ p.kind = 6 ∨ p.kind = 10 ∨ p.kind = 11) {a x : Nat} (fs : List Fi) (hb : a ≤ x ∧ x ≤ s.size) (hx : endAt s.data.toList p a = some x) : Beg s (firstK p.kind p.text p.n fs) a x := by
  unfold endAt at hx
  unfold firstK
  have hlen : a < x → ∃ c, s.data.toList[a]? = some c ∧ ∃ r, s.data.toList.drop a = c :: r := fun k => by
    have : a < s.data.toList.length := by show a < s.size; omega
    exact ⟨_, List.getElem?_eq_getElem this, _, List.drop_eq_getElem_cons this⟩
  by_cases e1 : p.kind = 1
  · rw [if_pos e1] at hx ⊢
    obtain ⟨h1, h2⟩ := pick hx
    have h1 : p.text.data.toList.isPrefixOf (s.data.toList.drop a) = true := h1
    have h2 : x = a + p.text.size := h2
    refine ⟨fun e => by show (p.text.size == 0) = true; rw [beq_iff_eq]; omega, fun hlt => ?_⟩
    obtain ⟨c, h3, r, h4⟩ := hlen hlt
    refine ⟨c, h3, ?_⟩
    show setOf (headB p.text).data.toList c.toNat = true
    rw [setOf_iff, headB_list]
    cases ht : p.text.data.toList with
    | nil =>
      have : p.text.size = 0 := by show p.text.data.toList.length = 0; rw [ht]; rfl
      omega
    | cons d u =>
      rw [ht, h4, List.isPrefixOf_cons_cons, Bool.and_eq_true, beq_iff_eq] at h1
      rw [h1.1]; simp
  rw [if_neg e1] at hx ⊢
  by_cases e2 : p.kind = 2
  · rw [if_pos e2] at hx ⊢
    obtain ⟨_, h2⟩ := pick hx
    have h2 : x = a + p.n.toNat := h2
    have h3 : 0 ≤ p.n := (h.num (Or.inl e2)).1
    by_cases hn : p.n = 0
    · rw [if_pos hn]
      exact ⟨fun _ => rfl, fun k => by omega⟩
    · rw [if_neg hn]
      refine ⟨fun e => by omega, fun hlt => ?_⟩
      obtain ⟨c, h3, _⟩ := hlen hlt
      exact ⟨c, h3, rfl⟩
  rw [if_neg e2] at hx ⊢
  by_cases e3 : p.kind = 3
  · rw [if_pos e3] at hx
    rw [if_pos (Or.inl e3)]
    split at hx
    · rename_i c hc
      obtain ⟨h1, h2⟩ := pick hx
      refine ⟨fun e => by omega, fun _ => ⟨c, hc, ?_⟩⟩
      show setOf p.text.data.toList c.toNat = true
      rw [setOf_iff]
      exact List.contains_iff_mem.1 h1
    · cases hx
  rw [if_neg e3] at hx
  by_cases e4 : p.kind = 4
  · rw [if_pos e4] at hx
    rw [if_neg (by omega), if_pos e4]
    split at hx
    · rename_i c hc
      split at hx
      · cases hx
      · rename_i hn
        cases hx
        refine ⟨fun e => by omega, fun _ => ⟨c, hc, ?_⟩⟩
        show (!setOf p.text.data.toList c.toNat) = true
        rw [Bool.not_eq_true', ← Bool.not_eq_true, setOf_iff]
        exact fun hm => hn (List.contains_iff_mem.2 hm)
    · cases hx
  rw [if_neg e4] at hx
  by_cases e5 : p.kind = 5
  · rw [if_pos e5] at hx
    rw [if_pos (Or.inr e5)]
    obtain ⟨h1, h2⟩ := pick hx
    refine ⟨fun e => by omega, fun hlt => ?_⟩
    obtain ⟨c, h3, r, h4⟩ := hlen hlt
    refine ⟨c, h3, ?_⟩
    show setOf p.text.data.toList c.toNat = true
    rw [setOf_iff]
    rw [h4, List.takeWhile_cons] at h1
    split at h1
    · rename_i hc; exact List.contains_iff_mem.1 hc
    · simp at h1
  rw [if_neg e5] at hx
  rw [if_neg (by omega), if_neg e4]
  by_cases e6 : p.kind = 6
  · rw [if_pos e6] at hx
    rw [if_pos e6]
    obtain ⟨h1, h2⟩ := pick hx
    refine ⟨fun _ => rfl, fun hlt => ?_⟩
    obtain ⟨c, h3, r, h4⟩ := hlen hlt
    refine ⟨c, h3, ?_⟩
    show (!setOf p.text.data.toList c.toNat) = true
    rw [Bool.not_eq_true', ← Bool.not_eq_true, setOf_iff]
    intro hm
    rw [h4, List.takeWhile_cons, if_neg (by rw [show p.bytes = p.text.data.toList from rfl, List.contains_iff_mem.2 hm]; simp)] at h2
    rw [List.length_nil] at h2
    omega
  rw [if_neg e6, if_neg (by omega), if_neg (by omega)] at hx
  rw [if_neg e6, if_pos (by omega)]
  by_cases e10 : p.kind = 10
  · rw [if_pos e10] at hx
    obtain ⟨h1, h2⟩ := pick hx
    rw [h2]; exact beg_here a _
  rw [if_neg e10, if_pos (by omega)] at hx
  obtain ⟨h1, h2⟩ := pick hx
  rw [h2]; exact beg_here a _
theorem pair_head {l : List UInt8} {a x : Nat} (h : x ∈ pairEnds l 0 a) : ∃ c r, l = c :: r ∧ c ≠ 41 := by
  cases l with
  | nil => simp [pairEnds] at h
  | cons c l =>
    refine ⟨c, l, rfl, fun e => ?_⟩
    subst e
    simp [pairEnds] at h
theorem den_beg : ∀ (n : Nat) (p : Pat), errW p = 0 → ∀ (a : Nat) (g : List Gift), a ≤ s.size → allw (Beg s (firstP p) a) (den R s n p a g)
  | 0, p, _, a, g, ha => trivial
  | n + 1, .mk k t z m l, hp, a, g, ha => by
    obtain ⟨h1, h2⟩ := (errW_iff _).1 hp
    have ih : ∀ q ∈ l, ∀ a g, a ≤ s.size → allw (Beg s (firstP q) a) (den R s n q a g) := fun q hq a g ha => den_beg n q (h2 q hq) a g ha
    have hpl := den_places (R := R) (s := s) (n + 1) (.mk k t z m l) a g ha
    have hk : 1 ≤ k ∧ k ≤ 24 := h1.kind
    rw [firstP, firstL_map]
    by_cases c1 : k = 1 ∨ k = 2 ∨ k = 3 ∨ k = 4 ∨ k = 5 ∨ k = 6 ∨ k = 10 ∨ k = 11
    · rw [den_end R s (p := .mk k t z m l) (by show k = 1 ∨ k = 2 ∨ k = 3 ∨ k = 4 ∨ k = 5 ∨ k = 6 ∨ k = 8 ∨ k = 9 ∨ k = 10 ∨ k = 11 ∨ k = 12; omega)]
      refine allw_wayL (fun x hx => ?_)
      have hx : endAt s.data.toList (.mk k t z m l) a = some x := by simpa using hx
      exact end_beg h1 c1 _ (endAt_bd ha hx) hx
    by_cases c2 : k = 15
    · rw [den_fail R s (p := .mk k t z m l) c2]; trivial
    by_cases c3 : k = 17
    · rw [den_abort R s (p := .mk k t z m l) c3]; trivial
    by_cases c4 : k = 16
    · subst c4
      show allw _ (node R s (den R s n) n (.mk 16 t z m l) a g)
      have : Beg s (firstK 16 t z (l.map firstP)) a a := beg_here a _
      exact ⟨this, trivial⟩
    by_cases c5 : k = 23
    · subst c5
      show allw _ (node R s (den R s n) n (.mk 23 t z m l) a g)
      have : Beg s (firstK 23 t z (l.map firstP)) a a := beg_here a _
      exact ⟨this, trivial⟩
    by_cases c6 : k = 14
    · subst c6
      show allw _ (wayL g (pairEnds (s.data.toList.drop a) 0 a))
      refine allw_wayL (fun x hx => ?_)
      have h3 := pairEnds_mem hx
      obtain ⟨c, r, h4, h5⟩ := pair_head hx
      show Beg s ((fun i => allS i && !setOf [41] i), false) a x
      refine ⟨fun e => by omega, fun _ => ⟨c, ?_, ?_⟩⟩
      · have h6 : (s.data.toList.drop a)[0]? = some c := by rw [h4]; rfl
        rw [List.getElem?_drop] at h6
        exact h6
      · show (allS c.toNat && !setOf [41] c.toNat) = true
        have : setOf [41] c.toNat = false := by
          rw [← Bool.not_eq_true, setOf_iff, List.mem_singleton]; exact h5
        rw [this]; rfl
    by_cases c7 : k = 18
    · rw [den_cat R s (p := .mk k t z m l) c7]
      subst c7
      show allw (Beg s ((l.map firstP).foldl catF (emptyS, true)) a) (cats (den R s n) l a g)
      exact cats_beg (fun p a g ha => den_places n p a g ha) ih _ a g (Nat.le_refl _) ha (beg_here a _)
    by_cases c8 : k = 19
    · rw [den_alt R s (p := .mk k t z m l) c8]
      subst c8
      have hl := (h1.many (Or.inr rfl)).1
      have hl : 2 ≤ l.length := hl
      rw [kid_zero (.mk 19 t z m l) (show 0 < l.length by omega)]
      show allw (Beg s ((l.map firstP).foldl altF (emptyS, false)) a) (alts (den R s n) l a g)
      exact alts_fits (fun p hp => allw_mono (fun e he => beg_mem (List.mem_map.2 ⟨p, hp, rfl⟩) he) (ih p hp a g ha))
    have h20 : k = 20 ∨ k = 21 ∨ k = 22 → ∃ q, l = [q] := fun h => by
      have : l.length = 1 := h1.only h
      match l, this with
      | [q], _ => exact ⟨q, rfl⟩
    by_cases c9 : k = 20
    · rw [den_arbno R s (p := .mk k t z m l) c9]
      subst c9
      obtain ⟨q, rfl⟩ := h20 (Or.inl rfl)
      show allw (Beg s ((firstP q).1, true) a) (seq (one a g) (star (den R s n q) n a g))
      refine allw_seq ?_ ⟨beg_here a _, trivial⟩
      cases n with
      | zero => trivial
      | succ n =>
        rw [star]
        refine allw_bind (fun b k hb => ?_) (allw_and (ih q (by simp) a g ha) (den_places (n + 1) q a g ha))
        by_cases e : b = a
        · rw [if_pos e]; trivial
        · rw [if_neg e]
          obtain ⟨c, k1, k2⟩ := hb.1.2 (by omega)
          have here : ∀ e, b ≤ e → Beg s ((firstP q).1, true) a e := fun e he => ⟨fun _ => rfl, fun _ => ⟨c, k1, k2⟩⟩
          exact allw_seq (allw_mono (fun e he => here e he.1) (star_places (fun a g ha => den_places (n + 1) q a g ha) n b k hb.2.2)) ⟨here b (Nat.le_refl _), trivial⟩
    by_cases c10 : k = 21
    · rw [den_cond R s (p := .mk k t z m l) c10]
      subst c10
      obtain ⟨q, rfl⟩ := h20 (by omega)
      refine allw_bind (P := Beg s (firstP q) a) (fun e h he => ?_) (ih q (by simp) a g ha)
      exact ⟨he, trivial⟩
    by_cases c11 : k = 22
    · rw [den_imm R s (p := .mk k t z m l) c11]
      subst c11
      obtain ⟨q, rfl⟩ := h20 (by omega)
      refine allw_bind (P := Beg s (firstP q) a) (fun e h he => ?_) (ih q (by simp) a g ha)
      exact ⟨he, trivial⟩
    have hm : firstK k t z (l.map firstP) = (allS, true) := by
      unfold firstK
      rw [if_neg (by omega), if_neg (by omega), if_neg (by omega), if_neg (by omega), if_neg (by omega), if_neg (by omega), if_neg (by omega), if_neg (by omega), if_neg (by omega), if_neg (by omega), if_neg (by omega), if_neg (by omega)]
    rw [hm]
    exact allw_mono (fun e he => beg_any he) hpl
end
end Go.Proofs.YtmcfoefhenmjeaaDoor
