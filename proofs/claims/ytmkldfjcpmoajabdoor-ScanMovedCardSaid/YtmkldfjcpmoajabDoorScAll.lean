/- All ways that are told with some fuel, and patterns that have the same ones. Plain. -/
import Derived.Test.YtmkldfjcpmoajabDoorScRun
namespace Go.Proofs.YtmkldfjcpmoajabDoor
open Tr
set_option linter.unusedVariables false

abbrev Way := Nat × List Gift
def listTr : List Way → Bool → Tr
  | [], c => stop (if c then .cut else .done)
  | x :: l, c => way x.1 x.2 (listTr l c)
theorem listTr_inj : ∀ {l m : List Way} {c d : Bool}, listTr l c = listTr m d → l = m ∧ c = d
  | [], [], c, d, h => by
    refine ⟨rfl, ?_⟩
    revert h
    cases c <;> cases d <;> simp [listTr]
  | [], x :: m, c, d, h => by simp [listTr] at h
  | x :: l, [], c, d, h => by simp [listTr] at h
  | x :: l, y :: m, c, d, h => by
    simp only [listTr, way.injEq] at h
    obtain ⟨h1, h2, h3⟩ := h
    obtain ⟨rfl, rfl⟩ := listTr_inj h3
    exact ⟨by rw [show x = y from Prod.ext h1 h2], rfl⟩
theorem listTr_whole : ∀ (l : List Way) (c : Bool), whole (listTr l c)
  | [], c => by cases c <;> simp [listTr, whole]
  | x :: l, c => listTr_whole l c

/-- So many ways at most, with so much fuel: the ways, whether nobody may look further, and what is wrong (0: nothing). -/
def tell (fuel : Nat) : Nat → Nat → Tr → List Way × Bool × Int
  | 0, _, _ => ([], false, 0)
  | m + 1, k, .stop .done => ([], false, 0)
  | m + 1, k, .stop .cut => ([], true, 0)
  | m + 1, k, .stop .deep => ([], false, 99)
  | m + 1, k, .stop .name => ([], false, 7)
  | m + 1, k, .tick t => if k = fuel then ([], false, 10) else tell fuel (m + 1) (k + 1) t
  | m + 1, k, .say g t => tell fuel (m + 1) k t
  | m + 1, k, .way a g t => (match tell fuel m k t with | (l, c, e) => if e = 0 then ((a, g) :: l, c, 0) else ([], false, e))

theorem tell_whole {fuel : Nat} : ∀ (T : Tr) (m k : Nat) (l : List Way) (c : Bool), tell fuel m k T = (l, c, 0) → l.length < m → k ≤ fuel → late (fuel + 1 - k) T → whole T ∧ Tr.ways T = listTr l c
  | T, 0, k, l, c, h, hl, _, _ => by omega
  | .stop .done, m + 1, k, l, c, h, hl, hk, hd => by
    simp only [tell, Prod.mk.injEq] at h
    obtain ⟨rfl, rfl, _⟩ := h
    exact ⟨by simp [whole], rfl⟩
  | .stop .cut, m + 1, k, l, c, h, hl, hk, hd => by
    simp only [tell, Prod.mk.injEq] at h
    obtain ⟨rfl, rfl, _⟩ := h
    exact ⟨by simp [whole], rfl⟩
  | .stop .deep, m + 1, k, l, c, h, hl, hk, hd => by simp [tell] at h
  | .stop .name, m + 1, k, l, c, h, hl, hk, hd => by simp [tell] at h
  | .tick t, m + 1, k, l, c, h, hl, hk, hd => by
    rw [tell] at h
    split at h
    · simp at h
    · exact tell_whole t (m + 1) (k + 1) l c h hl (by omega) (late_mono (t := t) (show late (fuel + 1 - k - 1) t from hd) (by omega))
  | .say g t, m + 1, k, l, c, h, hl, hk, hd => tell_whole t (m + 1) k l c h hl hk hd
  | .way a g t, m + 1, k, l, c, h, hl, hk, hd => by
    rw [tell] at h
    obtain ⟨l', c', e', he⟩ : ∃ l' c' e', tell fuel m k t = (l', c', e') := ⟨_, _, _, rfl⟩
    rw [he] at h
    dsimp only at h
    split at h
    · rename_i e0
      subst e0
      simp only [Prod.mk.injEq] at h
      obtain ⟨rfl, rfl, _⟩ := h
      obtain ⟨h1, h2⟩ := tell_whole t m k l' c' he (by simp at hl; omega) hk hd
      exact ⟨h1, by show way a g (Tr.ways t) = _; rw [h2]; rfl⟩
    · rename_i e0
      simp only [Prod.mk.injEq] at h
      exact absurd h.2.2 e0

section
variable (R : List Rule) (s : ByteArray)
/-- Where one ends the other one does, and tells the same ways. -/
def Within (p q : Pat) : Prop := ∀ n a g, ∃ m, le (Tr.ways (den R s n p a g)) (Tr.ways (den R s m q a g))
/-- All ways, if they can be told. -/
def allOf (p : Pat) (a : Nat) : Option (List Way × Bool) := match tell 20000 4096 0 (den R s 20001 p a []) with | (l, c, e) => if e = 0 ∧ l.length < 4096 then some (l, c) else none
theorem allOf_some {p : Pat} {a : Nat} {l : List Way} {c : Bool} (h : allOf R s p a = some (l, c)) : whole (den R s 20001 p a []) ∧ Tr.ways (den R s 20001 p a []) = listTr l c := by
  unfold allOf at h
  obtain ⟨l', c', e', he⟩ : ∃ l' c' e', tell 20000 4096 0 (den R s 20001 p a []) = (l', c', e') := ⟨_, _, _, rfl⟩
  rw [he] at h
  dsimp only at h
  split at h
  · rename_i hh
    obtain ⟨rfl, hl⟩ := hh
    simp only [Option.some.injEq, Prod.mk.injEq] at h
    obtain ⟨rfl, rfl⟩ := h
    exact tell_whole _ 4096 0 _ _ he hl (by omega) (den_late R s 20001 p a [])
  · cases h
theorem allOf_deep {p : Pat} {a : Nat} {l : List Way} {c : Bool} (h : allOf R s p a = some (l, c)) {n : Nat} (hn : 20001 ≤ n) : den R s n p a [] = den R s 20001 p a [] :=
  eq_of_le (den_le R s hn p a []) (allOf_some R s h).1
/-- Patterns of which one is within the other have the same ways. -/
theorem allOf_within {p q : Pat} (hw : Within R s p q) {a : Nat} {l m : List Way} {c d : Bool} (h : allOf R s p a = some (l, c)) (k : allOf R s q a = some (m, d)) : l = m ∧ c = d := by
  obtain ⟨n, hn⟩ := hw 20001 a []
  obtain ⟨h1, h2⟩ := allOf_some R s h
  obtain ⟨k1, k2⟩ := allOf_some R s k
  have h3 : le (Tr.ways (den R s 20001 p a [])) (Tr.ways (den R s (max n 20001) q a [])) := le_trans _ _ _ hn (ways_le (den_le R s (by omega) q a []))
  have h4 := eq_of_le h3 (whole_ways.2 h1)
  rw [allOf_deep R s k (by omega), k2, h2] at h4
  obtain ⟨e1, e2⟩ := listTr_inj h4
  exact ⟨e1.symm, e2.symm⟩

/-- The ways alone, by the pattern's form. -/
def wden (n : Nat) (p : Pat) (a : Nat) (g : List Gift) : Tr := Tr.ways (den R s n p a g)
theorem wden_le {n m : Nat} (h : n ≤ m) (p : Pat) (a : Nat) (g : List Gift) : le (wden R s n p a g) (wden R s m p a g) := ways_le (den_le R s h p a g)
theorem wden_zero (p : Pat) (a : Nat) (g : List Gift) : wden R s 0 p a g = stop .deep := rfl
theorem ways_one (a : Nat) (g : List Gift) : Tr.ways (one a g) = one a g := rfl
theorem ways_naught : Tr.ways naught = naught := rfl
theorem ways_wayL (g : List Gift) : ∀ l : List Nat, Tr.ways (wayL g l) = wayL g l
  | [] => rfl
  | a :: l => by rw [wayL, Tr.ways, ways_wayL g l]
theorem ways_alts (D : Pat → Nat → List Gift → Tr) : ∀ l a g, Tr.ways (alts D l a g) = alts (fun p a g => Tr.ways (D p a g)) l a g
  | [], _, _ => rfl
  | p :: l, a, g => by rw [alts, ways_seq, ways_alts D l a g]; rfl
theorem ways_cats (D : Pat → Nat → List Gift → Tr) : ∀ l a g, Tr.ways (cats D l a g) = cats (fun p a g => Tr.ways (D p a g)) l a g
  | [], _, _ => rfl
  | p :: l, a, g => by
    rw [cats, ways_bind, cats]
    exact bind_congr (fun e h => ways_cats D l e h) _
theorem ways_star (D : Nat → List Gift → Tr) : ∀ c a g, Tr.ways (star D c a g) = star (fun a g => Tr.ways (D a g)) c a g
  | 0, _, _ => rfl
  | c + 1, a, g => by
    rw [star, ways_bind, star]
    refine bind_congr (fun e h => ?_) _
    split
    · rfl
    · rw [ways_seq, ways_one, ways_star D c e h]

theorem mk_kind (k : Int) (t : ByteArray) (n : Int) (m : ByteArray) (l : List Pat) : (Pat.mk k t n m l).kind = k := rfl
def catP (l : List Pat) : Pat := .mk 18 ByteArray.empty 0 ByteArray.empty l
def altP (l : List Pat) : Pat := .mk 19 ByteArray.empty 0 ByteArray.empty l
def someP (k : Int) (n : Int) (t : ByteArray) : Pat := .mk k t n ByteArray.empty []
def arbnoP (p : Pat) : Pat := .mk 20 ByteArray.empty 0 ByteArray.empty [p]
theorem wden_cat (n : Nat) (l : List Pat) (a : Nat) (g : List Gift) : wden R s (n + 1) (catP l) a g = cats (wden R s n) l a g := by
  show Tr.ways (node R s (den R s n) n (catP l) a g) = _
  rw [← show cats (fun p a g => Tr.ways (den R s n p a g)) l a g = cats (wden R s n) l a g from rfl, ← ways_cats]
  rfl
theorem wden_alt (n : Nat) (p : Pat) (l : List Pat) (a : Nat) (g : List Gift) : wden R s (n + 1) (altP (p :: l)) a g = alts (wden R s n) (p :: l) a g := by
  show Tr.ways (node R s (den R s n) n (altP (p :: l)) a g) = _
  rw [← show alts (fun p a g => Tr.ways (den R s n p a g)) (p :: l) a g = alts (wden R s n) (p :: l) a g from rfl, ← ways_alts]
  rfl
theorem wden_arbno (n : Nat) (p : Pat) (a : Nat) (g : List Gift) : wden R s (n + 1) (arbnoP p) a g = seq (one a g) (star (wden R s n p) n a g) := by
  show Tr.ways (node R s (den R s n) n (arbnoP p) a g) = _
  rw [← show star (fun a g => Tr.ways (den R s n p a g)) n a g = star (wden R s n p) n a g from rfl, ← ways_star]
  rfl
theorem wden_end (n : Nat) (p : Pat) (a : Nat) (g : List Gift) (h : inner p = false) (h2 : p.kind ≠ 15) (h3 : p.kind ≠ 16) (h4 : p.kind ≠ 17) (h5 : p.kind ≠ 23) : wden R s (n + 1) p a g = wayL g (endAt s.data.toList p a).toList := by
  show Tr.ways (node R s (den R s n) n p a g) = _
  obtain ⟨i1, i2, i3, i4, i5, i6, i7, i8, i9⟩ := inner_false h
  unfold node
  dsimp only
  rw [if_neg i1, if_neg i2, if_neg i3, if_neg h2, if_neg h3, if_neg h4, if_neg i4, if_neg i5, if_neg i6, if_neg i7, if_neg i8, if_neg h5, if_neg i9, ways_wayL]
theorem wden_fail (n : Nat) (k : Int) (t : ByteArray) (a : Nat) (g : List Gift) : wden R s (n + 1) (someP 15 k t) a g = naught := rfl

/-! Pieces and alternatives. -/
theorem within_refl (p : Pat) : Within R s p p := fun n a g => ⟨n, le_refl _⟩
theorem within_trans {p q r : Pat} (h : Within R s p q) (k : Within R s q r) : Within R s p r := fun n a g => by
  obtain ⟨m, h⟩ := h n a g
  obtain ⟨o, k⟩ := k m a g
  exact ⟨o, le_trans _ _ _ h k⟩
theorem cats_two (D : Pat → Nat → List Gift → Tr) (p q : Pat) (a : Nat) (g : List Gift) : cats D [p, q] a g = Tr.bind (D p a g) (D q) := by
  rw [cats]
  exact bind_congr (fun e h => by rw [cats]; exact bind_one _) _
theorem alts_two (D : Pat → Nat → List Gift → Tr) (p q : Pat) (a : Nat) (g : List Gift) : alts D [p, q] a g = seq (D p a g) (D q a g) := by
  rw [alts, alts, alts, naught, seq_right]
theorem within_step {p q : Pat} (k : Nat) (h : ∀ n a g, ∃ m, le (wden R s (n + k) p a g) (wden R s m q a g)) : Within R s p q := fun n a g => by
  obtain ⟨m, h⟩ := h n a g
  exact ⟨m, le_trans _ _ _ (wden_le R s (by omega) p a g) h⟩
theorem cat_left (p q r : Pat) : Within R s (catP [catP [p, q], r]) (catP [p, catP [q, r]]) := within_step R s 2 fun n a g => by
  refine ⟨n + 3, ?_⟩
  rw [wden_cat, wden_cat, cats_two, cats_two, wden_cat, cats_two, Tr.bind_assoc]
  refine le_bind (fun e h => ?_) (wden_le R s (by omega) p a g)
  rw [wden_cat, cats_two]
  exact le_bind (fun e h => wden_le R s (Nat.le_refl _) r e h) (wden_le R s (by omega) q e h)
theorem cat_three (p q r : Pat) : Within R s (catP [p, q, r]) (catP [p, catP [q, r]]) := within_step R s 1 fun n a g => by
  refine ⟨n + 2, ?_⟩
  rw [wden_cat, wden_cat, cats_two, cats]
  refine le_bind (fun e h => ?_) (wden_le R s (by omega) p a g)
  rw [wden_cat]
  exact le_refl _
theorem alt_left (p q r : Pat) : Within R s (altP [altP [p, q], r]) (altP [p, altP [q, r]]) := within_step R s 2 fun n a g => by
  refine ⟨n + 3, ?_⟩
  rw [wden_alt, wden_alt, alts_two, alts_two, wden_alt, wden_alt, alts_two, alts_two, Tr.seq_assoc]
  exact le_seq (le_seq (wden_le R s (Nat.le_refl _) r a g) (wden_le R s (by omega) q a g)) (wden_le R s (by omega) p a g)
theorem alt_three (p q r : Pat) : Within R s (altP [p, q, r]) (altP [p, altP [q, r]]) := within_step R s 1 fun n a g => by
  refine ⟨n + 2, ?_⟩
  rw [wden_alt, wden_alt, alts_two, alts]
  refine le_seq ?_ (wden_le R s (by omega) p a g)
  rw [wden_alt]
  exact le_refl _
theorem wden_empty (n : Nat) (a : Nat) (g : List Gift) : wden R s (n + 1) (someP 1 0 ByteArray.empty) a g = one a g := by
  rw [wden_end R s n _ a g rfl (by show (1 : Int) ≠ 15; omega) (by show (1 : Int) ≠ 16; omega) (by show (1 : Int) ≠ 17; omega) (by show (1 : Int) ≠ 23; omega)]
  rfl
theorem nothing_ahead (p : Pat) : Within R s (catP [someP 1 0 ByteArray.empty, p]) p := within_step R s 2 fun n a g => by
  refine ⟨n + 1, ?_⟩
  rw [wden_cat, cats_two, wden_empty, one_bind]
  exact le_refl _
theorem nothing_behind (p : Pat) : Within R s (catP [p, someP 1 0 ByteArray.empty]) p := within_step R s 2 fun n a g => by
  refine ⟨n + 1, ?_⟩
  rw [wden_cat, cats_two, bind_congr (fun e h => wden_empty R s n e h), bind_one]
  exact le_refl _
theorem fail_beside (p : Pat) : Within R s (altP [someP 15 0 ByteArray.empty, p]) p := within_step R s 2 fun n a g => by
  refine ⟨n + 1, ?_⟩
  rw [wden_alt, alts_two, wden_fail, seq_naught]
  exact le_refl _
theorem beside_fail (p : Pat) : Within R s (altP [p, someP 15 0 ByteArray.empty]) p := within_step R s 2 fun n a g => by
  refine ⟨n + 1, ?_⟩
  rw [wden_alt, alts_two, wden_fail, naught, seq_right]
  exact le_refl _
theorem fail_ahead (p : Pat) : Within R s (catP [someP 15 0 ByteArray.empty, p]) (someP 15 0 ByteArray.empty) := within_step R s 2 fun n a g => by
  refine ⟨1, ?_⟩
  rw [wden_cat, cats_two, wden_fail, wden_fail, none_bind]
  exact le_refl _
theorem cat_over (p q r : Pat) : Within R s (catP [altP [p, q], r]) (altP [catP [p, r], catP [q, r]]) := within_step R s 2 fun n a g => by
  refine ⟨n + 3, ?_⟩
  rw [wden_alt, alts_two, wden_cat, wden_cat, wden_cat, cats_two, cats_two, cats_two, wden_alt, alts_two, bind_seq]
  exact le_seq (le_bind (fun e h => wden_le R s (by omega) r e h) (wden_le R s (by omega) q a g)) (le_bind (fun e h => wden_le R s (by omega) r e h) (wden_le R s (by omega) p a g))
end
end Go.Proofs.YtmkldfjcpmoajabDoor
