/- AutoWays: plain: the ways that a search tells end just where the pattern's language says. -/
import Derived.Test.YtkkdpafkafjfgaaDoorWwGlR
import Derived.Test.YtkkdpafkafjfgaaDoorWwScInv
namespace Go.Proofs.YtkkdpafkafjfgaaDoor
open Tr
set_option linter.unusedVariables false
set_option linter.unusedSimpArgs false
def waysT : Tr → List (Nat × List Gift)
  | .stop _ => []
  | .tick t => waysT t
  | .say _ t => waysT t
  | .way a g t => (a, g) :: waysT t
def markT : Tr → Mark
  | .stop m => m
  | .tick t => markT t
  | .say _ t => markT t
  | .way _ _ t => markT t
def Plain (t : Tr) : Prop := markT t = .done ∨ markT t = .deep
theorem mark_seq (u : Tr) : ∀ t : Tr, markT (seq t u) = if markT t = .done then markT u else markT t
  | .stop m => by
    rw [seq, markT]
    split <;> rfl
  | .tick t => by rw [seq, markT, markT, mark_seq u t]
  | .say g t => by rw [seq, markT, markT, mark_seq u t]
  | .way a g t => by rw [seq, markT, markT, mark_seq u t]
theorem ways_seqT (u : Tr) : ∀ t : Tr, markT t = .done → waysT (seq t u) = waysT t ++ waysT u
  | .stop m, h => by
    have h : m = .done := h
    rw [seq, if_pos h]; rfl
  | .tick t, h => by rw [seq, waysT, waysT, ways_seqT u t h]
  | .say g t, h => by rw [seq, waysT, waysT, ways_seqT u t h]
  | .way a g t, h => by rw [seq, waysT, waysT, ways_seqT u t h, List.cons_append]
theorem seq_done_iff {t u : Tr} : markT (seq t u) = .done ↔ markT t = .done ∧ markT u = .done := by
  rw [mark_seq]
  by_cases h : markT t = .done
  · rw [if_pos h]; exact ⟨fun k => ⟨h, k⟩, fun k => k.2⟩
  · rw [if_neg h]; exact ⟨fun k => absurd k h, fun k => absurd k.1 h⟩
theorem bind_done {f : Nat → List Gift → Tr} : ∀ {t : Tr}, markT (bind t f) = .done ↔ markT t = .done ∧ ∀ x ∈ waysT t, markT (f x.1 x.2) = .done
  | .stop m => by rw [Tr.bind, waysT]; exact ⟨fun h => ⟨h, fun x hx => by cases hx⟩, fun h => h.1⟩
  | .tick t => by rw [Tr.bind, markT, markT, waysT]; exact bind_done
  | .say g t => by rw [Tr.bind, markT, markT, waysT]; exact bind_done
  | .way a g t => by
    rw [Tr.bind, seq_done_iff, bind_done, markT, waysT]
    constructor
    · rintro ⟨h1, h2, h3⟩
      refine ⟨h2, fun x hx => ?_⟩
      rcases List.mem_cons.1 hx with rfl | hx
      · exact h1
      · exact h3 x hx
    · rintro ⟨h1, h2⟩
      exact ⟨h2 _ (List.mem_cons_self ..), h1, fun x hx => h2 x (List.mem_cons_of_mem _ hx)⟩
theorem mem_bind {f : Nat → List Gift → Tr} {x : Nat × List Gift} : ∀ {t : Tr}, markT (bind t f) = .done → (x ∈ waysT (bind t f) ↔ ∃ y ∈ waysT t, x ∈ waysT (f y.1 y.2))
  | .stop m, h => by rw [Tr.bind, waysT]; simp
  | .tick t, h => by rw [Tr.bind, waysT, waysT]; exact mem_bind h
  | .say g t, h => by rw [Tr.bind, waysT, waysT]; exact mem_bind h
  | .way a g t, h => by
    rw [Tr.bind] at h ⊢
    obtain ⟨h1, h2⟩ := seq_done_iff.1 h
    rw [ways_seqT _ _ h1, waysT, List.mem_append, mem_bind h2]
    constructor
    · rintro (h | ⟨y, hy, h⟩)
      · exact ⟨_, List.mem_cons_self .., h⟩
      · exact ⟨y, List.mem_cons_of_mem _ hy, h⟩
    · rintro ⟨y, hy, h⟩
      rcases List.mem_cons.1 hy with rfl | hy
      · exact Or.inl h
      · exact Or.inr ⟨y, hy, h⟩
theorem plain_seq {t u : Tr} (h : Plain t) (k : Plain u) : Plain (seq t u) := by
  unfold Plain at *
  rw [mark_seq]
  split
  · exact k
  · exact h
theorem plain_bind {f : Nat → List Gift → Tr} (hf : ∀ a g, Plain (f a g)) : ∀ {t : Tr}, Plain t → Plain (bind t f)
  | .stop m, h => h
  | .tick t, h => plain_bind (t := t) hf h
  | .say g t, h => plain_bind (t := t) hf h
  | .way a g t, h => plain_seq (hf a g) (plain_bind (t := t) hf h)
theorem plain_wayL (g : List Gift) : ∀ l, Plain (wayL g l)
  | [] => Or.inl rfl
  | a :: l => plain_wayL g l
theorem mem_wayL (g : List Gift) {b : Nat} {h : List Gift} : ∀ {l : List Nat}, (b, h) ∈ waysT (wayL g l) ↔ b ∈ l ∧ h = g
  | [] => by simp [wayL, naught, waysT]
  | a :: l => by
    rw [wayL, waysT, List.mem_cons, mem_wayL g, List.mem_cons, Prod.mk.injEq]
    constructor
    · rintro (⟨rfl, rfl⟩ | ⟨h1, h2⟩)
      · exact ⟨Or.inl rfl, rfl⟩
      · exact ⟨Or.inr h1, h2⟩
    · rintro ⟨rfl | h1, h2⟩
      · exact Or.inl ⟨rfl, h2⟩
      · exact Or.inr ⟨h1, h2⟩
def pieceL (s : List UInt8) (a b : Nat) : List UInt8 := (s.drop a).take (b - a)
theorem piece_len {s : List UInt8} {a b : Nat} (h : a ≤ b) (k : b ≤ s.length) : (pieceL s a b).length = b - a := by
  unfold pieceL; rw [List.length_take, List.length_drop]; omega
theorem piece_cat {s : List UInt8} {a e b : Nat} (h : a ≤ e) (k : e ≤ b) : pieceL s a b = pieceL s a e ++ pieceL s e b := by
  unfold pieceL
  rw [show b - a = (e - a) + (b - e) by omega, List.take_add, List.drop_drop, show a + (e - a) = e by omega]
theorem piece_nil (s : List UInt8) (a : Nat) : pieceL s a a = [] := by unfold pieceL; rw [Nat.sub_self, List.take_zero]
theorem piece_split {s x y : List UInt8} {a b : Nat} (h : a ≤ b) (k : b ≤ s.length) (e : pieceL s a b = x ++ y) : a + x.length ≤ b ∧ pieceL s a (a + x.length) = x ∧ pieceL s (a + x.length) b = y := by
  have hl := piece_len h k
  rw [e, List.length_append] at hl
  have h2 := piece_cat (s := s) (a := a) (e := a + x.length) (b := b) (by omega) (by omega)
  rw [e] at h2
  have := List.append_inj h2 (by rw [piece_len (by omega) (by omega)]; omega)
  exact ⟨by omega, this.1.symm, this.2.symm⟩
def Meets (s : List UInt8) (a : Nat) (T : Tr) (L : List UInt8 → Prop) : Prop := markT T = .done → ∀ b, (∃ h, (b, h) ∈ waysT T) ↔ a ≤ b ∧ b ≤ s.length ∧ L (pieceL s a b)
theorem meets_one {s : List UInt8} {a : Nat} (ha : a ≤ s.length) (g : List Gift) : Meets s a (one a g) (fun l => l = []) := fun _ b => by
  constructor
  · rintro ⟨h, hm⟩
    rw [one, waysT, waysT, List.mem_singleton, Prod.mk.injEq] at hm
    obtain ⟨rfl, _⟩ := hm
    exact ⟨Nat.le_refl _, ha, piece_nil s _⟩
  · rintro ⟨h1, h2, h3⟩
    have := piece_len h1 h2
    rw [h3] at this
    have : b = a := by simp at this; omega
    subst this
    exact ⟨g, by rw [one, waysT]; exact List.mem_cons_self ..⟩
theorem meets_seq {s : List UInt8} {a : Nat} {T U : Tr} {A B : List UInt8 → Prop} (h : Meets s a T A) (k : Meets s a U B) : Meets s a (seq T U) (fun l => A l ∨ B l) := fun hd b => by
  obtain ⟨h1, h2⟩ := seq_done_iff.1 hd
  rw [ways_seqT _ _ h1]
  have e1 := h h1 b
  have e2 := k h2 b
  constructor
  · rintro ⟨g, hg⟩
    rcases List.mem_append.1 hg with hg | hg
    · obtain ⟨x, y, z⟩ := e1.1 ⟨g, hg⟩; exact ⟨x, y, Or.inl z⟩
    · obtain ⟨x, y, z⟩ := e2.1 ⟨g, hg⟩; exact ⟨x, y, Or.inr z⟩
  · rintro ⟨x, y, z | z⟩
    · obtain ⟨g, hg⟩ := e1.2 ⟨x, y, z⟩; exact ⟨g, List.mem_append_left _ hg⟩
    · obtain ⟨g, hg⟩ := e2.2 ⟨x, y, z⟩; exact ⟨g, List.mem_append_right _ hg⟩
theorem meets_bind {s : List UInt8} {a : Nat} {T : Tr} {f : Nat → List Gift → Tr} {A B : List UInt8 → Prop} (h : Meets s a T A) (k : ∀ e g, a ≤ e → e ≤ s.length → Meets s e (f e g) B) : Meets s a (bind T f) (catL2 A B) := fun hd b => by
  obtain ⟨h1, h2⟩ := bind_done.1 hd
  constructor
  · rintro ⟨g, hg⟩
    obtain ⟨⟨e, ge⟩, hy, hx⟩ := (mem_bind hd).1 hg
    obtain ⟨x1, x2, x3⟩ := (h h1 e).1 ⟨ge, hy⟩
    obtain ⟨y1, y2, y3⟩ := (k e ge x1 x2 (h2 _ hy) b).1 ⟨g, hx⟩
    exact ⟨by omega, y2, _, _, piece_cat x1 y1, x3, y3⟩
  · rintro ⟨x1, x2, x, y, e, hx, hy⟩
    obtain ⟨p1, p2, p3⟩ := piece_split x1 x2 e
    obtain ⟨ge, hm⟩ := (h h1 (a + x.length)).2 ⟨by omega, by omega, by rw [p2]; exact hx⟩
    obtain ⟨g, hg⟩ := (k _ ge (by omega) (by omega) (h2 _ hm) b).2 ⟨p1, x2, by rw [p3]; exact hy⟩
    exact ⟨g, (mem_bind hd).2 ⟨_, hm, hg⟩⟩
theorem Meets.as {s : List UInt8} {a : Nat} {T : Tr} {A B : List UInt8 → Prop} (h : Meets s a T A) (e : ∀ l, A l ↔ B l) : Meets s a T B := fun hd b => by rw [h hd b, e]
theorem meets_none {s : List UInt8} {a : Nat} : Meets s a naught (fun _ => False) := fun _ b => by
  constructor
  · rintro ⟨h, hm⟩; cases hm
  · intro h; exact h.2.2.elim
def starN (A : List UInt8 → Prop) (l : List UInt8) : Prop := ∃ x y, l = x ++ y ∧ x ≠ [] ∧ A x ∧ StarL A y
theorem star_cases {A : Lang} {l : List UInt8} (h : StarL A l) : l = [] ∨ starN A l := by
  induction h with
  | nil => exact Or.inl rfl
  | @cons x y hx hy ih =>
    by_cases e : x = []
    · subst e; exact ih
    · exact Or.inr ⟨x, y, rfl, e, hx, hy⟩
theorem star_iff {A : Lang} {l : List UInt8} : StarL A l ↔ l = [] ∨ starN A l := by
  refine ⟨star_cases, ?_⟩
  rintro (rfl | ⟨x, y, rfl, _, hx, hy⟩)
  · exact .nil
  · exact .cons hx hy
theorem meets_star {s : List UInt8} {D : Nat → List Gift → Tr} {A : Lang} (h : ∀ a g, a ≤ s.length → Meets s a (D a g) A) : ∀ (c a : Nat) (g : List Gift), a ≤ s.length → Meets s a (star D c a g) (starN A)
  | 0, a, g, ha => fun hd => by cases hd
  | c + 1, a, g, ha => by
    rw [star]
    intro hd b
    obtain ⟨h1, h2⟩ := bind_done.1 hd
    have ih := meets_star h c
    constructor
    · rintro ⟨g', hg⟩
      obtain ⟨⟨e, ge⟩, hy, hx⟩ := (mem_bind hd).1 hg
      obtain ⟨x1, x2, x3⟩ := (h a g ha h1 e).1 ⟨ge, hy⟩
      have hz := h2 _ hy
      dsimp only at hx hz
      by_cases he : e = a
      · rw [if_pos he] at hx; cases hx
      · rw [if_neg he] at hx hz
        obtain ⟨y1, y2, y3⟩ := (meets_seq (meets_one x2 ge) (ih e ge x2) hz b).1 ⟨g', hx⟩
        refine ⟨by omega, y2, _, _, piece_cat x1 y1, fun hn => ?_, x3, star_iff.2 y3⟩
        have := piece_len x1 x2
        rw [hn] at this
        simp at this; omega
    · rintro ⟨x1, x2, x, y, e, hn, hx, hy⟩
      obtain ⟨p1, p2, p3⟩ := piece_split x1 x2 e
      have hl : 0 < x.length := by cases x with
        | nil => exact absurd rfl hn
        | cons _ _ => simp
      obtain ⟨ge, hm⟩ := (h a g ha h1 (a + x.length)).2 ⟨by omega, by omega, by rw [p2]; exact hx⟩
      have hz := h2 _ hm
      dsimp only at hz
      rw [if_neg (by omega)] at hz
      obtain ⟨g', hg⟩ := (meets_seq (meets_one (by omega) ge) (ih _ ge (by omega)) hz b).2 ⟨p1, x2, by rw [p3]; exact star_iff.1 hy⟩
      refine ⟨g', (mem_bind hd).2 ⟨_, hm, ?_⟩⟩
      dsimp only
      rw [if_neg (by omega)]
      exact hg
theorem plain_star {D : Nat → List Gift → Tr} (h : ∀ a g, Plain (D a g)) : ∀ (c a : Nat) (g : List Gift), Plain (star D c a g)
  | 0, a, g => Or.inr rfl
  | c + 1, a, g => by
    rw [star]
    refine plain_bind (fun e k => ?_) (h a g)
    split
    · exact Or.inl rfl
    · exact plain_seq (Or.inl rfl) (plain_star h c e k)
theorem meets_alts {s : List UInt8} {D : Pat → Nat → List Gift → Tr} {a : Nat} {g : List Gift} : ∀ l : List Pat, (∀ p ∈ l, Meets s a (D p a g) (langP p)) → Meets s a (alts D l a g) (opsL false (l.map langP))
  | [], h => meets_none
  | p :: l, h => by
    rw [alts, List.map_cons]
    refine (meets_seq (h p (List.mem_cons_self ..)) (meets_alts l fun q hq => h q (List.mem_cons_of_mem _ hq))).as fun x => ?_
    exact Iff.rfl
theorem meets_cats {s : List UInt8} {D : Pat → Nat → List Gift → Tr} : ∀ l : List Pat, (∀ p ∈ l, ∀ a g, a ≤ s.length → Meets s a (D p a g) (langP p)) → ∀ (a : Nat) (g : List Gift), a ≤ s.length → Meets s a (cats D l a g) (opsL true (l.map langP))
  | [], h, a, g, ha => meets_one ha g
  | p :: l, h, a, g, ha => by
    rw [cats, List.map_cons]
    exact meets_bind (h p (List.mem_cons_self ..) a g ha) fun e k _ he => meets_cats l (fun q hq => h q (List.mem_cons_of_mem _ hq)) e k he
theorem plain_alts {D : Pat → Nat → List Gift → Tr} {a : Nat} {g : List Gift} : ∀ l : List Pat, (∀ p ∈ l, Plain (D p a g)) → Plain (alts D l a g)
  | [], h => Or.inl rfl
  | p :: l, h => plain_seq (h p (List.mem_cons_self ..)) (plain_alts l fun q hq => h q (List.mem_cons_of_mem _ hq))
theorem plain_cats {D : Pat → Nat → List Gift → Tr} : ∀ l : List Pat, (∀ p ∈ l, ∀ a g, Plain (D p a g)) → ∀ (a : Nat) (g : List Gift), Plain (cats D l a g)
  | [], h, a, g => Or.inl rfl
  | p :: l, h, a, g => plain_bind (fun e k => plain_cats l (fun q hq => h q (List.mem_cons_of_mem _ hq)) e k) (h p (List.mem_cons_self ..) a g)
theorem sumK_mem : ∀ {l : List (Option Nat)}, sumK l ≠ none → ∀ x ∈ l, x ≠ none
  | y :: l, h, x, hx => by
    cases y with
    | none => exact absurd rfl h
    | some n =>
      rcases List.mem_cons.1 hx with rfl | hx
      · exact fun h => by cases h
      · refine sumK_mem (l := l) (fun e => h ?_) x hx
        show (sumK l).map (n + ·) = none
        rw [e]; rfl
def MadeP (p : Pat) : Prop := errW p = 0 ∧ placesP p ≠ none
theorem MadeP.kids {p : Pat} (h : MadeP p) (hk : p.kind = 18 ∨ p.kind = 19 ∨ p.kind = 20) : ∀ q ∈ p.kids, MadeP q := fun q hq => by
  refine ⟨(errW_node h.1).2 q hq, ?_⟩
  have h2 := h.2
  rw [placesP_eq, placesK, if_neg (by omega), if_neg (by omega), if_neg (by omega), if_neg (by omega), if_pos hk] at h2
  exact sumK_mem h2 _ (List.mem_map.2 ⟨q, hq, rfl⟩)
theorem MadeP.kind {p : Pat} (h : MadeP p) : p.kind = 1 ∨ p.kind = 2 ∨ p.kind = 3 ∨ p.kind = 4 ∨ p.kind = 13 ∨ p.kind = 15 ∨ p.kind = 18 ∨ p.kind = 19 ∨ p.kind = 20 := by
  have h2 := h.2
  rw [placesP_eq, placesK] at h2
  by_cases h1 : p.kind = 1 ∨ p.kind = 2 ∨ p.kind = 3 ∨ p.kind = 4 ∨ p.kind = 13 ∨ p.kind = 15 ∨ p.kind = 18 ∨ p.kind = 19 ∨ p.kind = 20
  · exact h1
  · rw [if_neg (by omega), if_neg (by omega), if_neg (by omega), if_neg (by omega), if_neg (by omega)] at h2
    exact absurd rfl h2
theorem meets_way {s : List UInt8} {a : Nat} {g : List Gift} {l : List Nat} {L : List UInt8 → Prop} (h : ∀ b, b ∈ l ↔ a ≤ b ∧ b ≤ s.length ∧ L (pieceL s a b)) : Meets s a (wayL g l) L := fun _ b => by
  rw [← h b]
  exact ⟨fun ⟨k, hk⟩ => ((mem_wayL g).1 hk).1, fun hb => ⟨g, (mem_wayL g).2 ⟨hb, rfl⟩⟩⟩
theorem lit_ends {s t : List UInt8} {a b : Nat} (ha : a ≤ s.length) : (b ∈ (if t.isPrefixOf (s.drop a) then some (a + t.length) else none).toList) ↔ a ≤ b ∧ b ≤ s.length ∧ pieceL s a b = t := by
  by_cases h : t.isPrefixOf (s.drop a) = true
  · rw [if_pos h]
    obtain ⟨r, hr⟩ := List.isPrefixOf_iff_prefix.1 h
    have hl : t.length + r.length = s.length - a := by rw [← List.length_append, hr, List.length_drop]
    rw [Option.toList_some, List.mem_singleton]
    constructor
    · rintro rfl
      refine ⟨by omega, by omega, ?_⟩
      unfold pieceL
      rw [← hr, show a + t.length - a = t.length by omega, List.take_left']
      rfl
    · rintro ⟨h1, h2, h3⟩
      have := piece_len h1 h2
      rw [h3] at this; omega
  · rw [if_neg h]
    constructor
    · intro h; cases h
    · rintro ⟨h1, h2, h3⟩
      refine absurd (List.isPrefixOf_iff_prefix.2 ⟨s.drop b, ?_⟩) h
      rw [← h3]
      unfold pieceL
      have := List.take_append_drop (b - a) (s.drop a)
      rwa [List.drop_drop, show a + (b - a) = b by omega] at this
theorem piece_one {s : List UInt8} {a b : Nat} {c : UInt8} (h : pieceL s a b = [c]) (h1 : a ≤ b) (h2 : b ≤ s.length) : b = a + 1 ∧ s[a]? = some c := by
  have hl := piece_len h1 h2
  rw [h] at hl
  have hb : b = a + 1 := by simp at hl; omega
  refine ⟨hb, ?_⟩
  have e : (pieceL s a b)[0]? = some c := by rw [h]; rfl
  unfold pieceL at e
  rwa [List.getElem?_take_of_lt (by omega), List.getElem?_drop, Nat.add_zero] at e
theorem piece_at {s : List UInt8} {a : Nat} {c : UInt8} (h : s[a]? = some c) : pieceL s a (a + 1) = [c] := by
  obtain ⟨hl, e⟩ := List.getElem?_eq_some_iff.1 h
  unfold pieceL
  rw [List.drop_eq_getElem_cons hl, e, show a + 1 - a = 1 by omega]; rfl
theorem end_byte {s : List UInt8} {a b : Nat} {f : UInt8 → Bool} : (b ∈ (match s[a]? with | some c => if f c then some (a + 1) else none | none => none : Option Nat).toList) ↔ a ≤ b ∧ b ≤ s.length ∧ ∃ c, f c = true ∧ pieceL s a b = [c] := by
  constructor
  · intro h
    split at h
    · rename_i c hc
      split at h
      · rename_i hf
        rw [Option.toList_some, List.mem_singleton] at h
        subst h
        exact ⟨by omega, (List.getElem?_eq_some_iff.1 hc).1, c, hf, piece_at hc⟩
      · cases h
    · cases h
  · rintro ⟨h1, h2, c, hf, hp⟩
    obtain ⟨rfl, hc⟩ := piece_one hp h1 h2
    rw [hc]
    dsimp only
    rw [if_pos hf]
    exact List.mem_singleton.2 rfl
theorem end_not {s : List UInt8} {a b : Nat} {f : UInt8 → Bool} : (b ∈ (match s[a]? with | some c => if f c then none else some (a + 1) | none => none : Option Nat).toList) ↔ a ≤ b ∧ b ≤ s.length ∧ ∃ c, f c = false ∧ pieceL s a b = [c] := by
  constructor
  · intro h
    split at h
    · rename_i c hc
      split at h
      · cases h
      · rename_i hf
        rw [Option.toList_some, List.mem_singleton] at h
        subst h
        exact ⟨by omega, (List.getElem?_eq_some_iff.1 hc).1, c, by simpa using hf, piece_at hc⟩
    · cases h
  · rintro ⟨h1, h2, c, hf, hp⟩
    obtain ⟨rfl, hc⟩ := piece_one hp h1 h2
    rw [hc]
    dsimp only
    rw [hf]
    exact List.mem_singleton.2 rfl
theorem kid0_eq {p : Pat} (h : 0 < p.kids.length) : p.kid 0 :: p.kids.drop 1 = p.kids := by
  unfold Pat.kid
  cases e : p.kids with
  | nil => rw [e] at h; simp at h
  | cons x l => rfl
theorem den_lang (R : List Rule) (s : ByteArray) : ∀ (n : Nat) (p : Pat), MadeP p → ∀ (a : Nat) (g : List Gift), Plain (den R s n p a g) ∧ (a ≤ s.data.toList.length → Meets s.data.toList a (den R s n p a g) (langP p))
  | 0, p, hp, a, g => ⟨Or.inr rfl, fun _ hd => by cases hd⟩
  | n + 1, p, hp, a, g => by
    show Plain (node R s (den R s n) n p a g) ∧ (_ → Meets s.data.toList a (node R s (den R s n) n p a g) (langP p))
    have ih := den_lang R s n
    have hn := node_kids (errW_node hp.1).1
    rw [langP_eq]
    unfold node
    dsimp only
    rcases hp.kind with h | h | h | h | h | h | h | h | h
    · simp only [h, endAt]
      refine ⟨plain_wayL g _, fun ha => (meets_way (L := fun l => l = p.text.data.toList) fun b => ?_).as fun l => by unfold langK; rw [if_pos rfl]⟩
      exact lit_ends ha
    · simp only [h, endAt]
      refine ⟨plain_wayL g _, fun ha => (meets_way (L := fun l => l.length = p.n.toNat) fun b => ?_).as fun l => by unfold langK; rw [if_neg (by decide), if_pos rfl]⟩
      simp only [if_true, show ((2 : Int) = 1) = False from eq_false (by decide), if_false]
      by_cases hl : a + p.num ≤ s.data.toList.length
      · rw [if_pos hl, Option.toList_some, List.mem_singleton]
        constructor
        · rintro rfl
          exact ⟨by omega, hl, by rw [piece_len (by omega) hl]; unfold Pat.num; omega⟩
        · rintro ⟨h1, h2, h3⟩
          rw [piece_len h1 h2] at h3
          unfold Pat.num; omega
      · rw [if_neg hl]
        constructor
        · intro h; cases h
        · rintro ⟨h1, h2, h3⟩
          rw [piece_len h1 h2] at h3
          unfold Pat.num at hl; omega
    · simp only [h, endAt]
      refine ⟨plain_wayL g _, fun ha => (meets_way (L := fun l => ∃ c, p.bytes.contains c = true ∧ l = [c]) fun b => ?_).as fun l => ?_⟩
      · simp only [if_true, show ((3 : Int) = 1) = False from eq_false (by decide), show ((3 : Int) = 2) = False from eq_false (by decide), if_false]
        exact end_byte
      · unfold langK
        rw [if_neg (by decide), if_neg (by decide), if_pos rfl]
        simp only [List.contains_iff_mem]
        exact Iff.rfl
    · simp only [h, endAt]
      refine ⟨plain_wayL g _, fun ha => (meets_way (L := fun l => ∃ c, p.bytes.contains c = false ∧ l = [c]) fun b => ?_).as fun l => ?_⟩
      · simp only [if_true, show ((4 : Int) = 1) = False from eq_false (by decide), show ((4 : Int) = 2) = False from eq_false (by decide), show ((4 : Int) = 3) = False from eq_false (by decide), if_false]
        exact end_not
      · unfold langK
        rw [if_neg (by decide), if_neg (by decide), if_neg (by decide), if_pos rfl]
        simp only [List.contains_eq_mem, decide_eq_false_iff_not]
        exact Iff.rfl
    · simp only [h]
      refine ⟨plain_wayL g _, fun ha => (meets_way (L := fun _ => True) fun b => ?_).as fun l => by unfold langK; rw [if_neg (by decide), if_neg (by decide), if_neg (by decide), if_neg (by decide), if_pos rfl]⟩
      unfold mores
      rw [List.mem_range'_1]
      constructor
      · rintro ⟨h1, h2⟩; exact ⟨h1, by omega, trivial⟩
      · rintro ⟨h1, h2, _⟩; exact ⟨h1, by omega⟩
    · simp only [h]
      exact ⟨Or.inl rfl, fun ha => meets_none.as fun l => by unfold langK; rw [if_neg (by decide), if_neg (by decide), if_neg (by decide), if_neg (by decide), if_neg (by decide), if_neg (by decide), if_neg (by decide), if_neg (by decide)]⟩
    · simp only [h]
      have hk := hp.kids (Or.inl h)
      exact ⟨plain_cats _ (fun q hq a g => (ih q (hk q hq) a g).1) a g, fun ha => (meets_cats _ (fun q hq a g ha => (ih q (hk q hq) a g).2 ha) a g ha).as fun l => by unfold langK; rw [if_neg (by decide), if_neg (by decide), if_neg (by decide), if_neg (by decide), if_neg (by decide), if_pos rfl]⟩
    · simp only [h]
      have hk := hp.kids (Or.inr (Or.inl h))
      have hl := (hn.1 (Or.inr h)).1
      simp only [kid0_eq (p := p) (by omega)]
      exact ⟨plain_alts _ fun q hq => (ih q (hk q hq) a g).1, fun ha => (meets_alts _ fun q hq => (ih q (hk q hq) a g).2 ha).as fun l => by unfold langK; rw [if_neg (by decide), if_neg (by decide), if_neg (by decide), if_neg (by decide), if_neg (by decide), if_neg (by decide), if_pos rfl]⟩
    · simp only [h]
      have hk := hp.kids (Or.inr (Or.inr h))
      have hl := hn.2 (Or.inl h)
      have hq := hk _ (kid_mem (p := p) (i := 0) (by omega))
      refine ⟨plain_seq (Or.inl rfl) (plain_star (fun a g => (ih _ hq a g).1) _ _ _), fun ha => (meets_seq (meets_one ha g) (meets_star (fun a g ha => (ih _ hq a g).2 ha) n a g ha)).as fun l => ?_⟩
      unfold langK
      rw [if_neg (by decide), if_neg (by decide), if_neg (by decide), if_neg (by decide), if_neg (by decide), if_neg (by decide), if_neg (by decide), if_pos rfl]
      have e : opsL false (p.kids.map langP) = langP (p.kid 0) := by
        rw [← kid0_eq (p := p) (by omega), List.drop_eq_nil_of_le (by omega)]
        funext l
        refine propext ?_
        show langP _ l ∨ False ↔ _
        rw [or_false]
      rw [e]
      exact star_iff.symm
theorem ways_list : ∀ (l : List (Nat × List Gift)) (c : Bool), waysT (listTr l c) = l ∧ markT (listTr l c) = if c then .cut else .done
  | [], c => by cases c <;> exact ⟨rfl, rfl⟩
  | x :: l, c => by
    have := ways_list l c
    refine ⟨?_, this.2⟩
    show x :: waysT (listTr l c) = _
    rw [this.1]
theorem ways_same : ∀ t : Tr, waysT (Tr.ways t) = waysT t ∧ markT (Tr.ways t) = markT t
  | .stop m => ⟨rfl, rfl⟩
  | .tick t => ways_same t
  | .say g t => ways_same t
  | .way a g t => by
    have := ways_same t
    refine ⟨?_, this.2⟩
    show (a, g) :: waysT (Tr.ways t) = _
    rw [this.1]; rfl
theorem whole_mark : ∀ t : Tr, whole t → markT t ≠ .deep
  | .stop m, h => h
  | .tick t, h => whole_mark t h
  | .say g t, h => whole_mark t h
  | .way a g t, h => whole_mark t h
theorem ways_lang {p : Pat} {s : ByteArray} {most fuel : Nat} {l : List Way} {c : Bool} (hp : MadeP p) (h : tell fuel most 0 (den [] s (fuel + 1) p 0 []) = (l, c, 0)) (hl : l.length < most) : (∃ x ∈ l, x.1 = s.size) ↔ langP p s.data.toList := by
  obtain ⟨hw, he⟩ := tell_whole _ _ _ _ _ h hl (Nat.zero_le _) (den_late [] s (fuel + 1) p 0 [])
  obtain ⟨h1, h2⟩ := den_lang [] s (fuel + 1) p hp 0 []
  have hm : markT (den [] s (fuel + 1) p 0 []) = .done := h1.resolve_right (whole_mark _ hw)
  have e : waysT (den [] s (fuel + 1) p 0 []) = l := by rw [← (ways_same _).1, he, (ways_list l c).1]
  have := h2 (Nat.zero_le _) hm s.size
  rw [e] at this
  have hz : s.data.toList.length = s.size := rfl
  constructor
  · rintro ⟨x, hx, hxe⟩
    have h3 := (this.1 ⟨x.2, by rw [← hxe]; exact hx⟩).2.2
    unfold pieceL at h3
    rwa [List.drop_zero, Nat.sub_zero, ← hz, List.take_length] at h3
  · intro hL
    obtain ⟨g, hg⟩ := this.2 ⟨Nat.zero_le _, by omega, by unfold pieceL; rw [List.drop_zero, Nat.sub_zero, ← hz, List.take_length]; exact hL⟩
    exact ⟨_, hg, rfl⟩
end Go.Proofs.YtkkdpafkafjfgaaDoor
