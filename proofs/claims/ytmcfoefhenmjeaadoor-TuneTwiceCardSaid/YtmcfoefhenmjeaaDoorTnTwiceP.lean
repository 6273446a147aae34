/- What is simple stays as it is: lists. Plain. -/
import Derived.Test.YtmcfoefhenmjeaaDoorTnRight
/-! What is simple stays as it is: lists. Plain. -/
namespace Go.Proofs.YtmcfoefhenmjeaaDoor
set_option linter.unusedVariables false
theorem flatP_id {k : Int} : ∀ {l : List Pat}, (∀ p ∈ l, p.kind ≠ k) → flatP k l = l
  | [], _ => rfl
  | p :: l, h => by
    rw [flatP, if_neg (h p (by simp)), flatP_id (fun q hq => h q (by simp [hq]))]; rfl
/-- Only the last one is such. -/
def LastOnly (f : Pat → Bool) : List Pat → Prop
  | [] => True
  | [_] => True
  | p :: q :: l => f p = false ∧ LastOnly f (q :: l)
theorem upToP_id {f : Pat → Bool} : ∀ {l : List Pat}, LastOnly f l → upToP f l = l
  | [], _ => rfl
  | [p], _ => by
    rw [upToP]
    cases f p <;> rfl
  | p :: q :: l, h => by
    rw [upToP, h.1, upToP_id h.2]; rfl
theorem upToP_last {f : Pat → Bool} : ∀ (l : List Pat), LastOnly f (upToP f l)
  | [] => trivial
  | p :: l => by
    rw [upToP]
    cases h : f p with
    | true => exact trivial
    | false =>
      have ih := upToP_last (f := f) l
      show LastOnly f (p :: upToP f l)
      cases hu : upToP f l with
      | nil => exact trivial
      | cons q m => rw [hu] at ih; exact ⟨h, ih⟩
/-- No neighbours that become one. -/
def Apart (two : Pat → Pat → Option Pat) : List Pat → Prop
  | [] => True
  | [_] => True
  | p :: q :: l => two p q = none ∧ Apart two (q :: l)
theorem mergeF_id {two : Pat → Pat → Option Pat} : ∀ {l : List Pat} {a : Pat}, Apart two (a :: l) → mergeF two a l = a :: l
  | [], a, _ => rfl
  | b :: l, a, h => by
    rw [mergeF, h.1]
    show a :: mergeF two b l = _
    rw [mergeF_id h.2]
theorem mergedP_id {two : Pat → Pat → Option Pat} {l : List Pat} (h : Apart two l) : mergedP two l = l := by
  cases l with
  | nil => rfl
  | cons a l => exact mergeF_id h
theorem mergeF_apart {two : Pat → Pat → Option Pat} {C : Pat → Prop} (hC : ∀ a b q, C a → C b → two a b = some q → C q) (h : ∀ a b c q, C a → C b → C c → two a b = none → two b c = some q → two a q = none) : ∀ (l : List Pat) (a : Pat), C a → (∀ p ∈ l, C p) → Apart two (mergeF two a l) ∧ ∀ x, C x → two x a = none → Apart two (x :: mergeF two a l)
  | [], a, _, _ => ⟨trivial, fun x _ hx => ⟨hx, trivial⟩⟩
  | b :: l, a, ha, hl => by
    rw [mergeF]
    have hb : C b := hl b (by simp)
    have hl' : ∀ p ∈ l, C p := fun p hp => hl p (by simp [hp])
    cases e : two a b with
    | none =>
      have ih := mergeF_apart hC h l b hb hl'
      exact ⟨ih.2 a ha e, fun x _ hx => ⟨hx, ih.2 a ha e⟩⟩
    | some q =>
      have ih := mergeF_apart hC h l q (hC a b q ha hb e) hl'
      exact ⟨ih.1, fun x hx0 hx => ih.2 x hx0 (h x a b q hx0 ha hb hx e)⟩
theorem mergedP_apart {two : Pat → Pat → Option Pat} {C : Pat → Prop} (hC : ∀ a b q, C a → C b → two a b = some q → C q) (h : ∀ a b c q, C a → C b → C c → two a b = none → two b c = some q → two a q = none) (l : List Pat) (hl : ∀ p ∈ l, C p) : Apart two (mergedP two l) := by
  cases l with
  | nil => trivial
  | cons a l => exact (mergeF_apart hC h l a (hl a (by simp)) (fun p hp => hl p (by simp [hp]))).1
theorem pieces_far (a b c q : Pat) (ha : errW a = 0) (hb : errW b = 0) (hc : errW c = 0) (h1 : piecesP a b = none) (h2 : piecesP b c = some q) : piecesP a q = none := by
  have nc := ((errW_iff _).1 hc).1.num
  unfold piecesP at h1 h2 ⊢
  split at h2
  · rename_i hq
    cases h2
    split at h1
    · cases h1
    rename_i h3
    rw [if_neg, if_neg]
    · intro h; exact absurd (show (1 : Int) = 2 from h.2.1) (by decide)
    · intro h
      refine h3 ⟨h.1, hq.1, ?_⟩
      have h4 : a.text.size + (b.text ++ c.text).size ≤ 65536 := h.2.2
      rw [ByteArray.size_append] at h4
      omega
  · split at h2
    · rename_i hq
      cases h2
      split at h1
      · cases h1
      split at h1
      · cases h1
      rename_i h3
      rw [if_neg, if_neg]
      · intro h
        have h4 : a.n + (b.n + c.n) ≤ 65536 := h.2.2
        have := nc (Or.inl hq.2.1)
        exact h3 ⟨h.1, hq.1, by omega⟩
      · intro h; exact absurd (show (2 : Int) = 1 from h.2.1) (by decide)
    · cases h2
end Go.Proofs.YtmcfoefhenmjeaaDoor
/-! What is simple stays as it is. Plain. -/
namespace Go.Proofs.YtmcfoefhenmjeaaDoor
set_option linter.unusedVariables false
theorem lastOnly_cons {f : Pat → Bool} {a : Pat} {l : List Pat} (h : f a = false) (k : LastOnly f l) : LastOnly f (a :: l) := by
  cases l with
  | nil => trivial
  | cons b l => exact ⟨h, k⟩
theorem lastOnly_tail {f : Pat → Bool} {a : Pat} {l : List Pat} (h : LastOnly f (a :: l)) : LastOnly f l := by
  cases l with
  | nil => trivial
  | cons b l => exact h.2
theorem mergeF_lastOnly {f : Pat → Bool} {two : Pat → Pat → Option Pat} (h2 : ∀ a b q, two a b = some q → f q = false) : ∀ (l : List Pat) (a : Pat), LastOnly f (a :: l) → LastOnly f (mergeF two a l)
  | [], a, h => trivial
  | b :: l, a, h => by
    rw [mergeF]
    split
    · rename_i q hq
      exact mergeF_lastOnly h2 l q (lastOnly_cons (h2 _ _ _ hq) (lastOnly_tail h.2))
    · exact lastOnly_cons h.1 (mergeF_lastOnly h2 l b h.2)
theorem mergedP_lastOnly {f : Pat → Bool} {two : Pat → Pat → Option Pat} (h2 : ∀ a b q, two a b = some q → f q = false) {l : List Pat} (h : LastOnly f l) : LastOnly f (mergedP two l) := by
  cases l with
  | nil => trivial
  | cons a l => exact mergeF_lastOnly h2 l a h
theorem pieces_goes (a b q : Pat) (h : piecesP a b = some q) : endsB q = false := by
  unfold piecesP at h
  split at h
  · cases h; rfl
  · split at h
    · cases h; rfl
    · cases h
theorem others_goes (a b q : Pat) (h : othersP a b = some q) : abortB q = false := by
  unfold othersP at h
  split at h
  · cases h; rfl
  · cases h
theorem apart_sub {a b c : ByteArray} (h : ∀ x, x ∈ c.data.toList → x ∈ b.data.toList) (k : apartB a b = true) : apartB a c = true := by
  unfold apartB at k ⊢
  rw [List.all_eq_true] at k ⊢
  intro x hx
  have := k x hx
  rw [Bool.not_eq_true', List.contains_eq_mem, decide_eq_false_iff_not] at this ⊢
  exact fun hc => this (h x hc)
theorem others_far (a b c q : Pat) (h1 : othersP a b = none) (h2 : othersP b c = some q) : othersP a q = none := by
  unfold othersP at h1 h2 ⊢
  split at h2
  · rename_i hq
    cases h2
    split at h1
    · cases h1
    rename_i h3
    rw [if_neg]
    intro h
    refine h3 ⟨h.1, hq.1, apart_sub (fun x hx => ?_) h.2.2⟩
    show x ∈ (spell (b.text ++ c.text)).data.toList
    rw [spell_mem, data_append]
    exact List.mem_append.2 (Or.inl hx)
  · cases h2
theorem spell_two {a b : ByteArray} (ha : 0 < a.size) (hb : 0 < b.size) (h : apartB a b = true) : (spell (a ++ b)).size ≠ 1 := by
  intro e
  obtain ⟨x, hx⟩ := mem_of_pos ha
  obtain ⟨y, hy⟩ := mem_of_pos hb
  have hx' : x ∈ (spell (a ++ b)).data.toList := by rw [spell_mem, data_append]; exact List.mem_append.2 (Or.inl hx)
  have hy' : y ∈ (spell (a ++ b)).data.toList := by rw [spell_mem, data_append]; exact List.mem_append.2 (Or.inr hy)
  have hl : (spell (a ++ b)).data.toList.length = 1 := by rw [← size_data]; exact e
  match hs : (spell (a ++ b)).data.toList, hl with
  | [z], _ =>
    rw [hs, List.mem_singleton] at hx' hy'
    subst hx' hy'
    unfold apartB at h
    rw [List.all_eq_true] at h
    have := h _ hx
    rw [Bool.not_eq_true', List.contains_eq_mem, decide_eq_false_iff_not] at this
    exact this hy
/-- What is simple. -/
inductive NF : Pat → Prop
  | lit (t : ByteArray) : NF (litP t)
  | len (n : Int) (h : n ≠ 0) : NF (numP 2 n)
  | any (t : ByteArray) (h : spell t = t) (h1 : t.size ≠ 1) : NF (textP 3 t)
  | text (k : Int) (t : ByteArray) (hk : k = 4 ∨ k = 5 ∨ k = 6 ∨ k = 7) (h : spell t = t) : NF (textP k t)
  | num (k n : Int) (hk : k = 8 ∨ k = 10 ∨ k = 11) : NF (numP k n)
  | rtab (n : Int) (h : n ≠ 0) : NF (numP 9 n)
  | bare (k : Int) (hk : 12 ≤ k ∧ k ≤ 17) : NF (bareP k)
  | cat (l : List Pat) (h2 : 2 ≤ l.length) (h : ∀ q, q ∈ l → NF q) (h3 : ∀ q ∈ l, q.kind ≠ 18) (h4 : ∀ q ∈ l, emptyP q = false) (h5 : LastOnly endsB l) (h6 : Apart piecesP l) : NF (kidsP 18 l)
  | alt (l : List Pat) (h2 : 2 ≤ l.length) (h : ∀ q, q ∈ l → NF q) (h3 : ∀ q ∈ l, q.kind ≠ 19) (h4 : ∀ q ∈ l, failB q = false) (h5 : LastOnly abortB l) (h6 : Apart othersP l) : NF (kidsP 19 l)
  | arbno (q : Pat) (h : NF q) (h1 : emptyP q = false) (h2 : failB q = false) (h3 : ¬ (q.kind = 2 ∧ q.n = 1)) : NF (kidsP 20 [q])
  | cond (k : Int) (m : ByteArray) (q : Pat) (hk : k = 21 ∨ k = 22) (h : NF q) (h1 : endsB q = false) : NF (.mk k ByteArray.empty 0 m [q])
  | named (k : Int) (m : ByteArray) (hk : k = 23 ∨ k = 24) : NF (.mk k ByteArray.empty 0 m [])
theorem simpleL_id {l : List Pat} (h : ∀ q, q ∈ l → simple q = q) : simpleL l = l := by
  rw [simpleL_map]
  have : l.map simple = l.map id := List.map_congr_left (fun q hq => h q hq)
  rw [this, List.map_id]
theorem filter_id {f : Pat → Bool} {l : List Pat} (h : ∀ q ∈ l, f q = false) : (l.filter fun p => !f p) = l := by
  rw [List.filter_eq_self]
  intro q hq; rw [h q hq]; rfl
theorem single_many {k : Int} {z : Pat} {l : List Pat} (h : 2 ≤ l.length) : singleP k z l = kidsP k l := by
  match l, h with
  | a :: b :: l, _ => rfl
/-- Being simple, nothing changes. -/
theorem NF.simple_id {p : Pat} (h : NF p) : simple p = p := by
  induction h with
  | lit t => rfl
  | len n h => 
    show makeP 2 ByteArray.empty n ByteArray.empty [] = _
    unfold makeP
    rw [if_neg (by decide), if_pos rfl, if_neg h]
  | any t h h1 =>
    show makeP 3 t 0 ByteArray.empty [] = _
    unfold makeP
    rw [if_neg (by decide), if_neg (by decide), if_pos rfl, h, if_neg h1]
  | text k t hk h =>
    show makeP k t 0 ByteArray.empty [] = _
    unfold makeP
    rw [if_neg (by omega), if_neg (by omega), if_neg (by omega), if_pos hk, h]
  | num k n hk =>
    show makeP k ByteArray.empty n ByteArray.empty [] = _
    unfold makeP
    rw [if_neg (by omega), if_neg (by omega), if_neg (by omega), if_neg (by omega), if_pos hk]
  | rtab n h =>
    show makeP 9 ByteArray.empty n ByteArray.empty [] = _
    unfold makeP
    rw [if_neg (by omega), if_neg (by omega), if_neg (by omega), if_neg (by omega), if_neg (by omega), if_pos rfl, if_neg h]
  | bare k hk =>
    show makeP k ByteArray.empty 0 ByteArray.empty [] = _
    unfold makeP
    rw [if_neg (by omega), if_neg (by omega), if_neg (by omega), if_neg (by omega), if_neg (by omega), if_neg (by omega), if_neg (by omega), if_neg (by omega), if_neg (by omega), if_neg (by omega), if_neg (by omega)]
  | cat l h2 h h3 h4 h5 h6 ih =>
    show makeP 18 ByteArray.empty 0 ByteArray.empty (simpleL l) = _
    rw [simpleL_id ih]
    show singleP 18 (litP ByteArray.empty) (catL l) = _
    unfold catL
    rw [flatP_id h3, filter_id h4, upToP_id h5, mergedP_id h6, single_many h2]
  | alt l h2 h h3 h4 h5 h6 ih =>
    show makeP 19 ByteArray.empty 0 ByteArray.empty (simpleL l) = _
    rw [simpleL_id ih]
    show singleP 19 (bareP 15) (altL l) = _
    unfold altL
    rw [flatP_id h3, filter_id h4, upToP_id h5, mergedP_id h6, single_many h2]
  | arbno q h h1 h2 h3 ih =>
    show makeP 20 ByteArray.empty 0 ByteArray.empty [simple q] = _
    rw [ih]
    show (if emptyP q = true ∨ failB q = true then litP ByteArray.empty else if q.kind = 2 ∧ q.n = 1 then bareP 13 else kidsP 20 [q]) = _
    rw [if_neg (by rw [h1, h2]; simp), if_neg h3]
  | cond k m q hk h h1 ih =>
    show makeP k ByteArray.empty 0 m [simple q] = _
    rw [ih]
    have e : makeP k ByteArray.empty 0 m [q] = if endsB q = true then q else .mk k ByteArray.empty 0 m [q] := by
      rcases hk with rfl | rfl <;> rfl
    rw [e, if_neg (by rw [h1]; simp)]
  | named k m hk =>
    show makeP k ByteArray.empty 0 m [] = _
    rcases hk with rfl | rfl <;> rfl
/-- What a simple list of pieces keeps. -/
structure CatOk (q : Pat) : Prop where
  nf : NF q
  right : errW q = 0
  kind : q.kind ≠ 18
  full : emptyP q = false
structure AltOk (q : Pat) : Prop where
  nf : NF q
  right : errW q = 0
  kind : q.kind ≠ 19
  may : failB q = false
theorem NF.kids_cat {p : Pat} (h : NF p) (hk : p.kind = 18) : ∀ q ∈ p.kids, NF q ∧ q.kind ≠ 18 := by
  cases h with
  | cat l h2 h h3 h4 h5 h6 => exact fun q hq => ⟨h q hq, h3 q hq⟩
  | lit t => exact absurd hk (by show ¬ (1 : Int) = 18; decide)
  | len n h => exact absurd hk (by show ¬ (2 : Int) = 18; decide)
  | any t h h1 => exact absurd hk (by show ¬ (3 : Int) = 18; decide)
  | text k t hk' h => exact absurd hk (by show ¬ k = 18; omega)
  | num k n hk' => exact absurd hk (by show ¬ k = 18; omega)
  | rtab n h => exact absurd hk (by show ¬ (9 : Int) = 18; decide)
  | bare k hk' => exact absurd hk (by show ¬ k = 18; omega)
  | alt l h2 h h3 h4 h5 h6 => exact absurd hk (by show ¬ (19 : Int) = 18; decide)
  | arbno q h h1 h2 h3 => exact absurd hk (by show ¬ (20 : Int) = 18; decide)
  | cond k m q hk' h h1 => exact absurd hk (by show ¬ k = 18; omega)
  | named k m hk' => exact absurd hk (by show ¬ k = 18; omega)
theorem NF.kids_alt {p : Pat} (h : NF p) (hk : p.kind = 19) : ∀ q ∈ p.kids, NF q ∧ q.kind ≠ 19 := by
  cases h with
  | alt l h2 h h3 h4 h5 h6 => exact fun q hq => ⟨h q hq, h3 q hq⟩
  | lit t => exact absurd hk (by show ¬ (1 : Int) = 19; decide)
  | len n h => exact absurd hk (by show ¬ (2 : Int) = 19; decide)
  | any t h h1 => exact absurd hk (by show ¬ (3 : Int) = 19; decide)
  | text k t hk' h => exact absurd hk (by show ¬ k = 19; omega)
  | num k n hk' => exact absurd hk (by show ¬ k = 19; omega)
  | rtab n h => exact absurd hk (by show ¬ (9 : Int) = 19; decide)
  | bare k hk' => exact absurd hk (by show ¬ k = 19; omega)
  | cat l h2 h h3 h4 h5 h6 => exact absurd hk (by show ¬ (18 : Int) = 19; decide)
  | arbno q h h1 h2 h3 => exact absurd hk (by show ¬ (20 : Int) = 19; decide)
  | cond k m q hk' h h1 => exact absurd hk (by show ¬ k = 19; omega)
  | named k m hk' => exact absurd hk (by show ¬ k = 19; omega)
theorem flatP_plain {k : Int} {C : Pat → Prop} (hk : ∀ p, C p → p.kind = k → ∀ q ∈ p.kids, C q ∧ q.kind ≠ k) : ∀ {l : List Pat}, (∀ p ∈ l, C p) → ∀ q ∈ flatP k l, C q ∧ q.kind ≠ k
  | [], _, q, hq => by cases hq
  | p :: l, h, q, hq => by
    rw [flatP] at hq
    rcases List.mem_append.1 hq with hq | hq
    · by_cases e : p.kind = k
      · rw [if_pos e] at hq; exact hk p (h p (by simp)) e q hq
      · rw [if_neg e, List.mem_singleton] at hq
        rw [hq]; exact ⟨h p (by simp), e⟩
    · exact flatP_plain hk (fun x hx => h x (by simp [hx])) q hq
theorem pieces_catOk (a b q : Pat) (ha : CatOk a) (hb : CatOk b) (h : piecesP a b = some q) : CatOk q := by
  have hr := pieces_right a b q ha.right hb.right h
  unfold piecesP at h
  split at h
  · rename_i hh
    cases h
    refine ⟨.lit _, hr, by show ¬ (1 : Int) = 18; decide, ?_⟩
    have hf := ha.full
    unfold emptyP at hf ⊢
    rw [hh.1] at hf
    show ((1 : Int) == 1 && (a.text ++ b.text).size == 0) = false
    rw [ByteArray.size_append]
    have hz : a.text.size ≠ 0 := fun e => by rw [e] at hf; exact absurd hf (by decide)
    rw [show (a.text.size + b.text.size == 0) = false from beq_eq_false_iff_ne.2 (by omega)]; rfl
  · split at h
    · rename_i hh
      cases h
      have n1 := ((errW_iff a).1 ha.right).1.num (by omega)
      have n2 := ((errW_iff b).1 hb.right).1.num (by omega)
      refine ⟨.len _ ?_, hr, by show ¬ (2 : Int) = 18; decide, rfl⟩
      have : a.n ≠ 0 := by
        have h1 := ha.nf
        have h2 := hh.1
        cases h1 with
        | len n h => exact h
        | lit t => exact absurd h2 (by show ¬ (1 : Int) = 2; decide)
        | any t h h1 => exact absurd h2 (by show ¬ (3 : Int) = 2; decide)
        | text k t hk' h => exact absurd h2 (by show ¬ k = 2; omega)
        | num k n hk' => exact absurd h2 (by show ¬ k = 2; omega)
        | rtab n h => exact absurd h2 (by show ¬ (9 : Int) = 2; decide)
        | bare k hk' => exact absurd h2 (by show ¬ k = 2; omega)
        | cat l h2' h h3 h4 h5 h6 => exact absurd h2 (by show ¬ (18 : Int) = 2; decide)
        | alt l h2' h h3 h4 h5 h6 => exact absurd h2 (by show ¬ (19 : Int) = 2; decide)
        | arbno q h h1 h2' h3 => exact absurd h2 (by show ¬ (20 : Int) = 2; decide)
        | cond k m q hk' h h1 => exact absurd h2 (by show ¬ k = 2; omega)
        | named k m hk' => exact absurd h2 (by show ¬ k = 2; omega)
      omega
    · cases h
theorem others_altOk (a b q : Pat) (ha : AltOk a) (hb : AltOk b) (h : othersP a b = some q) : AltOk q := by
  have hr := others_right a b q ha.right hb.right h
  unfold othersP at h
  split at h
  · rename_i hh
    cases h
    exact ⟨.any _ (spell_spell _) (spell_two (oneB_pos ha.right hh.1) (oneB_pos hb.right hh.2.1) hh.2.2), hr, by show ¬ (3 : Int) = 19; decide, rfl⟩
  · cases h
theorem catL_ok {l : List Pat} (h : ∀ q ∈ l, NF q ∧ errW q = 0) : (∀ q ∈ catL l, CatOk q) ∧ LastOnly endsB (catL l) ∧ Apart piecesP (catL l) := by
  have h1 : ∀ q ∈ upToP endsB ((flatP 18 l).filter fun p => !emptyP p), CatOk q := fun q hq => by
    obtain ⟨k1, k2⟩ := List.mem_filter.1 (upToP_mem q hq)
    obtain ⟨⟨k3, k4⟩, k5⟩ := flatP_plain (C := fun q => NF q ∧ errW q = 0) (fun p hp hk q hq => ⟨⟨(hp.1.kids_cat hk q hq).1, right_kids p hp.2 q hq⟩, (hp.1.kids_cat hk q hq).2⟩) h q k1
    exact ⟨k3, k4, k5, by simpa using k2⟩
  exact ⟨mergedP_all (C := CatOk) pieces_catOk h1, mergedP_lastOnly pieces_goes (upToP_last _), mergedP_apart (C := CatOk) pieces_catOk (fun a b c q ha hb hc => pieces_far a b c q ha.right hb.right hc.right) _ h1⟩
theorem altL_ok {l : List Pat} (h : ∀ q ∈ l, NF q ∧ errW q = 0) : (∀ q ∈ altL l, AltOk q) ∧ LastOnly abortB (altL l) ∧ Apart othersP (altL l) := by
  have h1 : ∀ q ∈ upToP abortB ((flatP 19 l).filter fun p => !failB p), AltOk q := fun q hq => by
    obtain ⟨k1, k2⟩ := List.mem_filter.1 (upToP_mem q hq)
    obtain ⟨⟨k3, k4⟩, k5⟩ := flatP_plain (C := fun q => NF q ∧ errW q = 0) (fun p hp hk q hq => ⟨⟨(hp.1.kids_alt hk q hq).1, right_kids p hp.2 q hq⟩, (hp.1.kids_alt hk q hq).2⟩) h q k1
    exact ⟨k3, k4, k5, by simpa using k2⟩
  exact ⟨mergedP_all (C := AltOk) others_altOk h1, mergedP_lastOnly others_goes (upToP_last _), mergedP_apart (C := AltOk) others_altOk (fun a b c q ha hb hc => others_far a b c q) _ h1⟩
theorem nf_ite {c : Prop} [Decidable c] {p q : Pat} (h1 : c → NF p) (h2 : ¬c → NF q) : NF (if c then p else q) := by
  by_cases h : c
  · rw [if_pos h]; exact h1 h
  · rw [if_neg h]; exact h2 h
theorem makeP_NF {k : Int} {t : ByteArray} {n : Int} {m : ByteArray} {l l' : List Pat} (h : NodeOk (.mk k t n m l')) (hl : l.length = l'.length) (hr : ∀ q ∈ l, NF q ∧ errW q = 0) : NF (makeP k t n m l) := by
  obtain ⟨h0, h1, h2, h3, h4, h5, h6, h7⟩ := h
  simp only [Pat.kind, Pat.text, Pat.n, Pat.name, Pat.kids] at h0 h1 h2 h3 h4 h5 h6 h7
  have hone : k = 20 ∨ k = 21 ∨ k = 22 → ∃ q, l = [q] := fun h => by
    have : l.length = 1 := by rw [hl]; exact h5 h
    match l, this with
    | [q], _ => exact ⟨q, rfl⟩
  unfold makeP
  refine nf_ite (fun _ => .lit _) fun _ => ?_
  refine nf_ite (fun _ => nf_ite (fun _ => .lit _) fun h => .len _ h) fun _ => ?_
  refine nf_ite (fun _ => nf_ite (fun _ => .lit _) fun h => .any _ (spell_spell _) h) fun _ => ?_
  refine nf_ite (fun hk => .text _ _ hk (spell_spell _)) fun _ => ?_
  refine nf_ite (fun hk => .num _ _ hk) fun _ => ?_
  refine nf_ite (fun _ => nf_ite (fun _ => .bare _ (by omega)) fun h => .rtab _ h) fun _ => ?_
  refine nf_ite (fun _ => ?_) fun _ => ?_
  · obtain ⟨a1, a2, a3⟩ := catL_ok hr
    revert a1 a2 a3
    generalize catL l = L
    intro a1 a2 a3
    match L, a1, a2, a3 with
    | [], _, _, _ => exact .lit _
    | [p], a1, _, _ => exact (a1 p (by simp)).nf
    | p :: q :: L, a1, a2, a3 => exact .cat _ (by simp) (fun x hx => (a1 x hx).nf) (fun x hx => (a1 x hx).kind) (fun x hx => (a1 x hx).full) a2 a3
  refine nf_ite (fun _ => ?_) fun _ => ?_
  · obtain ⟨a1, a2, a3⟩ := altL_ok hr
    revert a1 a2 a3
    generalize altL l = L
    intro a1 a2 a3
    match L, a1, a2, a3 with
    | [], _, _, _ => exact .bare _ (by omega)
    | [p], a1, _, _ => exact (a1 p (by simp)).nf
    | p :: q :: L, a1, a2, a3 => exact .alt _ (by simp) (fun x hx => (a1 x hx).nf) (fun x hx => (a1 x hx).kind) (fun x hx => (a1 x hx).may) a2 a3
  refine nf_ite (fun hk => ?_) fun _ => ?_
  · obtain ⟨q, rfl⟩ := hone (by omega)
    refine nf_ite (fun _ => .lit _) fun e1 => nf_ite (fun _ => .bare _ (by omega)) fun e2 => ?_
    have e1 : ¬ (emptyP q = true ∨ failB q = true) := e1
    exact .arbno q (hr q (by simp)).1 (by cases h : emptyP q with | false => rfl | true => exact absurd (Or.inl h) e1) (by cases h : failB q with | false => rfl | true => exact absurd (Or.inr h) e1) e2
  refine nf_ite (fun hk => ?_) fun _ => ?_
  · obtain ⟨q, rfl⟩ := hone (by omega)
    refine nf_ite (fun _ => (hr q (by simp)).1) fun e1 => ?_
    have e1 : ¬ endsB q = true := e1
    exact .cond k m q hk (hr q (by simp)).1 (by cases h : endsB q with | false => rfl | true => exact absurd h e1)
  refine nf_ite (fun hk => .named k m hk) fun _ => .bare _ (by omega)
mutual
theorem simple_NF : ∀ p : Pat, errW p = 0 → nodesP p ≤ 4096 → NF (simple p)
  | .mk k t n m l, h, hn => by
    obtain ⟨h1, h2⟩ := (errW_iff _).1 h
    rw [nodesP] at hn
    rw [simple]
    exact makeP_NF h1 (by rw [simpleL_map, List.length_map]) (simpleL_NF l h2 (by omega))
theorem simpleL_NF : ∀ l : List Pat, (∀ q ∈ l, errW q = 0) → nodesL l ≤ 4096 → ∀ q ∈ simpleL l, NF q ∧ errW q = 0
  | [], _, _, q, hq => by cases hq
  | p :: l, h, hn, q, hq => by
    rw [nodesL] at hn
    rw [simpleL] at hq
    rcases List.mem_cons.1 hq with rfl | hq
    · exact ⟨simple_NF p (h p (by simp)) (by omega), simple_right p (h p (by simp)) (by omega)⟩
    · exact simpleL_NF l (fun x hx => h x (by simp [hx])) (by omega) q hq
end
/-- What is simple stays as it is. -/
theorem simple_simple {p : Pat} (h : patErr p = 0) : simple (simple p) = simple p := by
  obtain ⟨h1, h2, _⟩ := (patErr_iff p).1 h
  exact (simple_NF p h1 h2).simple_id
end Go.Proofs.YtmcfoefhenmjeaaDoor
