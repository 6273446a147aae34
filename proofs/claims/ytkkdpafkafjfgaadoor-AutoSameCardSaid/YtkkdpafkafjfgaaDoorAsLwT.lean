/- Plain: what is simpler matches the same, and has no more places. -/
import Derived.Test.YtkkdpafkafjfgaaDoorAsGlR
import Derived.Test.YtkkdpafkafjfgaaDoorAsTnRight
namespace Go.Proofs.YtkkdpafkafjfgaaDoor
set_option linter.unusedVariables false
set_option linter.unusedSimpArgs false
def Tot (l : List Pat) (k : Nat) : Prop := sumK (l.map placesP) = some k
theorem tot_nil : Tot [] 0 := rfl
theorem tot_cons {p : Pat} {l : List Pat} {k : Nat} : Tot (p :: l) k ↔ ∃ a b, placesP p = some a ∧ Tot l b ∧ k = a + b := by
  unfold Tot
  rw [List.map_cons]
  cases h : placesP p with
  | none => simp [sumK]
  | some n =>
    rw [sumK]
    cases h2 : sumK (l.map placesP) with
    | none => simp
    | some b =>
      simp only [Option.map_some, Option.some.injEq]
      constructor
      · intro e; exact ⟨n, b, rfl, rfl, e.symm⟩
      · rintro ⟨_, _, rfl, rfl, e⟩; exact e.symm
theorem tot_append : ∀ {l m : List Pat} {k : Nat}, Tot (l ++ m) k ↔ ∃ a b, Tot l a ∧ Tot m b ∧ k = a + b
  | [], m, k => by
    constructor
    · intro h; exact ⟨0, k, rfl, h, (Nat.zero_add k).symm⟩
    · rintro ⟨a, b, h1, h2, rfl⟩
      have : a = 0 := Option.some.inj (h1.symm.trans tot_nil)
      subst this; rw [Nat.zero_add]; exact h2
  | p :: l, m, k => by
    rw [List.cons_append, tot_cons]
    constructor
    · rintro ⟨a, b, h1, h2, rfl⟩
      obtain ⟨c, d, h3, h4, rfl⟩ := tot_append.1 h2
      exact ⟨a + c, d, tot_cons.2 ⟨a, c, h1, h3, rfl⟩, h4, by omega⟩
    · rintro ⟨a, b, h1, h2, rfl⟩
      obtain ⟨c, d, h3, h4, rfl⟩ := tot_cons.1 h1
      exact ⟨c, d + b, h3, tot_append.2 ⟨d, b, h4, h2, rfl⟩, by omega⟩
theorem unitF (c : Bool) (A : Lang) : opL c (opsL c []) A = A := by
  funext l
  cases c
  · simp [opL, opsL]
  · refine propext ?_
    show catL2 (fun l => l = []) A l ↔ A l
    constructor
    · rintro ⟨_, x, rfl, rfl, h1⟩; rw [List.nil_append]; exact h1
    · exact fun h => ⟨[], l, (List.nil_append _).symm, rfl, h⟩
theorem ops_cons (c : Bool) (a : Lang) (r : List Lang) : opsL c (a :: r) = opL c a (opsL c r) := by rw [opsL]
theorem ops_append (c : Bool) : ∀ A B : List Lang, opsL c (A ++ B) = opL c (opsL c A) (opsL c B)
  | [], B => (unitF c _).symm
  | a :: A, B => by rw [List.cons_append, ops_cons, ops_append c A B, ops_cons, assocL]
def langsOf (c : Bool) (l : List Pat) : Lang := opsL c (l.map langP)
theorem langsOf_cons (c : Bool) (p : Pat) (l : List Pat) : langsOf c (p :: l) = opL c (langP p) (langsOf c l) := by unfold langsOf; rw [List.map_cons, ops_cons]
theorem langsOf_append (c : Bool) (l m : List Pat) : langsOf c (l ++ m) = opL c (langsOf c l) (langsOf c m) := by unfold langsOf; rw [List.map_append, ops_append]
theorem langsOf_one (c : Bool) (p : Pat) : langsOf c [p] = langP p := unitL c _
def Sub (c : Bool) (l l' : List Pat) : Prop := ∀ k, Tot l k → langsOf c l' = langsOf c l ∧ ∃ k', k' ≤ k ∧ Tot l' k'
theorem Sub.refl (c : Bool) (l : List Pat) : Sub c l l := fun k h => ⟨rfl, k, Nat.le_refl _, h⟩
theorem Sub.trans {c : Bool} {l m r : List Pat} (h : Sub c l m) (g : Sub c m r) : Sub c l r := fun k hk => by
  obtain ⟨e1, k1, l1, t1⟩ := h k hk
  obtain ⟨e2, k2, l2, t2⟩ := g k1 t1
  exact ⟨e2.trans e1, k2, by omega, t2⟩
theorem Sub.cons {c : Bool} {l m : List Pat} (p : Pat) (h : Sub c l m) : Sub c (p :: l) (p :: m) := fun k hk => by
  obtain ⟨a, b, h1, h2, rfl⟩ := tot_cons.1 hk
  obtain ⟨e1, k1, l1, t1⟩ := h b h2
  exact ⟨by rw [langsOf_cons, langsOf_cons, e1], a + k1, by omega, tot_cons.2 ⟨a, k1, h1, t1, rfl⟩⟩
theorem lang_node (k : Int) (t : ByteArray) (n : Int) (m : ByteArray) (l : List Pat) : langP (.mk k t n m l) = langK k t n (l.map langP) := langP_eq _
theorem places_node (k : Int) (t : ByteArray) (n : Int) (m : ByteArray) (l : List Pat) : placesP (.mk k t n m l) = placesK k t n (l.map placesP) := placesP_eq _
theorem lang_18 (t : ByteArray) (n : Int) (m : ByteArray) (l : List Pat) : langP (.mk 18 t n m l) = langsOf true l := by rw [lang_node]; rfl
theorem lang_19 (t : ByteArray) (n : Int) (m : ByteArray) (l : List Pat) : langP (.mk 19 t n m l) = langsOf false l := by rw [lang_node]; rfl
theorem places_18 (k : Int) (hk : k = 18 ∨ k = 19 ∨ k = 20) (t : ByteArray) (n : Int) (m : ByteArray) (l : List Pat) : placesP (.mk k t n m l) = sumK (l.map placesP) := by
  rw [places_node]; unfold placesK
  rw [if_neg (by omega), if_neg (by omega), if_neg (by omega), if_neg (by omega), if_pos hk]
def knd (c : Bool) : Int := if c then 18 else 19
theorem lang_knd (c : Bool) (t : ByteArray) (n : Int) (m : ByteArray) (l : List Pat) : langP (.mk (knd c) t n m l) = langsOf c l := by cases c; exact lang_19 t n m l; exact lang_18 t n m l
theorem places_knd (c : Bool) (t : ByteArray) (n : Int) (m : ByteArray) (l : List Pat) : placesP (.mk (knd c) t n m l) = sumK (l.map placesP) := places_18 _ (by cases c <;> simp [knd]) t n m l
theorem flat_sub (c : Bool) : ∀ l : List Pat, Sub c l (flatP (knd c) l)
  | [] => Sub.refl c []
  | p :: l => fun k hk => by
    obtain ⟨a, b, h1, h2, rfl⟩ := tot_cons.1 hk
    obtain ⟨e1, k1, l1, t1⟩ := flat_sub c l b h2
    rw [flatP]
    split
    · rename_i hp
      cases p with
      | mk kk t n m kids =>
        obtain rfl : kk = knd c := hp
        rw [places_knd] at h1
        refine ⟨?_, a + k1, by omega, tot_append.2 ⟨a, k1, h1, t1, rfl⟩⟩
        rw [langsOf_append, langsOf_cons, e1, lang_knd]; rfl
    · refine ⟨?_, a + k1, by omega, tot_append.2 ⟨a, k1, tot_cons.2 ⟨a, 0, h1, tot_nil, rfl⟩, t1, rfl⟩⟩
      rw [langsOf_append, langsOf_one, e1, langsOf_cons]
theorem filter_sub (c : Bool) (f : Pat → Bool) (hf : ∀ p, f p = true → langP p = opsL c []) : ∀ l : List Pat, Sub c l (l.filter fun p => !f p)
  | [] => Sub.refl c []
  | p :: l => fun k hk => by
    obtain ⟨a, b, h1, h2, rfl⟩ := tot_cons.1 hk
    obtain ⟨e1, k1, l1, t1⟩ := filter_sub c f hf l b h2
    rw [List.filter_cons]
    split
    · exact ⟨by rw [langsOf_cons, langsOf_cons, e1], a + k1, by omega, tot_cons.2 ⟨a, k1, h1, t1, rfl⟩⟩
    · rename_i hn
      have hp : f p = true := by simpa using hn
      exact ⟨by rw [langsOf_cons, e1, hf p hp, unitF], k1, by omega, t1⟩
theorem empty_lang (p : Pat) (h : emptyP p = true) : langP p = opsL true [] := by
  unfold emptyP at h
  rw [Bool.and_eq_true] at h
  have h1 : p.kind = 1 := by simpa using h.1
  have h2 : p.text.size = 0 := by simpa using h.2
  have h3 : p.text.data.toList = [] := List.eq_nil_of_length_eq_zero (by rw [Array.length_toList]; exact h2)
  rw [langP_eq]
  funext l
  unfold langK
  rw [if_pos h1, h3]; rfl
theorem fail_lang (p : Pat) (h : failB p = true) : langP p = opsL false [] := by
  have h1 : p.kind = 15 := by unfold failB at h; simpa using h
  rw [langP_eq]
  funext l
  unfold langK
  rw [h1]; rfl
theorem abort_none {p : Pat} (h : p.kind = 17) {k : Nat} (hk : placesP p = some k) : False := by
  rw [placesP_eq, h] at hk
  simp [placesK] at hk
theorem ends_sub : ∀ l : List Pat, Sub true l (upToP endsB l)
  | [] => Sub.refl true []
  | p :: l => fun k hk => by
    obtain ⟨a, b, h1, h2, rfl⟩ := tot_cons.1 hk
    obtain ⟨e1, k1, l1, t1⟩ := ends_sub l b h2
    rw [upToP]
    split
    · rename_i hp
      have h15 : p.kind = 15 := by
        unfold endsB at hp
        rw [Bool.or_eq_true] at hp
        rcases hp with h | h
        · simpa using h
        · exact (abort_none (by simpa using h) h1).elim
      have hl := fail_lang p (by unfold failB; simpa using h15)
      refine ⟨?_, a, by omega, tot_cons.2 ⟨a, 0, h1, tot_nil, rfl⟩⟩
      rw [langsOf_one, langsOf_cons, hl]
      funext x
      refine propext ⟨fun h => h.elim, ?_⟩
      rintro ⟨_, _, _, h, _⟩
      exact h.elim
    · exact ⟨by rw [langsOf_cons, langsOf_cons, e1], a + k1, by omega, tot_cons.2 ⟨a, k1, h1, t1, rfl⟩⟩
theorem abort_sub : ∀ l : List Pat, Sub false l (upToP abortB l)
  | [] => Sub.refl false []
  | p :: l => fun k hk => by
    obtain ⟨a, b, h1, h2, rfl⟩ := tot_cons.1 hk
    obtain ⟨e1, k1, l1, t1⟩ := abort_sub l b h2
    rw [upToP]
    split
    · rename_i hp
      exact (abort_none (by unfold abortB at hp; simpa using hp) h1).elim
    · exact ⟨by rw [langsOf_cons, langsOf_cons, e1], a + k1, by omega, tot_cons.2 ⟨a, k1, h1, t1, rfl⟩⟩
def TwoOk (c : Bool) (two : Pat → Pat → Option Pat) : Prop := ∀ a b q ka kb, errW a = 0 → errW b = 0 → two a b = some q → placesP a = some ka → placesP b = some kb → langP q = opL c (langP a) (langP b) ∧ ∃ k, k ≤ ka + kb ∧ placesP q = some k
theorem merge_sub {c : Bool} {two : Pat → Pat → Option Pat} (h2 : TwoOk c two) (hr : ∀ a b q, errW a = 0 → errW b = 0 → two a b = some q → errW q = 0) :
    ∀ (l : List Pat) (a : Pat), errW a = 0 → (∀ p ∈ l, errW p = 0) → Sub c (a :: l) (mergeF two a l)
  | [], a, _, _ => by rw [mergeF]; exact Sub.refl c _
  | b :: l, a, ha, hl => by
    rw [mergeF]
    have hb := hl b (by simp)
    have hl' : ∀ p ∈ l, errW p = 0 := fun p hp => hl p (by simp [hp])
    cases hq : two a b with
    | none => exact (merge_sub h2 hr l b hb hl').cons a
    | some q =>
      refine Sub.trans (m := q :: l) (fun k hk => ?_) (merge_sub h2 hr l q (hr a b q ha hb hq) hl')
      obtain ⟨ka, k1, e1, t1, rfl⟩ := tot_cons.1 hk
      obtain ⟨kb, k2, e3, t2, rfl⟩ := tot_cons.1 t1
      obtain ⟨e, k, hk, hp⟩ := h2 a b q ka kb ha hb hq e1 e3
      refine ⟨?_, k + k2, by omega, tot_cons.2 ⟨k, k2, hp, t2, rfl⟩⟩
      rw [langsOf_cons, langsOf_cons, langsOf_cons, e, assocL]
theorem merged_sub {c : Bool} {two : Pat → Pat → Option Pat} (h2 : TwoOk c two) (hr : ∀ a b q, errW a = 0 → errW b = 0 → two a b = some q → errW q = 0) {l : List Pat} (hl : ∀ p ∈ l, errW p = 0) : Sub c l (mergedP two l) := by
  cases l with
  | nil => exact Sub.refl c []
  | cons a l => exact merge_sub h2 hr l a (hl a (by simp)) fun p hp => hl p (by simp [hp])
theorem lang_k1 {p : Pat} (h : p.kind = 1) : langP p = fun l => l = p.text.data.toList := by
  rw [langP_eq]; funext l; unfold langK; rw [if_pos h]
theorem lang_k2 {p : Pat} (h : p.kind = 2) : langP p = fun l => l.length = p.n.toNat := by
  rw [langP_eq]; funext l; unfold langK; rw [if_neg (by omega), if_pos h]
theorem lang_k3 {p : Pat} (h : p.kind = 3) : langP p = fun l => ∃ c ∈ p.text.data.toList, l = [c] := by
  rw [langP_eq]; funext l; unfold langK; rw [if_neg (by omega), if_neg (by omega), if_pos h]
theorem lang_k4 {p : Pat} (h : p.kind = 4) : langP p = fun l => ∃ c, c ∉ p.text.data.toList ∧ l = [c] := by
  rw [langP_eq]; funext l; unfold langK; rw [if_neg (by omega), if_neg (by omega), if_neg (by omega), if_pos h]
theorem places_k1 {p : Pat} (h : p.kind = 1) : placesP p = some p.text.size := by rw [placesP_eq]; unfold placesK; rw [if_pos h]
theorem places_k2 {p : Pat} (h : p.kind = 2) : placesP p = some p.n.toNat := by rw [placesP_eq]; unfold placesK; rw [if_neg (by omega), if_pos h]
theorem places_k3 {p : Pat} (h : p.kind = 3 ∨ p.kind = 4 ∨ p.kind = 13) : placesP p = some 1 := by rw [placesP_eq]; unfold placesK; rw [if_neg (by omega), if_neg (by omega), if_pos h]
theorem pieces_two : TwoOk true piecesP := by
  intro a b q ka kb ha hb h h1 h2
  unfold piecesP at h
  split at h
  · rename_i hh
    cases h
    rw [places_k1 hh.1] at h1; rw [places_k1 hh.2.1] at h2
    cases h1; cases h2
    refine ⟨?_, a.text.size + b.text.size, Nat.le_refl _, by rw [places_k1 rfl]; exact congrArg some ByteArray.size_append⟩
    rw [lang_k1 (p := litP _) rfl, lang_k1 hh.1, lang_k1 hh.2.1]
    funext l
    have e : (litP (a.text ++ b.text)).text.data.toList = a.text.data.toList ++ b.text.data.toList := by show (a.text ++ b.text).data.toList = _; rw [ByteArray.data_append, Array.toList_append]
    rw [e]
    refine propext ⟨fun h => ⟨_, _, h, rfl, rfl⟩, ?_⟩
    rintro ⟨x, y, rfl, rfl, rfl⟩; rfl
  · split at h
    · rename_i hh
      cases h
      have n1 := ((errW_iff a).1 ha).1.num (by omega)
      have n2 := ((errW_iff b).1 hb).1.num (by omega)
      rw [places_k2 hh.1] at h1; rw [places_k2 hh.2.1] at h2
      cases h1; cases h2
      have e : (numP 2 (a.n + b.n)).n.toNat = a.n.toNat + b.n.toNat := by show (a.n + b.n).toNat = _; omega
      refine ⟨?_, a.n.toNat + b.n.toNat, Nat.le_refl _, by rw [places_k2 rfl, e]⟩
      rw [lang_k2 (p := numP 2 _) rfl, lang_k2 hh.1, lang_k2 hh.2.1, e]
      funext l
      refine propext ⟨fun h => ⟨l.take a.n.toNat, l.drop a.n.toNat, (List.take_append_drop _ _).symm, ?_, ?_⟩, ?_⟩
      · show (l.take a.n.toNat).length = _; rw [List.length_take]; omega
      · show (l.drop a.n.toNat).length = _; rw [List.length_drop]; omega
      · rintro ⟨x, y, rfl, hx, hy⟩
        rw [List.length_append, hx, hy]
    · cases h
theorem one_lang {p : Pat} (h : oneB p = true) : langP p = fun l => ∃ c ∈ p.text.data.toList, l = [c] := by
  unfold oneB at h
  rw [Bool.or_eq_true] at h
  rcases h with h | h
  · exact lang_k3 (by simpa using h)
  · rw [Bool.and_eq_true] at h
    rw [lang_k1 (by simpa using h.1)]
    have hs : p.text.data.toList.length = 1 := by rw [Array.length_toList]; have : p.text.size = 1 := by simpa using h.2
                                                  exact this
    obtain ⟨c, hc⟩ := List.length_eq_one_iff.1 hs
    rw [hc]
    funext l
    simp
theorem one_places {p : Pat} (h : oneB p = true) : placesP p = some 1 := by
  unfold oneB at h
  rw [Bool.or_eq_true] at h
  rcases h with h | h
  · exact places_k3 (Or.inl (by simpa using h))
  · rw [Bool.and_eq_true] at h
    rw [places_k1 (by simpa using h.1)]
    have : p.text.size = 1 := by simpa using h.2
    rw [this]
theorem others_two : TwoOk false othersP := by
  intro a b q ka kb ha hb h h1 h2
  unfold othersP at h
  split at h
  · rename_i hh
    cases h
    rw [one_places hh.1] at h1
    cases h1
    refine ⟨?_, 1, by omega, places_k3 (Or.inl rfl)⟩
    rw [lang_k3 (p := textP 3 _) rfl, one_lang hh.1, one_lang hh.2.1]
    funext l
    refine propext ?_
    show (∃ c ∈ (spell (a.text ++ b.text)).data.toList, l = [c]) ↔ ((∃ c ∈ a.text.data.toList, l = [c]) ∨ ∃ c ∈ b.text.data.toList, l = [c])
    constructor
    · rintro ⟨c, hc, rfl⟩
      rw [spell_mem, ByteArray.data_append, Array.toList_append, List.mem_append] at hc
      exact hc.elim (fun h => Or.inl ⟨c, h, rfl⟩) fun h => Or.inr ⟨c, h, rfl⟩
    · rintro (⟨c, hc, rfl⟩ | ⟨c, hc, rfl⟩)
      · exact ⟨c, by rw [spell_mem, ByteArray.data_append, Array.toList_append, List.mem_append]; exact Or.inl hc, rfl⟩
      · exact ⟨c, by rw [spell_mem, ByteArray.data_append, Array.toList_append, List.mem_append]; exact Or.inr hc, rfl⟩
  · cases h
theorem single_sub (c : Bool) (z : Pat) (hz : langP z = opsL c []) (hp : placesP z = some 0) : ∀ l : List Pat, Sub c l [singleP (knd c) z l]
  | [] => fun k hk => ⟨by rw [singleP, langsOf_one, hz]; rfl, 0, Nat.zero_le _, tot_cons.2 ⟨0, 0, hp, tot_nil, rfl⟩⟩
  | [p] => Sub.refl c [p]
  | p :: q :: l => fun k hk => by
    refine ⟨?_, k, Nat.le_refl _, tot_cons.2 ⟨k, 0, ?_, tot_nil, rfl⟩⟩
    · rw [langsOf_one]; exact lang_knd c _ _ _ _
    · exact (places_knd c _ _ _ _).trans hk
theorem cat_sub {l : List Pat} (hl : ∀ p ∈ l, errW p = 0) : Sub true l [singleP 18 (litP ByteArray.empty) (catL l)] :=
  ((flat_sub true l).trans ((filter_sub true emptyP empty_lang _).trans ((ends_sub _).trans (merged_sub pieces_two pieces_right (fun p hp => flatP_all right_kids hl p ((List.mem_filter.1 (upToP_mem p hp)).1)))))).trans
    (single_sub true _ (by rw [lang_k1 rfl]; rfl) (by rw [places_k1 rfl]; rfl) _)
theorem alt_sub {l : List Pat} (hl : ∀ p ∈ l, errW p = 0) : Sub false l [singleP 19 (bareP 15) (altL l)] :=
  ((flat_sub false l).trans ((filter_sub false failB fail_lang _).trans ((abort_sub _).trans (merged_sub others_two others_right (fun p hp => flatP_all right_kids hl p ((List.mem_filter.1 (upToP_mem p hp)).1)))))).trans
    (single_sub false _ (fail_lang _ rfl) (by rw [placesP_eq]; rfl) _)
def SubP (p q : Pat) : Prop := ∀ k, placesP p = some k → langP q = langP p ∧ ∃ k', k' ≤ k ∧ placesP q = some k'
theorem subP_list {c : Bool} {t : ByteArray} {n : Int} {m : ByteArray} {l l' : List Pat} {q : Pat} (h : Sub c l' [q]) (he : langsOf c l' = langsOf c l) {k k1 : Nat} (hk : k1 ≤ k) (ht : Tot l' k1) :
    langP q = langsOf c l ∧ ∃ k', k' ≤ k ∧ placesP q = some k' := by
  obtain ⟨e, k2, h2, t2⟩ := h k1 ht
  obtain ⟨a, b, h3, h4, rfl⟩ := tot_cons.1 t2
  rw [langsOf_one] at e
  exact ⟨e.trans he, a, by omega, h3⟩
theorem star_all {A : Lang} (h : ∀ c : UInt8, A [c]) : ∀ l, StarL A l
  | [] => .nil
  | c :: l => by
    have := StarL.cons (A := A) (a := [c]) (h c) (star_all h l)
    exact this
theorem star_none {A : Lang} (h : ∀ l, A l → l = []) (l : List UInt8) (hs : StarL A l) : l = [] := by
  induction hs with
  | nil => rfl
  | cons a b ih => rw [h _ a, ih]; rfl
mutual
theorem simple_sub : ∀ p : Pat, errW p = 0 → nodesP p ≤ 4096 → SubP p (simple p)
  | .mk k t n m l, he, hn => fun K hK => by
    have hN := ((errW_iff _).1 he).1
    have hl := ((errW_iff _).1 he).2
    have hl : ∀ q ∈ l, errW q = 0 := hl
    rw [nodesP] at hn
    have ih := simpleL_sub l hl (by omega)
    have hr := simpleL_right l hl (by omega)
    rw [simple]
    unfold makeP
    rw [places_node] at hK
    rw [lang_node]
    by_cases h1 : k = 1
    · subst h1
      rw [if_pos rfl]
      exact ⟨by rw [lang_k1 rfl]; rfl, K, Nat.le_refl _, by rw [places_k1 rfl]; exact hK⟩
    rw [if_neg h1]
    by_cases h2 : k = 2
    · subst h2
      rw [if_pos rfl]
      split
      · rename_i h0
        subst h0
        refine ⟨?_, 0, Nat.zero_le _, by rw [places_k1 rfl]; rfl⟩
        rw [lang_k1 rfl]
        funext x
        show (x = []) = (x.length = 0)
        exact propext List.length_eq_zero_iff.symm
      · exact ⟨by rw [lang_k2 rfl]; rfl, K, Nat.le_refl _, by rw [places_k2 rfl]; exact hK⟩
    rw [if_neg h2]
    by_cases h3 : k = 3
    · subst h3
      rw [if_pos rfl]
      have hK1 : K = 1 := (Option.some.inj hK).symm
      have hlang : (langK 3 t n (l.map langP)) = fun x => ∃ c ∈ (spell t).data.toList, x = [c] := by
        funext x
        show (∃ c ∈ t.data.toList, x = [c]) = _
        simp only [spell_mem]
      rw [hlang]
      split
      · rename_i hs
        have ho : oneB (litP (spell t)) = true := by unfold oneB; show (false || (true && (spell t).size == 1)) = true; simp [hs]
        exact ⟨one_lang ho, 1, by omega, one_places ho⟩
      · exact ⟨lang_k3 rfl, 1, by omega, places_k3 (Or.inl rfl)⟩
    rw [if_neg h3]
    by_cases h4 : k = 4
    · subst h4
      rw [if_pos (Or.inl rfl)]
      have hK1 : K = 1 := (Option.some.inj hK).symm
      refine ⟨?_, 1, by omega, places_k3 (Or.inr (Or.inl rfl))⟩
      rw [lang_k4 rfl]
      funext x
      show (∃ c, c ∉ (spell t).data.toList ∧ x = [c]) = (∃ c, c ∉ t.data.toList ∧ x = [c])
      simp only [spell_mem]
    have hk : k = 13 ∨ k = 15 ∨ k = 18 ∨ k = 19 ∨ k = 20 := by
      unfold placesK at hK
      rw [if_neg h1, if_neg h2] at hK
      split at hK
      · omega
      split at hK
      · omega
      split at hK
      · omega
      · cases hK
    rcases hk with rfl | rfl | rfl | rfl | rfl
    · rw [if_neg (by decide), if_neg (by decide), if_neg (by decide), if_neg (by decide), if_neg (by decide), if_neg (by decide), if_neg (by decide), if_neg (by decide)]
      exact ⟨by rw [bareP, lang_node]; rfl, K, Nat.le_refl _, by rw [bareP, places_node]; exact hK⟩
    · rw [if_neg (by decide), if_neg (by decide), if_neg (by decide), if_neg (by decide), if_neg (by decide), if_neg (by decide), if_neg (by decide), if_neg (by decide)]
      exact ⟨by rw [bareP, lang_node]; rfl, K, Nat.le_refl _, by rw [bareP, places_node]; exact hK⟩
    · rw [if_neg (by decide), if_neg (by decide), if_neg (by decide), if_pos rfl]
      obtain ⟨e, k1, hk1, t1⟩ := ih K hK
      exact subP_list (t := t) (n := n) (m := m) (cat_sub hr) (congrArg (opsL true) e) hk1 t1
    · rw [if_neg (by decide), if_neg (by decide), if_neg (by decide), if_neg (by decide), if_pos rfl]
      obtain ⟨e, k1, hk1, t1⟩ := ih K hK
      exact subP_list (t := t) (n := n) (m := m) (alt_sub hr) (congrArg (opsL false) e) hk1 t1
    · rw [if_neg (by decide), if_neg (by decide), if_neg (by decide), if_neg (by decide), if_neg (by decide), if_pos rfl]
      obtain ⟨e, k1, hk1, t1⟩ := ih K hK
      have hlen : l.length = 1 := hN.only (Or.inl rfl)
      obtain ⟨p, rfl⟩ := List.length_eq_one_iff.1 hlen
      rw [simpleL, simpleL] at e t1 ⊢
      obtain ⟨a, b, ha, hb, rfl⟩ := tot_cons.1 t1
      obtain rfl : b = 0 := Option.some.inj (hb.symm.trans tot_nil)
      have e1 : langP (simple p) = langP p := List.head_eq_of_cons_eq e
      have hL : langK 20 t n ([p].map langP) = StarL (langP p) := by
        show StarL (opsL false [langP p]) = _
        rw [show opsL false [langP p] = langP p from unitL false _]
      rw [hL]
      rw [show ([simple p] : List Pat).getD 0 Pat.zero = simple p from rfl]
      split
      · rename_i hz
        refine ⟨?_, 0, Nat.zero_le _, by rw [places_k1 rfl]; rfl⟩
        rw [lang_k1 rfl]
        funext x
        refine propext ⟨fun hx => by rw [show x = [] from hx]; exact .nil, fun hx => star_none (A := langP p) (fun y hy => ?_) x hx⟩
        rw [← e1] at hy
        rcases hz with h | h
        · rw [empty_lang _ h] at hy; exact hy
        · rw [fail_lang _ h] at hy; exact hy.elim
      · split
        · rename_i hz
          rw [places_k2 hz.1, hz.2] at ha
          have ha1 : a = 1 := (Option.some.inj ha).symm
          refine ⟨?_, 1, by omega, places_k3 (Or.inr (Or.inr rfl))⟩
          rw [bareP, lang_node]
          funext x
          refine propext ⟨fun _ => star_all (fun c => ?_) x, fun _ => trivial⟩
          rw [← e1, lang_k2 hz.1, hz.2]; rfl
        · refine ⟨?_, a, by omega, ?_⟩
          · show langP (.mk 20 _ 0 _ [simple p]) = _
            rw [lang_node]
            show StarL (opsL false [langP (simple p)]) = _
            rw [show opsL false [langP (simple p)] = langP (simple p) from unitL false _, e1]
          · show placesP (.mk 20 _ 0 _ [simple p]) = _
            rw [places_18 20 (by omega)]
            exact tot_cons.2 ⟨a, 0, ha, tot_nil, rfl⟩
theorem simpleL_sub : ∀ l : List Pat, (∀ q ∈ l, errW q = 0) → nodesL l ≤ 4096 → ∀ k, Tot l k → (simpleL l).map langP = l.map langP ∧ ∃ k', k' ≤ k ∧ Tot (simpleL l) k'
  | [], _, _ => fun k hk => ⟨rfl, k, Nat.le_refl _, hk⟩
  | p :: l, he, hn => fun k hk => by
    obtain ⟨a, b, h1, h2, rfl⟩ := tot_cons.1 hk
    rw [nodesL] at hn
    obtain ⟨e1, k1, l1, t1⟩ := simple_sub p (he p (by simp)) (by omega) a h1
    obtain ⟨e2, k2, l2, t2⟩ := simpleL_sub l (fun q hq => he q (by simp [hq])) (by omega) b h2
    rw [simpleL]
    exact ⟨by rw [List.map_cons, List.map_cons, e1, e2], k1 + k2, by omega, tot_cons.2 ⟨k1, k2, t1, t2, rfl⟩⟩
end
end Go.Proofs.YtkkdpafkafjfgaaDoor
