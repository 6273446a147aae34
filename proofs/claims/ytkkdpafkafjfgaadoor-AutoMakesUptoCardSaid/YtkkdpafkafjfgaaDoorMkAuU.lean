/- Automata: what has come up, each once; how many groups there are; groups that are split; numbering by coming to. Plain. -/
import Derived.Test.YtkkdpafkafjfgaaDoorMkPAuP
namespace Go.Proofs.YtkkdpafkafjfgaaDoor
set_option linter.unusedVariables false
set_option linter.unusedSectionVars false
theorem snoc_ind {α : Type} {P : List α → Prop} (h0 : P []) (h1 : ∀ l x, P l → P (l ++ [x])) : ∀ l, P l := fun l => by
  have : ∀ n (l : List α), l.length = n → P l := fun n => by
    induction n with
    | zero => intro l h; rw [List.eq_nil_of_length_eq_zero h]; exact h0
    | succ n ih =>
      intro l h
      have hne : l ≠ [] := fun e => by rw [e] at h; simp at h
      rw [← List.dropLast_concat_getLast hne]
      exact h1 _ _ (ih _ (by rw [List.length_dropLast]; omega))
  exact this _ l rfl
section
variable {α : Type} [DecidableEq α]
def uniq (l : List α) : List α := l.foldl (fun acc x => if x ∈ acc then acc else acc ++ [x]) []
theorem uniq_snoc (l : List α) (x : α) : uniq (l ++ [x]) = if x ∈ uniq l then uniq l else uniq l ++ [x] := by
  unfold uniq; rw [List.foldl_append]; rfl
theorem mem_uniq1 : ∀ (l : List α) (y : α), y ∈ uniq l → y ∈ l := fun l => by
  induction l using snoc_ind with
  | h0 => exact fun y h => h
  | h1 l z ih =>
    intro y h
    rw [uniq_snoc] at h
    split at h
    · exact List.mem_append_left _ (ih y h)
    · rcases List.mem_append.1 h with h | h
      · exact List.mem_append_left _ (ih y h)
      · exact List.mem_append_right _ h
theorem mem_uniq2 : ∀ (l : List α) (y : α), y ∈ l → y ∈ uniq l := fun l => by
  induction l using snoc_ind with
  | h0 => exact fun y h => h
  | h1 l z ih =>
    intro y h
    rw [uniq_snoc]
    rcases List.mem_append.1 h with h | h
    · split
      · exact ih y h
      · exact List.mem_append_left _ (ih y h)
    · rw [List.mem_singleton] at h
      split
      · rw [h]; assumption
      · exact List.mem_append_right _ (by rw [h]; simp)
theorem mem_uniq {x : α} {l : List α} : x ∈ uniq l ↔ x ∈ l := ⟨mem_uniq1 l x, mem_uniq2 l x⟩
theorem nodup_snoc {l : List α} {x : α} (h : l.Nodup) (hx : x ∉ l) : (l ++ [x]).Nodup := by
  rw [List.nodup_append]
  exact ⟨h, by simp, fun a ha b hb => by rw [List.mem_singleton] at hb; rw [hb]; exact fun e => hx (e ▸ ha)⟩
theorem uniq_nodup : ∀ (l : List α), (uniq l).Nodup := fun l => by
  induction l using snoc_ind with
  | h0 => exact List.nodup_nil
  | h1 l y ih =>
    rw [uniq_snoc]
    split
    · exact ih
    · exact nodup_snoc ih (by assumption)
theorem uniq_pre (l m : List α) : ∃ r, uniq (l ++ m) = uniq l ++ r := by
  induction m using snoc_ind with
  | h0 => exact ⟨[], by rw [List.append_nil, List.append_nil]⟩
  | h1 m y ih =>
    obtain ⟨r, hr⟩ := ih
    rw [← List.append_assoc, uniq_snoc, hr]
    split
    · exact ⟨r, rfl⟩
    · exact ⟨r ++ [y], by rw [List.append_assoc]⟩
theorem uniq_le (l : List α) : (uniq l).length ≤ l.length := by
  induction l using snoc_ind with
  | h0 => exact Nat.le_refl _
  | h1 l y ih =>
    rw [uniq_snoc, List.length_append]
    split
    · exact Nat.le_trans ih (Nat.le_add_right _ _)
    · rw [List.length_append]; exact Nat.add_le_add_right ih _
theorem uniq_pos {l : List α} (h : 0 < l.length) : 0 < (uniq l).length := by
  obtain ⟨x, hx⟩ := List.exists_mem_of_length_pos h
  exact List.length_pos_of_mem (mem_uniq.2 hx)
theorem idx_pre {a b : List α} {x : α} (h : x ∈ a) : (a ++ b).idxOf x = a.idxOf x := by
  rw [List.idxOf_append, if_pos h]
theorem idx_new {a : List α} {x : α} (h : x ∉ a) : (a ++ [x]).idxOf x = a.length := by
  rw [List.idxOf_append, if_neg h]
  simp
theorem idx_lt {a : List α} {x : α} (h : x ∈ a) : a.idxOf x < a.length := List.idxOf_lt_length_iff.2 h
theorem idx_get {a : List α} {x : α} (h : x ∈ a) : a[a.idxOf x]? = some x := by
  rw [List.getElem?_eq_getElem (idx_lt h)]
  congr 1
  exact List.getElem_idxOf (idx_lt h)
theorem idx_inj {a : List α} {x y : α} (hx : x ∈ a) (hy : y ∈ a) (e : a.idxOf x = a.idxOf y) : x = y := by
  have h1 := idx_get hx
  rw [e, idx_get hy] at h1
  exact (Option.some.inj h1).symm
def fsts (f : Nat → α) : Nat → List Nat
  | 0 => []
  | n + 1 => if f n ∈ (List.range n).map f then fsts f n else fsts f n ++ [n]
theorem fsts_lt (f : Nat → α) : ∀ n, ∀ i ∈ fsts f n, i < n
  | 0, i, h => by simp [fsts] at h
  | n + 1, i, h => by
    rw [fsts] at h
    split at h
    · have := fsts_lt f n i h; omega
    · rcases List.mem_append.1 h with h | h
      · have := fsts_lt f n i h; omega
      · rw [List.mem_singleton] at h; omega
theorem uniq_fsts (f : Nat → α) : ∀ n, uniq ((List.range n).map f) = (fsts f n).map f
  | 0 => rfl
  | n + 1 => by
    rw [List.range_succ, List.map_append, List.map_singleton, uniq_snoc, fsts]
    by_cases h : f n ∈ (List.range n).map f
    · rw [if_pos (mem_uniq.2 h), if_pos h]; exact uniq_fsts f n
    · rw [if_neg (fun k => h (mem_uniq.1 k)), if_neg h, List.map_append, uniq_fsts f n]; rfl
theorem fsts_of (f : Nat → α) : ∀ n i, i < n → ∃ j, j ∈ fsts f n ∧ f j = f i
  | 0, i, h => by omega
  | n + 1, i, h => by
    rw [fsts]
    by_cases hi : i < n
    · obtain ⟨j, hj, e⟩ := fsts_of f n i hi
      split
      · exact ⟨j, hj, e⟩
      · exact ⟨j, List.mem_append_left _ hj, e⟩
    · have hin : i = n := by omega
      subst hin
      split
      · rename_i hm
        obtain ⟨j, hj, e⟩ := List.mem_map.1 hm
        obtain ⟨j2, hj2, e2⟩ := fsts_of f i j (List.mem_range.1 hj)
        exact ⟨j2, hj2, e2.trans e⟩
      · exact ⟨i, by simp, rfl⟩
theorem fsts_inj (f : Nat → α) : ∀ n i j, i ∈ fsts f n → j ∈ fsts f n → f i = f j → i = j
  | 0, i, j, h, _, _ => by simp [fsts] at h
  | n + 1, i, j, hi, hj, e => by
    rw [fsts] at hi hj
    split at hi
    · rename_i hm
      rw [if_pos hm] at hj
      exact fsts_inj f n i j hi hj e
    · rename_i hm
      rw [if_neg hm] at hj
      rcases List.mem_append.1 hi with hi | hi <;> rcases List.mem_append.1 hj with hj | hj
      · exact fsts_inj f n i j hi hj e
      · rw [List.mem_singleton] at hj
        exact absurd (List.mem_map.2 ⟨i, List.mem_range.2 (fsts_lt f n i hi), by rw [e, hj]⟩) hm
      · rw [List.mem_singleton] at hi
        exact absurd (List.mem_map.2 ⟨j, List.mem_range.2 (fsts_lt f n j hj), by rw [← e, hi]⟩) hm
      · rw [List.mem_singleton] at hi hj; omega
end
section
variable {α β : Type} [DecidableEq α] [DecidableEq β]
def Finer (h : Nat → β) (f : Nat → α) (n : Nat) : Prop := ∀ i j, i < n → j < n → h i = h j → f i = f j
theorem Finer.down {h : Nat → β} {f : Nat → α} {n : Nat} (k : Finer h f (n + 1)) : Finer h f n := fun i j hi hj e => k i j (by omega) (by omega) e
theorem fsts_sub {h : Nat → β} {f : Nat → α} : ∀ n, Finer h f n → (fsts f n).Sublist (fsts h n)
  | 0, _ => List.Sublist.refl _
  | n + 1, k => by
    rw [fsts, fsts]
    have ih := fsts_sub n k.down
    by_cases hf : f n ∈ (List.range n).map f
    · rw [if_pos hf]
      split
      · exact ih
      · exact ih.trans (List.sublist_append_left _ _)
    · have hh : h n ∉ (List.range n).map h := fun hm => by
        obtain ⟨j, hj, e⟩ := List.mem_map.1 hm
        have hj := List.mem_range.1 hj
        exact hf (List.mem_map.2 ⟨j, List.mem_range.2 hj, k j n (by omega) (by omega) e⟩)
      rw [if_neg hf, if_neg hh]
      exact ih.append (List.Sublist.refl _)
theorem finer_le {h : Nat → β} {f : Nat → α} {n : Nat} (k : Finer h f n) : (uniq ((List.range n).map f)).length ≤ (uniq ((List.range n).map h)).length := by
  rw [uniq_fsts, uniq_fsts, List.length_map, List.length_map]
  exact (fsts_sub n k).length_le
theorem finer_eq {h : Nat → β} {f : Nat → α} {n : Nat} (k : Finer h f n) (e : (uniq ((List.range n).map h)).length ≤ (uniq ((List.range n).map f)).length) : Finer f h n := by
  rw [uniq_fsts, uniq_fsts, List.length_map, List.length_map] at e
  have es := (fsts_sub n k).eq_of_length_le e
  intro i j hi hj ef
  obtain ⟨i2, hi2, ei⟩ := fsts_of h n i hi
  obtain ⟨j2, hj2, ej⟩ := fsts_of h n j hj
  have li := fsts_lt h n i2 hi2
  have lj := fsts_lt h n j2 hj2
  rw [← es] at hi2 hj2
  have := fsts_inj f n i2 j2 hi2 hj2 ((k _ _ li hi ei).trans (ef.trans (k _ _ lj hj ej).symm))
  rw [← ei, ← ej, this]
end
def gcnt (f : Nat → Nat) (n : Nat) : Nat := (uniq ((List.range n).map f)).length
def numb {β : Type} [DecidableEq β] (h : Nat → β) (n : Nat) (i : Nat) : Nat := (uniq ((List.range n).map h)).idxOf (h i)
theorem mem_of_lt {β : Type} [DecidableEq β] (h : Nat → β) {n i : Nat} (hi : i < n) : h i ∈ uniq ((List.range n).map h) := mem_uniq.2 (List.mem_map.2 ⟨i, List.mem_range.2 hi, rfl⟩)
theorem numb_iff {β : Type} [DecidableEq β] (h : Nat → β) {n i j : Nat} (hi : i < n) (hj : j < n) : numb h n i = numb h n j ↔ h i = h j :=
  ⟨fun e => idx_inj (mem_of_lt h hi) (mem_of_lt h hj) e, fun e => by unfold numb; rw [e]⟩
theorem numb_lt {β : Type} [DecidableEq β] (h : Nat → β) {n i : Nat} (hi : i < n) : numb h n i < (uniq ((List.range n).map h)).length := idx_lt (mem_of_lt h hi)
theorem gcnt_numb {β : Type} [DecidableEq β] (h : Nat → β) (n : Nat) : gcnt (numb h n) n = (uniq ((List.range n).map h)).length :=
  Nat.le_antisymm (finer_le fun i j hi hj e => (numb_iff h hi hj).2 e) (finer_le fun i j hi hj e => (numb_iff h hi hj).1 e)
theorem gcnt_le (f : Nat → Nat) (n : Nat) : gcnt f n ≤ n := by have := uniq_le ((List.range n).map f); rw [List.length_map, List.length_range] at this; exact this
theorem numb_at {β : Type} [DecidableEq β] (h : Nat → β) {i n : Nat} (hi : i < n) : numb h n i = if h i ∈ uniq ((List.range i).map h) then (uniq ((List.range i).map h)).idxOf (h i) else (uniq ((List.range i).map h)).length := by
  have e1 : (List.range n).map h = (List.range (i + 1)).map h ++ ((List.range' (i + 1) (n - (i + 1))).map h) := by
    rw [← List.map_append]
    congr 1
    rw [List.range_eq_range', List.range_eq_range', show n = (i + 1) + (n - (i + 1)) by omega, ← List.range'_append_1]
    simp
  obtain ⟨r, hr⟩ := uniq_pre ((List.range (i + 1)).map h) ((List.range' (i + 1) (n - (i + 1))).map h)
  unfold numb
  rw [e1, hr, idx_pre (mem_of_lt h (by omega)), List.range_succ, List.map_append, List.map_singleton, uniq_snoc]
  split
  · rfl
  · exact idx_new (by assumption)
structure Coarse (R : RA) (g : Nat → Nat) : Prop where
  en : ∀ i j, i < R.n → j < R.n → g i = g j → R.en i = R.en j
  eqv : ∀ i j, i < R.n → j < R.n → Eqv R R i j → g i = g j
theorem Coarse.start (R : RA) : Coarse R (fun i => if R.en i then 1 else 0) := by
  refine ⟨fun i j _ _ e => ?_, fun i j _ _ h => by rw [h.en]⟩
  cases hi : R.en i <;> cases hj : R.en j <;> simp_all
theorem Coarse.congr {R : RA} {g h : Nat → Nat} (ok : R.Ok) (k : Coarse R g) (e : ∀ i, i < R.n → g i = h i) : Coarse R h :=
  ⟨fun i j hi hj he => k.en i j hi hj (by rw [e i hi, e j hj]; exact he), fun i j hi hj he => by rw [← e i hi, ← e j hj]; exact k.eqv i j hi hj he⟩
def sgn (R : RA) (g : Nat → Nat) (i : Nat) : List Nat := (List.range 256).map (fun c => g (R.nx i c)) ++ [g i]
theorem sgn_iff {R : RA} {g : Nat → Nat} {i j : Nat} : sgn R g i = sgn R g j ↔ g i = g j ∧ ∀ c, c < 256 → g (R.nx i c) = g (R.nx j c) := by
  unfold sgn
  constructor
  · intro e
    have e2 := List.append_inj' e rfl
    refine ⟨by simpa using e2.2, fun c hc => ?_⟩
    have := congrArg (fun l => l[c]?) e2.1
    simpa [List.getElem?_map, List.getElem?_range hc] using this
  · rintro ⟨e1, e2⟩
    rw [e1, List.map_congr_left fun c hc => e2 c (List.mem_range.1 hc)]
theorem Coarse.signs {R : RA} {g : Nat → Nat} (ok : R.Ok) (k : Coarse R g) : Coarse R (numb (sgn R g) R.n) :=
  ⟨fun i j hi hj e => k.en i j hi hj (sgn_iff.1 ((numb_iff _ hi hj).1 e)).1,
   fun i j hi hj e => (numb_iff _ hi hj).2 (sgn_iff.2 ⟨k.eqv i j hi hj e, fun c hc => k.eqv _ _ (ok.nx _ _ hi hc) (ok.nx _ _ hj hc) (e.nx hc)⟩)⟩
theorem sgn_finer (R : RA) (g : Nat → Nat) : Finer (sgn R g) g R.n := fun i j _ _ e => (sgn_iff.1 e).1
theorem signs_le (R : RA) (g : Nat → Nat) : gcnt g R.n ≤ (uniq ((List.range R.n).map (sgn R g))).length := finer_le (sgn_finer R g)
theorem Coarse.done {R : RA} {g : Nat → Nat} (ok : R.Ok) (k : Coarse R g) (h : (uniq ((List.range R.n).map (sgn R g))).length ≤ gcnt g R.n) : Groups R (numb (sgn R g) R.n) := by
  have hs := finer_eq (sgn_finer R g) h
  have k2 := k.signs ok
  refine groups_of ok k2.en (fun i j c hi hj hc e => ?_) k2.eqv
  have e1 := (sgn_iff.1 ((numb_iff _ hi hj).1 e)).2 c hc
  exact (numb_iff _ (ok.nx _ _ hi hc) (ok.nx _ _ hj hc)).2 (hs _ _ (ok.nx _ _ hi hc) (ok.nx _ _ hj hc) e1)
def pr (R : RA) (g : Nat → Nat) (c : Nat) (i : Nat) : Nat × Nat := (g i, g (R.nx i c))
theorem pr_iff {R : RA} {g : Nat → Nat} {c i j : Nat} : pr R g c i = pr R g c j ↔ g i = g j ∧ g (R.nx i c) = g (R.nx j c) := by unfold pr; rw [Prod.mk.injEq]
theorem pr_finer (R : RA) (g : Nat → Nat) (c : Nat) : Finer (pr R g c) g R.n := fun i j _ _ e => (pr_iff.1 e).1
theorem Coarse.byte {R : RA} {g : Nat → Nat} (ok : R.Ok) (k : Coarse R g) {c : Nat} (hc : c < 256) : Coarse R (numb (pr R g c) R.n) :=
  ⟨fun i j hi hj e => k.en i j hi hj (pr_iff.1 ((numb_iff _ hi hj).1 e)).1,
   fun i j hi hj e => (numb_iff _ hi hj).2 (pr_iff.2 ⟨k.eqv i j hi hj e, k.eqv _ _ (ok.nx _ _ hi hc) (ok.nx _ _ hj hc) (e.nx hc)⟩)⟩
def StableTo (R : RA) (g : Nat → Nat) (m : Nat) : Prop := ∀ c, c < m → ∀ i j, i < R.n → j < R.n → g i = g j → g (R.nx i c) = g (R.nx j c)
theorem stable_same {R : RA} (ok : R.Ok) {g : Nat → Nat} {c : Nat} (hc : c < 256) (h : (uniq ((List.range R.n).map (pr R g c))).length ≤ gcnt g R.n) {i j : Nat} (hi : i < R.n) (hj : j < R.n) : numb (pr R g c) R.n i = numb (pr R g c) R.n j ↔ g i = g j :=
  ⟨fun e => (pr_iff.1 ((numb_iff _ hi hj).1 e)).1, fun e => (numb_iff _ hi hj).2 (finer_eq (pr_finer R g c) h i j hi hj e)⟩
theorem StableTo.next {R : RA} (ok : R.Ok) {g : Nat → Nat} {c : Nat} (hc : c < 256) (k : StableTo R g c) (h : (uniq ((List.range R.n).map (pr R g c))).length ≤ gcnt g R.n) : StableTo R (numb (pr R g c) R.n) (c + 1) := by
  intro d hd i j hi hj e
  have eg := (stable_same ok hc h hi hj).1 e
  have hd2 : d < 256 := by omega
  refine (stable_same ok hc h (ok.nx _ _ hi hd2) (ok.nx _ _ hj hd2)).2 ?_
  by_cases hdc : d < c
  · exact k d hdc i j hi hj eg
  · have : d = c := by omega
    rw [this]
    exact (pr_iff.1 ((numb_iff _ hi hj).1 e)).2
theorem StableTo.groups {R : RA} (ok : R.Ok) {g : Nat → Nat} (k : Coarse R g) (h : StableTo R g 256) : Groups R g := groups_of ok k.en (fun i j c hi hj hc e => h c hc i j hi hj e) k.eqv
def topL (T : List Nat) : Nat := T.foldl (fun m t => max m (t + 1)) 1
theorem topL_snoc (T : List Nat) (t : Nat) : topL (T ++ [t]) = max (topL T) (t + 1) := by unfold topL; rw [List.foldl_append]; rfl
structure Bfs (R : RA) (g : Nat → Nat) (ord T : List Nat) : Prop where
  top : topL T = ord.length
  zero : ∃ r, ord = 0 :: r
  lt : ∀ s ∈ ord, s < R.n
  dis : (ord.map g).Nodup
  to : ∀ q, q < T.length → q / 256 < ord.length ∧ T.getD q 0 < ord.length ∧ g (ord.getD (T.getD q 0) 0) = g (R.nx (ord.getD (q / 256) 0) (q % 256))
  next : ∀ q, q < T.length → T.getD q 0 ≤ topL (T.take q)
  come : ∀ s, 256 * s ≤ T.length → s < ord.length → 256 * s < T.length → s < topL (T.take (256 * s))
theorem Bfs.start {R : RA} (ok : R.Ok) (g : Nat → Nat) : Bfs R g [0] [] :=
  ⟨rfl, ⟨[], rfl⟩, fun s hs => by rw [List.mem_singleton] at hs; rw [hs]; exact ok.pos, by simp, fun q hq => by simp at hq, fun q hq => by simp at hq, fun s _ _ h => by simp at h⟩
theorem getD_snoc_lt {T : List Nat} {x q : Nat} (h : q < T.length) : (T ++ [x]).getD q 0 = T.getD q 0 := by
  rw [List.getD_eq_getElem?_getD, List.getD_eq_getElem?_getD, List.getElem?_append_left h]
theorem getD_snoc_eq (T : List Nat) (x : Nat) : (T ++ [x]).getD T.length 0 = x := by
  rw [List.getD_eq_getElem?_getD, List.getElem?_append_right (Nat.le_refl _)]; simp
theorem take_snoc_le {T : List Nat} {x q : Nat} (h : q ≤ T.length) : (T ++ [x]).take q = T.take q := by rw [List.take_append_of_le_length h]
theorem Bfs.old {R : RA} {g : Nat → Nat} {ord T : List Nat} (h : Bfs R g ord T) (hk : T.length / 256 < ord.length) {j : Nat} (hj : j < ord.length) (e : g (ord.getD j 0) = g (R.nx (ord.getD (T.length / 256) 0) (T.length % 256))) : Bfs R g ord (T ++ [j]) := by
  refine ⟨by rw [topL_snoc, h.top]; omega, h.zero, h.lt, h.dis, fun q hq => ?_, fun q hq => ?_, fun s h1 h2 h3 => ?_⟩
  · rw [List.length_append, List.length_singleton] at hq
    by_cases hlt : q < T.length
    · rw [getD_snoc_lt hlt]; exact h.to q hlt
    · have : q = T.length := by omega
      rw [this, getD_snoc_eq]; exact ⟨hk, hj, e⟩
  · rw [List.length_append, List.length_singleton] at hq
    by_cases hlt : q < T.length
    · rw [getD_snoc_lt hlt, take_snoc_le (by omega)]; exact h.next q hlt
    · have : q = T.length := by omega
      rw [this, getD_snoc_eq, take_snoc_le (Nat.le_refl _), List.take_length, h.top]; omega
  · rw [List.length_append, List.length_singleton] at h3
    rw [take_snoc_le (by omega)]
    by_cases hlt : 256 * s < T.length
    · exact h.come s (by omega) h2 hlt
    · have : 256 * s = T.length := by omega
      rw [this, List.take_length, h.top]; omega
theorem Bfs.new {R : RA} {g : Nat → Nat} {ord T : List Nat} (ok : R.Ok) (h : Bfs R g ord T) (hk : T.length / 256 < ord.length) (hn : g (R.nx (ord.getD (T.length / 256) 0) (T.length % 256)) ∉ ord.map g) :
    Bfs R g (ord ++ [R.nx (ord.getD (T.length / 256) 0) (T.length % 256)]) (T ++ [ord.length]) := by
  have ek : ∀ {q : Nat}, q < ord.length → (ord ++ [R.nx (ord.getD (T.length / 256) 0) (T.length % 256)]).getD q 0 = ord.getD q 0 := fun hq => getD_snoc_lt hq
  refine ⟨by rw [topL_snoc, h.top, List.length_append, List.length_singleton]; omega, ?_, ?_, ?_, fun q hq => ?_, fun q hq => ?_, fun s h1 h2 h3 => ?_⟩
  · obtain ⟨r, hr⟩ := h.zero
    exact ⟨r ++ [R.nx (ord.getD (T.length / 256) 0) (T.length % 256)], by conv => lhs; arg 1; rw [hr]
                                                                          rfl⟩
  · intro s hs
    rcases List.mem_append.1 hs with hs | hs
    · exact h.lt s hs
    · rw [List.mem_singleton] at hs
      rw [hs]
      exact ok.nx _ _ (h.lt _ (getD_mem0 hk)) (Nat.mod_lt _ (by omega))
  · rw [List.map_append]; exact nodup_snoc h.dis hn
  · rw [List.length_append, List.length_singleton] at hq
    rw [List.length_append, List.length_singleton]
    by_cases hlt : q < T.length
    · obtain ⟨a, b, c⟩ := h.to q hlt
      rw [getD_snoc_lt hlt, ek b, ek a]; exact ⟨by omega, by omega, c⟩
    · have : q = T.length := by omega
      rw [this, getD_snoc_eq, ek hk]
      refine ⟨by omega, by omega, ?_⟩
      rw [getD_snoc_eq]
  · rw [List.length_append, List.length_singleton] at hq
    by_cases hlt : q < T.length
    · rw [getD_snoc_lt hlt, take_snoc_le (by omega)]; exact h.next q hlt
    · have : q = T.length := by omega
      rw [this, getD_snoc_eq, take_snoc_le (Nat.le_refl _), List.take_length, h.top]; omega
  · rw [List.length_append, List.length_singleton] at h3
    rw [take_snoc_le (by omega)]
    by_cases hlt : 256 * s < T.length
    · have := (h.to (256 * s) hlt).1
      rw [show 256 * s / 256 = s by omega] at this
      exact h.come s (by omega) this hlt
    · have : 256 * s = T.length := by omega
      rw [this, List.take_length, h.top]; omega
def bfsA (R : RA) (ord T : List Nat) : RA := ⟨ord.length, fun s c => T.getD (256 * s + c) 0, fun s => R.en (ord.getD s 0)⟩
theorem arr_bfs (R : RA) (ord T : List Nat) (p : Nat) : (bfsA R ord T).arr p = T.getD p 0 := by
  unfold RA.arr bfsA
  dsimp only
  rw [Nat.div_add_mod]
theorem top_bfs (R : RA) (ord T : List Nat) : ∀ p, p ≤ T.length → (bfsA R ord T).top p = topL (T.take p)
  | 0, _ => rfl
  | p + 1, hp => by
    rw [RA.top, top_bfs R ord T p (by omega), arr_bfs, List.take_add_one, List.getElem?_eq_getElem (by omega), Option.toList_some, topL_snoc, List.getD_eq_getElem?_getD, List.getElem?_eq_getElem (by omega)]
    rfl
theorem Bfs.made {R : RA} {g : Nat → Nat} {ord T : List Nat} (h : Bfs R g ord T) (hl : T.length = 256 * ord.length) : Made R g ord (bfsA R ord T) := by
  refine ⟨rfl, h.zero, h.lt, h.dis, fun k hk => rfl, fun k c hk hc => ?_, fun p hp => ?_, fun s hs => ?_⟩
  · have hk : k < ord.length := hk
    obtain ⟨a, b, e⟩ := h.to (256 * k + c) (by omega)
    rw [show (256 * k + c) / 256 = k by omega, show (256 * k + c) % 256 = c by omega] at e
    exact ⟨b, e⟩
  · have hp : p < 256 * ord.length := hp
    rw [arr_bfs, top_bfs R ord T p (by omega)]
    exact h.next p (by omega)
  · have hs : s < ord.length := hs
    rw [top_bfs R ord T (256 * s) (by omega)]
    exact h.come s (by omega) hs (by omega)
end Go.Proofs.YtkkdpafkafjfgaaDoor
