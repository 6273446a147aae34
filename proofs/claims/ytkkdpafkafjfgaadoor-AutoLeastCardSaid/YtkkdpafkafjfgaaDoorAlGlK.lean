/- What Make answers, in plain words. -/
import Derived.Test.YtkkdpafkafjfgaaDoorAlGlY
import Derived.Test.YtkkdpafkafjfgaaDoorAlGlE
namespace Go.Proofs.YtkkdpafkafjfgaaDoor
open Go.RowKit RR
set_option linter.unusedVariables false
set_option linter.unusedSimpArgs false
theorem nodeErr_fit {p : Pat} (h : nodeErr p = 0) : (p.kind = 1 → p.text.size ≤ 65536) ∧ (p.kind = 2 → 0 ≤ p.n ∧ p.n ≤ 65536) ∧ ((p.kind = 18 ∨ p.kind = 19 ∨ p.kind = 20) → 0 < p.kids.length) ∧ p.kids.length ≤ 4096 := by
  unfold nodeErr manyErr at h
  repeat' split at h
  all_goals first | omega | (exact absurd h (by decide)) | (refine ⟨fun e => ?_, fun e => ?_, fun e => ?_, ?_⟩ <;> omega)
mutual
theorem err_fit : ∀ p : Pat, errW p = 0 → fitP p
  | .mk k t n m l, h => by
    rw [errW] at h
    by_cases h0 : nodeErr (.mk k t n m l) = 0
    · rw [if_pos h0] at h
      obtain ⟨a, b, c, d⟩ := nodeErr_fit h0
      rw [fitP]; exact ⟨a, b, c, d, errL_fit l h⟩
    · rw [if_neg h0] at h; exact absurd h h0
theorem errL_fit : ∀ l : List Pat, errL l = 0 → fitL l
  | [], _ => by rw [fitL]; trivial
  | p :: l, h => by
    rw [errL] at h
    by_cases h0 : errW p = 0
    · rw [if_pos h0] at h
      rw [fitL]; exact ⟨err_fit p h0, errL_fit l h⟩
    · rw [if_neg h0] at h; exact absurd h h0
end
theorem patErr_fit {p : Pat} (h : patErr p = 0) : fitP p := by
  unfold patErr at h
  split at h
  · exact err_fit p h
  · exact absurd h (by decide)
def makeErr (p : Pat) : Int := if patErr p = 0 then (match placesP p with | none => 1 | some n => if 12 < n then 4 else 0) else patErr p
def gluO (p : Pat) : Part := (buildP p gl0).1.getD part0
def gluG (p : Pat) : Gl := (buildP p gl0).2
def autL (p : Pat) (l : List UInt8) : Bool := enG (gluO p) (goG (gluG p) (gluO p) begin_ l)
theorem makeErr_zero {p : Pat} (h : makeErr p = 0) : patErr p = 0 ∧ ∃ n, placesP p = some n ∧ n ≤ 12 := by
  unfold makeErr at h
  by_cases h0 : patErr p = 0
  · rw [if_pos h0] at h
    refine ⟨h0, ?_⟩
    cases e : placesP p with
    | none => rw [e] at h; cases h
    | some n =>
      rw [e] at h
      dsimp only at h
      split at h
      · cases h
      · exact ⟨n, rfl, by omega⟩
  · rw [if_neg h0] at h; exact absurd h h0
theorem glu_some {p : Pat} (hf : fullP p) {n : Nat} (h : placesP p = some n) : (buildP p gl0).1 = some (gluO p) := by
  cases e : (buildP p gl0).1 with
  | none => rw [(build_ok p hf).none_iff gl0 |>.1 e] at h; cases h
  | some o => unfold gluO; rw [e]; rfl
theorem autL_lang {p : Pat} (h : makeErr p = 0) (l : List UInt8) : autL p l = true ↔ langP p l := by
  obtain ⟨h1, n, h2, h3⟩ := makeErr_zero h
  have hf := fit_full p (patErr_fit h1)
  exact glu_lang hf (glu_some hf h2) (by rw [glu_much hf h2]; simpa using h3) l
theorem goS_goG (g : Gl) (o : Part) : ∀ (l : List UInt8) (s : Nat), goS (stG g o) s l = goG g o s l
  | [], s => rfl
  | c :: l, s => goS_goG g o l _
theorem nodup_map_on {α β : Type} (f : α → β) : ∀ {l : List α}, l.Nodup → (∀ x ∈ l, ∀ y ∈ l, f x = f y → x = y) → (l.map f).Nodup
  | [], _, _ => List.nodup_nil
  | a :: l, h, hf => by
    rw [List.nodup_cons] at h
    rw [List.map_cons, List.nodup_cons]
    refine ⟨fun hm => ?_, nodup_map_on f h.2 fun x hx y hy => hf x (List.mem_cons_of_mem _ hx) y (List.mem_cons_of_mem _ hy)⟩
    obtain ⟨y, hy, e⟩ := List.mem_map.1 hm
    have := hf y (List.mem_cons_of_mem _ hy) a (List.mem_cons_self ..) e
    rw [this] at hy; exact h.1 hy
theorem states_le {ks : List Nat} (h : ks.Nodup) (hd : ∀ x ∈ ks, x < 4096 ∨ x = begin_) : ks.length ≤ 4097 := by
  have hm : (ks.map fun x => if x = begin_ then 4096 else x).Nodup := by
    refine nodup_map_on _ h fun x hx y hy e => ?_
    rcases hd x hx with h1 | h1 <;> rcases hd y hy with h2 | h2
    · rw [if_neg (by unfold begin_; omega), if_neg (by unfold begin_; omega)] at e; exact e
    · rw [if_neg (by unfold begin_; omega), if_pos h2] at e; omega
    · rw [if_pos h1, if_neg (by unfold begin_; omega)] at e; omega
    · rw [h1, h2]
  have := nodup_lt 4097 hm (fun x hx => by
    obtain ⟨y, hy, rfl⟩ := List.mem_map.1 hx
    rcases hd y hy with h1 | h1
    · rw [if_neg (by unfold begin_; omega)]; omega
    · rw [if_pos h1]; omega)
  rwa [List.length_map] at this
theorem gl_start {w : World} {wr : World} {ob : Nat} (g : Grew w wr) (hob : w.heap.size ≤ ob) (h : wr.heap[ob]? = some (.cells #[.slice none 0 0, .slice none 0 0, .bool false] 66 (0, 0))) : GlAt w wr ob gl0 (fun k => k = ob) :=
  ⟨_, _, ⟨g, h, ⟨rfl, none, 0, rfl, Nat.le_refl _, Nat.zero_le _, fun h => absurd h (by omega)⟩, ⟨rfl, none, 0, rfl, Nat.le_refl _, Nat.zero_le _, fun h => absurd h (by omega)⟩, hob, fun k hk => (by cases hk), fun k hk => (by cases hk), fun k hk => (by cases hk), fits0⟩, fun k => ⟨fun h => h.elim id (fun h => h.elim (fun h => by cases h) (fun h => by cases h)), Or.inl⟩⟩
theorem step_in {w wr : World} {rb gb ob : Nat} {g : Gl} {o : Part} {F : Nat → Prop} (h : GlAt w wr ob g F) (hr : wr.heap[rb]? = some (.cells (partC o) 69 (0, 0))) (hp : wr.cell? ⟨gb, 0, none⟩ = some (.pointer (some ⟨ob, 0, none⟩))) (hi : InG g o) (hf : InF g) (hT : TabZ32 w) : StepIn wr rb gb ob g o := by
  obtain ⟨bv, fv, hG, _⟩ := h
  obtain ⟨l1, a, c, rfl, _⟩ := id hG.sets
  obtain ⟨l2, fa, fc, rfl, _⟩ := id hG.fo
  have hset : ∀ (l : List (Nat → Bool)) (q j : Nat), q < l.length → j < 4 → (l.flatMap setC)[q * 4 + j]? = some (.int .u64 (word (l.getD q fun _ => false) (64 * j) 64)) := by
    intro l
    induction l with
    | nil => intro q j h; exact absurd h (Nat.not_lt_zero _)
    | cons s l ih =>
      intro q j hq hj
      have hl : (setC s).length = 4 := rfl
      rw [List.flatMap_cons]
      cases q with
      | zero =>
        rw [Nat.zero_mul, Nat.zero_add, List.getElem?_append_left (by omega)]
        rcases (by omega : j = 0 ∨ j = 1 ∨ j = 2 ∨ j = 3) with rfl | rfl | rfl | rfl <;> rfl
      | succ q =>
        rw [List.getElem?_append_right (by omega), hl, show (q + 1) * 4 + j - 4 = q * 4 + j by omega]
        exact ih q j (by simpa using hq) hj
  refine ⟨hr, hp, ⟨a, c, fa, fc, hG.blk, fun q hq => ?_, fun q hq => ?_⟩, hG.fits, hi, hf, hT.kept hG.grew⟩
  · obtain ⟨b, off, cap, e, _, _, _, _, hc⟩ := hG.sets.at (by omega)
    cases e
    refine ⟨b, off, rfl, fun j hj => ?_⟩
    rw [Nat.add_assoc]
    exact hc (q * 4 + j) _ (by omega) (hset g.sets q j hq hj)
  · obtain ⟨b, off, cap, e, _, _, _, _, hc⟩ := hG.fo.at (by omega)
    cases e
    refine ⟨b, off, rfl, ?_⟩
    refine hc q _ (by omega) ?_
    rw [List.getElem?_map, List.getD_eq_getElem?_getD, List.getElem?_eq_getElem hq]; rfl
end Go.Proofs.YtkkdpafkafjfgaaDoor
