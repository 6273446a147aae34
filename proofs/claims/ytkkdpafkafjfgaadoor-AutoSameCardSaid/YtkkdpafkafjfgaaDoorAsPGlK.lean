/- What Make answers, in plain words. -/
import Derived.Test.YtkkdpafkafjfgaaDoorAsGlY
import Derived.Test.YtkkdpafkafjfgaaDoorAsGlE
import Derived.Test.YtkkdpafkafjfgaaDoorAsUnSimA
namespace Go.Proofs.YtkkdpafkafjfgaaDoor
open Go.RowKit RR
set_option linter.unusedVariables false
set_option linter.unusedSimpArgs false
theorem nodeErr_fit {p : Pat} (h : nodeErr p = 0) : (p.kind = 1 → p.text.size ≤ 65536) ∧ (p.kind = 2 → 0 ≤ p.n ∧ p.n ≤ 65536) ∧ ((p.kind = 18 ∨ p.kind = 19 ∨ p.kind = 20) → 0 < p.kids.length) ∧ p.kids.length ≤ 4096 := by
  unfold nodeErr manyErr at h
  repeat' split at h
  all_goals first | omega | (exact absurd h (by decide)) | (refine ⟨fun e => ?_, fun e => ?_, fun e => ?_, ?_⟩ <;> omega)
mutual
theorem err_fit : ∀ p : Pat, errW p = 0 → fitP p
  | .mk k t n m l, h => by
    rw [errW] at h
    by_cases h0 : nodeErr (.mk k t n m l) = 0
    · rw [if_pos h0] at h
      obtain ⟨a, b, c, d⟩ := nodeErr_fit h0
      rw [fitP]; exact ⟨a, b, c, d, errL_fit l h⟩
    · rw [if_neg h0] at h; exact absurd h h0
theorem errL_fit : ∀ l : List Pat, errL l = 0 → fitL l
  | [], _ => by rw [fitL]; trivial
  | p :: l, h => by
    rw [errL] at h
    by_cases h0 : errW p = 0
    · rw [if_pos h0] at h
      rw [fitL]; exact ⟨err_fit p h0, errL_fit l h⟩
    · rw [if_neg h0] at h; exact absurd h h0
end
theorem patErr_fit {p : Pat} (h : patErr p = 0) : fitP p := by
  unfold patErr at h
  split at h
  · exact err_fit p h
  · exact absurd h (by decide)
def makeErr (p : Pat) : Int := if patErr p = 0 then (match placesP p with | none => 1 | some n => if 12 < n then 4 else 0) else patErr p
def gluO (p : Pat) : Part := (buildP p gl0).1.getD part0
def gluG (p : Pat) : Gl := (buildP p gl0).2
def autL (p : Pat) (l : List UInt8) : Bool := enG (gluO p) (goG (gluG p) (gluO p) begin_ l)
theorem makeErr_zero {p : Pat} (h : makeErr p = 0) : patErr p = 0 ∧ ∃ n, placesP p = some n ∧ n ≤ 12 := by
  unfold makeErr at h
  by_cases h0 : patErr p = 0
  · rw [if_pos h0] at h
    refine ⟨h0, ?_⟩
    cases e : placesP p with
    | none => rw [e] at h; cases h
    | some n =>
      rw [e] at h
      dsimp only at h
      split at h
      · cases h
      · exact ⟨n, rfl, by omega⟩
  · rw [if_neg h0] at h; exact absurd h h0
theorem glu_some {p : Pat} (hf : fullP p) {n : Nat} (h : placesP p = some n) : (buildP p gl0).1 = some (gluO p) := by
  cases e : (buildP p gl0).1 with
  | none => rw [(build_ok p hf).none_iff gl0 |>.1 e] at h; cases h
  | some o => unfold gluO; rw [e]; rfl
theorem autL_lang {p : Pat} (h : makeErr p = 0) (l : List UInt8) : autL p l = true ↔ langP p l := by
  obtain ⟨h1, n, h2, h3⟩ := makeErr_zero h
  have hf := fit_full p (patErr_fit h1)
  exact glu_lang hf (glu_some hf h2) (by rw [glu_much hf h2]; simpa using h3) l
theorem goS_goG (g : Gl) (o : Part) : ∀ (l : List UInt8) (s : Nat), goS (stG g o) s l = goG g o s l
  | [], s => rfl
  | c :: l, s => goS_goG g o l _
theorem nodup_map_on {α β : Type} (f : α → β) : ∀ {l : List α}, l.Nodup → (∀ x ∈ l, ∀ y ∈ l, f x = f y → x = y) → (l.map f).Nodup
  | [], _, _ => List.nodup_nil
  | a :: l, h, hf => by
    rw [List.nodup_cons] at h
    rw [List.map_cons, List.nodup_cons]
    refine ⟨fun hm => ?_, nodup_map_on f h.2 fun x hx y hy => hf x (List.mem_cons_of_mem _ hx) y (List.mem_cons_of_mem _ hy)⟩
    obtain ⟨y, hy, e⟩ := List.mem_map.1 hm
    have := hf y (List.mem_cons_of_mem _ hy) a (List.mem_cons_self ..) e
    rw [this] at hy; exact h.1 hy
theorem states_le {ks : List Nat} (h : ks.Nodup) (hd : ∀ x ∈ ks, x < 4096 ∨ x = begin_) : ks.length ≤ 4097 := by
  have hm : (ks.map fun x => if x = begin_ then 4096 else x).Nodup := by
    refine nodup_map_on _ h fun x hx y hy e => ?_
    rcases hd x hx with h1 | h1 <;> rcases hd y hy with h2 | h2
    · rw [if_neg (by unfold begin_; omega), if_neg (by unfold begin_; omega)] at e; exact e
    · rw [if_neg (by unfold begin_; omega), if_pos h2] at e; omega
    · rw [if_pos h1, if_neg (by unfold begin_; omega)] at e; omega
    · rw [h1, h2]
  have := nodup_lt 4097 hm (fun x hx => by
    obtain ⟨y, hy, rfl⟩ := List.mem_map.1 hx
    rcases hd y hy with h1 | h1
    · rw [if_neg (by unfold begin_; omega)]; omega
    · rw [if_pos h1]; omega)
  rwa [List.length_map] at this
theorem gl_start {w : World} {wr : World} {ob : Nat} (g : Grew w wr) (hob : w.heap.size ≤ ob) (h : wr.heap[ob]? = some (.cells #[.slice none 0 0, .slice none 0 0, .bool false] 66 (0, 0))) : GlAt w wr ob gl0 (fun k => k = ob) :=
  ⟨_, _, ⟨g, h, ⟨rfl, none, 0, rfl, Nat.le_refl _, Nat.zero_le _, fun h => absurd h (by omega)⟩, ⟨rfl, none, 0, rfl, Nat.le_refl _, Nat.zero_le _, fun h => absurd h (by omega)⟩, hob, fun k hk => (by cases hk), fun k hk => (by cases hk), fun k hk => (by cases hk), fits0⟩, fun k => ⟨fun h => h.elim id (fun h => h.elim (fun h => by cases h) (fun h => by cases h)), Or.inl⟩⟩
theorem step_in {w wr : World} {rb gb ob : Nat} {g : Gl} {o : Part} {F : Nat → Prop} (h : GlAt w wr ob g F) (hr : wr.heap[rb]? = some (.cells (partC o) 69 (0, 0))) (hp : wr.cell? ⟨gb, 0, none⟩ = some (.pointer (some ⟨ob, 0, none⟩))) (hi : InG g o) (hf : InF g) (hT : TabZ32 w) : StepIn wr rb gb ob g o := by
  obtain ⟨bv, fv, hG, _⟩ := h
  obtain ⟨l1, a, c, rfl, _⟩ := id hG.sets
  obtain ⟨l2, fa, fc, rfl, _⟩ := id hG.fo
  have hset : ∀ (l : List (Nat → Bool)) (q j : Nat), q < l.length → j < 4 → (l.flatMap setC)[q * 4 + j]? = some (.int .u64 (word (l.getD q fun _ => false) (64 * j) 64)) := by
    intro l
    induction l with
    | nil => intro q j h; exact absurd h (Nat.not_lt_zero _)
    | cons s l ih =>
      intro q j hq hj
      have hl : (setC s).length = 4 := rfl
      rw [List.flatMap_cons]
      cases q with
      | zero =>
        rw [Nat.zero_mul, Nat.zero_add, List.getElem?_append_left (by omega)]
        rcases (by omega : j = 0 ∨ j = 1 ∨ j = 2 ∨ j = 3) with rfl | rfl | rfl | rfl <;> rfl
      | succ q =>
        rw [List.getElem?_append_right (by omega), hl, show (q + 1) * 4 + j - 4 = q * 4 + j by omega]
        exact ih q j (by simpa using hq) hj
  refine ⟨hr, hp, ⟨a, c, fa, fc, hG.blk, fun q hq => ?_, fun q hq => ?_⟩, hG.fits, hi, hf, hT.kept hG.grew⟩
  · obtain ⟨b, off, cap, e, _, _, _, _, hc⟩ := hG.sets.at (by omega)
    cases e
    refine ⟨b, off, rfl, fun j hj => ?_⟩
    rw [Nat.add_assoc]
    exact hc (q * 4 + j) _ (by omega) (hset g.sets q j hq hj)
  · obtain ⟨b, off, cap, e, _, _, _, _, hc⟩ := hG.fo.at (by omega)
    cases e
    refine ⟨b, off, rfl, ?_⟩
    refine hc q _ (by omega) ?_
    rw [List.getElem?_map, List.getD_eq_getElem?_getD, List.getElem?_eq_getElem hq]; rfl
end Go.Proofs.YtkkdpafkafjfgaaDoor

namespace Go.Proofs.YtkkdpafkafjfgaaDoor
open Go.RowKit
set_option linter.unusedVariables false
theorem nodes_pos (p : Pat) : 0 < nodesP p := by
  obtain ⟨k, t, n, m, l⟩ := p
  rw [nodesP]; omega
theorem nodes_mem {q : Pat} : ∀ {l : List Pat}, q ∈ l → nodesP q ≤ nodesL l
  | p :: l, h => by
    rw [nodesL]
    rcases List.mem_cons.1 h with rfl | h
    · omega
    · have := nodes_mem h; omega
theorem simple_at (p : Pat) (kv : Value) (w : World) (h : SimpIn p kv w) : Calls Tryd.prog 48 #[.agg (p.cells kv)] w (SingleEnd w.heap.size (simple p) w) := by
  obtain ⟨k, t, n, m, l⟩ := p
  have hk : 1 ≤ k ∧ k ≤ 24 := ((errW_iff _).1 h.right).1.kind
  show Calls _ _ #[.agg #[.int .i64 k, .string t, .int .i64 n, .string m, kv]] _ _
  have hc : k = 1 ∨ k = 2 ∨ k = 3 ∨ k = 4 ∨ k = 5 ∨ k = 6 ∨ k = 7 ∨ k = 8 ∨ k = 9 ∨ k = 10 ∨ k = 11 ∨ k = 12 ∨ k = 13 ∨ k = 14 ∨ k = 15 ∨ k = 16 ∨ k = 17 ∨ k = 18 ∨ k = 19 ∨ k = 20 ∨ k = 21 ∨ k = 22 ∨ k = 23 ∨ k = 24 := by omega
  obtain ⟨q, hq⟩ : ∃ q, (l.map simple).getD 0 Pat.zero = q := ⟨_, rfl⟩
  rcases hc with rfl | rfl | rfl | rfl | rfl | rfl | rfl | rfl | rfl | rfl | rfl | rfl | rfl | rfl | rfl | rfl | rfl | rfl | rfl | rfl | rfl | rfl | rfl | rfl
  · exact simple_k1 t n m l kv w h
  · by_cases e : n = 0
    · exact simple_k2b t n m l kv w h e
    · exact simple_k2a t n m l kv w h e
  · by_cases e : (spell t).size = 1
    · exact simple_k3b t n m l kv w h e
    · exact simple_k3a t n m l kv w h e
  · exact simple_k4 t n m l kv w h
  · exact simple_k5 t n m l kv w h
  · exact simple_k6 t n m l kv w h
  · exact simple_k7 t n m l kv w h
  · exact simple_k8 t n m l kv w h
  · by_cases e : n = 0
    · exact simple_k9b t n m l kv w h e
    · exact simple_k9a t n m l kv w h e
  · exact simple_k10 t n m l kv w h
  · exact simple_k11 t n m l kv w h
  · exact simple_k12 t n m l kv w h
  · exact simple_k13 t n m l kv w h
  · exact simple_k14 t n m l kv w h
  · exact simple_k15 t n m l kv w h
  · exact simple_k16 t n m l kv w h
  · exact simple_k17 t n m l kv w h
  · exact simple_k18 t n m l kv w h
  · exact simple_k19 t n m l kv w h
  · cases e1 : emptyP ((l.map simple).getD 0 Pat.zero) with
    | true => exact simple_k20a t n m l kv w h e1
    | false =>
      cases e2 : (((l.map simple).getD 0 Pat.zero).kind == 15) with
      | true => exact simple_k20b t n m l kv w h e1 e2
      | false =>
        cases e3 : (((l.map simple).getD 0 Pat.zero).kind == 2) with
        | true =>
          by_cases e4 : ((l.map simple).getD 0 Pat.zero).n = 1
          · exact simple_k20c t n m l kv w h e1 e2 e3 e4
          · exact simple_k20e t n m l kv w h e1 e2 e3 e4
        | false => exact simple_k20d t n m l kv w h e1 e2 e3
  · cases e1 : (((l.map simple).getD 0 Pat.zero).kind == 15) with
    | true => exact simple_k21a t n m l kv w h e1
    | false =>
      cases e2 : (((l.map simple).getD 0 Pat.zero).kind == 17) with
      | true => exact simple_k21b t n m l kv w h e1 e2
      | false => exact simple_k21c t n m l kv w h e1 e2
  · cases e1 : (((l.map simple).getD 0 Pat.zero).kind == 15) with
    | true => exact simple_k22a t n m l kv w h e1
    | false =>
      cases e2 : (((l.map simple).getD 0 Pat.zero).kind == 17) with
      | true => exact simple_k22b t n m l kv w h e1 e2
      | false => exact simple_k22c t n m l kv w h e1 e2
  · exact simple_k23 t n m l kv w h
  · exact simple_k24 t n m l kv w h
theorem simple_fuel : ∀ (f : Nat) (p : Pat) (kv : Value) (w : World), nodesP p ≤ f → PatV w kv p → errW p = 0 → nodesP p ≤ 4096 → TabZ w →
    Calls Tryd.prog 48 #[.agg (p.cells kv)] w (SingleEnd w.heap.size (simple p) w)
  | 0, p, kv, w, hf, _, _, _, _ => by have := nodes_pos p; omega
  | f + 1, p, kv, w, hf, hv, hr, hn, hT => by
    refine simple_at p kv w ⟨hv, hr, hn, hT, fun q hq kv' w' g hv' => ?_⟩
    have h1 : nodesP q + 1 ≤ nodesP p := by
      obtain ⟨k, t, n, m, l⟩ := p
      have := nodes_mem (show q ∈ l from hq)
      rw [nodesP]; omega
    exact simple_fuel f q kv' w' (by omega) hv' (((errW_iff _).1 hr).2 q hq) (by omega) (hT.kept g)
theorem simple_any (p : Pat) (kv : Value) (w : World) (hv : PatV w kv p) (hr : errW p = 0) (hn : nodesP p ≤ 4096) (hT : TabZ w) :
    Calls Tryd.prog 48 #[.agg (p.cells kv)] w (SingleEnd w.heap.size (simple p) w) := simple_fuel _ p kv w (Nat.le_refl _) hv hr hn hT
end Go.Proofs.YtkkdpafkafjfgaaDoor
namespace Go.Proofs.YtkkdpafkafjfgaaDoor
open Go.RowKit
set_option linter.unusedVariables false
def SimplifyEnd (p : Pat) (w : World) (e : Ending) (w' : World) : Prop :=
  (patErr p = 0 ∧ ∃ a n c, e = .returned (.tuple #[.agg #[.int .i64 (simple p).kind, .string (simple p).text, .int .i64 (simple p).n, .string (simple p).name, .slice a n c], .int .i64 0]) ∧ PQ w' (fun b => w.heap.size ≤ b) (.slice a n c) (simple p) ∧ Grew w w') ∨
  (patErr p ≠ 0 ∧ e = .returned (.tuple #[.agg #[.int .i64 0, .string ⟨#[]⟩, .int .i64 0, .string ⟨#[]⟩, .slice none 0 0], .int .i64 (patErr p)]) ∧ Grew w w')
set_option maxRecDepth 100000 in
set_option maxHeartbeats 1000000 in
theorem Simplify_any (p : Pat) (kv : Value) (w : World) (hv : PatV w kv p) (hT : TabZ w) :
    Calls Tryd.prog 22 #[.agg (p.cells kv)] w (SimplifyEnd p w) := by
  have HV := hidd (And.intro hv hT)
  have HW : Hid (∀ w1, Grew w w1 → Calls Tryd.prog 25 #[.agg (p.cells kv)] w1 fun e w' => e = .returned (.int .i64 (patErr p)) ∧ Grew w1 w') := fun w1 g => Wrong_any kv p w1 (hv.kept g)
  clear hv hT
  rw [cells_eq] at HW ⊢
  have HH0 : Hid (Grew w ((w.alloc (.cells #[.int .i64 p.kind, .string p.text, .int .i64 p.n, .string p.name, kv] 24)).alloc (.cells #[.int .i64 0, .string ⟨#[]⟩, .int .i64 0, .string ⟨#[]⟩, .slice none 0 0] 24)) ∧ ((w.alloc (.cells #[.int .i64 p.kind, .string p.text, .int .i64 p.n, .string p.name, kv] 24)).alloc (.cells #[.int .i64 0, .string ⟨#[]⟩, .int .i64 0, .string ⟨#[]⟩, .slice none 0 0] 24)).heap[w.heap.size]? = some (.cells #[.int .i64 p.kind, .string p.text, .int .i64 p.n, .string p.name, kv] 24 (0, 0)) ∧ ((w.alloc (.cells #[.int .i64 p.kind, .string p.text, .int .i64 p.n, .string p.name, kv] 24)).alloc (.cells #[.int .i64 0, .string ⟨#[]⟩, .int .i64 0, .string ⟨#[]⟩, .slice none 0 0] 24)).heap[w.heap.size + 1]? = some (.cells #[.int .i64 0, .string ⟨#[]⟩, .int .i64 0, .string ⟨#[]⟩, .slice none 0 0] 24 (0, 0))) :=
    ⟨((Grew.refl w).alloc _).alloc _, heap_moreT (heap_alloc_new w _), heap_second w _ _⟩
  by_cases h0 : patErr p = 0
  · have HE := hidd h0
    rw [h0] at HW
    have HS : Hid (∀ w1, Grew w w1 → Calls Tryd.prog 48 #[.agg (p.cells kv)] w1 (SingleEnd w1.heap.size (simple p) w1)) := fun w1 g => simple_any p kv w1 (HV.out.1.kept g) ((patErr_iff p).1 h0).1 ((patErr_iff p).1 h0).2.1 (HV.out.2.kept g)
    rw [cells_eq] at HS
    clear h0
    go_enter Tryd.func22, Tryd.ntmps22
    go_wp2_with fail
    refine (HW.out _ HH0.out.1).mono ?_; rintro e w1 ⟨rfl, g1⟩
    have HG1 := hidd (HH0.out.1.trans g1)
    have HB1 := hidd (heap_keptT g1 HH0.out.2.1)
    have HZ1 := hidd (heap_keptT g1 HH0.out.2.2)
    clear g1
    obtain ⟨⟨b0, b1, b2, b3, b4⟩, bf⟩ := five_cells HB1.out
    go_wp2_with fail
    refine (HS.out _ HG1.out).mono ?_; rintro e w2 ⟨kv2, rfl, hq, g2⟩
    obtain ⟨qa, qn, qc, rfl⟩ := hq.form
    have HG2 := hidd (HG1.out.trans g2)
    have HZ2 := hidd (heap_keptT g2 HZ1.out)
    have HQ := hidd hq
    have hs : w.heap.size + 1 < w1.heap.size := (Array.getElem?_eq_some_iff.1 HZ1.out).1
    obtain ⟨⟨z0, z1, z2, z3, z4⟩, zf⟩ := five_cells HZ2.out
    rw [cells_eq]
    obtain ⟨X, hX⟩ : ∃ X, simple p = X := ⟨_, rfl⟩
    rw [hX] at HQ ⊢
    have HXX := hidd hX
    clear g2 hq hX b0 b1 b2 b3 b4 bf HB1 HZ1 HH0
    go_wp2_with fail
    refine bodyPost_ret (results_pat2 rfl rfl rfl (setPat_heap HZ2.out) rfl) rfl (Or.inl ⟨HE.out, ?_⟩)
    rw [HXX.out]
    obtain ⟨v, h1, h2, h3⟩ := own_end X (N0 := w.heap.size) (w0 := w) HQ.out hs (by omega) HG2.out (Nat.le_succ _) (.int .i64 X.kind) (.string X.text) (.int .i64 X.n) (.string X.name) (.slice qa qn qc)
    cases h1
    exact ⟨qa, qn, qc, rfl, h2, h3⟩
  · have HE := hidd h0
    obtain ⟨z, hz⟩ : ∃ z, patErr p = z := ⟨_, rfl⟩
    rw [hz] at HW
    have kz : (z == 0) = false := by rw [beq_eq_false_iff_ne, ← hz]; exact h0
    have HZZ := hidd hz
    clear h0 hz
    go_enter Tryd.func22, Tryd.ntmps22
    go_wp2_with fail
    refine (HW.out _ HH0.out.1).mono ?_; rintro e w1 ⟨rfl, g1⟩
    have HG1 := hidd (HH0.out.1.trans g1)
    have HZ1 := hidd (heap_keptT g1 HH0.out.2.2)
    clear g1
    obtain ⟨⟨z0, z1, z2, z3, z4⟩, zf⟩ := five_cells HZ1.out
    go_wp2_with fail
    exact bodyPost_ret (results_pat2 rfl rfl rfl (setPat_heap HZ1.out) rfl) rfl (Or.inr ⟨HE.out, by rw [HZZ.out]; rfl, setPat_grew HG1.out (Nat.le_succ _) _ _ _ _ _⟩)
end Go.Proofs.YtkkdpafkafjfgaaDoor
