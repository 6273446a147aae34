/- How many nodes a pattern has, how deep it is. Plain. -/
import Derived.Test.YtkkdpafkafjfgaaDoorMkPScInv
import Derived.Test.YtkkdpafkafjfgaaDoorMkGlY
import Derived.Test.YtkkdpafkafjfgaaDoorMkGlE
import Derived.Test.YtkkdpafkafjfgaaDoorMkAuSm
import Derived.Test.YtkkdpafkafjfgaaDoorMkPAuR
import Derived.Test.YtkkdpafkafjfgaaDoorMkPAuEy
import Derived.Test.YtkkdpafkafjfgaaDoorMkAuLc
import Derived.Test.YtkkdpafkafjfgaaDoorMkPGlO
namespace Go.Proofs.YtkkdpafkafjfgaaDoor
set_option linter.unusedVariables false
mutual
def nodesP : Pat → Nat
  | .mk _ _ _ _ l => 1 + nodesL l
def nodesL : List Pat → Nat
  | [] => 0
  | p :: l => nodesP p + nodesL l
end
mutual
def depthP : Pat → Nat
  | .mk _ _ _ _ l => 1 + depthL l
def depthL : List Pat → Nat
  | [] => 0
  | p :: l => max (depthP p) (depthL l)
end
theorem nodesP_pos (p : Pat) : 1 ≤ nodesP p := by cases p; rw [nodesP]; omega
theorem depthP_pos (p : Pat) : 1 ≤ depthP p := by cases p; rw [depthP]; omega
theorem nodesP_eq (p : Pat) : nodesP p = 1 + nodesL p.kids := by cases p; rfl
theorem depthP_eq (p : Pat) : depthP p = 1 + depthL p.kids := by cases p; rfl
theorem nodesL_append (a b : List Pat) : nodesL (a ++ b) = nodesL a + nodesL b := by
  induction a with
  | nil => simp [nodesL]
  | cons x a ih => rw [List.cons_append, nodesL, nodesL, ih]; omega
theorem length_le_nodes (l : List Pat) : l.length ≤ nodesL l := by
  induction l with
  | nil => simp [nodesL]
  | cons x l ih => have := nodesP_pos x; rw [nodesL, List.length_cons]; omega
theorem nodesL_mem {p : Pat} : ∀ {l : List Pat}, p ∈ l → nodesP p ≤ nodesL l
  | x :: l, h => by
    rw [nodesL]
    rcases List.mem_cons.1 h with rfl | h
    · omega
    · have := nodesL_mem h; omega
mutual
theorem sizeW_fits : ∀ (p : Pat) (d N D : Nat), 1 ≤ d → N + nodesP p ≤ 4096 → d + depthP p ≤ 201 → sizeW p d N D = (true, N + nodesP p, max D (d + depthP p - 1))
  | .mk k t n m l, d, N, D, hd, h1, h2 => by
    rw [nodesP] at h1 ⊢
    rw [depthP] at h2 ⊢
    rw [sizeW, if_pos (by omega), sizeL_fits l (d + 1) (N + 1) (max D d) (by omega) (by omega) (by omega)]
    have e1 : N + 1 + nodesL l = N + (1 + nodesL l) := by omega
    have e2 : (if l = [] then max D d else max (max D d) (d + 1 + depthL l - 1)) = max D (d + (1 + depthL l) - 1) := by
      split
      · rename_i e; subst e; rw [depthL]; omega
      · omega
    rw [e1, e2]
theorem sizeL_fits : ∀ (l : List Pat) (d N D : Nat), 1 ≤ d → N + nodesL l ≤ 4096 → d + depthL l ≤ 201 → sizeL l d N D = (true, N + nodesL l, if l = [] then D else max D (d + depthL l - 1))
  | [], d, N, D, hd, h1, h2 => rfl
  | p :: l, d, N, D, hd, h1, h2 => by
    rw [nodesL] at h1 ⊢
    rw [depthL] at h2 ⊢
    rw [sizeL, sizeW_fits p d N D hd (by omega) (by omega)]
    dsimp only
    rw [sizeL_fits l d (N + nodesP p) (max D (d + depthP p - 1)) hd (by omega) (by omega), if_neg (List.cons_ne_nil p l)]
    have := depthP_pos p
    have e1 : N + nodesP p + nodesL l = N + (nodesP p + nodesL l) := by omega
    have e2 : (if l = [] then max D (d + depthP p - 1) else max (max D (d + depthP p - 1)) (d + depthL l - 1)) = max D (d + max (depthP p) (depthL l) - 1) := by
      split
      · rename_i e; subst e; rw [depthL]; omega
      · omega
    rw [e1, e2]
end
mutual
theorem fits_sizeW : ∀ (p : Pat) (d N D : Nat), 1 ≤ d → (sizeW p d N D).1 = true → N + nodesP p ≤ 4096 ∧ d + depthP p ≤ 201
  | .mk k t n m l, d, N, D, hd, h => by
    rw [sizeW] at h
    split at h
    · rename_i h1
      have := fits_sizeL l (d + 1) (N + 1) (max D d) (by omega) (by omega) (by omega) h
      rw [nodesP, depthP]; omega
    · simp at h
theorem fits_sizeL : ∀ (l : List Pat) (d N D : Nat), 1 ≤ d → N ≤ 4096 → d ≤ 201 → (sizeL l d N D).1 = true → N + nodesL l ≤ 4096 ∧ d + depthL l ≤ 201
  | [], d, N, D, hd, hN, hd2, h => by rw [nodesL, depthL]; omega
  | p :: l, d, N, D, hd, hN, hd2, h => by
    rw [sizeL] at h
    obtain ⟨b, N', D', e⟩ : ∃ b N' D', sizeW p d N D = (b, N', D') := ⟨_, _, _, rfl⟩
    rw [e] at h
    cases b with
    | false => simp at h
    | true =>
      have h1 := fits_sizeW p d N D hd (by rw [e])
      rw [sizeW_fits p d N D hd h1.1 h1.2] at e
      cases e
      have h2 := fits_sizeL l d (N + nodesP p) _ hd (by omega) hd2 h
      rw [nodesL, depthL]; omega
end
theorem size_iff (p : Pat) : (sizeW p 1 0 0).1 = true ↔ nodesP p ≤ 4096 ∧ depthP p ≤ 200 := by
  constructor
  · intro h
    have := fits_sizeW p 1 0 0 (by omega) h
    omega
  · intro h
    rw [sizeW_fits p 1 0 0 (by omega) (by omega) (by omega)]
end Go.Proofs.YtkkdpafkafjfgaaDoor

namespace Go.Proofs.YtkkdpafkafjfgaaDoor
open Go.RowKit RR
set_option linter.unusedVariables false
set_option linter.unusedSimpArgs false
theorem nodeErr_fit {p : Pat} (h : nodeErr p = 0) : (p.kind = 1 → p.text.size ≤ 65536) ∧ (p.kind = 2 → 0 ≤ p.n ∧ p.n ≤ 65536) ∧ ((p.kind = 18 ∨ p.kind = 19 ∨ p.kind = 20) → 0 < p.kids.length) ∧ p.kids.length ≤ 4096 := by
  unfold nodeErr manyErr at h
  repeat' split at h
  all_goals first | omega | (exact absurd h (by decide)) | (refine ⟨fun e => ?_, fun e => ?_, fun e => ?_, ?_⟩ <;> omega)
mutual
theorem err_fit : ∀ p : Pat, errW p = 0 → fitP p
  | .mk k t n m l, h => by
    rw [errW] at h
    by_cases h0 : nodeErr (.mk k t n m l) = 0
    · rw [if_pos h0] at h
      obtain ⟨a, b, c, d⟩ := nodeErr_fit h0
      rw [fitP]; exact ⟨a, b, c, d, errL_fit l h⟩
    · rw [if_neg h0] at h; exact absurd h h0
theorem errL_fit : ∀ l : List Pat, errL l = 0 → fitL l
  | [], _ => by rw [fitL]; trivial
  | p :: l, h => by
    rw [errL] at h
    by_cases h0 : errW p = 0
    · rw [if_pos h0] at h
      rw [fitL]; exact ⟨err_fit p h0, errL_fit l h⟩
    · rw [if_neg h0] at h; exact absurd h h0
end
theorem patErr_fit {p : Pat} (h : patErr p = 0) : fitP p := by
  unfold patErr at h
  split at h
  · exact err_fit p h
  · exact absurd h (by decide)
def makeErr (p : Pat) : Int := if patErr p = 0 then (match placesP p with | none => 1 | some n => if 12 < n then 4 else 0) else patErr p
def gluO (p : Pat) : Part := (buildP p gl0).1.getD part0
def gluG (p : Pat) : Gl := (buildP p gl0).2
def autL (p : Pat) (l : List UInt8) : Bool := enG (gluO p) (goG (gluG p) (gluO p) begin_ l)
theorem makeErr_zero {p : Pat} (h : makeErr p = 0) : patErr p = 0 ∧ ∃ n, placesP p = some n ∧ n ≤ 12 := by
  unfold makeErr at h
  by_cases h0 : patErr p = 0
  · rw [if_pos h0] at h
    refine ⟨h0, ?_⟩
    cases e : placesP p with
    | none => rw [e] at h; cases h
    | some n =>
      rw [e] at h
      dsimp only at h
      split at h
      · cases h
      · exact ⟨n, rfl, by omega⟩
  · rw [if_neg h0] at h; exact absurd h h0
theorem glu_some {p : Pat} (hf : fullP p) {n : Nat} (h : placesP p = some n) : (buildP p gl0).1 = some (gluO p) := by
  cases e : (buildP p gl0).1 with
  | none => rw [(build_ok p hf).none_iff gl0 |>.1 e] at h; cases h
  | some o => unfold gluO; rw [e]; rfl
theorem autL_lang {p : Pat} (h : makeErr p = 0) (l : List UInt8) : autL p l = true ↔ langP p l := by
  obtain ⟨h1, n, h2, h3⟩ := makeErr_zero h
  have hf := fit_full p (patErr_fit h1)
  exact glu_lang hf (glu_some hf h2) (by rw [glu_much hf h2]; simpa using h3) l
theorem goS_goG (g : Gl) (o : Part) : ∀ (l : List UInt8) (s : Nat), goS (stG g o) s l = goG g o s l
  | [], s => rfl
  | c :: l, s => goS_goG g o l _
theorem nodup_map_on {α β : Type} (f : α → β) : ∀ {l : List α}, l.Nodup → (∀ x ∈ l, ∀ y ∈ l, f x = f y → x = y) → (l.map f).Nodup
  | [], _, _ => List.nodup_nil
  | a :: l, h, hf => by
    rw [List.nodup_cons] at h
    rw [List.map_cons, List.nodup_cons]
    refine ⟨fun hm => ?_, nodup_map_on f h.2 fun x hx y hy => hf x (List.mem_cons_of_mem _ hx) y (List.mem_cons_of_mem _ hy)⟩
    obtain ⟨y, hy, e⟩ := List.mem_map.1 hm
    have := hf y (List.mem_cons_of_mem _ hy) a (List.mem_cons_self ..) e
    rw [this] at hy; exact h.1 hy
theorem states_le {ks : List Nat} (h : ks.Nodup) (hd : ∀ x ∈ ks, x < 4096 ∨ x = begin_) : ks.length ≤ 4097 := by
  have hm : (ks.map fun x => if x = begin_ then 4096 else x).Nodup := by
    refine nodup_map_on _ h fun x hx y hy e => ?_
    rcases hd x hx with h1 | h1 <;> rcases hd y hy with h2 | h2
    · rw [if_neg (by unfold begin_; omega), if_neg (by unfold begin_; omega)] at e; exact e
    · rw [if_neg (by unfold begin_; omega), if_pos h2] at e; omega
    · rw [if_pos h1, if_neg (by unfold begin_; omega)] at e; omega
    · rw [h1, h2]
  have := nodup_lt 4097 hm (fun x hx => by
    obtain ⟨y, hy, rfl⟩ := List.mem_map.1 hx
    rcases hd y hy with h1 | h1
    · rw [if_neg (by unfold begin_; omega)]; omega
    · rw [if_pos h1]; omega)
  rwa [List.length_map] at this
theorem gl_start {w : World} {wr : World} {ob : Nat} (g : Grew w wr) (hob : w.heap.size ≤ ob) (h : wr.heap[ob]? = some (.cells #[.slice none 0 0, .slice none 0 0, .bool false] 66 (0, 0))) : GlAt w wr ob gl0 (fun k => k = ob) :=
  ⟨_, _, ⟨g, h, ⟨rfl, none, 0, rfl, Nat.le_refl _, Nat.zero_le _, fun h => absurd h (by omega)⟩, ⟨rfl, none, 0, rfl, Nat.le_refl _, Nat.zero_le _, fun h => absurd h (by omega)⟩, hob, fun k hk => (by cases hk), fun k hk => (by cases hk), fun k hk => (by cases hk), fits0⟩, fun k => ⟨fun h => h.elim id (fun h => h.elim (fun h => by cases h) (fun h => by cases h)), Or.inl⟩⟩
theorem step_in {w wr : World} {rb gb ob : Nat} {g : Gl} {o : Part} {F : Nat → Prop} (h : GlAt w wr ob g F) (hr : wr.heap[rb]? = some (.cells (partC o) 69 (0, 0))) (hp : wr.cell? ⟨gb, 0, none⟩ = some (.pointer (some ⟨ob, 0, none⟩))) (hi : InG g o) (hf : InF g) (hT : TabZ32 w) : StepIn wr rb gb ob g o := by
  obtain ⟨bv, fv, hG, _⟩ := h
  obtain ⟨l1, a, c, rfl, _⟩ := id hG.sets
  obtain ⟨l2, fa, fc, rfl, _⟩ := id hG.fo
  have hset : ∀ (l : List (Nat → Bool)) (q j : Nat), q < l.length → j < 4 → (l.flatMap setC)[q * 4 + j]? = some (.int .u64 (word (l.getD q fun _ => false) (64 * j) 64)) := by
    intro l
    induction l with
    | nil => intro q j h; exact absurd h (Nat.not_lt_zero _)
    | cons s l ih =>
      intro q j hq hj
      have hl : (setC s).length = 4 := rfl
      rw [List.flatMap_cons]
      cases q with
      | zero =>
        rw [Nat.zero_mul, Nat.zero_add, List.getElem?_append_left (by omega)]
        rcases (by omega : j = 0 ∨ j = 1 ∨ j = 2 ∨ j = 3) with rfl | rfl | rfl | rfl <;> rfl
      | succ q =>
        rw [List.getElem?_append_right (by omega), hl, show (q + 1) * 4 + j - 4 = q * 4 + j by omega]
        exact ih q j (by simpa using hq) hj
  refine ⟨hr, hp, ⟨a, c, fa, fc, hG.blk, fun q hq => ?_, fun q hq => ?_⟩, hG.fits, hi, hf, hT.kept hG.grew⟩
  · obtain ⟨b, off, cap, e, _, _, _, _, hc⟩ := hG.sets.at (by omega)
    cases e
    refine ⟨b, off, rfl, fun j hj => ?_⟩
    rw [Nat.add_assoc]
    exact hc (q * 4 + j) _ (by omega) (hset g.sets q j hq hj)
  · obtain ⟨b, off, cap, e, _, _, _, _, hc⟩ := hG.fo.at (by omega)
    cases e
    refine ⟨b, off, rfl, ?_⟩
    refine hc q _ (by omega) ?_
    rw [List.getElem?_map, List.getD_eq_getElem?_getD, List.getElem?_eq_getElem hq]; rfl
end Go.Proofs.YtkkdpafkafjfgaaDoor

namespace Go.Proofs.YtkkdpafkafjfgaaDoor
open Go.RowKit RR
set_option linter.unusedVariables false
set_option linter.unusedSimpArgs false
def TabIn (w : World) (R : RA) (v : Value) : Prop := ∃ rb ro rc eb eo ec, v = .agg #[.slice (some ⟨rb, ro, none⟩) R.n rc, .slice (some ⟨eb, eo, none⟩) R.n ec] ∧ (∀ s c, s < R.n → c < 256 → w.cell? ⟨rb, ro + s * 256 + c, none⟩ = some (.int .i64 (R.nx s c : Nat))) ∧ ∀ s, s < R.n → w.cell? ⟨eb, eo + s, none⟩ = some (.bool (R.en s))
theorem TabIn.kept {w w' : World} {R : RA} {v : Value} (h : TabIn w R v) (g : Grew w w') : TabIn w' R v := by
  obtain ⟨rb, ro, rc, eb, eo, ec, h1, h2, h3⟩ := h
  exact ⟨rb, ro, rc, eb, eo, ec, h1, fun s c hs hc => g.keeps (h2 s c hs hc), fun s hs => g.keeps (h3 s hs)⟩
theorem field_tab0 (b : Nat) (w : World) : (Instr.fieldAt 92 (.pointer (some ⟨b, 0, none⟩)) 0).run Tryd.prog w = .ok (.pointer (some ⟨b, 0, none⟩)) w := by kernel_rfl
theorem field_tab1 (b : Nat) (w : World) : (Instr.fieldAt 92 (.pointer (some ⟨b, 0, none⟩)) 1).run Tryd.prog w = .ok (.pointer (some ⟨b, 1, none⟩)) w := by kernel_rfl
theorem QRow.rebase {w : World} {b1 b2 : Nat} {e : TypeId} {size n : Nat} {v : Value} {xs : List Value} (h : QRow w b1 e size v n xs) (hb : ∀ k, v.ownBlock = some k → b2 ≤ k) : QRow w b2 e size v n xs := by
  obtain ⟨h0, a, cap, rfl, h1, h2, h3⟩ := h
  refine ⟨h0, a, cap, rfl, h1, h2, fun hc => ?_⟩
  obtain ⟨b, off, cur, rfl, k1, k2, k3, k4⟩ := h3 hc
  exact ⟨b, off, cur, rfl, hb b rfl, k2, k3, k4⟩
section
variable {en : Nat → Bool} {w W wr w' : World} {mb rb : Nat} {ks kz : List Nat} {rows : List (Nat → Nat)} {lv nv ev : Value} {me : Nat} {O : Obj}
theorem ExSo.turn (h : ExSo encI 3 1 (fun x => [.int .i64 (x : Nat)]) en w wr mb rb kz ks [] 0 lv (.slice none 0 0) (.slice none 0 0) O) (gW : Grew W wr) (hm : W.heap.size ≤ mb) (hl : ∀ k, lv.ownBlock = some k → W.heap.size ≤ k) (O2 : Obj) :
    ExSo encI 3 1 (fun x => [.int .i64 (x : Nat)]) en W (wr.alloc O2) mb wr.heap.size kz ks [] 0 lv (.slice none 0 0) (.slice none 0 0) O2 := by
  have g := (Grew.refl wr).alloc O2
  have hml := h.map.lt
  refine ⟨gW.trans g, h.map.kept g, (h.list.rebase hl).grew g, heap_alloc_new wr _, ⟨rfl, none, 0, rfl, Nat.le_refl _, Nat.zero_le _, fun h => absurd h (by omega)⟩, ⟨rfl, none, 0, rfl, Nat.le_refl _, Nat.zero_le _, fun h => absurd h (by omega)⟩, ⟨hm, gW.size, by omega⟩, fun k hk => ?_, fun k hk => (by cases hk), fun k hk => (by cases hk), fun k hk => ⟨by simp [Value.ownBlock], by simp [Value.ownBlock]⟩, fun k hk => (by cases hk)⟩
  obtain ⟨p1, p2, p3, p4⟩ := h.ownl k hk
  rw [World.size_alloc]
  exact ⟨p1, by omega, hl k hk, by omega⟩
theorem ExSo.setRaw {cs : Array Value} {T : TypeId} (h : ExSo encI 3 1 (fun x => [.int .i64 (x : Nat)]) en w wr mb rb kz ks rows me lv nv ev (.cells cs T (0, 0))) (o : Nat) (v : Value) :
    ExSo encI 3 1 (fun x => [.int .i64 (x : Nat)]) en w (wr.setCell ⟨rb, o, none⟩ v) mb rb kz ks rows me lv nv ev (.cells (cs.setIfInBounds o v) T (0, 0)) := by
  have hk : ∀ k, k ≠ rb → (wr.setCell ⟨rb, o, none⟩ v).heap[k]? = wr.heap[k]? := fun k hk => q_set_other _ _ (Ne.symm hk)
  have hsz : (wr.setCell ⟨rb, o, none⟩ v).heap.size = wr.heap.size := by simp [World.setCell]
  refine ⟨h.grew.setCell (p := ⟨rb, o, none⟩) h.lo.2.1 _, h.map.block (hk _ h.lo.2.2), h.list.kept fun k hk2 _ => hk k (h.ownl k hk2).2.1, q_set_same h.raw o v, h.next.kept fun k hk2 _ => hk k (h.ownn k hk2).2.1, h.ends.kept fun k hk2 _ => hk k (h.owne k hk2).2.1, h.lo, fun k hk2 => ?_, fun k hk2 => ?_, fun k hk2 => ?_, h.ln, h.ne⟩
  · rw [hsz]; exact h.ownl k hk2
  · rw [hsz]; exact h.ownn k hk2
  · rw [hsz]; exact h.owne k hk2
theorem ExSo.table {st : Nat → Nat → Nat} {D : Nat → Prop} {c : Nat} {row : Nat → Nat} (h : ExSo encI 3 1 (fun x => [.int .i64 (x : Nat)]) en w wr mb rb kz ks rows ks.length lv nv ev O) (hX : Exp 0 st D ks rows ks.length c row) (hw : ∀ k, w.heap.size ≤ k → w'.heap[k]? = wr.heap[k]?) : TabIn w' (expA en 0 ks rows) (.agg #[nv, ev]) := by
  have hl := hX.len
  have hp := hX.head.2
  obtain ⟨nb, no, nc, e1, l1, _, _, _, hc⟩ := h.next.at (by omega)
  obtain ⟨eb, eo, ec, e2, l2, _, _, _, hc2⟩ := h.ends.at (by omega)
  rw [hl] at hc
  refine ⟨nb, no, nc, eb, eo, ec, by rw [e1, e2, hl]; rfl, fun s d hs hd => ?_, fun s hs => ?_⟩
  · have hs : s < ks.length := hs
    rw [Nat.add_assoc, World.cell?_of_block (a := ⟨nb, no + (s * 256 + d), none⟩) (hw nb l1)]
    exact hc (s * 256 + d) _ (by have : (s + 1) * 256 ≤ ks.length * 256 := Nat.mul_le_mul_right _ hs; omega) (rowsC_get hd rows s (by omega))
  · have hs : s < ks.length := hs
    rw [World.cell?_of_block (a := ⟨eb, eo + s, none⟩) (hw eb l2)]
    refine hc2 s _ (by omega) ?_
    rw [List.take_length, List.getElem?_map, List.getElem?_eq_getElem hs]
    show some (Value.bool (en ks[s])) = some (.bool (en (ks.getD s 0)))
    rw [List.getD_eq_getElem?_getD, List.getElem?_eq_getElem hs]; rfl
end
section
variable {ops : Array Oper} {rest : List Oper} {o : Oper} {a : Act} {w : World} {Q : Exit → Act → World → Prop}
theorem wpList_store_tab (hgd : o.guard = none) {x y : Operand} (ho : o.op = .store 92 x y) {b : Nat} {old av : Array Value} (hx : a.eval x = .pointer (some ⟨b, 0, none⟩)) (hy : a.eval y = .agg av) (hb : w.heap[b]? = some (.cells old 92 (0, 0))) (h1 : old.size = 2) (h2 : av.size = 2) (h3 : av.all (·.oneCell') = true)
    (h : wpList Tryd.prog ops Q rest (a.put o.dst undef) (w.setRow b av)) : wpList Tryd.prog ops Q (o :: rest) a w := by
  refine wpList_plain hgd fun _ hK => ?_
  unfold Oper.wp execOp
  simp only [ho, hx, hy, Instr.storeAt, Instr.sureAddr, Sem.run_bind, Sem.run_pure, Result.andThen_ok, run_storeVar_row w b _ _ _ _ hb (by rw [h2]; exact info_tab) (by rw [h1, h2]) h3]
  exact hK _ _ h
theorem wpList_load_tab (hgd : o.guard = none) {x : Operand} (ho : o.op = .load 92 x) {b : Nat} {av : Array Value} (hx : a.eval x = .pointer (some ⟨b, 0, none⟩)) (hb : w.heap[b]? = some (.cells av 92 (0, 0))) (h2 : av.size = 2)
    (h : wpList Tryd.prog ops Q rest (a.put o.dst (.agg av)) w) : wpList Tryd.prog ops Q (o :: rest) a w := by
  refine wpList_plain hgd fun _ hK => ?_
  have hl := run_loadVar_row (P := Tryd.prog) w b 92 92 av (0, 0) _ hb Tryd.underlying92 rfl (by rw [h2]; exact info_tab)
  unfold Oper.wp execOp
  simp only [ho, hx, Instr.loadAt, Instr.sureAddr, Sem.run_bind, Sem.run_pure, Result.andThen_ok, hl]
  exact hK _ _ h
end
end Go.Proofs.YtkkdpafkafjfgaaDoor

namespace Go.Proofs.YtkkdpafkafjfgaaDoor
open Go.RowKit RR
set_option linter.unusedVariables false
set_option linter.unusedSimpArgs false
set_option maxRecDepth 100000
structure Spl (W wr : World) (gb q n : Nat) (g : Nat → Nat) : Prop where
  grew : Grew W wr
  box : wr.heap[gb]? = some (.cells #[.slice (some ⟨q, 0, none⟩) n n] 37 (0, 0))
  arr : ArrAt wr q 0 n fun i => .int .i64 (g i : Nat)
  lo : W.heap.size ≤ gb ∧ W.heap.size ≤ q ∧ q ≠ gb
section
variable {W wr w' : World} {gb q n : Nat} {g : Nat → Nat}
theorem Spl.kept (h : Spl W wr gb q n g) (k : Grew wr w') : Spl W w' gb q n g := ⟨h.grew.trans k, heap_kept k h.box, h.arr.kept k, h.lo⟩
theorem Spl.cell (h : Spl W wr gb q n g) : wr.cell? ⟨gb, 0, none⟩ = some (.slice (some ⟨q, 0, none⟩) n n) := by unfold World.cell?; dsimp only; rw [h.box]; rfl
theorem Spl.blt (h : Spl W wr gb q n g) : gb < wr.heap.size := (Array.getElem?_eq_some_iff.1 h.box).1
def cellN (w : World) (a : Addr) : Nat := match w.cell? a with | some (.int _ k) => k.toNat | _ => 0
def gOf (w : World) (gb i : Nat) : Nat := match w.heap[gb]? with
  | some (Obj.cells cs _ _) => (match cs.getD 0 undef with | Value.slice (some a) _ _ => cellN w ⟨a.block, a.off + i, none⟩ | _ => 0)
  | _ => 0
theorem Spl.gOf (h : Spl W wr gb q n g) {i : Nat} (hi : i < n) : Go.Proofs.YtkkdpafkafjfgaaDoor.gOf wr gb i = g i := by
  unfold Go.Proofs.YtkkdpafkafjfgaaDoor.gOf
  rw [h.box]
  dsimp only
  show cellN wr ⟨q, 0 + i, none⟩ = g i
  unfold cellN
  rw [h.arr.at i hi]; rfl
theorem Spl.cnt (h : Spl W wr gb q n g) : gcnt (Go.Proofs.YtkkdpafkafjfgaaDoor.gOf wr gb) n = gcnt g n := gcnt_congr fun i hi => h.gOf hi
end
structure Mak (w0 wr : World) (mt n : Nat) (f : Nat → Nat × Nat) (i : Nat) : Prop where
  grew : Grew w0 wr
  map : KMap enc2 wr mt (numL (upN f i))
  arr : ArrAt wr (mt + 1) 0 n fun j => .int .i64 ((if j < i then numb f n j else 0 : Nat) : Int)
section
variable {w0 wr w' : World} {mt n i : Nat} {f : Nat → Nat × Nat}
theorem Mak.kept (h : Mak w0 wr mt n f i) (g : Grew wr w') : Mak w0 w' mt n f i := ⟨h.grew.trans g, h.map.kept g, h.arr.kept g⟩
theorem mak_next {f : Nat → Nat × Nat} {n i : Nat} (j : Nat) : (if j < i + 1 then numb f n j else 0) = if j = i then numb f n i else (if j < i then numb f n j else 0) := by
  by_cases e : j = i
  · subst e; rw [if_pos (by omega), if_pos rfl]
  · by_cases e2 : j < i
    · rw [if_pos (by omega), if_neg e, if_pos e2]
    · rw [if_neg (by omega), if_neg e, if_neg e2]
theorem Mak.old (h : Mak w0 wr mt n f i) (hb : w0.heap.size ≤ mt) (hi : i < n) (hq : f i ∈ upN f i) {q : Nat} (hqe : numb f n i = q) : Mak w0 (wr.setCell ⟨mt + 1, i, none⟩ (.int .i64 (q : Nat))) mt n f (i + 1) :=
  ⟨h.grew.setCell (p := ⟨mt + 1, i, none⟩) (by show w0.heap.size ≤ mt + 1; omega) _, by rw [upN_old hq]; exact h.map.other ⟨mt + 1, i, none⟩ (by show mt + 1 ≠ mt; omega) _, (h.arr.set0 i hi (.int .i64 (q : Nat))).congr fun j hj => by
    rw [mak_next]
    by_cases e : j = i
    · rw [if_pos e, if_pos e, hqe]
    · rw [if_neg e, if_neg e]⟩
theorem Mak.put (h : Mak w0 wr mt n f i) (hb : w0.heap.size ≤ mt) (hi : i < n) (hq : f i ∉ upN f i) (hD : enc2.D (f i)) :
    ∃ w6, (Instr.mapUpdate 160 (.map (some mt)) (enc2.enc (f i)) (.int .i64 ((upN f i).length : Nat))).run Tryd.prog wr = .ok () w6 ∧ w6.heap.size = wr.heap.size ∧ (∀ k, k < wr.heap.size → k ≠ mt → w6.heap[k]? = wr.heap[k]?) ∧
      KMap enc2 w6 mt (numL (upN f (i + 1))) ∧ ArrAt w6 (mt + 1) 0 n (fun j => .int .i64 ((if j < i then numb f n j else 0 : Nat) : Int)) ∧ Grew w0 w6 ∧ Mak w0 (w6.setCell ⟨mt + 1, i, none⟩ (.int .i64 ((upN f i).length : Nat))) mt n f (i + 1) := by
  obtain ⟨w6, hput, hK6, hg6, hs6⟩ := h.map.put key2 (t := 160) Tryd.underlying160 hD (by rw [numL_fst]; exact hq) (.int .i64 ((upN f i).length : Nat))
  rw [← numL_snoc, ← upN_new hq] at hK6
  have hbk : ∀ k, k < wr.heap.size → k ≠ mt → w6.heap[k]? = wr.heap[k]? := fun k h1 h2 => hg6.block k h1 (fun e => by injection e with e; omega)
  have hA6 := arr_block h.arr (hbk _ (h.arr.lt (by omega)) (by omega))
  have hG6 : Grew w0 w6 := grew_grown h.grew hg6 fun b e => by injection e with e; omega
  refine ⟨w6, hput, hs6, hbk, hK6, hA6, hG6, hG6.setCell (p := ⟨mt + 1, i, none⟩) (by show w0.heap.size ≤ mt + 1; omega) _, hK6.other ⟨mt + 1, i, none⟩ (by show mt + 1 ≠ mt; omega) _, (hA6.set0 i hi (.int .i64 ((upN f i).length : Nat))).congr fun j hj => ?_⟩
  rw [mak_next, numb_new hi hq]
  by_cases e : j = i
  · rw [if_pos e, if_pos e]
  · rw [if_neg e, if_neg e]
end
def onesB (L : List Nat) : List (Nat × Value) := L.map fun x => (x, .bool true)
theorem onesB_fst (L : List Nat) : (onesB L).map (·.1) = L := by unfold onesB; rw [List.map_map]; simp [Function.comp_def]
theorem onesB_len (L : List Nat) : (onesB L).length = L.length := by unfold onesB; rw [List.length_map]
theorem old_step {w0 wr : World} {ot i : Nat} {g : Nat → Nat} (h : KMap encI wr ot (onesB (upN g i))) (hG : Grew w0 wr) (hb : w0.heap.size ≤ ot) (h9 : g i ≤ 9223372036854775807) :
    ∃ w6, (Instr.mapUpdate 162 (.map (some ot)) (.int .i64 (g i : Nat)) (.bool true)).run Tryd.prog wr = .ok () w6 ∧ KMap encI w6 ot (onesB (upN g (i + 1))) ∧ Grew w0 w6 := by
  by_cases hq : g i ∈ upN g i
  · obtain ⟨w6, hput, hK6, hg6, hs6⟩ := h.again keyI (t := 162) Tryd.underlying162 (x := g i) (v := .bool true) (List.mem_map.2 ⟨_, hq, rfl⟩)
    exact ⟨w6, hput, by rw [upN_old hq]; exact hK6, grew_grown hG hg6 fun b e => by injection e with e; omega⟩
  · obtain ⟨w6, hput, hK6, hg6, hs6⟩ := h.put keyI (t := 162) Tryd.underlying162 (x := g i) h9 (by rw [onesB_fst]; exact hq) (.bool true)
    refine ⟨w6, hput, ?_, grew_grown hG hg6 fun b e => by injection e with e; omega⟩
    rw [upN_new hq]
    unfold onesB at hK6 ⊢
    rw [List.map_append]; exact hK6
end Go.Proofs.YtkkdpafkafjfgaaDoor
