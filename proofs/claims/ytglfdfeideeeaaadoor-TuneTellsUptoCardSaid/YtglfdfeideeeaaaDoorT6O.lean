/- The document's Simple at every right pattern; Simplify. Printed. -/
import Derived.Test.YtglfdfeideeeaaaDoorT6L
import Derived.Test.YtglfdfeideeeaaaDoorScWF
import Derived.Test.YtglfdfeideeeaaaDoorTnSimp
namespace Go.Proofs.YtglfdfeideeeaaaDoor
open Go.RowKit
set_option linter.unusedVariables false
theorem simple_map : ∀ l : List Pat, simpleL l = l.map simple
  | [] => rfl
  | p :: l => by rw [simpleL, simple_map l]; rfl
theorem simple_mk (k : Int) (t : ByteArray) (n : Int) (m : ByteArray) (l : List Pat) : simple (.mk k t n m l) = makeP k t n m (l.map simple) := by rw [simple, simple_map]
theorem empty_text {p : Pat} (h : p.kind = 1) : emptyP p = p.text.toList.isEmpty := by
  rw [empty_iff, h]; rfl
theorem simR_leaf (k : Int) (t : ByteArray) (n : Int) (m : ByteArray) (kv : Value) (w : World) (h : SimKids (.mk k t n m []) kv w) (hk : ¬ (18 ≤ k ∧ k ≤ 22)) : Calls Tryd.prog 14 #[.agg ((Pat.mk k t n m []).cells kv)] w (SingleEnd w.heap.size (simple (.mk k t n m [])) w) := by
  have hI : SimIn (.mk k t n m []) kv w := ⟨h.pat, h.right, h.nodes⟩
  have hkk := h.pat.hk
  have hn := h.pat.hn
  have ht := h.pat.ht
  have hm := h.pat.hm
  have hr := ((errW_iff _).1 h.right).1.kind
  have hr : 1 ≤ k ∧ k ≤ 24 := hr
  have hcs : k = 1 ∨ k = 2 ∨ k = 3 ∨ k = 4 ∨ k = 5 ∨ k = 6 ∨ k = 7 ∨ k = 8 ∨ k = 9 ∨ k = 10 ∨ k = 11 ∨ k = 12 ∨ k = 13 ∨ k = 14 ∨ k = 15 ∨ k = 16 ∨ k = 17 ∨ k = 23 ∨ k = 24 := by omega
  clear hk hr h
  rcases hcs with rfl | rfl | rfl | rfl | rfl | rfl | rfl | rfl | rfl | rfl | rfl | rfl | rfl | rfl | rfl | rfl | rfl | rfl | rfl
  · exact simR_rest _ kv w hI rfl (T := t) (NN := 0) (MM := ByteArray.empty) rfl rfl ⟨hkk, zero_in, ht, none_size⟩ rfl rfl rfl rfl rfl rfl rfl rfl rfl rfl rfl rfl
  · by_cases h0 : n = 0
    · subst h0
      exact simR_len0 _ kv w hI rfl (T := ByteArray.empty) (NN := 0) (MM := ByteArray.empty) rfl rfl rfl (nums_lit none_size) rfl rfl rfl rfl rfl rfl rfl rfl rfl rfl rfl rfl
    · exact simR_len1 _ kv w hI rfl (T := ByteArray.empty) (NN := n) (MM := ByteArray.empty) rfl (beq_eq_false_iff_ne.2 h0) (by show makeP _ _ _ _ _ = _; unfold makeP; simp [h0]; rfl) ⟨hkk, hn, none_size, none_size⟩ rfl rfl rfl rfl rfl rfl rfl rfl rfl rfl rfl rfl
  · by_cases h0 : (spell t).size = 1
    · exact simR_any1 _ kv w hI rfl (T := t) (NN := 0) (MM := ByteArray.empty) rfl (sp := spell t) rfl (by rw [h0]; rfl) h0 (by show makeP _ _ _ _ _ = _; unfold makeP; simp [h0]) (nums_lit (spell_max t)) rfl rfl rfl rfl rfl rfl rfl rfl rfl rfl rfl rfl
    · exact simR_any _ kv w hI rfl (T := t) (NN := 0) (MM := ByteArray.empty) rfl (sp := spell t) rfl (beq_eq_false_iff_ne.2 (by omega)) (beq_eq_false_iff_ne.2 h0) (by show makeP _ _ _ _ _ = _; unfold makeP; simp [h0]; rfl) ⟨hkk, zero_in, spell_max t, none_size⟩ rfl rfl rfl rfl rfl rfl rfl rfl rfl rfl rfl rfl
  · exact simR_text4 _ kv w hI rfl (T := t) (NN := 0) (MM := ByteArray.empty) rfl (sp := spell t) rfl rfl ⟨hkk, zero_in, spell_max t, none_size⟩ rfl rfl rfl rfl rfl rfl rfl rfl rfl rfl rfl rfl
  · exact simR_text5 _ kv w hI rfl (T := t) (NN := 0) (MM := ByteArray.empty) rfl (sp := spell t) rfl rfl ⟨hkk, zero_in, spell_max t, none_size⟩ rfl rfl rfl rfl rfl rfl rfl rfl rfl rfl rfl rfl
  · exact simR_text6 _ kv w hI rfl (T := t) (NN := 0) (MM := ByteArray.empty) rfl (sp := spell t) rfl rfl ⟨hkk, zero_in, spell_max t, none_size⟩ rfl rfl rfl rfl rfl rfl rfl rfl rfl rfl rfl rfl
  · exact simR_text7 _ kv w hI rfl (T := t) (NN := 0) (MM := ByteArray.empty) rfl (sp := spell t) rfl rfl ⟨hkk, zero_in, spell_max t, none_size⟩ rfl rfl rfl rfl rfl rfl rfl rfl rfl rfl rfl rfl
  · exact simR_rest _ kv w hI rfl (T := ByteArray.empty) (NN := n) (MM := ByteArray.empty) rfl rfl ⟨hkk, hn, none_size, none_size⟩ rfl rfl rfl rfl rfl rfl rfl rfl rfl rfl rfl rfl
  · by_cases h0 : n = 0
    · subst h0
      exact simR_rtab0 _ kv w hI rfl (T := ByteArray.empty) (NN := 0) (MM := ByteArray.empty) rfl rfl rfl (nums_leaf (by omega) zero_in none_size none_size) rfl rfl rfl rfl rfl rfl rfl rfl rfl rfl rfl rfl
    · exact simR_rtab1 _ kv w hI rfl (T := ByteArray.empty) (NN := n) (MM := ByteArray.empty) rfl (beq_eq_false_iff_ne.2 h0) (by show makeP _ _ _ _ _ = _; unfold makeP; simp [h0]; rfl) ⟨hkk, hn, none_size, none_size⟩ rfl rfl rfl rfl rfl rfl rfl rfl rfl rfl rfl rfl
  · exact simR_rest _ kv w hI rfl (T := ByteArray.empty) (NN := n) (MM := ByteArray.empty) rfl rfl ⟨hkk, hn, none_size, none_size⟩ rfl rfl rfl rfl rfl rfl rfl rfl rfl rfl rfl rfl
  · exact simR_rest _ kv w hI rfl (T := ByteArray.empty) (NN := n) (MM := ByteArray.empty) rfl rfl ⟨hkk, hn, none_size, none_size⟩ rfl rfl rfl rfl rfl rfl rfl rfl rfl rfl rfl rfl
  · exact simR_rest _ kv w hI rfl (T := ByteArray.empty) (NN := 0) (MM := ByteArray.empty) rfl rfl ⟨hkk, zero_in, none_size, none_size⟩ rfl rfl rfl rfl rfl rfl rfl rfl rfl rfl rfl rfl
  · exact simR_rest _ kv w hI rfl (T := ByteArray.empty) (NN := 0) (MM := ByteArray.empty) rfl rfl ⟨hkk, zero_in, none_size, none_size⟩ rfl rfl rfl rfl rfl rfl rfl rfl rfl rfl rfl rfl
  · exact simR_rest _ kv w hI rfl (T := ByteArray.empty) (NN := 0) (MM := ByteArray.empty) rfl rfl ⟨hkk, zero_in, none_size, none_size⟩ rfl rfl rfl rfl rfl rfl rfl rfl rfl rfl rfl rfl
  · exact simR_rest _ kv w hI rfl (T := ByteArray.empty) (NN := 0) (MM := ByteArray.empty) rfl rfl ⟨hkk, zero_in, none_size, none_size⟩ rfl rfl rfl rfl rfl rfl rfl rfl rfl rfl rfl rfl
  · exact simR_rest _ kv w hI rfl (T := ByteArray.empty) (NN := 0) (MM := ByteArray.empty) rfl rfl ⟨hkk, zero_in, none_size, none_size⟩ rfl rfl rfl rfl rfl rfl rfl rfl rfl rfl rfl rfl
  · exact simR_rest _ kv w hI rfl (T := ByteArray.empty) (NN := 0) (MM := ByteArray.empty) rfl rfl ⟨hkk, zero_in, none_size, none_size⟩ rfl rfl rfl rfl rfl rfl rfl rfl rfl rfl rfl rfl
  · exact simR_rest _ kv w hI rfl (T := ByteArray.empty) (NN := 0) (MM := m) rfl rfl ⟨hkk, zero_in, none_size, hm⟩ rfl rfl rfl rfl rfl rfl rfl rfl rfl rfl rfl rfl
  · exact simR_rest _ kv w hI rfl (T := ByteArray.empty) (NN := 0) (MM := m) rfl rfl ⟨hkk, zero_in, none_size, hm⟩ rfl rfl rfl rfl rfl rfl rfl rfl rfl rfl rfl rfl
theorem make_cat6 (t : ByteArray) (n : Int) (m : ByteArray) (l : List Pat) : makeP 18 t n m l = singleP 18 (litP ByteArray.empty) (mergedP piecesP (kids6 18 l)) := by rw [kids6_cat]; rfl
theorem make_alt6 (t : ByteArray) (n : Int) (m : ByteArray) (l : List Pat) : makeP 19 t n m l = singleP 19 (bareP 15) (mergedP othersP (kids6 19 l)) := by rw [kids6_alt]; rfl
theorem makes20 (t : ByteArray) (n : Int) (m : ByteArray) (l : List Pat) : makeP 20 t n m l = (if emptyP (l.getD 0 Pat.zero) = true ∨ failB (l.getD 0 Pat.zero) = true then litP ByteArray.empty else if (l.getD 0 Pat.zero).kind = 2 ∧ (l.getD 0 Pat.zero).n = 1 then bareP 13 else kidsP 20 l) := rfl
theorem makes21 (t : ByteArray) (n : Int) (m : ByteArray) (l : List Pat) : makeP 21 t n m l = (if endsB (l.getD 0 Pat.zero) = true then l.getD 0 Pat.zero else .mk 21 ByteArray.empty 0 m l) := rfl
theorem makes22 (t : ByteArray) (n : Int) (m : ByteArray) (l : List Pat) : makeP 22 t n m l = (if endsB (l.getD 0 Pat.zero) = true then l.getD 0 Pat.zero else .mk 22 ByteArray.empty 0 m l) := rfl
theorem simR_at (p : Pat) (kv : Value) (w : World) (h : SimKids p kv w) : Calls Tryd.prog 14 #[.agg (p.cells kv)] w (SingleEnd w.heap.size (simple p) w) := by
  obtain ⟨k, t, n, m, l⟩ := p
  have hok := ((errW_iff _).1 h.right).1
  by_cases hk : 18 ≤ k ∧ k ≤ 22
  · have hcs : k = 18 ∨ k = 19 ∨ k = 20 ∨ k = 21 ∨ k = 22 := by omega
    have hm := h.pat.hm
    rcases hcs with rfl | rfl | rfl | rfl | rfl
    · have hl : 0 < l.length := Nat.lt_of_lt_of_le (by omega) (hok.many (Or.inl rfl)).1
      refine simR_kids _ kv w h hl (MM := ByteArray.empty) none_size (by rw [bareQ_mk]; rfl) rfl rfl rfl rfl rfl rfl rfl rfl (Or.inl ⟨rfl, rfl, rfl, rfl, rfl, rfl, ?_⟩)
      rw [simple_mk, make_cat6]; rfl
    · have hl : 0 < l.length := Nat.lt_of_lt_of_le (by omega) (hok.many (Or.inr rfl)).1
      refine simR_kids _ kv w h hl (MM := ByteArray.empty) none_size (by rw [bareQ_mk]; rfl) rfl rfl rfl rfl rfl rfl rfl rfl (Or.inr (Or.inl ⟨rfl, rfl, rfl, rfl, rfl, rfl, ?_⟩))
      rw [simple_mk, make_alt6]; rfl
    · have hl : 0 < l.length := by have : l.length = 1 := hok.only (Or.inl rfl); omega
      have hb : bareQ (.mk 20 t n m l) = .mk 20 ByteArray.empty 0 ByteArray.empty (l.map bareQ) := by rw [bareQ_mk]; rfl
      rw [simple_mk, makes20]
      obtain ⟨y, hy⟩ : ∃ y, (l.map simple).getD 0 Pat.zero = y := ⟨_, rfl⟩
      rw [hy]
      cases e15 : y.kind == 15 with
      | true => exact simR_kids _ kv w h hl none_size hb hy rfl rfl rfl rfl rfl rfl rfl (Or.inr (Or.inr (Or.inl ⟨rfl, rfl, rfl, rfl, rfl, e15, (by have : failB y = true := e15; rw [if_pos (Or.inr this)])⟩)))
      | false =>
        have nf : failB y = false := e15
        cases e1 : y.kind == 1 with
        | true =>
          have ek : y.kind = 1 := by simpa using e1
          have e2 : (y.kind == 2) = false := by rw [ek]; rfl
          cases et : y.text.toList.isEmpty with
          | true => exact simR_kids _ kv w h hl none_size hb hy rfl rfl rfl rfl rfl rfl rfl (Or.inr (Or.inr (Or.inr (Or.inl ⟨rfl, rfl, rfl, rfl, rfl, e15, e1, et, (by rw [if_pos (Or.inl (by rw [empty_text ek]; exact et))])⟩))))
          | false => exact simR_kids _ kv w h hl none_size hb hy rfl rfl rfl rfl rfl rfl rfl (Or.inr (Or.inr (Or.inr (Or.inr (Or.inr (Or.inl ⟨rfl, rfl, rfl, rfl, rfl, e15, e1, et, e2, (by rw [if_neg (by rw [empty_text ek, et, nf]; simp), if_neg (fun h => by rw [h.1] at e2; cases e2)]; rfl)⟩))))))
        | false =>
          have ne : emptyP y = false := by rw [empty_iff, e1]; rfl
          cases e2 : y.kind == 2 with
          | false => exact simR_kids _ kv w h hl none_size hb hy rfl rfl rfl rfl rfl rfl rfl (Or.inr (Or.inr (Or.inr (Or.inr (Or.inr (Or.inr (Or.inl ⟨rfl, rfl, rfl, rfl, rfl, e15, e1, e2, (by rw [if_neg (by rw [ne, nf]; simp), if_neg (fun h => by rw [h.1] at e2; cases e2)]; rfl)⟩)))))))
          | true =>
            cases en : y.n == 1 with
            | true => exact simR_kids _ kv w h hl none_size hb hy rfl rfl rfl rfl rfl rfl rfl (Or.inr (Or.inr (Or.inr (Or.inr (Or.inl ⟨rfl, rfl, rfl, rfl, rfl, e15, e1, e2, en, (by rw [if_neg (by rw [ne, nf]; simp), if_pos ⟨by simpa using e2, by simpa using en⟩])⟩)))))
            | false => exact simR_kids _ kv w h hl none_size hb hy rfl rfl rfl rfl rfl rfl rfl (Or.inr (Or.inr (Or.inr (Or.inr (Or.inr (Or.inr (Or.inr (Or.inl ⟨rfl, rfl, rfl, rfl, rfl, e15, e1, e2, en, (by rw [if_neg (by rw [ne, nf]; simp), if_neg (fun h => by rw [h.2] at en; cases en)]; rfl)⟩))))))))
    · have hl : 0 < l.length := by have : l.length = 1 := hok.only (Or.inr (Or.inl rfl)); omega
      have hb : bareQ (.mk 21 t n m l) = .mk 21 ByteArray.empty 0 m (l.map bareQ) := by rw [bareQ_mk]; rfl
      rw [simple_mk, makes21]
      obtain ⟨y, hy⟩ : ∃ y, (l.map simple).getD 0 Pat.zero = y := ⟨_, rfl⟩
      rw [hy]
      cases e15 : y.kind == 15 with
      | true => exact simR_kids _ kv w h hl hm hb hy rfl rfl rfl rfl rfl rfl rfl (Or.inr (Or.inr (Or.inr (Or.inr (Or.inr (Or.inr (Or.inr (Or.inr (Or.inl ⟨rfl, rfl, rfl, rfl, rfl, e15, (by rw [if_pos (by rw [ends_or, e15]; rfl)])⟩ )))))))))
      | false =>
        cases e17 : y.kind == 17 with
        | true => exact simR_kids _ kv w h hl hm hb hy rfl rfl rfl rfl rfl rfl rfl (Or.inr (Or.inr (Or.inr (Or.inr (Or.inr (Or.inr (Or.inr (Or.inr (Or.inr (Or.inl ⟨rfl, rfl, rfl, rfl, rfl, e15, e17, (by rw [if_pos (by rw [ends_or, e15, e17]; rfl)])⟩ ))))))))))
        | false => exact simR_kids _ kv w h hl hm hb hy rfl rfl rfl rfl rfl rfl rfl (Or.inr (Or.inr (Or.inr (Or.inr (Or.inr (Or.inr (Or.inr (Or.inr (Or.inr (Or.inr (Or.inl ⟨rfl, rfl, rfl, rfl, rfl, e15, e17, (by rw [if_neg (by rw [ends_or, e15, e17]; simp)]; rfl)⟩ )))))))))))
    · have hl : 0 < l.length := by have : l.length = 1 := hok.only (Or.inr (Or.inr rfl)); omega
      have hb : bareQ (.mk 22 t n m l) = .mk 22 ByteArray.empty 0 m (l.map bareQ) := by rw [bareQ_mk]; rfl
      rw [simple_mk, makes22]
      obtain ⟨y, hy⟩ : ∃ y, (l.map simple).getD 0 Pat.zero = y := ⟨_, rfl⟩
      rw [hy]
      cases e15 : y.kind == 15 with
      | true => exact simR_kids _ kv w h hl hm hb hy rfl rfl rfl rfl rfl rfl rfl (Or.inr (Or.inr (Or.inr (Or.inr (Or.inr (Or.inr (Or.inr (Or.inr (Or.inr (Or.inr (Or.inr (Or.inl ⟨rfl, rfl, rfl, rfl, rfl, e15, (by rw [if_pos (by rw [ends_or, e15]; rfl)])⟩ ))))))))))))
      | false =>
        cases e17 : y.kind == 17 with
        | true => exact simR_kids _ kv w h hl hm hb hy rfl rfl rfl rfl rfl rfl rfl (Or.inr (Or.inr (Or.inr (Or.inr (Or.inr (Or.inr (Or.inr (Or.inr (Or.inr (Or.inr (Or.inr (Or.inr (Or.inl ⟨rfl, rfl, rfl, rfl, rfl, e15, e17, (by rw [if_pos (by rw [ends_or, e15, e17]; rfl)])⟩ )))))))))))))
        | false => exact simR_kids _ kv w h hl hm hb hy rfl rfl rfl rfl rfl rfl rfl (Or.inr (Or.inr (Or.inr (Or.inr (Or.inr (Or.inr (Or.inr (Or.inr (Or.inr (Or.inr (Or.inr (Or.inr (Or.inr ( ⟨rfl, rfl, rfl, rfl, rfl, e15, e17, (by rw [if_neg (by rw [ends_or, e15, e17]; simp)]; rfl)⟩ ))))))))))))))
  · have hl : l = [] := hok.none hk
    subst hl
    exact simR_leaf k t n m kv w h hk
theorem simR_fuel : ∀ (f : Nat) (p : Pat) (kv : Value) (w : World), nodesP p ≤ f → PatV w kv p → errW p = 0 → nodesP p ≤ 4096 → Calls Tryd.prog 14 #[.agg (p.cells kv)] w (SingleEnd w.heap.size (simple p) w)
  | 0, p, kv, w, hf, _, _, _ => by have := nodes_pos6 p; omega
  | f + 1, p, kv, w, hf, hv, hr, hn => simR_at p kv w ⟨hv, hr, hn, fun q hq hrq kv' w' g hv' => simR_fuel f q kv' w' (by omega) hv' hrq (by omega)⟩
theorem SimpleR_any (p : Pat) (kv : Value) (w : World) (hv : PatV w kv p) (hr : errW p = 0) (hn : nodesP p ≤ 4096) : Calls Tryd.prog 14 #[.agg (p.cells kv)] w (SingleEnd w.heap.size (simple p) w) := simR_fuel _ p kv w (Nat.le_refl _) hv hr hn
set_option maxRecDepth 100000 in
set_option maxHeartbeats 1000000 in
theorem SimplifyR_any (p : Pat) (kv : Value) (w : World) (hv : PatV w kv p) (hB : nodesP p ≤ 2000000) :
    Calls Tryd.prog 5 #[.agg (p.cells kv)] w (SimplifyEnd p w) := by
  have HV := hidd hv
  have HW : Hid (∀ w1, Grew w w1 → Calls Tryd.prog 13 #[.agg (p.cells kv)] w1 fun e w' => e = .returned (.int .i64 (patErr p)) ∧ Grew w1 w') := fun w1 g => WrongR_any kv p w1 (hv.kept g) hB
  clear hv hB
  rw [cells_eq] at HW ⊢
  have HH0 : Hid (Grew w ((w.alloc (.cells #[.int .i64 p.kind, .string p.text, .int .i64 p.n, .string p.name, kv] 24)).alloc (.cells #[.int .i64 0, .string ⟨#[]⟩, .int .i64 0, .string ⟨#[]⟩, .slice none 0 0] 24)) ∧ ((w.alloc (.cells #[.int .i64 p.kind, .string p.text, .int .i64 p.n, .string p.name, kv] 24)).alloc (.cells #[.int .i64 0, .string ⟨#[]⟩, .int .i64 0, .string ⟨#[]⟩, .slice none 0 0] 24)).heap[w.heap.size]? = some (.cells #[.int .i64 p.kind, .string p.text, .int .i64 p.n, .string p.name, kv] 24 (0, 0)) ∧ ((w.alloc (.cells #[.int .i64 p.kind, .string p.text, .int .i64 p.n, .string p.name, kv] 24)).alloc (.cells #[.int .i64 0, .string ⟨#[]⟩, .int .i64 0, .string ⟨#[]⟩, .slice none 0 0] 24)).heap[w.heap.size + 1]? = some (.cells #[.int .i64 0, .string ⟨#[]⟩, .int .i64 0, .string ⟨#[]⟩, .slice none 0 0] 24 (0, 0))) :=
    ⟨((Grew.refl w).alloc _).alloc _, heap_more (heap_alloc_new w _), heap_second w _ _⟩
  by_cases h0 : patErr p = 0
  · have HE := hidd h0
    rw [h0] at HW
    have HS : Hid (∀ w1, Grew w w1 → Calls Tryd.prog 14 #[.agg (p.cells kv)] w1 (SingleEnd w1.heap.size (simple p) w1)) := fun w1 g => SimpleR_any p kv w1 (HV.out.kept g) ((patErr_iff p).1 h0).1 ((patErr_iff p).1 h0).2.1
    rw [cells_eq] at HS
    clear h0
    go_enter Tryd.func5, Tryd.ntmps5
    go_wp2_with fail
    refine (HW.out _ HH0.out.1).mono ?_; rintro e w1 ⟨rfl, g1⟩
    have HG1 := hidd (HH0.out.1.trans g1)
    have HB1 := hidd (heap_kept g1 HH0.out.2.1)
    have HZ1 := hidd (heap_kept g1 HH0.out.2.2)
    clear g1
    obtain ⟨⟨b0, b1, b2, b3, b4⟩, bf⟩ := five_cells HB1.out
    go_wp2_with fail
    refine (HS.out _ HG1.out).mono ?_; rintro e w2 ⟨kv2, rfl, hq, g2⟩
    obtain ⟨qa, qn, qc, rfl⟩ := hq.form
    have HG2 := hidd (HG1.out.trans g2)
    have HZ2 := hidd (heap_kept g2 HZ1.out)
    have HQ := hidd hq
    have hs : w.heap.size + 1 < w1.heap.size := (Array.getElem?_eq_some_iff.1 HZ1.out).1
    obtain ⟨⟨z0, z1, z2, z3, z4⟩, zf⟩ := five_cells HZ2.out
    rw [cells_eq]
    obtain ⟨X, hX⟩ : ∃ X, simple p = X := ⟨_, rfl⟩
    rw [hX] at HQ ⊢
    have HXX := hidd hX
    clear g2 hq hX b0 b1 b2 b3 b4 bf HB1 HZ1 HH0
    go_wp2_with fail
    refine bodyPost_ret (results_pat2 rfl rfl rfl (setPat_heap HZ2.out) rfl) rfl (Or.inl ⟨HE.out, ?_⟩)
    rw [HXX.out]
    obtain ⟨v, h1, h2, h3⟩ := own_end X (N0 := w.heap.size) (w0 := w) HQ.out hs (by omega) HG2.out (Nat.le_succ _) (.int .i64 X.kind) (.string X.text) (.int .i64 X.n) (.string X.name) (.slice qa qn qc)
    cases h1
    exact ⟨qa, qn, qc, rfl, h2, h3⟩
  · have HE := hidd h0
    obtain ⟨z, hz⟩ : ∃ z, patErr p = z := ⟨_, rfl⟩
    rw [hz] at HW
    have kz : (z == 0) = false := by rw [beq_eq_false_iff_ne, ← hz]; exact h0
    have HZZ := hidd hz
    clear h0 hz
    go_enter Tryd.func5, Tryd.ntmps5
    go_wp2_with fail
    refine (HW.out _ HH0.out.1).mono ?_; rintro e w1 ⟨rfl, g1⟩
    have HG1 := hidd (HH0.out.1.trans g1)
    have HZ1 := hidd (heap_kept g1 HH0.out.2.2)
    clear g1
    obtain ⟨⟨z0, z1, z2, z3, z4⟩, zf⟩ := five_cells HZ1.out
    go_wp2_with fail
    exact bodyPost_ret (results_pat2 rfl rfl rfl (setPat_heap HZ1.out) rfl) rfl (Or.inr ⟨HE.out, by rw [HZZ.out]; rfl, setPat_grew HG1.out (Nat.le_succ _) _ _ _ _ _⟩)
end Go.Proofs.YtglfdfeideeeaaaDoor
