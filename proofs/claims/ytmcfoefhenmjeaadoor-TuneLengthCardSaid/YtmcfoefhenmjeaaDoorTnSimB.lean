/- tune: simple, some kinds. Printed. -/
import Derived.Test.YtmcfoefhenmjeaaDoorTnMerge
namespace Go.Proofs.YtmcfoefhenmjeaaDoor
open Go.RowKit
set_option linter.unusedVariables false
set_option maxRecDepth 100000 in
set_option maxHeartbeats 1000000 in
theorem simple_k4 (t : ByteArray) (n : Int) (m : ByteArray) (l : List Pat) (kv : Value) (w : World) (h : SimpIn (.mk 4 t n m l) kv w) : Calls Tryd.prog 23 #[.agg #[.int .i64 4, .string t, .int .i64 n, .string m, kv]] w (SingleEnd w.heap.size (simple (.mk 4 t n m l)) w) := by
  have hkq := h.pat.pq.list
  obtain ⟨a, c, rfl, hlm⟩ := hkq.len
  have hlm : l.length ≤ maxLen := hlm
  have hkq : ListIn w (fun b => b < w.heap.size) (.slice a l.length c) l := hkq
  show Calls _ _ #[.agg #[_, _, _, _, .slice a l.length c]] _ _
  unfold maxLen at hlm
  have HNo := hidd ((errW_iff _).1 h.right).1
  have HT := hidd h.tab
  have HPn := hidd (And.intro h.pat.hn (And.intro h.pat.ht h.pat.hm))
  have HRt := hidd (And.intro h.right h.nodes)
  have HK := hidd (fun i (hi : i < l.length) w' (g : Grew w w') kv' (hv : PatV w' kv' (l.getD i Pat.zero)) => kid_end (h.kids (l.getD i Pat.zero) (by rw [List.getD_eq_getElem?_getD, List.getElem?_eq_getElem hi]; exact List.getElem_mem hi) kv' w' g hv))
  have HLq := hidd hkq
  have HW0 : Hid (Grew w ((w.alloc (.cells #[.int .i64 4, .string t, .int .i64 n, .string m, .slice a l.length c] 24)).alloc (.cells #[.int .i64 0, .string ⟨#[]⟩, .int .i64 0, .string ⟨#[]⟩, .slice none 0 0] 24)) ∧ ((w.alloc (.cells #[.int .i64 4, .string t, .int .i64 n, .string m, .slice a l.length c] 24)).alloc (.cells #[.int .i64 0, .string ⟨#[]⟩, .int .i64 0, .string ⟨#[]⟩, .slice none 0 0] 24)).heap[w.heap.size]? = some (.cells #[.int .i64 4, .string t, .int .i64 n, .string m, .slice a l.length c] 24 (0, 0)) ∧ ((w.alloc (.cells #[.int .i64 4, .string t, .int .i64 n, .string m, .slice a l.length c] 24)).alloc (.cells #[.int .i64 0, .string ⟨#[]⟩, .int .i64 0, .string ⟨#[]⟩, .slice none 0 0] 24)).heap[w.heap.size + 1]? = some (.cells #[.int .i64 0, .string ⟨#[]⟩, .int .i64 0, .string ⟨#[]⟩, .slice none 0 0] 24 (0, 0))) :=
    ⟨((Grew.refl w).alloc _).alloc _, heap_more (heap_alloc_new w _), heap_second w _ _⟩
  have hnl : l.length ≤ 4095 := by
    have h1 := h.nodes
    rw [nodesP] at h1
    have := length_le_nodes l
    omega
  have HX : Hid (simple (.mk 4 t n m l) = textP 4 (spell t)) := by
    show makeP _ _ _ _ _ = _
    unfold makeP
    simp
  rw [HX.out]
  have HOf : Hid (∀ w, Calls Tryd.prog 43 #[.string t] w fun e w' => e = .returned (setV (setOf t.data.toList)) ∧ Grew w w') := hidd fun w => Of_any t w HPn.out.2.1
  have HTx : Hid (∀ w, TabZ w → Calls Tryd.prog 42 #[setV (setOf t.data.toList)] w fun e w' => e = .returned (.string (spell t)) ∧ Grew w w') := hidd fun w hT => Text_any _ w hT
  unfold setV at HOf HTx
  clear h hkq
  go_enter Tryd.func23, Tryd.ntmps23
  go_wp2_with fail
  go_loopw [3, 11] (fun s3 s11 wr => ∃ i : Nat, s11 = .int .i64 i ∧ i ≤ l.length ∧ Hid (PatsOwn wr (w.heap.size + 2) (w.heap.size + 2) s3 ((l.map simple).take i) ∧ Grew ((w.alloc (.cells #[.int .i64 4, .string t, .int .i64 n, .string m, .slice a l.length c] 24)).alloc (.cells #[.int .i64 0, .string ⟨#[]⟩, .int .i64 0, .string ⟨#[]⟩, .slice none 0 0] 24)) wr)) (fun _ s11 _ => l.length - (intOf s11).toNat)
  case atStart => exact ⟨0, rfl, by omega, PatsOwn.nil _ _ _, Grew.refl _⟩
  case round =>
    obtain ⟨i, rfl, hi, HD⟩ := hrel
    by_cases hlt : i < l.length
    · have HGw := hidd (HW0.out.1.trans HD.out.2)
      obtain ⟨b, o, kk, rfl, hnd, hq⟩ := (HLq.out.kept HGw.out).at hlt
      obtain ⟨ka, kn, kc, rfl⟩ := hq.form
      have HS := hidd (simple_take hlt)
      have HC := hidd (HK.out i hlt (wr.alloc (.cells #[.int .i64 (l.getD i Pat.zero).kind, .string (l.getD i Pat.zero).text, .int .i64 (l.getD i Pat.zero).n, .string (l.getD i Pat.zero).name, .slice ka kn kc] 24)) (HGw.out.alloc _) (.slice ka kn kc) (hq.kept ((Grew.refl wr).alloc _)).patV)
      obtain ⟨r, hr⟩ : ∃ r, l.getD i Pat.zero = r := ⟨_, rfl⟩
      rw [hr] at hnd HS HC
      obtain ⟨q, hqs⟩ : ∃ q, simple r = q := ⟨_, rfl⟩
      rw [hqs] at HS HC
      obtain ⟨c0, c1, c2, c3, c4, _, _, _, _⟩ := hnd
      have kl : decide ((i : Int) < (l.length : Int)) = true := decide_eq_true (by omega)
      have hsz := HGw.out.size
      clear hr hq hqs HK
      go_wp2_with fail
      refine HC.out.mono ?_; rintro e w2 ⟨qa, qn, qc, rfl, hq2, g2⟩
      have HG3 := hidd (((Grew.refl wr).alloc (.cells #[.int .i64 r.kind, .string r.text, .int .i64 r.n, .string r.name, .slice ka kn kc] 24)).trans g2)
      have hs0 : w.heap.size + 2 ≤ wr.heap.size := by have := HD.out.2.size; simpa using this
      have hl2 : ((l.map simple).take i).length = i := by rw [List.length_take, List.length_map]; omega
      obtain ⟨v', w', hap, ho, hbel, hgr⟩ := pats_append_one (HD.out.1.kept HG3.out) (Nat.le_trans hs0 HG3.out.size) hq2 (fun b hb _ => ⟨by rw [World.size_alloc] at hb; omega, fun e => by have := HD.out.1.blocks b e; rw [World.size_alloc] at hb; omega⟩) (by rw [hl2]; omega) 22 24
      have ho2 := ho
      rw [← HS.out] at ho2
      have HE := hidd (And.intro ho2 ((HD.out.2.trans HG3.out).below hbel (by simp)))
      clear ho ho2 hbel hgr g2 hq2
      go_wp2_with (at_builtin; refine wpList_append_eq rfl rfl rfl rfl hap ?_)
      go_roundw
      case rel => exact ⟨i + 1, by go_num, by omega, HE⟩
      case measure => simp [intOf]; omega
    · have hie : i = l.length := by omega
      have kl : decide ((i : Int) < (l.length : Int)) = false := decide_eq_false (by omega)
      have HE := hidd HD.out.1
      rw [show (l.map simple).take i = l.map simple from by rw [hie, show l.length = (l.map simple).length from (List.length_map _).symm, List.take_length]] at HE
      have HGw := hidd (HW0.out.1.trans HD.out.2)
      have HB := hidd (heap_kept HD.out.2 HW0.out.2.1)
      have HZ := hidd (heap_kept HD.out.2 HW0.out.2.2)
      have hsz := HGw.out.size
      clear HD hie HK HW0 HLq
      obtain ⟨⟨b0, b1, b2, b3, b4⟩, bf⟩ := five_cells HB.out
      obtain ⟨⟨f0, f1, f2, f3, f4⟩, ff⟩ := five_cells (heap_more (o := (.cells #[.int .i64 4, .string ⟨#[]⟩, .int .i64 0, .string ⟨#[]⟩, .slice none 0 0] 24)) HB.out)
      obtain ⟨⟨z0, z1, z2, z3, z4⟩, zf⟩ := five_cells (heap_more (o := (.cells #[.int .i64 4, .string ⟨#[]⟩, .int .i64 0, .string ⟨#[]⟩, .slice none 0 0] 24)) HZ.out)
      obtain ⟨⟨o0, o1, o2, o3, o4⟩, of⟩ := five_cells (heap_alloc_new wr (.cells #[.int .i64 4, .string ⟨#[]⟩, .int .i64 0, .string ⟨#[]⟩, .slice none 0 0] 24))
      go_wp2_with fail
      refine (HOf.out _).mono ?_; rintro e w1 ⟨rfl, g1⟩
      have HG0 := hidd g1
      have HG1 := hidd (((Grew.refl wr).alloc (.cells #[.int .i64 4, .string ⟨#[]⟩, .int .i64 0, .string ⟨#[]⟩, .slice none 0 0] 24)).trans g1)
      clear g1
      go_wp2_with fail
      refine (HTx.out _ (HT.out.kept (HGw.out.trans HG1.out))).mono ?_; rintro e w2 ⟨rfl, g2⟩
      have HG2 := hidd (HG1.out.trans g2)
      have HO2 : Hid (w2.heap[wr.heap.size]? = some (.cells #[.int .i64 4, .string ⟨#[]⟩, .int .i64 0, .string ⟨#[]⟩, .slice none 0 0] 24 (0, 0))) := hidd (heap_kept g2 (heap_kept HG0.out (heap_alloc_new wr (.cells #[.int .i64 4, .string ⟨#[]⟩, .int .i64 0, .string ⟨#[]⟩, .slice none 0 0] 24))))
      clear g2
      clear f0 f1 f2 f3 f4 ff z0 z1 z2 z3 z4 zf o0 o1 o2 o3 o4 of
      obtain ⟨⟨f0, f1, f2, f3, f4⟩, ff⟩ := five_cells (heap_kept (HG2.out) HB.out)
      obtain ⟨⟨z0, z1, z2, z3, z4⟩, zf⟩ := five_cells (heap_kept (HG2.out) HZ.out)
      obtain ⟨⟨o0, o1, o2, o3, o4⟩, of⟩ := five_cells (HO2.out)
      obtain ⟨⟨f0', f1', f2', f3', f4'⟩, ff'⟩ := five_cells (heap_kept ((HG2.out.setOwn (b := wr.heap.size) (o := 1) (Nat.le_refl _) (.string (spell t)))) HB.out)
      obtain ⟨⟨z0', z1', z2', z3', z4'⟩, zf'⟩ := five_cells (heap_kept ((HG2.out.setOwn (b := wr.heap.size) (o := 1) (Nat.le_refl _) (.string (spell t)))) HZ.out)
      obtain ⟨⟨o0', o1', o2', o3', o4'⟩, of'⟩ := five_cells (setCell_heap_same HO2.out 1 (.string (spell t)))
      go_wp2_with fail
      refine (is_lit (.mk 4 t n m l) (.slice a l.length c) 3 false rfl _).mono ?_; rintro e w3 ⟨rfl, hw3⟩
      have HG3 : Hid (Grew wr w3) := hidd (by rw [hw3]; exact (HG2.out.setOwn (Nat.le_refl _) _).alloc _)
      have HO3 : Hid (w3.heap[wr.heap.size]? = some (.cells #[.int .i64 4, .string (spell t), .int .i64 0, .string ⟨#[]⟩, .slice none 0 0] 24 (0, 0))) := hidd (by rw [hw3]; exact heap_more (setCell_heap_same HO2.out 1 _))
      clear hw3
      clear f0 f1 f2 f3 f4 ff z0 z1 z2 z3 z4 zf o0 o1 o2 o3 o4 of
      clear f0' f1' f2' f3' f4' ff' z0' z1' z2' z3' z4' zf' o0' o1' o2' o3' o4' of'
      obtain ⟨⟨f0, f1, f2, f3, f4⟩, ff⟩ := five_cells (heap_kept (HG3.out) HB.out)
      obtain ⟨⟨z0, z1, z2, z3, z4⟩, zf⟩ := five_cells (heap_kept (HG3.out) HZ.out)
      obtain ⟨⟨o0, o1, o2, o3, o4⟩, of⟩ := five_cells (HO3.out)
      go_wp2_with fail
      exact bodyPost_ret (results_pat (rb := w.heap.size + 1) rfl rfl (setPat_heap (heap_kept HG3.out HZ.out)) rfl) rfl (leaf_end (textP 4 (spell t)) (nums_leaf (by omega) zero_in (spell_max t) none_size) rfl (setPat_grew (HGw.out.trans HG3.out) (by omega) _ _ _ _ _))
set_option maxRecDepth 100000 in
set_option maxHeartbeats 1000000 in
theorem simple_k5 (t : ByteArray) (n : Int) (m : ByteArray) (l : List Pat) (kv : Value) (w : World) (h : SimpIn (.mk 5 t n m l) kv w) : Calls Tryd.prog 23 #[.agg #[.int .i64 5, .string t, .int .i64 n, .string m, kv]] w (SingleEnd w.heap.size (simple (.mk 5 t n m l)) w) := by
  have hkq := h.pat.pq.list
  obtain ⟨a, c, rfl, hlm⟩ := hkq.len
  have hlm : l.length ≤ maxLen := hlm
  have hkq : ListIn w (fun b => b < w.heap.size) (.slice a l.length c) l := hkq
  show Calls _ _ #[.agg #[_, _, _, _, .slice a l.length c]] _ _
  unfold maxLen at hlm
  have HNo := hidd ((errW_iff _).1 h.right).1
  have HT := hidd h.tab
  have HPn := hidd (And.intro h.pat.hn (And.intro h.pat.ht h.pat.hm))
  have HRt := hidd (And.intro h.right h.nodes)
  have HK := hidd (fun i (hi : i < l.length) w' (g : Grew w w') kv' (hv : PatV w' kv' (l.getD i Pat.zero)) => kid_end (h.kids (l.getD i Pat.zero) (by rw [List.getD_eq_getElem?_getD, List.getElem?_eq_getElem hi]; exact List.getElem_mem hi) kv' w' g hv))
  have HLq := hidd hkq
  have HW0 : Hid (Grew w ((w.alloc (.cells #[.int .i64 5, .string t, .int .i64 n, .string m, .slice a l.length c] 24)).alloc (.cells #[.int .i64 0, .string ⟨#[]⟩, .int .i64 0, .string ⟨#[]⟩, .slice none 0 0] 24)) ∧ ((w.alloc (.cells #[.int .i64 5, .string t, .int .i64 n, .string m, .slice a l.length c] 24)).alloc (.cells #[.int .i64 0, .string ⟨#[]⟩, .int .i64 0, .string ⟨#[]⟩, .slice none 0 0] 24)).heap[w.heap.size]? = some (.cells #[.int .i64 5, .string t, .int .i64 n, .string m, .slice a l.length c] 24 (0, 0)) ∧ ((w.alloc (.cells #[.int .i64 5, .string t, .int .i64 n, .string m, .slice a l.length c] 24)).alloc (.cells #[.int .i64 0, .string ⟨#[]⟩, .int .i64 0, .string ⟨#[]⟩, .slice none 0 0] 24)).heap[w.heap.size + 1]? = some (.cells #[.int .i64 0, .string ⟨#[]⟩, .int .i64 0, .string ⟨#[]⟩, .slice none 0 0] 24 (0, 0))) :=
    ⟨((Grew.refl w).alloc _).alloc _, heap_more (heap_alloc_new w _), heap_second w _ _⟩
  have hnl : l.length ≤ 4095 := by
    have h1 := h.nodes
    rw [nodesP] at h1
    have := length_le_nodes l
    omega
  have HX : Hid (simple (.mk 5 t n m l) = textP 5 (spell t)) := by
    show makeP _ _ _ _ _ = _
    unfold makeP
    simp
  rw [HX.out]
  have HOf : Hid (∀ w, Calls Tryd.prog 43 #[.string t] w fun e w' => e = .returned (setV (setOf t.data.toList)) ∧ Grew w w') := hidd fun w => Of_any t w HPn.out.2.1
  have HTx : Hid (∀ w, TabZ w → Calls Tryd.prog 42 #[setV (setOf t.data.toList)] w fun e w' => e = .returned (.string (spell t)) ∧ Grew w w') := hidd fun w hT => Text_any _ w hT
  unfold setV at HOf HTx
  clear h hkq
  go_enter Tryd.func23, Tryd.ntmps23
  go_wp2_with fail
  go_loopw [3, 11] (fun s3 s11 wr => ∃ i : Nat, s11 = .int .i64 i ∧ i ≤ l.length ∧ Hid (PatsOwn wr (w.heap.size + 2) (w.heap.size + 2) s3 ((l.map simple).take i) ∧ Grew ((w.alloc (.cells #[.int .i64 5, .string t, .int .i64 n, .string m, .slice a l.length c] 24)).alloc (.cells #[.int .i64 0, .string ⟨#[]⟩, .int .i64 0, .string ⟨#[]⟩, .slice none 0 0] 24)) wr)) (fun _ s11 _ => l.length - (intOf s11).toNat)
  case atStart => exact ⟨0, rfl, by omega, PatsOwn.nil _ _ _, Grew.refl _⟩
  case round =>
    obtain ⟨i, rfl, hi, HD⟩ := hrel
    by_cases hlt : i < l.length
    · have HGw := hidd (HW0.out.1.trans HD.out.2)
      obtain ⟨b, o, kk, rfl, hnd, hq⟩ := (HLq.out.kept HGw.out).at hlt
      obtain ⟨ka, kn, kc, rfl⟩ := hq.form
      have HS := hidd (simple_take hlt)
      have HC := hidd (HK.out i hlt (wr.alloc (.cells #[.int .i64 (l.getD i Pat.zero).kind, .string (l.getD i Pat.zero).text, .int .i64 (l.getD i Pat.zero).n, .string (l.getD i Pat.zero).name, .slice ka kn kc] 24)) (HGw.out.alloc _) (.slice ka kn kc) (hq.kept ((Grew.refl wr).alloc _)).patV)
      obtain ⟨r, hr⟩ : ∃ r, l.getD i Pat.zero = r := ⟨_, rfl⟩
      rw [hr] at hnd HS HC
      obtain ⟨q, hqs⟩ : ∃ q, simple r = q := ⟨_, rfl⟩
      rw [hqs] at HS HC
      obtain ⟨c0, c1, c2, c3, c4, _, _, _, _⟩ := hnd
      have kl : decide ((i : Int) < (l.length : Int)) = true := decide_eq_true (by omega)
      have hsz := HGw.out.size
      clear hr hq hqs HK
      go_wp2_with fail
      refine HC.out.mono ?_; rintro e w2 ⟨qa, qn, qc, rfl, hq2, g2⟩
      have HG3 := hidd (((Grew.refl wr).alloc (.cells #[.int .i64 r.kind, .string r.text, .int .i64 r.n, .string r.name, .slice ka kn kc] 24)).trans g2)
      have hs0 : w.heap.size + 2 ≤ wr.heap.size := by have := HD.out.2.size; simpa using this
      have hl2 : ((l.map simple).take i).length = i := by rw [List.length_take, List.length_map]; omega
      obtain ⟨v', w', hap, ho, hbel, hgr⟩ := pats_append_one (HD.out.1.kept HG3.out) (Nat.le_trans hs0 HG3.out.size) hq2 (fun b hb _ => ⟨by rw [World.size_alloc] at hb; omega, fun e => by have := HD.out.1.blocks b e; rw [World.size_alloc] at hb; omega⟩) (by rw [hl2]; omega) 22 24
      have ho2 := ho
      rw [← HS.out] at ho2
      have HE := hidd (And.intro ho2 ((HD.out.2.trans HG3.out).below hbel (by simp)))
      clear ho ho2 hbel hgr g2 hq2
      go_wp2_with (at_builtin; refine wpList_append_eq rfl rfl rfl rfl hap ?_)
      go_roundw
      case rel => exact ⟨i + 1, by go_num, by omega, HE⟩
      case measure => simp [intOf]; omega
    · have hie : i = l.length := by omega
      have kl : decide ((i : Int) < (l.length : Int)) = false := decide_eq_false (by omega)
      have HE := hidd HD.out.1
      rw [show (l.map simple).take i = l.map simple from by rw [hie, show l.length = (l.map simple).length from (List.length_map _).symm, List.take_length]] at HE
      have HGw := hidd (HW0.out.1.trans HD.out.2)
      have HB := hidd (heap_kept HD.out.2 HW0.out.2.1)
      have HZ := hidd (heap_kept HD.out.2 HW0.out.2.2)
      have hsz := HGw.out.size
      clear HD hie HK HW0 HLq
      obtain ⟨⟨b0, b1, b2, b3, b4⟩, bf⟩ := five_cells HB.out
      obtain ⟨⟨f0, f1, f2, f3, f4⟩, ff⟩ := five_cells (heap_more (o := (.cells #[.int .i64 5, .string ⟨#[]⟩, .int .i64 0, .string ⟨#[]⟩, .slice none 0 0] 24)) HB.out)
      obtain ⟨⟨z0, z1, z2, z3, z4⟩, zf⟩ := five_cells (heap_more (o := (.cells #[.int .i64 5, .string ⟨#[]⟩, .int .i64 0, .string ⟨#[]⟩, .slice none 0 0] 24)) HZ.out)
      obtain ⟨⟨o0, o1, o2, o3, o4⟩, of⟩ := five_cells (heap_alloc_new wr (.cells #[.int .i64 5, .string ⟨#[]⟩, .int .i64 0, .string ⟨#[]⟩, .slice none 0 0] 24))
      go_wp2_with fail
      refine (HOf.out _).mono ?_; rintro e w1 ⟨rfl, g1⟩
      have HG0 := hidd g1
      have HG1 := hidd (((Grew.refl wr).alloc (.cells #[.int .i64 5, .string ⟨#[]⟩, .int .i64 0, .string ⟨#[]⟩, .slice none 0 0] 24)).trans g1)
      clear g1
      go_wp2_with fail
      refine (HTx.out _ (HT.out.kept (HGw.out.trans HG1.out))).mono ?_; rintro e w2 ⟨rfl, g2⟩
      have HG2 := hidd (HG1.out.trans g2)
      have HO2 : Hid (w2.heap[wr.heap.size]? = some (.cells #[.int .i64 5, .string ⟨#[]⟩, .int .i64 0, .string ⟨#[]⟩, .slice none 0 0] 24 (0, 0))) := hidd (heap_kept g2 (heap_kept HG0.out (heap_alloc_new wr (.cells #[.int .i64 5, .string ⟨#[]⟩, .int .i64 0, .string ⟨#[]⟩, .slice none 0 0] 24))))
      clear g2
      clear f0 f1 f2 f3 f4 ff z0 z1 z2 z3 z4 zf o0 o1 o2 o3 o4 of
      obtain ⟨⟨f0, f1, f2, f3, f4⟩, ff⟩ := five_cells (heap_kept (HG2.out) HB.out)
      obtain ⟨⟨z0, z1, z2, z3, z4⟩, zf⟩ := five_cells (heap_kept (HG2.out) HZ.out)
      obtain ⟨⟨o0, o1, o2, o3, o4⟩, of⟩ := five_cells (HO2.out)
      obtain ⟨⟨f0', f1', f2', f3', f4'⟩, ff'⟩ := five_cells (heap_kept ((HG2.out.setOwn (b := wr.heap.size) (o := 1) (Nat.le_refl _) (.string (spell t)))) HB.out)
      obtain ⟨⟨z0', z1', z2', z3', z4'⟩, zf'⟩ := five_cells (heap_kept ((HG2.out.setOwn (b := wr.heap.size) (o := 1) (Nat.le_refl _) (.string (spell t)))) HZ.out)
      obtain ⟨⟨o0', o1', o2', o3', o4'⟩, of'⟩ := five_cells (setCell_heap_same HO2.out 1 (.string (spell t)))
      go_wp2_with fail
      refine (is_lit (.mk 5 t n m l) (.slice a l.length c) 3 false rfl _).mono ?_; rintro e w3 ⟨rfl, hw3⟩
      have HG3 : Hid (Grew wr w3) := hidd (by rw [hw3]; exact (HG2.out.setOwn (Nat.le_refl _) _).alloc _)
      have HO3 : Hid (w3.heap[wr.heap.size]? = some (.cells #[.int .i64 5, .string (spell t), .int .i64 0, .string ⟨#[]⟩, .slice none 0 0] 24 (0, 0))) := hidd (by rw [hw3]; exact heap_more (setCell_heap_same HO2.out 1 _))
      clear hw3
      clear f0 f1 f2 f3 f4 ff z0 z1 z2 z3 z4 zf o0 o1 o2 o3 o4 of
      clear f0' f1' f2' f3' f4' ff' z0' z1' z2' z3' z4' zf' o0' o1' o2' o3' o4' of'
      obtain ⟨⟨f0, f1, f2, f3, f4⟩, ff⟩ := five_cells (heap_kept (HG3.out) HB.out)
      obtain ⟨⟨z0, z1, z2, z3, z4⟩, zf⟩ := five_cells (heap_kept (HG3.out) HZ.out)
      obtain ⟨⟨o0, o1, o2, o3, o4⟩, of⟩ := five_cells (HO3.out)
      go_wp2_with fail
      exact bodyPost_ret (results_pat (rb := w.heap.size + 1) rfl rfl (setPat_heap (heap_kept HG3.out HZ.out)) rfl) rfl (leaf_end (textP 5 (spell t)) (nums_leaf (by omega) zero_in (spell_max t) none_size) rfl (setPat_grew (HGw.out.trans HG3.out) (by omega) _ _ _ _ _))
set_option maxRecDepth 100000 in
set_option maxHeartbeats 1000000 in
theorem simple_k6 (t : ByteArray) (n : Int) (m : ByteArray) (l : List Pat) (kv : Value) (w : World) (h : SimpIn (.mk 6 t n m l) kv w) : Calls Tryd.prog 23 #[.agg #[.int .i64 6, .string t, .int .i64 n, .string m, kv]] w (SingleEnd w.heap.size (simple (.mk 6 t n m l)) w) := by
  have hkq := h.pat.pq.list
  obtain ⟨a, c, rfl, hlm⟩ := hkq.len
  have hlm : l.length ≤ maxLen := hlm
  have hkq : ListIn w (fun b => b < w.heap.size) (.slice a l.length c) l := hkq
  show Calls _ _ #[.agg #[_, _, _, _, .slice a l.length c]] _ _
  unfold maxLen at hlm
  have HNo := hidd ((errW_iff _).1 h.right).1
  have HT := hidd h.tab
  have HPn := hidd (And.intro h.pat.hn (And.intro h.pat.ht h.pat.hm))
  have HRt := hidd (And.intro h.right h.nodes)
  have HK := hidd (fun i (hi : i < l.length) w' (g : Grew w w') kv' (hv : PatV w' kv' (l.getD i Pat.zero)) => kid_end (h.kids (l.getD i Pat.zero) (by rw [List.getD_eq_getElem?_getD, List.getElem?_eq_getElem hi]; exact List.getElem_mem hi) kv' w' g hv))
  have HLq := hidd hkq
  have HW0 : Hid (Grew w ((w.alloc (.cells #[.int .i64 6, .string t, .int .i64 n, .string m, .slice a l.length c] 24)).alloc (.cells #[.int .i64 0, .string ⟨#[]⟩, .int .i64 0, .string ⟨#[]⟩, .slice none 0 0] 24)) ∧ ((w.alloc (.cells #[.int .i64 6, .string t, .int .i64 n, .string m, .slice a l.length c] 24)).alloc (.cells #[.int .i64 0, .string ⟨#[]⟩, .int .i64 0, .string ⟨#[]⟩, .slice none 0 0] 24)).heap[w.heap.size]? = some (.cells #[.int .i64 6, .string t, .int .i64 n, .string m, .slice a l.length c] 24 (0, 0)) ∧ ((w.alloc (.cells #[.int .i64 6, .string t, .int .i64 n, .string m, .slice a l.length c] 24)).alloc (.cells #[.int .i64 0, .string ⟨#[]⟩, .int .i64 0, .string ⟨#[]⟩, .slice none 0 0] 24)).heap[w.heap.size + 1]? = some (.cells #[.int .i64 0, .string ⟨#[]⟩, .int .i64 0, .string ⟨#[]⟩, .slice none 0 0] 24 (0, 0))) :=
    ⟨((Grew.refl w).alloc _).alloc _, heap_more (heap_alloc_new w _), heap_second w _ _⟩
  have hnl : l.length ≤ 4095 := by
    have h1 := h.nodes
    rw [nodesP] at h1
    have := length_le_nodes l
    omega
  have HX : Hid (simple (.mk 6 t n m l) = textP 6 (spell t)) := by
    show makeP _ _ _ _ _ = _
    unfold makeP
    simp
  rw [HX.out]
  have HOf : Hid (∀ w, Calls Tryd.prog 43 #[.string t] w fun e w' => e = .returned (setV (setOf t.data.toList)) ∧ Grew w w') := hidd fun w => Of_any t w HPn.out.2.1
  have HTx : Hid (∀ w, TabZ w → Calls Tryd.prog 42 #[setV (setOf t.data.toList)] w fun e w' => e = .returned (.string (spell t)) ∧ Grew w w') := hidd fun w hT => Text_any _ w hT
  unfold setV at HOf HTx
  clear h hkq
  go_enter Tryd.func23, Tryd.ntmps23
  go_wp2_with fail
  go_loopw [3, 11] (fun s3 s11 wr => ∃ i : Nat, s11 = .int .i64 i ∧ i ≤ l.length ∧ Hid (PatsOwn wr (w.heap.size + 2) (w.heap.size + 2) s3 ((l.map simple).take i) ∧ Grew ((w.alloc (.cells #[.int .i64 6, .string t, .int .i64 n, .string m, .slice a l.length c] 24)).alloc (.cells #[.int .i64 0, .string ⟨#[]⟩, .int .i64 0, .string ⟨#[]⟩, .slice none 0 0] 24)) wr)) (fun _ s11 _ => l.length - (intOf s11).toNat)
  case atStart => exact ⟨0, rfl, by omega, PatsOwn.nil _ _ _, Grew.refl _⟩
  case round =>
    obtain ⟨i, rfl, hi, HD⟩ := hrel
    by_cases hlt : i < l.length
    · have HGw := hidd (HW0.out.1.trans HD.out.2)
      obtain ⟨b, o, kk, rfl, hnd, hq⟩ := (HLq.out.kept HGw.out).at hlt
      obtain ⟨ka, kn, kc, rfl⟩ := hq.form
      have HS := hidd (simple_take hlt)
      have HC := hidd (HK.out i hlt (wr.alloc (.cells #[.int .i64 (l.getD i Pat.zero).kind, .string (l.getD i Pat.zero).text, .int .i64 (l.getD i Pat.zero).n, .string (l.getD i Pat.zero).name, .slice ka kn kc] 24)) (HGw.out.alloc _) (.slice ka kn kc) (hq.kept ((Grew.refl wr).alloc _)).patV)
      obtain ⟨r, hr⟩ : ∃ r, l.getD i Pat.zero = r := ⟨_, rfl⟩
      rw [hr] at hnd HS HC
      obtain ⟨q, hqs⟩ : ∃ q, simple r = q := ⟨_, rfl⟩
      rw [hqs] at HS HC
      obtain ⟨c0, c1, c2, c3, c4, _, _, _, _⟩ := hnd
      have kl : decide ((i : Int) < (l.length : Int)) = true := decide_eq_true (by omega)
      have hsz := HGw.out.size
      clear hr hq hqs HK
      go_wp2_with fail
      refine HC.out.mono ?_; rintro e w2 ⟨qa, qn, qc, rfl, hq2, g2⟩
      have HG3 := hidd (((Grew.refl wr).alloc (.cells #[.int .i64 r.kind, .string r.text, .int .i64 r.n, .string r.name, .slice ka kn kc] 24)).trans g2)
      have hs0 : w.heap.size + 2 ≤ wr.heap.size := by have := HD.out.2.size; simpa using this
      have hl2 : ((l.map simple).take i).length = i := by rw [List.length_take, List.length_map]; omega
      obtain ⟨v', w', hap, ho, hbel, hgr⟩ := pats_append_one (HD.out.1.kept HG3.out) (Nat.le_trans hs0 HG3.out.size) hq2 (fun b hb _ => ⟨by rw [World.size_alloc] at hb; omega, fun e => by have := HD.out.1.blocks b e; rw [World.size_alloc] at hb; omega⟩) (by rw [hl2]; omega) 22 24
      have ho2 := ho
      rw [← HS.out] at ho2
      have HE := hidd (And.intro ho2 ((HD.out.2.trans HG3.out).below hbel (by simp)))
      clear ho ho2 hbel hgr g2 hq2
      go_wp2_with (at_builtin; refine wpList_append_eq rfl rfl rfl rfl hap ?_)
      go_roundw
      case rel => exact ⟨i + 1, by go_num, by omega, HE⟩
      case measure => simp [intOf]; omega
    · have hie : i = l.length := by omega
      have kl : decide ((i : Int) < (l.length : Int)) = false := decide_eq_false (by omega)
      have HE := hidd HD.out.1
      rw [show (l.map simple).take i = l.map simple from by rw [hie, show l.length = (l.map simple).length from (List.length_map _).symm, List.take_length]] at HE
      have HGw := hidd (HW0.out.1.trans HD.out.2)
      have HB := hidd (heap_kept HD.out.2 HW0.out.2.1)
      have HZ := hidd (heap_kept HD.out.2 HW0.out.2.2)
      have hsz := HGw.out.size
      clear HD hie HK HW0 HLq
      obtain ⟨⟨b0, b1, b2, b3, b4⟩, bf⟩ := five_cells HB.out
      obtain ⟨⟨f0, f1, f2, f3, f4⟩, ff⟩ := five_cells (heap_more (o := (.cells #[.int .i64 6, .string ⟨#[]⟩, .int .i64 0, .string ⟨#[]⟩, .slice none 0 0] 24)) HB.out)
      obtain ⟨⟨z0, z1, z2, z3, z4⟩, zf⟩ := five_cells (heap_more (o := (.cells #[.int .i64 6, .string ⟨#[]⟩, .int .i64 0, .string ⟨#[]⟩, .slice none 0 0] 24)) HZ.out)
      obtain ⟨⟨o0, o1, o2, o3, o4⟩, of⟩ := five_cells (heap_alloc_new wr (.cells #[.int .i64 6, .string ⟨#[]⟩, .int .i64 0, .string ⟨#[]⟩, .slice none 0 0] 24))
      go_wp2_with fail
      refine (HOf.out _).mono ?_; rintro e w1 ⟨rfl, g1⟩
      have HG0 := hidd g1
      have HG1 := hidd (((Grew.refl wr).alloc (.cells #[.int .i64 6, .string ⟨#[]⟩, .int .i64 0, .string ⟨#[]⟩, .slice none 0 0] 24)).trans g1)
      clear g1
      go_wp2_with fail
      refine (HTx.out _ (HT.out.kept (HGw.out.trans HG1.out))).mono ?_; rintro e w2 ⟨rfl, g2⟩
      have HG2 := hidd (HG1.out.trans g2)
      have HO2 : Hid (w2.heap[wr.heap.size]? = some (.cells #[.int .i64 6, .string ⟨#[]⟩, .int .i64 0, .string ⟨#[]⟩, .slice none 0 0] 24 (0, 0))) := hidd (heap_kept g2 (heap_kept HG0.out (heap_alloc_new wr (.cells #[.int .i64 6, .string ⟨#[]⟩, .int .i64 0, .string ⟨#[]⟩, .slice none 0 0] 24))))
      clear g2
      clear f0 f1 f2 f3 f4 ff z0 z1 z2 z3 z4 zf o0 o1 o2 o3 o4 of
      obtain ⟨⟨f0, f1, f2, f3, f4⟩, ff⟩ := five_cells (heap_kept (HG2.out) HB.out)
      obtain ⟨⟨z0, z1, z2, z3, z4⟩, zf⟩ := five_cells (heap_kept (HG2.out) HZ.out)
      obtain ⟨⟨o0, o1, o2, o3, o4⟩, of⟩ := five_cells (HO2.out)
      obtain ⟨⟨f0', f1', f2', f3', f4'⟩, ff'⟩ := five_cells (heap_kept ((HG2.out.setOwn (b := wr.heap.size) (o := 1) (Nat.le_refl _) (.string (spell t)))) HB.out)
      obtain ⟨⟨z0', z1', z2', z3', z4'⟩, zf'⟩ := five_cells (heap_kept ((HG2.out.setOwn (b := wr.heap.size) (o := 1) (Nat.le_refl _) (.string (spell t)))) HZ.out)
      obtain ⟨⟨o0', o1', o2', o3', o4'⟩, of'⟩ := five_cells (setCell_heap_same HO2.out 1 (.string (spell t)))
      go_wp2_with fail
      refine (is_lit (.mk 6 t n m l) (.slice a l.length c) 3 false rfl _).mono ?_; rintro e w3 ⟨rfl, hw3⟩
      have HG3 : Hid (Grew wr w3) := hidd (by rw [hw3]; exact (HG2.out.setOwn (Nat.le_refl _) _).alloc _)
      have HO3 : Hid (w3.heap[wr.heap.size]? = some (.cells #[.int .i64 6, .string (spell t), .int .i64 0, .string ⟨#[]⟩, .slice none 0 0] 24 (0, 0))) := hidd (by rw [hw3]; exact heap_more (setCell_heap_same HO2.out 1 _))
      clear hw3
      clear f0 f1 f2 f3 f4 ff z0 z1 z2 z3 z4 zf o0 o1 o2 o3 o4 of
      clear f0' f1' f2' f3' f4' ff' z0' z1' z2' z3' z4' zf' o0' o1' o2' o3' o4' of'
      obtain ⟨⟨f0, f1, f2, f3, f4⟩, ff⟩ := five_cells (heap_kept (HG3.out) HB.out)
      obtain ⟨⟨z0, z1, z2, z3, z4⟩, zf⟩ := five_cells (heap_kept (HG3.out) HZ.out)
      obtain ⟨⟨o0, o1, o2, o3, o4⟩, of⟩ := five_cells (HO3.out)
      go_wp2_with fail
      exact bodyPost_ret (results_pat (rb := w.heap.size + 1) rfl rfl (setPat_heap (heap_kept HG3.out HZ.out)) rfl) rfl (leaf_end (textP 6 (spell t)) (nums_leaf (by omega) zero_in (spell_max t) none_size) rfl (setPat_grew (HGw.out.trans HG3.out) (by omega) _ _ _ _ _))
set_option maxRecDepth 100000 in
set_option maxHeartbeats 1000000 in
theorem simple_k7 (t : ByteArray) (n : Int) (m : ByteArray) (l : List Pat) (kv : Value) (w : World) (h : SimpIn (.mk 7 t n m l) kv w) : Calls Tryd.prog 23 #[.agg #[.int .i64 7, .string t, .int .i64 n, .string m, kv]] w (SingleEnd w.heap.size (simple (.mk 7 t n m l)) w) := by
  have hkq := h.pat.pq.list
  obtain ⟨a, c, rfl, hlm⟩ := hkq.len
  have hlm : l.length ≤ maxLen := hlm
  have hkq : ListIn w (fun b => b < w.heap.size) (.slice a l.length c) l := hkq
  show Calls _ _ #[.agg #[_, _, _, _, .slice a l.length c]] _ _
  unfold maxLen at hlm
  have HNo := hidd ((errW_iff _).1 h.right).1
  have HT := hidd h.tab
  have HPn := hidd (And.intro h.pat.hn (And.intro h.pat.ht h.pat.hm))
  have HRt := hidd (And.intro h.right h.nodes)
  have HK := hidd (fun i (hi : i < l.length) w' (g : Grew w w') kv' (hv : PatV w' kv' (l.getD i Pat.zero)) => kid_end (h.kids (l.getD i Pat.zero) (by rw [List.getD_eq_getElem?_getD, List.getElem?_eq_getElem hi]; exact List.getElem_mem hi) kv' w' g hv))
  have HLq := hidd hkq
  have HW0 : Hid (Grew w ((w.alloc (.cells #[.int .i64 7, .string t, .int .i64 n, .string m, .slice a l.length c] 24)).alloc (.cells #[.int .i64 0, .string ⟨#[]⟩, .int .i64 0, .string ⟨#[]⟩, .slice none 0 0] 24)) ∧ ((w.alloc (.cells #[.int .i64 7, .string t, .int .i64 n, .string m, .slice a l.length c] 24)).alloc (.cells #[.int .i64 0, .string ⟨#[]⟩, .int .i64 0, .string ⟨#[]⟩, .slice none 0 0] 24)).heap[w.heap.size]? = some (.cells #[.int .i64 7, .string t, .int .i64 n, .string m, .slice a l.length c] 24 (0, 0)) ∧ ((w.alloc (.cells #[.int .i64 7, .string t, .int .i64 n, .string m, .slice a l.length c] 24)).alloc (.cells #[.int .i64 0, .string ⟨#[]⟩, .int .i64 0, .string ⟨#[]⟩, .slice none 0 0] 24)).heap[w.heap.size + 1]? = some (.cells #[.int .i64 0, .string ⟨#[]⟩, .int .i64 0, .string ⟨#[]⟩, .slice none 0 0] 24 (0, 0))) :=
    ⟨((Grew.refl w).alloc _).alloc _, heap_more (heap_alloc_new w _), heap_second w _ _⟩
  have hnl : l.length ≤ 4095 := by
    have h1 := h.nodes
    rw [nodesP] at h1
    have := length_le_nodes l
    omega
  have HX : Hid (simple (.mk 7 t n m l) = textP 7 (spell t)) := by
    show makeP _ _ _ _ _ = _
    unfold makeP
    simp
  rw [HX.out]
  have HOf : Hid (∀ w, Calls Tryd.prog 43 #[.string t] w fun e w' => e = .returned (setV (setOf t.data.toList)) ∧ Grew w w') := hidd fun w => Of_any t w HPn.out.2.1
  have HTx : Hid (∀ w, TabZ w → Calls Tryd.prog 42 #[setV (setOf t.data.toList)] w fun e w' => e = .returned (.string (spell t)) ∧ Grew w w') := hidd fun w hT => Text_any _ w hT
  unfold setV at HOf HTx
  clear h hkq
  go_enter Tryd.func23, Tryd.ntmps23
  go_wp2_with fail
  go_loopw [3, 11] (fun s3 s11 wr => ∃ i : Nat, s11 = .int .i64 i ∧ i ≤ l.length ∧ Hid (PatsOwn wr (w.heap.size + 2) (w.heap.size + 2) s3 ((l.map simple).take i) ∧ Grew ((w.alloc (.cells #[.int .i64 7, .string t, .int .i64 n, .string m, .slice a l.length c] 24)).alloc (.cells #[.int .i64 0, .string ⟨#[]⟩, .int .i64 0, .string ⟨#[]⟩, .slice none 0 0] 24)) wr)) (fun _ s11 _ => l.length - (intOf s11).toNat)
  case atStart => exact ⟨0, rfl, by omega, PatsOwn.nil _ _ _, Grew.refl _⟩
  case round =>
    obtain ⟨i, rfl, hi, HD⟩ := hrel
    by_cases hlt : i < l.length
    · have HGw := hidd (HW0.out.1.trans HD.out.2)
      obtain ⟨b, o, kk, rfl, hnd, hq⟩ := (HLq.out.kept HGw.out).at hlt
      obtain ⟨ka, kn, kc, rfl⟩ := hq.form
      have HS := hidd (simple_take hlt)
      have HC := hidd (HK.out i hlt (wr.alloc (.cells #[.int .i64 (l.getD i Pat.zero).kind, .string (l.getD i Pat.zero).text, .int .i64 (l.getD i Pat.zero).n, .string (l.getD i Pat.zero).name, .slice ka kn kc] 24)) (HGw.out.alloc _) (.slice ka kn kc) (hq.kept ((Grew.refl wr).alloc _)).patV)
      obtain ⟨r, hr⟩ : ∃ r, l.getD i Pat.zero = r := ⟨_, rfl⟩
      rw [hr] at hnd HS HC
      obtain ⟨q, hqs⟩ : ∃ q, simple r = q := ⟨_, rfl⟩
      rw [hqs] at HS HC
      obtain ⟨c0, c1, c2, c3, c4, _, _, _, _⟩ := hnd
      have kl : decide ((i : Int) < (l.length : Int)) = true := decide_eq_true (by omega)
      have hsz := HGw.out.size
      clear hr hq hqs HK
      go_wp2_with fail
      refine HC.out.mono ?_; rintro e w2 ⟨qa, qn, qc, rfl, hq2, g2⟩
      have HG3 := hidd (((Grew.refl wr).alloc (.cells #[.int .i64 r.kind, .string r.text, .int .i64 r.n, .string r.name, .slice ka kn kc] 24)).trans g2)
      have hs0 : w.heap.size + 2 ≤ wr.heap.size := by have := HD.out.2.size; simpa using this
      have hl2 : ((l.map simple).take i).length = i := by rw [List.length_take, List.length_map]; omega
      obtain ⟨v', w', hap, ho, hbel, hgr⟩ := pats_append_one (HD.out.1.kept HG3.out) (Nat.le_trans hs0 HG3.out.size) hq2 (fun b hb _ => ⟨by rw [World.size_alloc] at hb; omega, fun e => by have := HD.out.1.blocks b e; rw [World.size_alloc] at hb; omega⟩) (by rw [hl2]; omega) 22 24
      have ho2 := ho
      rw [← HS.out] at ho2
      have HE := hidd (And.intro ho2 ((HD.out.2.trans HG3.out).below hbel (by simp)))
      clear ho ho2 hbel hgr g2 hq2
      go_wp2_with (at_builtin; refine wpList_append_eq rfl rfl rfl rfl hap ?_)
      go_roundw
      case rel => exact ⟨i + 1, by go_num, by omega, HE⟩
      case measure => simp [intOf]; omega
    · have hie : i = l.length := by omega
      have kl : decide ((i : Int) < (l.length : Int)) = false := decide_eq_false (by omega)
      have HE := hidd HD.out.1
      rw [show (l.map simple).take i = l.map simple from by rw [hie, show l.length = (l.map simple).length from (List.length_map _).symm, List.take_length]] at HE
      have HGw := hidd (HW0.out.1.trans HD.out.2)
      have HB := hidd (heap_kept HD.out.2 HW0.out.2.1)
      have HZ := hidd (heap_kept HD.out.2 HW0.out.2.2)
      have hsz := HGw.out.size
      clear HD hie HK HW0 HLq
      obtain ⟨⟨b0, b1, b2, b3, b4⟩, bf⟩ := five_cells HB.out
      obtain ⟨⟨f0, f1, f2, f3, f4⟩, ff⟩ := five_cells (heap_more (o := (.cells #[.int .i64 7, .string ⟨#[]⟩, .int .i64 0, .string ⟨#[]⟩, .slice none 0 0] 24)) HB.out)
      obtain ⟨⟨z0, z1, z2, z3, z4⟩, zf⟩ := five_cells (heap_more (o := (.cells #[.int .i64 7, .string ⟨#[]⟩, .int .i64 0, .string ⟨#[]⟩, .slice none 0 0] 24)) HZ.out)
      obtain ⟨⟨o0, o1, o2, o3, o4⟩, of⟩ := five_cells (heap_alloc_new wr (.cells #[.int .i64 7, .string ⟨#[]⟩, .int .i64 0, .string ⟨#[]⟩, .slice none 0 0] 24))
      go_wp2_with fail
      refine (HOf.out _).mono ?_; rintro e w1 ⟨rfl, g1⟩
      have HG0 := hidd g1
      have HG1 := hidd (((Grew.refl wr).alloc (.cells #[.int .i64 7, .string ⟨#[]⟩, .int .i64 0, .string ⟨#[]⟩, .slice none 0 0] 24)).trans g1)
      clear g1
      go_wp2_with fail
      refine (HTx.out _ (HT.out.kept (HGw.out.trans HG1.out))).mono ?_; rintro e w2 ⟨rfl, g2⟩
      have HG2 := hidd (HG1.out.trans g2)
      have HO2 : Hid (w2.heap[wr.heap.size]? = some (.cells #[.int .i64 7, .string ⟨#[]⟩, .int .i64 0, .string ⟨#[]⟩, .slice none 0 0] 24 (0, 0))) := hidd (heap_kept g2 (heap_kept HG0.out (heap_alloc_new wr (.cells #[.int .i64 7, .string ⟨#[]⟩, .int .i64 0, .string ⟨#[]⟩, .slice none 0 0] 24))))
      clear g2
      clear f0 f1 f2 f3 f4 ff z0 z1 z2 z3 z4 zf o0 o1 o2 o3 o4 of
      obtain ⟨⟨f0, f1, f2, f3, f4⟩, ff⟩ := five_cells (heap_kept (HG2.out) HB.out)
      obtain ⟨⟨z0, z1, z2, z3, z4⟩, zf⟩ := five_cells (heap_kept (HG2.out) HZ.out)
      obtain ⟨⟨o0, o1, o2, o3, o4⟩, of⟩ := five_cells (HO2.out)
      obtain ⟨⟨f0', f1', f2', f3', f4'⟩, ff'⟩ := five_cells (heap_kept ((HG2.out.setOwn (b := wr.heap.size) (o := 1) (Nat.le_refl _) (.string (spell t)))) HB.out)
      obtain ⟨⟨z0', z1', z2', z3', z4'⟩, zf'⟩ := five_cells (heap_kept ((HG2.out.setOwn (b := wr.heap.size) (o := 1) (Nat.le_refl _) (.string (spell t)))) HZ.out)
      obtain ⟨⟨o0', o1', o2', o3', o4'⟩, of'⟩ := five_cells (setCell_heap_same HO2.out 1 (.string (spell t)))
      go_wp2_with fail
      refine (is_lit (.mk 7 t n m l) (.slice a l.length c) 3 false rfl _).mono ?_; rintro e w3 ⟨rfl, hw3⟩
      have HG3 : Hid (Grew wr w3) := hidd (by rw [hw3]; exact (HG2.out.setOwn (Nat.le_refl _) _).alloc _)
      have HO3 : Hid (w3.heap[wr.heap.size]? = some (.cells #[.int .i64 7, .string (spell t), .int .i64 0, .string ⟨#[]⟩, .slice none 0 0] 24 (0, 0))) := hidd (by rw [hw3]; exact heap_more (setCell_heap_same HO2.out 1 _))
      clear hw3
      clear f0 f1 f2 f3 f4 ff z0 z1 z2 z3 z4 zf o0 o1 o2 o3 o4 of
      clear f0' f1' f2' f3' f4' ff' z0' z1' z2' z3' z4' zf' o0' o1' o2' o3' o4' of'
      obtain ⟨⟨f0, f1, f2, f3, f4⟩, ff⟩ := five_cells (heap_kept (HG3.out) HB.out)
      obtain ⟨⟨z0, z1, z2, z3, z4⟩, zf⟩ := five_cells (heap_kept (HG3.out) HZ.out)
      obtain ⟨⟨o0, o1, o2, o3, o4⟩, of⟩ := five_cells (HO3.out)
      go_wp2_with fail
      exact bodyPost_ret (results_pat (rb := w.heap.size + 1) rfl rfl (setPat_heap (heap_kept HG3.out HZ.out)) rfl) rfl (leaf_end (textP 7 (spell t)) (nums_leaf (by omega) zero_in (spell_max t) none_size) rfl (setPat_grew (HGw.out.trans HG3.out) (by omega) _ _ _ _ _))
set_option maxRecDepth 100000 in
set_option maxHeartbeats 1000000 in
theorem simple_k3a (t : ByteArray) (n : Int) (m : ByteArray) (l : List Pat) (kv : Value) (w : World) (h : SimpIn (.mk 3 t n m l) kv w) (h1 : ¬ (spell t).size = 1) : Calls Tryd.prog 23 #[.agg #[.int .i64 3, .string t, .int .i64 n, .string m, kv]] w (SingleEnd w.heap.size (simple (.mk 3 t n m l)) w) := by
  have hkq := h.pat.pq.list
  obtain ⟨a, c, rfl, hlm⟩ := hkq.len
  have hlm : l.length ≤ maxLen := hlm
  have hkq : ListIn w (fun b => b < w.heap.size) (.slice a l.length c) l := hkq
  show Calls _ _ #[.agg #[_, _, _, _, .slice a l.length c]] _ _
  unfold maxLen at hlm
  have HNo := hidd ((errW_iff _).1 h.right).1
  have HT := hidd h.tab
  have HPn := hidd (And.intro h.pat.hn (And.intro h.pat.ht h.pat.hm))
  have HRt := hidd (And.intro h.right h.nodes)
  have HK := hidd (fun i (hi : i < l.length) w' (g : Grew w w') kv' (hv : PatV w' kv' (l.getD i Pat.zero)) => kid_end (h.kids (l.getD i Pat.zero) (by rw [List.getD_eq_getElem?_getD, List.getElem?_eq_getElem hi]; exact List.getElem_mem hi) kv' w' g hv))
  have HLq := hidd hkq
  have HW0 : Hid (Grew w ((w.alloc (.cells #[.int .i64 3, .string t, .int .i64 n, .string m, .slice a l.length c] 24)).alloc (.cells #[.int .i64 0, .string ⟨#[]⟩, .int .i64 0, .string ⟨#[]⟩, .slice none 0 0] 24)) ∧ ((w.alloc (.cells #[.int .i64 3, .string t, .int .i64 n, .string m, .slice a l.length c] 24)).alloc (.cells #[.int .i64 0, .string ⟨#[]⟩, .int .i64 0, .string ⟨#[]⟩, .slice none 0 0] 24)).heap[w.heap.size]? = some (.cells #[.int .i64 3, .string t, .int .i64 n, .string m, .slice a l.length c] 24 (0, 0)) ∧ ((w.alloc (.cells #[.int .i64 3, .string t, .int .i64 n, .string m, .slice a l.length c] 24)).alloc (.cells #[.int .i64 0, .string ⟨#[]⟩, .int .i64 0, .string ⟨#[]⟩, .slice none 0 0] 24)).heap[w.heap.size + 1]? = some (.cells #[.int .i64 0, .string ⟨#[]⟩, .int .i64 0, .string ⟨#[]⟩, .slice none 0 0] 24 (0, 0))) :=
    ⟨((Grew.refl w).alloc _).alloc _, heap_more (heap_alloc_new w _), heap_second w _ _⟩
  have hnl : l.length ≤ 4095 := by
    have h1 := h.nodes
    rw [nodesP] at h1
    have := length_le_nodes l
    omega
  have HX : Hid (simple (.mk 3 t n m l) = textP 3 (spell t)) := by
    show makeP _ _ _ _ _ = _
    unfold makeP
    simp [h1]
  rw [HX.out]
  have HOf : Hid (∀ w, Calls Tryd.prog 43 #[.string t] w fun e w' => e = .returned (setV (setOf t.data.toList)) ∧ Grew w w') := hidd fun w => Of_any t w HPn.out.2.1
  have HTx : Hid (∀ w, TabZ w → Calls Tryd.prog 42 #[setV (setOf t.data.toList)] w fun e w' => e = .returned (.string (spell t)) ∧ Grew w w') := hidd fun w hT => Text_any _ w hT
  unfold setV at HOf HTx
  have kz : ((((spell t).size : Nat) : Int) == 1) = false := by rw [beq_eq_false_iff_ne]; omega
  clear h hkq
  go_enter Tryd.func23, Tryd.ntmps23
  go_wp2_with fail
  go_loopw [3, 11] (fun s3 s11 wr => ∃ i : Nat, s11 = .int .i64 i ∧ i ≤ l.length ∧ Hid (PatsOwn wr (w.heap.size + 2) (w.heap.size + 2) s3 ((l.map simple).take i) ∧ Grew ((w.alloc (.cells #[.int .i64 3, .string t, .int .i64 n, .string m, .slice a l.length c] 24)).alloc (.cells #[.int .i64 0, .string ⟨#[]⟩, .int .i64 0, .string ⟨#[]⟩, .slice none 0 0] 24)) wr)) (fun _ s11 _ => l.length - (intOf s11).toNat)
  case atStart => exact ⟨0, rfl, by omega, PatsOwn.nil _ _ _, Grew.refl _⟩
  case round =>
    obtain ⟨i, rfl, hi, HD⟩ := hrel
    by_cases hlt : i < l.length
    · have HGw := hidd (HW0.out.1.trans HD.out.2)
      obtain ⟨b, o, kk, rfl, hnd, hq⟩ := (HLq.out.kept HGw.out).at hlt
      obtain ⟨ka, kn, kc, rfl⟩ := hq.form
      have HS := hidd (simple_take hlt)
      have HC := hidd (HK.out i hlt (wr.alloc (.cells #[.int .i64 (l.getD i Pat.zero).kind, .string (l.getD i Pat.zero).text, .int .i64 (l.getD i Pat.zero).n, .string (l.getD i Pat.zero).name, .slice ka kn kc] 24)) (HGw.out.alloc _) (.slice ka kn kc) (hq.kept ((Grew.refl wr).alloc _)).patV)
      obtain ⟨r, hr⟩ : ∃ r, l.getD i Pat.zero = r := ⟨_, rfl⟩
      rw [hr] at hnd HS HC
      obtain ⟨q, hqs⟩ : ∃ q, simple r = q := ⟨_, rfl⟩
      rw [hqs] at HS HC
      obtain ⟨c0, c1, c2, c3, c4, _, _, _, _⟩ := hnd
      have kl : decide ((i : Int) < (l.length : Int)) = true := decide_eq_true (by omega)
      have hsz := HGw.out.size
      clear hr hq hqs HK
      go_wp2_with fail
      refine HC.out.mono ?_; rintro e w2 ⟨qa, qn, qc, rfl, hq2, g2⟩
      have HG3 := hidd (((Grew.refl wr).alloc (.cells #[.int .i64 r.kind, .string r.text, .int .i64 r.n, .string r.name, .slice ka kn kc] 24)).trans g2)
      have hs0 : w.heap.size + 2 ≤ wr.heap.size := by have := HD.out.2.size; simpa using this
      have hl2 : ((l.map simple).take i).length = i := by rw [List.length_take, List.length_map]; omega
      obtain ⟨v', w', hap, ho, hbel, hgr⟩ := pats_append_one (HD.out.1.kept HG3.out) (Nat.le_trans hs0 HG3.out.size) hq2 (fun b hb _ => ⟨by rw [World.size_alloc] at hb; omega, fun e => by have := HD.out.1.blocks b e; rw [World.size_alloc] at hb; omega⟩) (by rw [hl2]; omega) 22 24
      have ho2 := ho
      rw [← HS.out] at ho2
      have HE := hidd (And.intro ho2 ((HD.out.2.trans HG3.out).below hbel (by simp)))
      clear ho ho2 hbel hgr g2 hq2
      go_wp2_with (at_builtin; refine wpList_append_eq rfl rfl rfl rfl hap ?_)
      go_roundw
      case rel => exact ⟨i + 1, by go_num, by omega, HE⟩
      case measure => simp [intOf]; omega
    · have hie : i = l.length := by omega
      have kl : decide ((i : Int) < (l.length : Int)) = false := decide_eq_false (by omega)
      have HE := hidd HD.out.1
      rw [show (l.map simple).take i = l.map simple from by rw [hie, show l.length = (l.map simple).length from (List.length_map _).symm, List.take_length]] at HE
      have HGw := hidd (HW0.out.1.trans HD.out.2)
      have HB := hidd (heap_kept HD.out.2 HW0.out.2.1)
      have HZ := hidd (heap_kept HD.out.2 HW0.out.2.2)
      have hsz := HGw.out.size
      clear HD hie HK HW0 HLq
      obtain ⟨⟨b0, b1, b2, b3, b4⟩, bf⟩ := five_cells HB.out
      obtain ⟨⟨f0, f1, f2, f3, f4⟩, ff⟩ := five_cells (heap_more (o := (.cells #[.int .i64 3, .string ⟨#[]⟩, .int .i64 0, .string ⟨#[]⟩, .slice none 0 0] 24)) HB.out)
      obtain ⟨⟨z0, z1, z2, z3, z4⟩, zf⟩ := five_cells (heap_more (o := (.cells #[.int .i64 3, .string ⟨#[]⟩, .int .i64 0, .string ⟨#[]⟩, .slice none 0 0] 24)) HZ.out)
      obtain ⟨⟨o0, o1, o2, o3, o4⟩, of⟩ := five_cells (heap_alloc_new wr (.cells #[.int .i64 3, .string ⟨#[]⟩, .int .i64 0, .string ⟨#[]⟩, .slice none 0 0] 24))
      go_wp2_with fail
      refine (HOf.out _).mono ?_; rintro e w1 ⟨rfl, g1⟩
      have HG0 := hidd g1
      have HG1 := hidd (((Grew.refl wr).alloc (.cells #[.int .i64 3, .string ⟨#[]⟩, .int .i64 0, .string ⟨#[]⟩, .slice none 0 0] 24)).trans g1)
      clear g1
      go_wp2_with fail
      refine (HTx.out _ (HT.out.kept (HGw.out.trans HG1.out))).mono ?_; rintro e w2 ⟨rfl, g2⟩
      have HG2 := hidd (HG1.out.trans g2)
      have HO2 : Hid (w2.heap[wr.heap.size]? = some (.cells #[.int .i64 3, .string ⟨#[]⟩, .int .i64 0, .string ⟨#[]⟩, .slice none 0 0] 24 (0, 0))) := hidd (heap_kept g2 (heap_kept HG0.out (heap_alloc_new wr (.cells #[.int .i64 3, .string ⟨#[]⟩, .int .i64 0, .string ⟨#[]⟩, .slice none 0 0] 24))))
      clear g2
      clear f0 f1 f2 f3 f4 ff z0 z1 z2 z3 z4 zf o0 o1 o2 o3 o4 of
      obtain ⟨⟨f0, f1, f2, f3, f4⟩, ff⟩ := five_cells (heap_kept (HG2.out) HB.out)
      obtain ⟨⟨z0, z1, z2, z3, z4⟩, zf⟩ := five_cells (heap_kept (HG2.out) HZ.out)
      obtain ⟨⟨o0, o1, o2, o3, o4⟩, of⟩ := five_cells (HO2.out)
      obtain ⟨⟨f0', f1', f2', f3', f4'⟩, ff'⟩ := five_cells (heap_kept ((HG2.out.setOwn (b := wr.heap.size) (o := 1) (Nat.le_refl _) (.string (spell t)))) HB.out)
      obtain ⟨⟨z0', z1', z2', z3', z4'⟩, zf'⟩ := five_cells (heap_kept ((HG2.out.setOwn (b := wr.heap.size) (o := 1) (Nat.le_refl _) (.string (spell t)))) HZ.out)
      obtain ⟨⟨o0', o1', o2', o3', o4'⟩, of'⟩ := five_cells (setCell_heap_same HO2.out 1 (.string (spell t)))
      go_wp2_with fail
      refine (is_lit (.mk 3 t n m l) (.slice a l.length c) 3 true rfl _).mono ?_; rintro e w3 ⟨rfl, hw3⟩
      have HG3 : Hid (Grew wr w3) := hidd (by rw [hw3]; exact (HG2.out.setOwn (Nat.le_refl _) _).alloc _)
      have HO3 : Hid (w3.heap[wr.heap.size]? = some (.cells #[.int .i64 3, .string (spell t), .int .i64 0, .string ⟨#[]⟩, .slice none 0 0] 24 (0, 0))) := hidd (by rw [hw3]; exact heap_more (setCell_heap_same HO2.out 1 _))
      clear hw3
      clear f0 f1 f2 f3 f4 ff z0 z1 z2 z3 z4 zf o0 o1 o2 o3 o4 of
      clear f0' f1' f2' f3' f4' ff' z0' z1' z2' z3' z4' zf' o0' o1' o2' o3' o4' of'
      obtain ⟨⟨f0, f1, f2, f3, f4⟩, ff⟩ := five_cells (heap_kept (HG3.out) HB.out)
      obtain ⟨⟨z0, z1, z2, z3, z4⟩, zf⟩ := five_cells (heap_kept (HG3.out) HZ.out)
      obtain ⟨⟨o0, o1, o2, o3, o4⟩, of⟩ := five_cells (HO3.out)
      go_wp2_with fail
      exact bodyPost_ret (results_pat (rb := w.heap.size + 1) rfl rfl (setPat_heap (heap_kept HG3.out HZ.out)) rfl) rfl (leaf_end (textP 3 (spell t)) (nums_leaf (by omega) zero_in (spell_max t) none_size) rfl (setPat_grew (HGw.out.trans HG3.out) (by omega) _ _ _ _ _))
set_option maxRecDepth 100000 in
set_option maxHeartbeats 1000000 in
theorem simple_k3b (t : ByteArray) (n : Int) (m : ByteArray) (l : List Pat) (kv : Value) (w : World) (h : SimpIn (.mk 3 t n m l) kv w) (h1 : (spell t).size = 1) : Calls Tryd.prog 23 #[.agg #[.int .i64 3, .string t, .int .i64 n, .string m, kv]] w (SingleEnd w.heap.size (simple (.mk 3 t n m l)) w) := by
  have hkq := h.pat.pq.list
  obtain ⟨a, c, rfl, hlm⟩ := hkq.len
  have hlm : l.length ≤ maxLen := hlm
  have hkq : ListIn w (fun b => b < w.heap.size) (.slice a l.length c) l := hkq
  show Calls _ _ #[.agg #[_, _, _, _, .slice a l.length c]] _ _
  unfold maxLen at hlm
  have HNo := hidd ((errW_iff _).1 h.right).1
  have HT := hidd h.tab
  have HPn := hidd (And.intro h.pat.hn (And.intro h.pat.ht h.pat.hm))
  have HRt := hidd (And.intro h.right h.nodes)
  have HK := hidd (fun i (hi : i < l.length) w' (g : Grew w w') kv' (hv : PatV w' kv' (l.getD i Pat.zero)) => kid_end (h.kids (l.getD i Pat.zero) (by rw [List.getD_eq_getElem?_getD, List.getElem?_eq_getElem hi]; exact List.getElem_mem hi) kv' w' g hv))
  have HLq := hidd hkq
  have HW0 : Hid (Grew w ((w.alloc (.cells #[.int .i64 3, .string t, .int .i64 n, .string m, .slice a l.length c] 24)).alloc (.cells #[.int .i64 0, .string ⟨#[]⟩, .int .i64 0, .string ⟨#[]⟩, .slice none 0 0] 24)) ∧ ((w.alloc (.cells #[.int .i64 3, .string t, .int .i64 n, .string m, .slice a l.length c] 24)).alloc (.cells #[.int .i64 0, .string ⟨#[]⟩, .int .i64 0, .string ⟨#[]⟩, .slice none 0 0] 24)).heap[w.heap.size]? = some (.cells #[.int .i64 3, .string t, .int .i64 n, .string m, .slice a l.length c] 24 (0, 0)) ∧ ((w.alloc (.cells #[.int .i64 3, .string t, .int .i64 n, .string m, .slice a l.length c] 24)).alloc (.cells #[.int .i64 0, .string ⟨#[]⟩, .int .i64 0, .string ⟨#[]⟩, .slice none 0 0] 24)).heap[w.heap.size + 1]? = some (.cells #[.int .i64 0, .string ⟨#[]⟩, .int .i64 0, .string ⟨#[]⟩, .slice none 0 0] 24 (0, 0))) :=
    ⟨((Grew.refl w).alloc _).alloc _, heap_more (heap_alloc_new w _), heap_second w _ _⟩
  have hnl : l.length ≤ 4095 := by
    have h1 := h.nodes
    rw [nodesP] at h1
    have := length_le_nodes l
    omega
  have HX : Hid (simple (.mk 3 t n m l) = litP (spell t)) := by
    show makeP _ _ _ _ _ = _
    unfold makeP
    simp [h1]
  rw [HX.out]
  have HOf : Hid (∀ w, Calls Tryd.prog 43 #[.string t] w fun e w' => e = .returned (setV (setOf t.data.toList)) ∧ Grew w w') := hidd fun w => Of_any t w HPn.out.2.1
  have HTx : Hid (∀ w, TabZ w → Calls Tryd.prog 42 #[setV (setOf t.data.toList)] w fun e w' => e = .returned (.string (spell t)) ∧ Grew w w') := hidd fun w hT => Text_any _ w hT
  unfold setV at HOf HTx
  have kz : ((((spell t).size : Nat) : Int) == 1) = true := by rw [beq_iff_eq]; omega
  clear h hkq
  go_enter Tryd.func23, Tryd.ntmps23
  go_wp2_with fail
  go_loopw [3, 11] (fun s3 s11 wr => ∃ i : Nat, s11 = .int .i64 i ∧ i ≤ l.length ∧ Hid (PatsOwn wr (w.heap.size + 2) (w.heap.size + 2) s3 ((l.map simple).take i) ∧ Grew ((w.alloc (.cells #[.int .i64 3, .string t, .int .i64 n, .string m, .slice a l.length c] 24)).alloc (.cells #[.int .i64 0, .string ⟨#[]⟩, .int .i64 0, .string ⟨#[]⟩, .slice none 0 0] 24)) wr)) (fun _ s11 _ => l.length - (intOf s11).toNat)
  case atStart => exact ⟨0, rfl, by omega, PatsOwn.nil _ _ _, Grew.refl _⟩
  case round =>
    obtain ⟨i, rfl, hi, HD⟩ := hrel
    by_cases hlt : i < l.length
    · have HGw := hidd (HW0.out.1.trans HD.out.2)
      obtain ⟨b, o, kk, rfl, hnd, hq⟩ := (HLq.out.kept HGw.out).at hlt
      obtain ⟨ka, kn, kc, rfl⟩ := hq.form
      have HS := hidd (simple_take hlt)
      have HC := hidd (HK.out i hlt (wr.alloc (.cells #[.int .i64 (l.getD i Pat.zero).kind, .string (l.getD i Pat.zero).text, .int .i64 (l.getD i Pat.zero).n, .string (l.getD i Pat.zero).name, .slice ka kn kc] 24)) (HGw.out.alloc _) (.slice ka kn kc) (hq.kept ((Grew.refl wr).alloc _)).patV)
      obtain ⟨r, hr⟩ : ∃ r, l.getD i Pat.zero = r := ⟨_, rfl⟩
      rw [hr] at hnd HS HC
      obtain ⟨q, hqs⟩ : ∃ q, simple r = q := ⟨_, rfl⟩
      rw [hqs] at HS HC
      obtain ⟨c0, c1, c2, c3, c4, _, _, _, _⟩ := hnd
      have kl : decide ((i : Int) < (l.length : Int)) = true := decide_eq_true (by omega)
      have hsz := HGw.out.size
      clear hr hq hqs HK
      go_wp2_with fail
      refine HC.out.mono ?_; rintro e w2 ⟨qa, qn, qc, rfl, hq2, g2⟩
      have HG3 := hidd (((Grew.refl wr).alloc (.cells #[.int .i64 r.kind, .string r.text, .int .i64 r.n, .string r.name, .slice ka kn kc] 24)).trans g2)
      have hs0 : w.heap.size + 2 ≤ wr.heap.size := by have := HD.out.2.size; simpa using this
      have hl2 : ((l.map simple).take i).length = i := by rw [List.length_take, List.length_map]; omega
      obtain ⟨v', w', hap, ho, hbel, hgr⟩ := pats_append_one (HD.out.1.kept HG3.out) (Nat.le_trans hs0 HG3.out.size) hq2 (fun b hb _ => ⟨by rw [World.size_alloc] at hb; omega, fun e => by have := HD.out.1.blocks b e; rw [World.size_alloc] at hb; omega⟩) (by rw [hl2]; omega) 22 24
      have ho2 := ho
      rw [← HS.out] at ho2
      have HE := hidd (And.intro ho2 ((HD.out.2.trans HG3.out).below hbel (by simp)))
      clear ho ho2 hbel hgr g2 hq2
      go_wp2_with (at_builtin; refine wpList_append_eq rfl rfl rfl rfl hap ?_)
      go_roundw
      case rel => exact ⟨i + 1, by go_num, by omega, HE⟩
      case measure => simp [intOf]; omega
    · have hie : i = l.length := by omega
      have kl : decide ((i : Int) < (l.length : Int)) = false := decide_eq_false (by omega)
      have HE := hidd HD.out.1
      rw [show (l.map simple).take i = l.map simple from by rw [hie, show l.length = (l.map simple).length from (List.length_map _).symm, List.take_length]] at HE
      have HGw := hidd (HW0.out.1.trans HD.out.2)
      have HB := hidd (heap_kept HD.out.2 HW0.out.2.1)
      have HZ := hidd (heap_kept HD.out.2 HW0.out.2.2)
      have hsz := HGw.out.size
      clear HD hie HK HW0 HLq
      obtain ⟨⟨b0, b1, b2, b3, b4⟩, bf⟩ := five_cells HB.out
      obtain ⟨⟨f0, f1, f2, f3, f4⟩, ff⟩ := five_cells (heap_more (o := (.cells #[.int .i64 3, .string ⟨#[]⟩, .int .i64 0, .string ⟨#[]⟩, .slice none 0 0] 24)) HB.out)
      obtain ⟨⟨z0, z1, z2, z3, z4⟩, zf⟩ := five_cells (heap_more (o := (.cells #[.int .i64 3, .string ⟨#[]⟩, .int .i64 0, .string ⟨#[]⟩, .slice none 0 0] 24)) HZ.out)
      obtain ⟨⟨o0, o1, o2, o3, o4⟩, of⟩ := five_cells (heap_alloc_new wr (.cells #[.int .i64 3, .string ⟨#[]⟩, .int .i64 0, .string ⟨#[]⟩, .slice none 0 0] 24))
      go_wp2_with fail
      refine (HOf.out _).mono ?_; rintro e w1 ⟨rfl, g1⟩
      have HG0 := hidd g1
      have HG1 := hidd (((Grew.refl wr).alloc (.cells #[.int .i64 3, .string ⟨#[]⟩, .int .i64 0, .string ⟨#[]⟩, .slice none 0 0] 24)).trans g1)
      clear g1
      go_wp2_with fail
      refine (HTx.out _ (HT.out.kept (HGw.out.trans HG1.out))).mono ?_; rintro e w2 ⟨rfl, g2⟩
      have HG2 := hidd (HG1.out.trans g2)
      have HO2 : Hid (w2.heap[wr.heap.size]? = some (.cells #[.int .i64 3, .string ⟨#[]⟩, .int .i64 0, .string ⟨#[]⟩, .slice none 0 0] 24 (0, 0))) := hidd (heap_kept g2 (heap_kept HG0.out (heap_alloc_new wr (.cells #[.int .i64 3, .string ⟨#[]⟩, .int .i64 0, .string ⟨#[]⟩, .slice none 0 0] 24))))
      clear g2
      clear f0 f1 f2 f3 f4 ff z0 z1 z2 z3 z4 zf o0 o1 o2 o3 o4 of
      obtain ⟨⟨f0, f1, f2, f3, f4⟩, ff⟩ := five_cells (heap_kept (HG2.out) HB.out)
      obtain ⟨⟨z0, z1, z2, z3, z4⟩, zf⟩ := five_cells (heap_kept (HG2.out) HZ.out)
      obtain ⟨⟨o0, o1, o2, o3, o4⟩, of⟩ := five_cells (HO2.out)
      obtain ⟨⟨f0', f1', f2', f3', f4'⟩, ff'⟩ := five_cells (heap_kept ((HG2.out.setOwn (b := wr.heap.size) (o := 1) (Nat.le_refl _) (.string (spell t)))) HB.out)
      obtain ⟨⟨z0', z1', z2', z3', z4'⟩, zf'⟩ := five_cells (heap_kept ((HG2.out.setOwn (b := wr.heap.size) (o := 1) (Nat.le_refl _) (.string (spell t)))) HZ.out)
      obtain ⟨⟨o0', o1', o2', o3', o4'⟩, of'⟩ := five_cells (setCell_heap_same HO2.out 1 (.string (spell t)))
      go_wp2_with fail
      refine (is_lit (.mk 3 t n m l) (.slice a l.length c) 3 true rfl _).mono ?_; rintro e w3 ⟨rfl, hw3⟩
      have HG3 : Hid (Grew wr w3) := hidd (by rw [hw3]; exact (HG2.out.setOwn (Nat.le_refl _) _).alloc _)
      have HO3 : Hid (w3.heap[wr.heap.size]? = some (.cells #[.int .i64 3, .string (spell t), .int .i64 0, .string ⟨#[]⟩, .slice none 0 0] 24 (0, 0))) := hidd (by rw [hw3]; exact heap_more (setCell_heap_same HO2.out 1 _))
      clear hw3
      clear f0 f1 f2 f3 f4 ff z0 z1 z2 z3 z4 zf o0 o1 o2 o3 o4 of
      clear f0' f1' f2' f3' f4' ff' z0' z1' z2' z3' z4' zf' o0' o1' o2' o3' o4' of'
      obtain ⟨⟨f0, f1, f2, f3, f4⟩, ff⟩ := five_cells (heap_kept (HG3.out) HB.out)
      obtain ⟨⟨z0, z1, z2, z3, z4⟩, zf⟩ := five_cells (heap_kept (HG3.out) HZ.out)
      obtain ⟨⟨o0, o1, o2, o3, o4⟩, of⟩ := five_cells (HO3.out)
      go_wp2_with fail
      refine (lit_exact (spell t) _).mono ?_; rintro e w9 ⟨rfl, hw9⟩
      have HG9 : Hid (Grew wr w9) := hidd (by rw [hw9]; exact HG3.out.alloc _)
      obtain ⟨⟨q0, q1, q2, q3, q4⟩, qf⟩ := five_cells (heap_kept HG9.out HZ.out)
      clear hw9
      go_wp2_with fail
      exact bodyPost_ret (results_pat (rb := w.heap.size + 1) rfl rfl (setPat_heap (heap_kept HG9.out HZ.out)) rfl) rfl (leaf_end (litP (spell t)) (nums_leaf (by omega) zero_in (spell_max t) none_size) rfl (setPat_grew (HGw.out.trans HG9.out) (by omega) _ _ _ _ _))
set_option maxRecDepth 100000 in
set_option maxHeartbeats 1000000 in
theorem simple_k2a (t : ByteArray) (n : Int) (m : ByteArray) (l : List Pat) (kv : Value) (w : World) (h : SimpIn (.mk 2 t n m l) kv w) (h1 : ¬ n = 0) : Calls Tryd.prog 23 #[.agg #[.int .i64 2, .string t, .int .i64 n, .string m, kv]] w (SingleEnd w.heap.size (simple (.mk 2 t n m l)) w) := by
  have hkq := h.pat.pq.list
  obtain ⟨a, c, rfl, hlm⟩ := hkq.len
  have hlm : l.length ≤ maxLen := hlm
  have hkq : ListIn w (fun b => b < w.heap.size) (.slice a l.length c) l := hkq
  show Calls _ _ #[.agg #[_, _, _, _, .slice a l.length c]] _ _
  unfold maxLen at hlm
  have HNo := hidd ((errW_iff _).1 h.right).1
  have HT := hidd h.tab
  have HPn := hidd (And.intro h.pat.hn (And.intro h.pat.ht h.pat.hm))
  have HRt := hidd (And.intro h.right h.nodes)
  have HK := hidd (fun i (hi : i < l.length) w' (g : Grew w w') kv' (hv : PatV w' kv' (l.getD i Pat.zero)) => kid_end (h.kids (l.getD i Pat.zero) (by rw [List.getD_eq_getElem?_getD, List.getElem?_eq_getElem hi]; exact List.getElem_mem hi) kv' w' g hv))
  have HLq := hidd hkq
  have HW0 : Hid (Grew w ((w.alloc (.cells #[.int .i64 2, .string t, .int .i64 n, .string m, .slice a l.length c] 24)).alloc (.cells #[.int .i64 0, .string ⟨#[]⟩, .int .i64 0, .string ⟨#[]⟩, .slice none 0 0] 24)) ∧ ((w.alloc (.cells #[.int .i64 2, .string t, .int .i64 n, .string m, .slice a l.length c] 24)).alloc (.cells #[.int .i64 0, .string ⟨#[]⟩, .int .i64 0, .string ⟨#[]⟩, .slice none 0 0] 24)).heap[w.heap.size]? = some (.cells #[.int .i64 2, .string t, .int .i64 n, .string m, .slice a l.length c] 24 (0, 0)) ∧ ((w.alloc (.cells #[.int .i64 2, .string t, .int .i64 n, .string m, .slice a l.length c] 24)).alloc (.cells #[.int .i64 0, .string ⟨#[]⟩, .int .i64 0, .string ⟨#[]⟩, .slice none 0 0] 24)).heap[w.heap.size + 1]? = some (.cells #[.int .i64 0, .string ⟨#[]⟩, .int .i64 0, .string ⟨#[]⟩, .slice none 0 0] 24 (0, 0))) :=
    ⟨((Grew.refl w).alloc _).alloc _, heap_more (heap_alloc_new w _), heap_second w _ _⟩
  have hnl : l.length ≤ 4095 := by
    have h1 := h.nodes
    rw [nodesP] at h1
    have := length_le_nodes l
    omega
  have HX : Hid (simple (.mk 2 t n m l) = numP 2 n) := by
    show makeP _ _ _ _ _ = _
    unfold makeP
    simp [h1]
  rw [HX.out]
  have kz : (n == 0) = false := by rw [beq_eq_false_iff_ne]; exact h1
  clear h1
  clear h hkq
  go_enter Tryd.func23, Tryd.ntmps23
  go_wp2_with fail
  go_loopw [3, 11] (fun s3 s11 wr => ∃ i : Nat, s11 = .int .i64 i ∧ i ≤ l.length ∧ Hid (PatsOwn wr (w.heap.size + 2) (w.heap.size + 2) s3 ((l.map simple).take i) ∧ Grew ((w.alloc (.cells #[.int .i64 2, .string t, .int .i64 n, .string m, .slice a l.length c] 24)).alloc (.cells #[.int .i64 0, .string ⟨#[]⟩, .int .i64 0, .string ⟨#[]⟩, .slice none 0 0] 24)) wr)) (fun _ s11 _ => l.length - (intOf s11).toNat)
  case atStart => exact ⟨0, rfl, by omega, PatsOwn.nil _ _ _, Grew.refl _⟩
  case round =>
    obtain ⟨i, rfl, hi, HD⟩ := hrel
    by_cases hlt : i < l.length
    · have HGw := hidd (HW0.out.1.trans HD.out.2)
      obtain ⟨b, o, kk, rfl, hnd, hq⟩ := (HLq.out.kept HGw.out).at hlt
      obtain ⟨ka, kn, kc, rfl⟩ := hq.form
      have HS := hidd (simple_take hlt)
      have HC := hidd (HK.out i hlt (wr.alloc (.cells #[.int .i64 (l.getD i Pat.zero).kind, .string (l.getD i Pat.zero).text, .int .i64 (l.getD i Pat.zero).n, .string (l.getD i Pat.zero).name, .slice ka kn kc] 24)) (HGw.out.alloc _) (.slice ka kn kc) (hq.kept ((Grew.refl wr).alloc _)).patV)
      obtain ⟨r, hr⟩ : ∃ r, l.getD i Pat.zero = r := ⟨_, rfl⟩
      rw [hr] at hnd HS HC
      obtain ⟨q, hqs⟩ : ∃ q, simple r = q := ⟨_, rfl⟩
      rw [hqs] at HS HC
      obtain ⟨c0, c1, c2, c3, c4, _, _, _, _⟩ := hnd
      have kl : decide ((i : Int) < (l.length : Int)) = true := decide_eq_true (by omega)
      have hsz := HGw.out.size
      clear hr hq hqs HK
      go_wp2_with fail
      refine HC.out.mono ?_; rintro e w2 ⟨qa, qn, qc, rfl, hq2, g2⟩
      have HG3 := hidd (((Grew.refl wr).alloc (.cells #[.int .i64 r.kind, .string r.text, .int .i64 r.n, .string r.name, .slice ka kn kc] 24)).trans g2)
      have hs0 : w.heap.size + 2 ≤ wr.heap.size := by have := HD.out.2.size; simpa using this
      have hl2 : ((l.map simple).take i).length = i := by rw [List.length_take, List.length_map]; omega
      obtain ⟨v', w', hap, ho, hbel, hgr⟩ := pats_append_one (HD.out.1.kept HG3.out) (Nat.le_trans hs0 HG3.out.size) hq2 (fun b hb _ => ⟨by rw [World.size_alloc] at hb; omega, fun e => by have := HD.out.1.blocks b e; rw [World.size_alloc] at hb; omega⟩) (by rw [hl2]; omega) 22 24
      have ho2 := ho
      rw [← HS.out] at ho2
      have HE := hidd (And.intro ho2 ((HD.out.2.trans HG3.out).below hbel (by simp)))
      clear ho ho2 hbel hgr g2 hq2
      go_wp2_with (at_builtin; refine wpList_append_eq rfl rfl rfl rfl hap ?_)
      go_roundw
      case rel => exact ⟨i + 1, by go_num, by omega, HE⟩
      case measure => simp [intOf]; omega
    · have hie : i = l.length := by omega
      have kl : decide ((i : Int) < (l.length : Int)) = false := decide_eq_false (by omega)
      have HE := hidd HD.out.1
      rw [show (l.map simple).take i = l.map simple from by rw [hie, show l.length = (l.map simple).length from (List.length_map _).symm, List.take_length]] at HE
      have HGw := hidd (HW0.out.1.trans HD.out.2)
      have HB := hidd (heap_kept HD.out.2 HW0.out.2.1)
      have HZ := hidd (heap_kept HD.out.2 HW0.out.2.2)
      have hsz := HGw.out.size
      clear HD hie HK HW0 HLq
      obtain ⟨⟨b0, b1, b2, b3, b4⟩, bf⟩ := five_cells HB.out
      obtain ⟨⟨f0, f1, f2, f3, f4⟩, ff⟩ := five_cells (heap_more (o := (.cells #[.int .i64 2, .string ⟨#[]⟩, .int .i64 0, .string ⟨#[]⟩, .slice none 0 0] 24)) HB.out)
      obtain ⟨⟨z0, z1, z2, z3, z4⟩, zf⟩ := five_cells (heap_more (o := (.cells #[.int .i64 2, .string ⟨#[]⟩, .int .i64 0, .string ⟨#[]⟩, .slice none 0 0] 24)) HZ.out)
      obtain ⟨⟨o0, o1, o2, o3, o4⟩, of⟩ := five_cells (heap_alloc_new wr (.cells #[.int .i64 2, .string ⟨#[]⟩, .int .i64 0, .string ⟨#[]⟩, .slice none 0 0] 24))
      obtain ⟨⟨f'0, f'1, f'2, f'3, f'4⟩, f'f⟩ := five_cells (heap_more (o := (.cells #[.int .i64 2, .string ⟨#[]⟩, .int .i64 n, .string ⟨#[]⟩, .slice none 0 0] 24)) HB.out)
      obtain ⟨⟨z'0, z'1, z'2, z'3, z'4⟩, z'f⟩ := five_cells (heap_more (o := (.cells #[.int .i64 2, .string ⟨#[]⟩, .int .i64 n, .string ⟨#[]⟩, .slice none 0 0] 24)) HZ.out)
      obtain ⟨⟨o'0, o'1, o'2, o'3, o'4⟩, o'f⟩ := five_cells (heap_alloc_new wr (.cells #[.int .i64 2, .string ⟨#[]⟩, .int .i64 n, .string ⟨#[]⟩, .slice none 0 0] 24))
      go_wp2_with fail
      exact bodyPost_ret (results_pat (rb := w.heap.size + 1) rfl rfl (setPat_heap (heap_kept ((Grew.refl wr).alloc _) HZ.out)) rfl) rfl (leaf_end (numP 2 n) (nums_leaf (by omega) HPn.out.1 none_size none_size) rfl (setPat_grew (HGw.out.trans ((Grew.refl wr).alloc _)) (by omega) _ _ _ _ _))
set_option maxRecDepth 100000 in
set_option maxHeartbeats 1000000 in
theorem simple_k2b (t : ByteArray) (n : Int) (m : ByteArray) (l : List Pat) (kv : Value) (w : World) (h : SimpIn (.mk 2 t n m l) kv w) (h1 : n = 0) : Calls Tryd.prog 23 #[.agg #[.int .i64 2, .string t, .int .i64 n, .string m, kv]] w (SingleEnd w.heap.size (simple (.mk 2 t n m l)) w) := by
  have hkq := h.pat.pq.list
  obtain ⟨a, c, rfl, hlm⟩ := hkq.len
  have hlm : l.length ≤ maxLen := hlm
  have hkq : ListIn w (fun b => b < w.heap.size) (.slice a l.length c) l := hkq
  show Calls _ _ #[.agg #[_, _, _, _, .slice a l.length c]] _ _
  unfold maxLen at hlm
  have HNo := hidd ((errW_iff _).1 h.right).1
  have HT := hidd h.tab
  have HPn := hidd (And.intro h.pat.hn (And.intro h.pat.ht h.pat.hm))
  have HRt := hidd (And.intro h.right h.nodes)
  have HK := hidd (fun i (hi : i < l.length) w' (g : Grew w w') kv' (hv : PatV w' kv' (l.getD i Pat.zero)) => kid_end (h.kids (l.getD i Pat.zero) (by rw [List.getD_eq_getElem?_getD, List.getElem?_eq_getElem hi]; exact List.getElem_mem hi) kv' w' g hv))
  have HLq := hidd hkq
  have HW0 : Hid (Grew w ((w.alloc (.cells #[.int .i64 2, .string t, .int .i64 n, .string m, .slice a l.length c] 24)).alloc (.cells #[.int .i64 0, .string ⟨#[]⟩, .int .i64 0, .string ⟨#[]⟩, .slice none 0 0] 24)) ∧ ((w.alloc (.cells #[.int .i64 2, .string t, .int .i64 n, .string m, .slice a l.length c] 24)).alloc (.cells #[.int .i64 0, .string ⟨#[]⟩, .int .i64 0, .string ⟨#[]⟩, .slice none 0 0] 24)).heap[w.heap.size]? = some (.cells #[.int .i64 2, .string t, .int .i64 n, .string m, .slice a l.length c] 24 (0, 0)) ∧ ((w.alloc (.cells #[.int .i64 2, .string t, .int .i64 n, .string m, .slice a l.length c] 24)).alloc (.cells #[.int .i64 0, .string ⟨#[]⟩, .int .i64 0, .string ⟨#[]⟩, .slice none 0 0] 24)).heap[w.heap.size + 1]? = some (.cells #[.int .i64 0, .string ⟨#[]⟩, .int .i64 0, .string ⟨#[]⟩, .slice none 0 0] 24 (0, 0))) :=
    ⟨((Grew.refl w).alloc _).alloc _, heap_more (heap_alloc_new w _), heap_second w _ _⟩
  have hnl : l.length ≤ 4095 := by
    have h1 := h.nodes
    rw [nodesP] at h1
    have := length_le_nodes l
    omega
  have HX : Hid (simple (.mk 2 t n m l) = litP ByteArray.empty) := by
    show makeP _ _ _ _ _ = _
    unfold makeP
    simp [h1]
  rw [HX.out]
  have kz : (n == 0) = true := by rw [beq_iff_eq]; exact h1
  clear h1
  clear h hkq
  go_enter Tryd.func23, Tryd.ntmps23
  go_wp2_with fail
  go_loopw [3, 11] (fun s3 s11 wr => ∃ i : Nat, s11 = .int .i64 i ∧ i ≤ l.length ∧ Hid (PatsOwn wr (w.heap.size + 2) (w.heap.size + 2) s3 ((l.map simple).take i) ∧ Grew ((w.alloc (.cells #[.int .i64 2, .string t, .int .i64 n, .string m, .slice a l.length c] 24)).alloc (.cells #[.int .i64 0, .string ⟨#[]⟩, .int .i64 0, .string ⟨#[]⟩, .slice none 0 0] 24)) wr)) (fun _ s11 _ => l.length - (intOf s11).toNat)
  case atStart => exact ⟨0, rfl, by omega, PatsOwn.nil _ _ _, Grew.refl _⟩
  case round =>
    obtain ⟨i, rfl, hi, HD⟩ := hrel
    by_cases hlt : i < l.length
    · have HGw := hidd (HW0.out.1.trans HD.out.2)
      obtain ⟨b, o, kk, rfl, hnd, hq⟩ := (HLq.out.kept HGw.out).at hlt
      obtain ⟨ka, kn, kc, rfl⟩ := hq.form
      have HS := hidd (simple_take hlt)
      have HC := hidd (HK.out i hlt (wr.alloc (.cells #[.int .i64 (l.getD i Pat.zero).kind, .string (l.getD i Pat.zero).text, .int .i64 (l.getD i Pat.zero).n, .string (l.getD i Pat.zero).name, .slice ka kn kc] 24)) (HGw.out.alloc _) (.slice ka kn kc) (hq.kept ((Grew.refl wr).alloc _)).patV)
      obtain ⟨r, hr⟩ : ∃ r, l.getD i Pat.zero = r := ⟨_, rfl⟩
      rw [hr] at hnd HS HC
      obtain ⟨q, hqs⟩ : ∃ q, simple r = q := ⟨_, rfl⟩
      rw [hqs] at HS HC
      obtain ⟨c0, c1, c2, c3, c4, _, _, _, _⟩ := hnd
      have kl : decide ((i : Int) < (l.length : Int)) = true := decide_eq_true (by omega)
      have hsz := HGw.out.size
      clear hr hq hqs HK
      go_wp2_with fail
      refine HC.out.mono ?_; rintro e w2 ⟨qa, qn, qc, rfl, hq2, g2⟩
      have HG3 := hidd (((Grew.refl wr).alloc (.cells #[.int .i64 r.kind, .string r.text, .int .i64 r.n, .string r.name, .slice ka kn kc] 24)).trans g2)
      have hs0 : w.heap.size + 2 ≤ wr.heap.size := by have := HD.out.2.size; simpa using this
      have hl2 : ((l.map simple).take i).length = i := by rw [List.length_take, List.length_map]; omega
      obtain ⟨v', w', hap, ho, hbel, hgr⟩ := pats_append_one (HD.out.1.kept HG3.out) (Nat.le_trans hs0 HG3.out.size) hq2 (fun b hb _ => ⟨by rw [World.size_alloc] at hb; omega, fun e => by have := HD.out.1.blocks b e; rw [World.size_alloc] at hb; omega⟩) (by rw [hl2]; omega) 22 24
      have ho2 := ho
      rw [← HS.out] at ho2
      have HE := hidd (And.intro ho2 ((HD.out.2.trans HG3.out).below hbel (by simp)))
      clear ho ho2 hbel hgr g2 hq2
      go_wp2_with (at_builtin; refine wpList_append_eq rfl rfl rfl rfl hap ?_)
      go_roundw
      case rel => exact ⟨i + 1, by go_num, by omega, HE⟩
      case measure => simp [intOf]; omega
    · have hie : i = l.length := by omega
      have kl : decide ((i : Int) < (l.length : Int)) = false := decide_eq_false (by omega)
      have HE := hidd HD.out.1
      rw [show (l.map simple).take i = l.map simple from by rw [hie, show l.length = (l.map simple).length from (List.length_map _).symm, List.take_length]] at HE
      have HGw := hidd (HW0.out.1.trans HD.out.2)
      have HB := hidd (heap_kept HD.out.2 HW0.out.2.1)
      have HZ := hidd (heap_kept HD.out.2 HW0.out.2.2)
      have hsz := HGw.out.size
      clear HD hie HK HW0 HLq
      obtain ⟨⟨b0, b1, b2, b3, b4⟩, bf⟩ := five_cells HB.out
      obtain ⟨⟨f0, f1, f2, f3, f4⟩, ff⟩ := five_cells (heap_more (o := (.cells #[.int .i64 2, .string ⟨#[]⟩, .int .i64 0, .string ⟨#[]⟩, .slice none 0 0] 24)) HB.out)
      obtain ⟨⟨z0, z1, z2, z3, z4⟩, zf⟩ := five_cells (heap_more (o := (.cells #[.int .i64 2, .string ⟨#[]⟩, .int .i64 0, .string ⟨#[]⟩, .slice none 0 0] 24)) HZ.out)
      obtain ⟨⟨o0, o1, o2, o3, o4⟩, of⟩ := five_cells (heap_alloc_new wr (.cells #[.int .i64 2, .string ⟨#[]⟩, .int .i64 0, .string ⟨#[]⟩, .slice none 0 0] 24))
      obtain ⟨⟨f'0, f'1, f'2, f'3, f'4⟩, f'f⟩ := five_cells (heap_more (o := (.cells #[.int .i64 2, .string ⟨#[]⟩, .int .i64 n, .string ⟨#[]⟩, .slice none 0 0] 24)) HB.out)
      obtain ⟨⟨z'0, z'1, z'2, z'3, z'4⟩, z'f⟩ := five_cells (heap_more (o := (.cells #[.int .i64 2, .string ⟨#[]⟩, .int .i64 n, .string ⟨#[]⟩, .slice none 0 0] 24)) HZ.out)
      obtain ⟨⟨o'0, o'1, o'2, o'3, o'4⟩, o'f⟩ := five_cells (heap_alloc_new wr (.cells #[.int .i64 2, .string ⟨#[]⟩, .int .i64 n, .string ⟨#[]⟩, .slice none 0 0] 24))
      go_wp2_with fail
      refine (lit_exact _ _).mono ?_; rintro e w9 ⟨rfl, hw9⟩
      have HG9 : Hid (Grew wr w9) := hidd (by rw [hw9]; exact ((Grew.refl wr).alloc _).alloc _)
      obtain ⟨⟨q0, q1, q2, q3, q4⟩, qf⟩ := five_cells (heap_kept HG9.out HZ.out)
      clear hw9
      go_wp2_with fail
      exact bodyPost_ret (results_pat (rb := w.heap.size + 1) rfl rfl (setPat_heap (heap_kept HG9.out HZ.out)) rfl) rfl (leaf_end (litP ByteArray.empty) (nums_leaf (by omega) zero_in none_size none_size) rfl (setPat_grew (HGw.out.trans HG9.out) (by omega) _ _ _ _ _))
set_option maxRecDepth 100000 in
set_option maxHeartbeats 1000000 in
theorem simple_k9a (t : ByteArray) (n : Int) (m : ByteArray) (l : List Pat) (kv : Value) (w : World) (h : SimpIn (.mk 9 t n m l) kv w) (h1 : ¬ n = 0) : Calls Tryd.prog 23 #[.agg #[.int .i64 9, .string t, .int .i64 n, .string m, kv]] w (SingleEnd w.heap.size (simple (.mk 9 t n m l)) w) := by
  have hkq := h.pat.pq.list
  obtain ⟨a, c, rfl, hlm⟩ := hkq.len
  have hlm : l.length ≤ maxLen := hlm
  have hkq : ListIn w (fun b => b < w.heap.size) (.slice a l.length c) l := hkq
  show Calls _ _ #[.agg #[_, _, _, _, .slice a l.length c]] _ _
  unfold maxLen at hlm
  have HNo := hidd ((errW_iff _).1 h.right).1
  have HT := hidd h.tab
  have HPn := hidd (And.intro h.pat.hn (And.intro h.pat.ht h.pat.hm))
  have HRt := hidd (And.intro h.right h.nodes)
  have HK := hidd (fun i (hi : i < l.length) w' (g : Grew w w') kv' (hv : PatV w' kv' (l.getD i Pat.zero)) => kid_end (h.kids (l.getD i Pat.zero) (by rw [List.getD_eq_getElem?_getD, List.getElem?_eq_getElem hi]; exact List.getElem_mem hi) kv' w' g hv))
  have HLq := hidd hkq
  have HW0 : Hid (Grew w ((w.alloc (.cells #[.int .i64 9, .string t, .int .i64 n, .string m, .slice a l.length c] 24)).alloc (.cells #[.int .i64 0, .string ⟨#[]⟩, .int .i64 0, .string ⟨#[]⟩, .slice none 0 0] 24)) ∧ ((w.alloc (.cells #[.int .i64 9, .string t, .int .i64 n, .string m, .slice a l.length c] 24)).alloc (.cells #[.int .i64 0, .string ⟨#[]⟩, .int .i64 0, .string ⟨#[]⟩, .slice none 0 0] 24)).heap[w.heap.size]? = some (.cells #[.int .i64 9, .string t, .int .i64 n, .string m, .slice a l.length c] 24 (0, 0)) ∧ ((w.alloc (.cells #[.int .i64 9, .string t, .int .i64 n, .string m, .slice a l.length c] 24)).alloc (.cells #[.int .i64 0, .string ⟨#[]⟩, .int .i64 0, .string ⟨#[]⟩, .slice none 0 0] 24)).heap[w.heap.size + 1]? = some (.cells #[.int .i64 0, .string ⟨#[]⟩, .int .i64 0, .string ⟨#[]⟩, .slice none 0 0] 24 (0, 0))) :=
    ⟨((Grew.refl w).alloc _).alloc _, heap_more (heap_alloc_new w _), heap_second w _ _⟩
  have hnl : l.length ≤ 4095 := by
    have h1 := h.nodes
    rw [nodesP] at h1
    have := length_le_nodes l
    omega
  have HX : Hid (simple (.mk 9 t n m l) = numP 9 n) := by
    show makeP _ _ _ _ _ = _
    unfold makeP
    simp [h1]
  rw [HX.out]
  have kz : (n == 0) = false := by rw [beq_eq_false_iff_ne]; exact h1
  clear h1
  clear h hkq
  go_enter Tryd.func23, Tryd.ntmps23
  go_wp2_with fail
  go_loopw [3, 11] (fun s3 s11 wr => ∃ i : Nat, s11 = .int .i64 i ∧ i ≤ l.length ∧ Hid (PatsOwn wr (w.heap.size + 2) (w.heap.size + 2) s3 ((l.map simple).take i) ∧ Grew ((w.alloc (.cells #[.int .i64 9, .string t, .int .i64 n, .string m, .slice a l.length c] 24)).alloc (.cells #[.int .i64 0, .string ⟨#[]⟩, .int .i64 0, .string ⟨#[]⟩, .slice none 0 0] 24)) wr)) (fun _ s11 _ => l.length - (intOf s11).toNat)
  case atStart => exact ⟨0, rfl, by omega, PatsOwn.nil _ _ _, Grew.refl _⟩
  case round =>
    obtain ⟨i, rfl, hi, HD⟩ := hrel
    by_cases hlt : i < l.length
    · have HGw := hidd (HW0.out.1.trans HD.out.2)
      obtain ⟨b, o, kk, rfl, hnd, hq⟩ := (HLq.out.kept HGw.out).at hlt
      obtain ⟨ka, kn, kc, rfl⟩ := hq.form
      have HS := hidd (simple_take hlt)
      have HC := hidd (HK.out i hlt (wr.alloc (.cells #[.int .i64 (l.getD i Pat.zero).kind, .string (l.getD i Pat.zero).text, .int .i64 (l.getD i Pat.zero).n, .string (l.getD i Pat.zero).name, .slice ka kn kc] 24)) (HGw.out.alloc _) (.slice ka kn kc) (hq.kept ((Grew.refl wr).alloc _)).patV)
      obtain ⟨r, hr⟩ : ∃ r, l.getD i Pat.zero = r := ⟨_, rfl⟩
      rw [hr] at hnd HS HC
      obtain ⟨q, hqs⟩ : ∃ q, simple r = q := ⟨_, rfl⟩
      rw [hqs] at HS HC
      obtain ⟨c0, c1, c2, c3, c4, _, _, _, _⟩ := hnd
      have kl : decide ((i : Int) < (l.length : Int)) = true := decide_eq_true (by omega)
      have hsz := HGw.out.size
      clear hr hq hqs HK
      go_wp2_with fail
      refine HC.out.mono ?_; rintro e w2 ⟨qa, qn, qc, rfl, hq2, g2⟩
      have HG3 := hidd (((Grew.refl wr).alloc (.cells #[.int .i64 r.kind, .string r.text, .int .i64 r.n, .string r.name, .slice ka kn kc] 24)).trans g2)
      have hs0 : w.heap.size + 2 ≤ wr.heap.size := by have := HD.out.2.size; simpa using this
      have hl2 : ((l.map simple).take i).length = i := by rw [List.length_take, List.length_map]; omega
      obtain ⟨v', w', hap, ho, hbel, hgr⟩ := pats_append_one (HD.out.1.kept HG3.out) (Nat.le_trans hs0 HG3.out.size) hq2 (fun b hb _ => ⟨by rw [World.size_alloc] at hb; omega, fun e => by have := HD.out.1.blocks b e; rw [World.size_alloc] at hb; omega⟩) (by rw [hl2]; omega) 22 24
      have ho2 := ho
      rw [← HS.out] at ho2
      have HE := hidd (And.intro ho2 ((HD.out.2.trans HG3.out).below hbel (by simp)))
      clear ho ho2 hbel hgr g2 hq2
      go_wp2_with (at_builtin; refine wpList_append_eq rfl rfl rfl rfl hap ?_)
      go_roundw
      case rel => exact ⟨i + 1, by go_num, by omega, HE⟩
      case measure => simp [intOf]; omega
    · have hie : i = l.length := by omega
      have kl : decide ((i : Int) < (l.length : Int)) = false := decide_eq_false (by omega)
      have HE := hidd HD.out.1
      rw [show (l.map simple).take i = l.map simple from by rw [hie, show l.length = (l.map simple).length from (List.length_map _).symm, List.take_length]] at HE
      have HGw := hidd (HW0.out.1.trans HD.out.2)
      have HB := hidd (heap_kept HD.out.2 HW0.out.2.1)
      have HZ := hidd (heap_kept HD.out.2 HW0.out.2.2)
      have hsz := HGw.out.size
      clear HD hie HK HW0 HLq
      obtain ⟨⟨b0, b1, b2, b3, b4⟩, bf⟩ := five_cells HB.out
      obtain ⟨⟨f0, f1, f2, f3, f4⟩, ff⟩ := five_cells (heap_more (o := (.cells #[.int .i64 9, .string ⟨#[]⟩, .int .i64 0, .string ⟨#[]⟩, .slice none 0 0] 24)) HB.out)
      obtain ⟨⟨z0, z1, z2, z3, z4⟩, zf⟩ := five_cells (heap_more (o := (.cells #[.int .i64 9, .string ⟨#[]⟩, .int .i64 0, .string ⟨#[]⟩, .slice none 0 0] 24)) HZ.out)
      obtain ⟨⟨o0, o1, o2, o3, o4⟩, of⟩ := five_cells (heap_alloc_new wr (.cells #[.int .i64 9, .string ⟨#[]⟩, .int .i64 0, .string ⟨#[]⟩, .slice none 0 0] 24))
      obtain ⟨⟨f'0, f'1, f'2, f'3, f'4⟩, f'f⟩ := five_cells (heap_more (o := (.cells #[.int .i64 9, .string ⟨#[]⟩, .int .i64 n, .string ⟨#[]⟩, .slice none 0 0] 24)) HB.out)
      obtain ⟨⟨z'0, z'1, z'2, z'3, z'4⟩, z'f⟩ := five_cells (heap_more (o := (.cells #[.int .i64 9, .string ⟨#[]⟩, .int .i64 n, .string ⟨#[]⟩, .slice none 0 0] 24)) HZ.out)
      obtain ⟨⟨o'0, o'1, o'2, o'3, o'4⟩, o'f⟩ := five_cells (heap_alloc_new wr (.cells #[.int .i64 9, .string ⟨#[]⟩, .int .i64 n, .string ⟨#[]⟩, .slice none 0 0] 24))
      go_wp2_with fail
      exact bodyPost_ret (results_pat (rb := w.heap.size + 1) rfl rfl (setPat_heap (heap_kept ((Grew.refl wr).alloc _) HZ.out)) rfl) rfl (leaf_end (numP 9 n) (nums_leaf (by omega) HPn.out.1 none_size none_size) rfl (setPat_grew (HGw.out.trans ((Grew.refl wr).alloc _)) (by omega) _ _ _ _ _))
set_option maxRecDepth 100000 in
set_option maxHeartbeats 1000000 in
theorem simple_k9b (t : ByteArray) (n : Int) (m : ByteArray) (l : List Pat) (kv : Value) (w : World) (h : SimpIn (.mk 9 t n m l) kv w) (h1 : n = 0) : Calls Tryd.prog 23 #[.agg #[.int .i64 9, .string t, .int .i64 n, .string m, kv]] w (SingleEnd w.heap.size (simple (.mk 9 t n m l)) w) := by
  have hkq := h.pat.pq.list
  obtain ⟨a, c, rfl, hlm⟩ := hkq.len
  have hlm : l.length ≤ maxLen := hlm
  have hkq : ListIn w (fun b => b < w.heap.size) (.slice a l.length c) l := hkq
  show Calls _ _ #[.agg #[_, _, _, _, .slice a l.length c]] _ _
  unfold maxLen at hlm
  have HNo := hidd ((errW_iff _).1 h.right).1
  have HT := hidd h.tab
  have HPn := hidd (And.intro h.pat.hn (And.intro h.pat.ht h.pat.hm))
  have HRt := hidd (And.intro h.right h.nodes)
  have HK := hidd (fun i (hi : i < l.length) w' (g : Grew w w') kv' (hv : PatV w' kv' (l.getD i Pat.zero)) => kid_end (h.kids (l.getD i Pat.zero) (by rw [List.getD_eq_getElem?_getD, List.getElem?_eq_getElem hi]; exact List.getElem_mem hi) kv' w' g hv))
  have HLq := hidd hkq
  have HW0 : Hid (Grew w ((w.alloc (.cells #[.int .i64 9, .string t, .int .i64 n, .string m, .slice a l.length c] 24)).alloc (.cells #[.int .i64 0, .string ⟨#[]⟩, .int .i64 0, .string ⟨#[]⟩, .slice none 0 0] 24)) ∧ ((w.alloc (.cells #[.int .i64 9, .string t, .int .i64 n, .string m, .slice a l.length c] 24)).alloc (.cells #[.int .i64 0, .string ⟨#[]⟩, .int .i64 0, .string ⟨#[]⟩, .slice none 0 0] 24)).heap[w.heap.size]? = some (.cells #[.int .i64 9, .string t, .int .i64 n, .string m, .slice a l.length c] 24 (0, 0)) ∧ ((w.alloc (.cells #[.int .i64 9, .string t, .int .i64 n, .string m, .slice a l.length c] 24)).alloc (.cells #[.int .i64 0, .string ⟨#[]⟩, .int .i64 0, .string ⟨#[]⟩, .slice none 0 0] 24)).heap[w.heap.size + 1]? = some (.cells #[.int .i64 0, .string ⟨#[]⟩, .int .i64 0, .string ⟨#[]⟩, .slice none 0 0] 24 (0, 0))) :=
    ⟨((Grew.refl w).alloc _).alloc _, heap_more (heap_alloc_new w _), heap_second w _ _⟩
  have hnl : l.length ≤ 4095 := by
    have h1 := h.nodes
    rw [nodesP] at h1
    have := length_le_nodes l
    omega
  have HX : Hid (simple (.mk 9 t n m l) = bareP 12) := by
    show makeP _ _ _ _ _ = _
    unfold makeP
    simp [h1]
  rw [HX.out]
  have kz : (n == 0) = true := by rw [beq_iff_eq]; exact h1
  clear h1
  clear h hkq
  go_enter Tryd.func23, Tryd.ntmps23
  go_wp2_with fail
  go_loopw [3, 11] (fun s3 s11 wr => ∃ i : Nat, s11 = .int .i64 i ∧ i ≤ l.length ∧ Hid (PatsOwn wr (w.heap.size + 2) (w.heap.size + 2) s3 ((l.map simple).take i) ∧ Grew ((w.alloc (.cells #[.int .i64 9, .string t, .int .i64 n, .string m, .slice a l.length c] 24)).alloc (.cells #[.int .i64 0, .string ⟨#[]⟩, .int .i64 0, .string ⟨#[]⟩, .slice none 0 0] 24)) wr)) (fun _ s11 _ => l.length - (intOf s11).toNat)
  case atStart => exact ⟨0, rfl, by omega, PatsOwn.nil _ _ _, Grew.refl _⟩
  case round =>
    obtain ⟨i, rfl, hi, HD⟩ := hrel
    by_cases hlt : i < l.length
    · have HGw := hidd (HW0.out.1.trans HD.out.2)
      obtain ⟨b, o, kk, rfl, hnd, hq⟩ := (HLq.out.kept HGw.out).at hlt
      obtain ⟨ka, kn, kc, rfl⟩ := hq.form
      have HS := hidd (simple_take hlt)
      have HC := hidd (HK.out i hlt (wr.alloc (.cells #[.int .i64 (l.getD i Pat.zero).kind, .string (l.getD i Pat.zero).text, .int .i64 (l.getD i Pat.zero).n, .string (l.getD i Pat.zero).name, .slice ka kn kc] 24)) (HGw.out.alloc _) (.slice ka kn kc) (hq.kept ((Grew.refl wr).alloc _)).patV)
      obtain ⟨r, hr⟩ : ∃ r, l.getD i Pat.zero = r := ⟨_, rfl⟩
      rw [hr] at hnd HS HC
      obtain ⟨q, hqs⟩ : ∃ q, simple r = q := ⟨_, rfl⟩
      rw [hqs] at HS HC
      obtain ⟨c0, c1, c2, c3, c4, _, _, _, _⟩ := hnd
      have kl : decide ((i : Int) < (l.length : Int)) = true := decide_eq_true (by omega)
      have hsz := HGw.out.size
      clear hr hq hqs HK
      go_wp2_with fail
      refine HC.out.mono ?_; rintro e w2 ⟨qa, qn, qc, rfl, hq2, g2⟩
      have HG3 := hidd (((Grew.refl wr).alloc (.cells #[.int .i64 r.kind, .string r.text, .int .i64 r.n, .string r.name, .slice ka kn kc] 24)).trans g2)
      have hs0 : w.heap.size + 2 ≤ wr.heap.size := by have := HD.out.2.size; simpa using this
      have hl2 : ((l.map simple).take i).length = i := by rw [List.length_take, List.length_map]; omega
      obtain ⟨v', w', hap, ho, hbel, hgr⟩ := pats_append_one (HD.out.1.kept HG3.out) (Nat.le_trans hs0 HG3.out.size) hq2 (fun b hb _ => ⟨by rw [World.size_alloc] at hb; omega, fun e => by have := HD.out.1.blocks b e; rw [World.size_alloc] at hb; omega⟩) (by rw [hl2]; omega) 22 24
      have ho2 := ho
      rw [← HS.out] at ho2
      have HE := hidd (And.intro ho2 ((HD.out.2.trans HG3.out).below hbel (by simp)))
      clear ho ho2 hbel hgr g2 hq2
      go_wp2_with (at_builtin; refine wpList_append_eq rfl rfl rfl rfl hap ?_)
      go_roundw
      case rel => exact ⟨i + 1, by go_num, by omega, HE⟩
      case measure => simp [intOf]; omega
    · have hie : i = l.length := by omega
      have kl : decide ((i : Int) < (l.length : Int)) = false := decide_eq_false (by omega)
      have HE := hidd HD.out.1
      rw [show (l.map simple).take i = l.map simple from by rw [hie, show l.length = (l.map simple).length from (List.length_map _).symm, List.take_length]] at HE
      have HGw := hidd (HW0.out.1.trans HD.out.2)
      have HB := hidd (heap_kept HD.out.2 HW0.out.2.1)
      have HZ := hidd (heap_kept HD.out.2 HW0.out.2.2)
      have hsz := HGw.out.size
      clear HD hie HK HW0 HLq
      obtain ⟨⟨b0, b1, b2, b3, b4⟩, bf⟩ := five_cells HB.out
      obtain ⟨⟨f0, f1, f2, f3, f4⟩, ff⟩ := five_cells (heap_more (o := (.cells #[.int .i64 9, .string ⟨#[]⟩, .int .i64 0, .string ⟨#[]⟩, .slice none 0 0] 24)) HB.out)
      obtain ⟨⟨z0, z1, z2, z3, z4⟩, zf⟩ := five_cells (heap_more (o := (.cells #[.int .i64 9, .string ⟨#[]⟩, .int .i64 0, .string ⟨#[]⟩, .slice none 0 0] 24)) HZ.out)
      obtain ⟨⟨o0, o1, o2, o3, o4⟩, of⟩ := five_cells (heap_alloc_new wr (.cells #[.int .i64 9, .string ⟨#[]⟩, .int .i64 0, .string ⟨#[]⟩, .slice none 0 0] 24))
      obtain ⟨⟨f'0, f'1, f'2, f'3, f'4⟩, f'f⟩ := five_cells (heap_more (o := (.cells #[.int .i64 9, .string ⟨#[]⟩, .int .i64 n, .string ⟨#[]⟩, .slice none 0 0] 24)) HB.out)
      obtain ⟨⟨z'0, z'1, z'2, z'3, z'4⟩, z'f⟩ := five_cells (heap_more (o := (.cells #[.int .i64 9, .string ⟨#[]⟩, .int .i64 n, .string ⟨#[]⟩, .slice none 0 0] 24)) HZ.out)
      obtain ⟨⟨o'0, o'1, o'2, o'3, o'4⟩, o'f⟩ := five_cells (heap_alloc_new wr (.cells #[.int .i64 9, .string ⟨#[]⟩, .int .i64 n, .string ⟨#[]⟩, .slice none 0 0] 24))
      go_wp2_with fail
      exact bodyPost_ret (results_pat (rb := w.heap.size + 1) rfl rfl (setPat_heap (heap_kept ((Grew.refl wr).alloc _) HZ.out)) rfl) rfl (leaf_end (bareP 12) (nums_leaf (by omega) zero_in none_size none_size) rfl (setPat_grew (HGw.out.trans ((Grew.refl wr).alloc _)) (by omega) _ _ _ _ _))
end Go.Proofs.YtmcfoefhenmjeaaDoor
