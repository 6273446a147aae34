/- tune: simple, some kinds. Printed. -/
import Derived.Test.YtmcfoefhenmjeaaDoorTnMerge
/-! tune: simple, some kinds. Printed. -/
namespace Go.Proofs.YtmcfoefhenmjeaaDoor
open Go.RowKit
set_option linter.unusedVariables false
theorem make20 (t : ByteArray) (n : Int) (m : ByteArray) (l : List Pat) : makeP 20 t n m l = (if emptyP (l.getD 0 Pat.zero) = true ∨ failB (l.getD 0 Pat.zero) = true then litP ByteArray.empty else if (l.getD 0 Pat.zero).kind = 2 ∧ (l.getD 0 Pat.zero).n = 1 then bareP 13 else kidsP 20 l) := rfl
theorem make21 (t : ByteArray) (n : Int) (m : ByteArray) (l : List Pat) : makeP 21 t n m l = (if endsB (l.getD 0 Pat.zero) = true then l.getD 0 Pat.zero else .mk 21 ByteArray.empty 0 m l) := rfl
theorem make22 (t : ByteArray) (n : Int) (m : ByteArray) (l : List Pat) : makeP 22 t n m l = (if endsB (l.getD 0 Pat.zero) = true then l.getD 0 Pat.zero else .mk 22 ByteArray.empty 0 m l) := rfl
set_option maxRecDepth 100000 in
set_option maxHeartbeats 2000000 in
theorem simple_k20a (t : ByteArray) (n : Int) (m : ByteArray) (l : List Pat) (kv : Value) (w : World) (h : SimpIn (.mk 20 t n m l) kv w) (e1 : emptyP ((l.map simple).getD 0 Pat.zero) = true) : Calls Tryd.prog 23 #[.agg #[.int .i64 20, .string t, .int .i64 n, .string m, kv]] w (SingleEnd w.heap.size (simple (.mk 20 t n m l)) w) := by
  have hkq := h.pat.pq.list
  obtain ⟨a, c, rfl, hlm⟩ := hkq.len
  have hlm : l.length ≤ maxLen := hlm
  have hkq : ListIn w (fun b => b < w.heap.size) (.slice a l.length c) l := hkq
  show Calls _ _ #[.agg #[_, _, _, _, .slice a l.length c]] _ _
  unfold maxLen at hlm
  have HNo := hidd ((errW_iff _).1 h.right).1
  have HT := hidd h.tab
  have HPn := hidd (And.intro h.pat.hn (And.intro h.pat.ht h.pat.hm))
  have HRt := hidd (And.intro h.right h.nodes)
  have HK := hidd (fun i (hi : i < l.length) w' (g : Grew w w') kv' (hv : PatV w' kv' (l.getD i Pat.zero)) => kid_end (h.kids (l.getD i Pat.zero) (by rw [List.getD_eq_getElem?_getD, List.getElem?_eq_getElem hi]; exact List.getElem_mem hi) kv' w' g hv))
  have HLq := hidd hkq
  have HW0 : Hid (Grew w ((w.alloc (.cells #[.int .i64 20, .string t, .int .i64 n, .string m, .slice a l.length c] 24)).alloc (.cells #[.int .i64 0, .string ⟨#[]⟩, .int .i64 0, .string ⟨#[]⟩, .slice none 0 0] 24)) ∧ ((w.alloc (.cells #[.int .i64 20, .string t, .int .i64 n, .string m, .slice a l.length c] 24)).alloc (.cells #[.int .i64 0, .string ⟨#[]⟩, .int .i64 0, .string ⟨#[]⟩, .slice none 0 0] 24)).heap[w.heap.size]? = some (.cells #[.int .i64 20, .string t, .int .i64 n, .string m, .slice a l.length c] 24 (0, 0)) ∧ ((w.alloc (.cells #[.int .i64 20, .string t, .int .i64 n, .string m, .slice a l.length c] 24)).alloc (.cells #[.int .i64 0, .string ⟨#[]⟩, .int .i64 0, .string ⟨#[]⟩, .slice none 0 0] 24)).heap[w.heap.size + 1]? = some (.cells #[.int .i64 0, .string ⟨#[]⟩, .int .i64 0, .string ⟨#[]⟩, .slice none 0 0] 24 (0, 0))) :=
    ⟨((Grew.refl w).alloc _).alloc _, heap_more (heap_alloc_new w _), heap_second w _ _⟩
  have hnl : l.length ≤ 4095 := by
    have h1 := h.nodes
    rw [nodesP] at h1
    have := length_le_nodes l
    omega
  have HX : Hid (simple (.mk 20 t n m l) = litP ByteArray.empty) := by
    refine hidd ?_
    rw [simple, simpleL_map, make20]
    simp only [e1, true_or, if_true]
  rw [HX.out]
  have HL1 : Hid (l.length = 1) := HNo.out.only (Or.inl rfl)
  have E1 := hidd e1
  clear e1
  clear h hkq
  go_enter Tryd.func23, Tryd.ntmps23
  go_wp2_with fail
  go_loopw [3, 11] (fun s3 s11 wr => ∃ i : Nat, s11 = .int .i64 i ∧ i ≤ l.length ∧ Hid (PatsOwn wr (w.heap.size + 2) (w.heap.size + 2) s3 ((l.map simple).take i) ∧ Grew ((w.alloc (.cells #[.int .i64 20, .string t, .int .i64 n, .string m, .slice a l.length c] 24)).alloc (.cells #[.int .i64 0, .string ⟨#[]⟩, .int .i64 0, .string ⟨#[]⟩, .slice none 0 0] 24)) wr)) (fun _ s11 _ => l.length - (intOf s11).toNat)
  case atStart => exact ⟨0, rfl, by omega, PatsOwn.nil _ _ _, Grew.refl _⟩
  case round =>
    obtain ⟨i, rfl, hi, HD⟩ := hrel
    by_cases hlt : i < l.length
    · have HGw := hidd (HW0.out.1.trans HD.out.2)
      obtain ⟨b, o, kk, rfl, hnd, hq⟩ := (HLq.out.kept HGw.out).at hlt
      obtain ⟨ka, kn, kc, rfl⟩ := hq.form
      have HS := hidd (simple_take hlt)
      have HC := hidd (HK.out i hlt (wr.alloc (.cells #[.int .i64 (l.getD i Pat.zero).kind, .string (l.getD i Pat.zero).text, .int .i64 (l.getD i Pat.zero).n, .string (l.getD i Pat.zero).name, .slice ka kn kc] 24)) (HGw.out.alloc _) (.slice ka kn kc) (hq.kept ((Grew.refl wr).alloc _)).patV)
      obtain ⟨r, hr⟩ : ∃ r, l.getD i Pat.zero = r := ⟨_, rfl⟩
      rw [hr] at hnd HS HC
      obtain ⟨q, hqs⟩ : ∃ q, simple r = q := ⟨_, rfl⟩
      rw [hqs] at HS HC
      obtain ⟨c0, c1, c2, c3, c4, _, _, _, _⟩ := hnd
      have kl : decide ((i : Int) < (l.length : Int)) = true := decide_eq_true (by omega)
      have hsz := HGw.out.size
      clear hr hq hqs HK
      go_wp2_with fail
      refine HC.out.mono ?_; rintro e w2 ⟨qa, qn, qc, rfl, hq2, g2⟩
      have HG3 := hidd (((Grew.refl wr).alloc (.cells #[.int .i64 r.kind, .string r.text, .int .i64 r.n, .string r.name, .slice ka kn kc] 24)).trans g2)
      have hs0 : w.heap.size + 2 ≤ wr.heap.size := by have := HD.out.2.size; simpa using this
      have hl2 : ((l.map simple).take i).length = i := by rw [List.length_take, List.length_map]; omega
      obtain ⟨v', w', hap, ho, hbel, hgr⟩ := pats_append_one (HD.out.1.kept HG3.out) (Nat.le_trans hs0 HG3.out.size) hq2 (fun b hb _ => ⟨by rw [World.size_alloc] at hb; omega, fun e => by have := HD.out.1.blocks b e; rw [World.size_alloc] at hb; omega⟩) (by rw [hl2]; omega) 22 24
      have ho2 := ho
      rw [← HS.out] at ho2
      have HE := hidd (And.intro ho2 ((HD.out.2.trans HG3.out).below hbel (by simp)))
      clear ho ho2 hbel hgr g2 hq2
      go_wp2_with (at_builtin; refine wpList_append_eq rfl rfl rfl rfl hap ?_)
      go_roundw
      case rel => exact ⟨i + 1, by go_num, by omega, HE⟩
      case measure => simp [intOf]; omega
    · have hie : i = l.length := by omega
      have kl : decide ((i : Int) < (l.length : Int)) = false := decide_eq_false (by omega)
      have HE := hidd HD.out.1
      rw [show (l.map simple).take i = l.map simple from by rw [hie, show l.length = (l.map simple).length from (List.length_map _).symm, List.take_length]] at HE
      have HGw := hidd (HW0.out.1.trans HD.out.2)
      have HB := hidd (heap_kept HD.out.2 HW0.out.2.1)
      have HZ := hidd (heap_kept HD.out.2 HW0.out.2.2)
      have hsz := HGw.out.size
      clear HD hie HK HW0 HLq
      obtain ⟨⟨b0, b1, b2, b3, b4⟩, bf⟩ := five_cells HB.out
      obtain ⟨⟨f0, f1, f2, f3, f4⟩, ff⟩ := five_cells (heap_more (o := (.cells #[.int .i64 20, .string ⟨#[]⟩, .int .i64 0, .string ⟨#[]⟩, .slice none 0 0] 24)) HB.out)
      obtain ⟨⟨z0, z1, z2, z3, z4⟩, zf⟩ := five_cells (heap_more (o := (.cells #[.int .i64 20, .string ⟨#[]⟩, .int .i64 0, .string ⟨#[]⟩, .slice none 0 0] 24)) HZ.out)
      obtain ⟨⟨o0, o1, o2, o3, o4⟩, of⟩ := five_cells (heap_alloc_new wr (.cells #[.int .i64 20, .string ⟨#[]⟩, .int .i64 0, .string ⟨#[]⟩, .slice none 0 0] 24))
      have hl1 := HL1.out
      obtain ⟨a3, cc, rfl⟩ := HE.out.len
      obtain ⟨b, o, kk, rfl, hnd, hq⟩ := HE.out.list.at (i := 0) (by rw [List.length_map]; omega)
      obtain ⟨qa, qn, qc, rfl⟩ := hq.form
      have hll : (l.map simple).length = 1 := by rw [List.length_map]; exact hl1
      rw [hll]
      obtain ⟨q, hqe⟩ : ∃ q, (l.map simple).getD 0 Pat.zero = q := ⟨_, rfl⟩
      rw [hqe] at hnd hq E1
      have HQ := hidd hq
      have HN := hidd (show NodeAt wr b o q (.slice qa qn qc) from by simpa using hnd)
      clear hq hnd
      obtain ⟨c0, c1, c2, c3, c4, _, _, _, _⟩ := HN.out.kept ((Grew.refl wr).alloc (.cells #[.int .i64 20, .string ⟨#[]⟩, .int .i64 0, .string ⟨#[]⟩, .slice none 0 0] 24))
      have CE : Hid (∀ w, Calls Tryd.prog 48 #[.agg #[.int .i64 q.kind, .string q.text, .int .i64 q.n, .string q.name, .slice qa qn qc]] w fun e w' => e = .returned (.bool true) ∧ Grew w w') := hidd fun w => by
        have := empty_any q (.slice qa qn qc) w; rw [E1.out] at this; exact this
      go_wp2_with fail
      refine (CE.out _).mono ?_; rintro e w1 ⟨rfl, g1⟩
      have HG1 := hidd ((((Grew.refl wr).alloc (.cells #[.int .i64 20, .string ⟨#[]⟩, .int .i64 0, .string ⟨#[]⟩, .slice none 0 0] 24)).alloc (.cells #[.int .i64 q.kind, .string q.text, .int .i64 q.n, .string q.name, .slice qa qn qc] 24)).trans g1)
      have HO1 := hidd (heap_kept g1 (heap_more (heap_alloc_new wr (.cells #[.int .i64 20, .string ⟨#[]⟩, .int .i64 0, .string ⟨#[]⟩, .slice none 0 0] 24))))
      have HK1 := hidd (heap_kept g1 (heap_second wr _ (.cells #[.int .i64 q.kind, .string q.text, .int .i64 q.n, .string q.name, .slice qa qn qc] 24)))
      clear g1
      clear f0 f1 f2 f3 f4 ff z0 z1 z2 z3 z4 zf o0 o1 o2 o3 o4 of
      clear c0 c1 c2 c3 c4
      obtain ⟨⟨f0, f1, f2, f3, f4⟩, ff⟩ := five_cells (heap_kept (HG1.out) HB.out)
      obtain ⟨⟨z0, z1, z2, z3, z4⟩, zf⟩ := five_cells (heap_kept (HG1.out) HZ.out)
      obtain ⟨⟨o0, o1, o2, o3, o4⟩, of⟩ := five_cells (HO1.out)
      obtain ⟨⟨k0, k1, k2, k3, k4⟩, kf⟩ := five_cells (HK1.out)
      go_wp2_with fail
      refine (lit_exact _ _).mono ?_; rintro e w9 ⟨rfl, hw9⟩
      have HG9 : Hid (Grew wr w9) := hidd (by rw [hw9]; exact HG1.out.alloc _)
      obtain ⟨⟨q0, q1, q2, q3, q4⟩, qf⟩ := five_cells (heap_kept HG9.out HZ.out)
      clear hw9
      go_wp2_with fail
      exact bodyPost_ret (results_pat (rb := w.heap.size + 1) rfl rfl (setPat_heap (heap_kept HG9.out HZ.out)) rfl) rfl (leaf_end (litP ByteArray.empty) (nums_leaf (by omega) zero_in none_size none_size) rfl (setPat_grew (HGw.out.trans HG9.out) (by omega) _ _ _ _ _))
set_option maxRecDepth 100000 in
set_option maxHeartbeats 2000000 in
theorem simple_k20b (t : ByteArray) (n : Int) (m : ByteArray) (l : List Pat) (kv : Value) (w : World) (h : SimpIn (.mk 20 t n m l) kv w) (e1 : emptyP ((l.map simple).getD 0 Pat.zero) = false) (e2 : (((l.map simple).getD 0 Pat.zero).kind == 15) = true) : Calls Tryd.prog 23 #[.agg #[.int .i64 20, .string t, .int .i64 n, .string m, kv]] w (SingleEnd w.heap.size (simple (.mk 20 t n m l)) w) := by
  have hkq := h.pat.pq.list
  obtain ⟨a, c, rfl, hlm⟩ := hkq.len
  have hlm : l.length ≤ maxLen := hlm
  have hkq : ListIn w (fun b => b < w.heap.size) (.slice a l.length c) l := hkq
  show Calls _ _ #[.agg #[_, _, _, _, .slice a l.length c]] _ _
  unfold maxLen at hlm
  have HNo := hidd ((errW_iff _).1 h.right).1
  have HT := hidd h.tab
  have HPn := hidd (And.intro h.pat.hn (And.intro h.pat.ht h.pat.hm))
  have HRt := hidd (And.intro h.right h.nodes)
  have HK := hidd (fun i (hi : i < l.length) w' (g : Grew w w') kv' (hv : PatV w' kv' (l.getD i Pat.zero)) => kid_end (h.kids (l.getD i Pat.zero) (by rw [List.getD_eq_getElem?_getD, List.getElem?_eq_getElem hi]; exact List.getElem_mem hi) kv' w' g hv))
  have HLq := hidd hkq
  have HW0 : Hid (Grew w ((w.alloc (.cells #[.int .i64 20, .string t, .int .i64 n, .string m, .slice a l.length c] 24)).alloc (.cells #[.int .i64 0, .string ⟨#[]⟩, .int .i64 0, .string ⟨#[]⟩, .slice none 0 0] 24)) ∧ ((w.alloc (.cells #[.int .i64 20, .string t, .int .i64 n, .string m, .slice a l.length c] 24)).alloc (.cells #[.int .i64 0, .string ⟨#[]⟩, .int .i64 0, .string ⟨#[]⟩, .slice none 0 0] 24)).heap[w.heap.size]? = some (.cells #[.int .i64 20, .string t, .int .i64 n, .string m, .slice a l.length c] 24 (0, 0)) ∧ ((w.alloc (.cells #[.int .i64 20, .string t, .int .i64 n, .string m, .slice a l.length c] 24)).alloc (.cells #[.int .i64 0, .string ⟨#[]⟩, .int .i64 0, .string ⟨#[]⟩, .slice none 0 0] 24)).heap[w.heap.size + 1]? = some (.cells #[.int .i64 0, .string ⟨#[]⟩, .int .i64 0, .string ⟨#[]⟩, .slice none 0 0] 24 (0, 0))) :=
    ⟨((Grew.refl w).alloc _).alloc _, heap_more (heap_alloc_new w _), heap_second w _ _⟩
  have hnl : l.length ≤ 4095 := by
    have h1 := h.nodes
    rw [nodesP] at h1
    have := length_le_nodes l
    omega
  have HX : Hid (simple (.mk 20 t n m l) = litP ByteArray.empty) := by
    refine hidd ?_
    rw [simple, simpleL_map, make20]
    simp only [show failB _ = true from e2, or_true, if_true]
  rw [HX.out]
  have HL1 : Hid (l.length = 1) := HNo.out.only (Or.inl rfl)
  have E1 := hidd e1
  have E2 := hidd e2
  clear e1 e2
  clear h hkq
  go_enter Tryd.func23, Tryd.ntmps23
  go_wp2_with fail
  go_loopw [3, 11] (fun s3 s11 wr => ∃ i : Nat, s11 = .int .i64 i ∧ i ≤ l.length ∧ Hid (PatsOwn wr (w.heap.size + 2) (w.heap.size + 2) s3 ((l.map simple).take i) ∧ Grew ((w.alloc (.cells #[.int .i64 20, .string t, .int .i64 n, .string m, .slice a l.length c] 24)).alloc (.cells #[.int .i64 0, .string ⟨#[]⟩, .int .i64 0, .string ⟨#[]⟩, .slice none 0 0] 24)) wr)) (fun _ s11 _ => l.length - (intOf s11).toNat)
  case atStart => exact ⟨0, rfl, by omega, PatsOwn.nil _ _ _, Grew.refl _⟩
  case round =>
    obtain ⟨i, rfl, hi, HD⟩ := hrel
    by_cases hlt : i < l.length
    · have HGw := hidd (HW0.out.1.trans HD.out.2)
      obtain ⟨b, o, kk, rfl, hnd, hq⟩ := (HLq.out.kept HGw.out).at hlt
      obtain ⟨ka, kn, kc, rfl⟩ := hq.form
      have HS := hidd (simple_take hlt)
      have HC := hidd (HK.out i hlt (wr.alloc (.cells #[.int .i64 (l.getD i Pat.zero).kind, .string (l.getD i Pat.zero).text, .int .i64 (l.getD i Pat.zero).n, .string (l.getD i Pat.zero).name, .slice ka kn kc] 24)) (HGw.out.alloc _) (.slice ka kn kc) (hq.kept ((Grew.refl wr).alloc _)).patV)
      obtain ⟨r, hr⟩ : ∃ r, l.getD i Pat.zero = r := ⟨_, rfl⟩
      rw [hr] at hnd HS HC
      obtain ⟨q, hqs⟩ : ∃ q, simple r = q := ⟨_, rfl⟩
      rw [hqs] at HS HC
      obtain ⟨c0, c1, c2, c3, c4, _, _, _, _⟩ := hnd
      have kl : decide ((i : Int) < (l.length : Int)) = true := decide_eq_true (by omega)
      have hsz := HGw.out.size
      clear hr hq hqs HK
      go_wp2_with fail
      refine HC.out.mono ?_; rintro e w2 ⟨qa, qn, qc, rfl, hq2, g2⟩
      have HG3 := hidd (((Grew.refl wr).alloc (.cells #[.int .i64 r.kind, .string r.text, .int .i64 r.n, .string r.name, .slice ka kn kc] 24)).trans g2)
      have hs0 : w.heap.size + 2 ≤ wr.heap.size := by have := HD.out.2.size; simpa using this
      have hl2 : ((l.map simple).take i).length = i := by rw [List.length_take, List.length_map]; omega
      obtain ⟨v', w', hap, ho, hbel, hgr⟩ := pats_append_one (HD.out.1.kept HG3.out) (Nat.le_trans hs0 HG3.out.size) hq2 (fun b hb _ => ⟨by rw [World.size_alloc] at hb; omega, fun e => by have := HD.out.1.blocks b e; rw [World.size_alloc] at hb; omega⟩) (by rw [hl2]; omega) 22 24
      have ho2 := ho
      rw [← HS.out] at ho2
      have HE := hidd (And.intro ho2 ((HD.out.2.trans HG3.out).below hbel (by simp)))
      clear ho ho2 hbel hgr g2 hq2
      go_wp2_with (at_builtin; refine wpList_append_eq rfl rfl rfl rfl hap ?_)
      go_roundw
      case rel => exact ⟨i + 1, by go_num, by omega, HE⟩
      case measure => simp [intOf]; omega
    · have hie : i = l.length := by omega
      have kl : decide ((i : Int) < (l.length : Int)) = false := decide_eq_false (by omega)
      have HE := hidd HD.out.1
      rw [show (l.map simple).take i = l.map simple from by rw [hie, show l.length = (l.map simple).length from (List.length_map _).symm, List.take_length]] at HE
      have HGw := hidd (HW0.out.1.trans HD.out.2)
      have HB := hidd (heap_kept HD.out.2 HW0.out.2.1)
      have HZ := hidd (heap_kept HD.out.2 HW0.out.2.2)
      have hsz := HGw.out.size
      clear HD hie HK HW0 HLq
      obtain ⟨⟨b0, b1, b2, b3, b4⟩, bf⟩ := five_cells HB.out
      obtain ⟨⟨f0, f1, f2, f3, f4⟩, ff⟩ := five_cells (heap_more (o := (.cells #[.int .i64 20, .string ⟨#[]⟩, .int .i64 0, .string ⟨#[]⟩, .slice none 0 0] 24)) HB.out)
      obtain ⟨⟨z0, z1, z2, z3, z4⟩, zf⟩ := five_cells (heap_more (o := (.cells #[.int .i64 20, .string ⟨#[]⟩, .int .i64 0, .string ⟨#[]⟩, .slice none 0 0] 24)) HZ.out)
      obtain ⟨⟨o0, o1, o2, o3, o4⟩, of⟩ := five_cells (heap_alloc_new wr (.cells #[.int .i64 20, .string ⟨#[]⟩, .int .i64 0, .string ⟨#[]⟩, .slice none 0 0] 24))
      have hl1 := HL1.out
      obtain ⟨a3, cc, rfl⟩ := HE.out.len
      obtain ⟨b, o, kk, rfl, hnd, hq⟩ := HE.out.list.at (i := 0) (by rw [List.length_map]; omega)
      obtain ⟨qa, qn, qc, rfl⟩ := hq.form
      have hll : (l.map simple).length = 1 := by rw [List.length_map]; exact hl1
      rw [hll]
      obtain ⟨q, hqe⟩ : ∃ q, (l.map simple).getD 0 Pat.zero = q := ⟨_, rfl⟩
      rw [hqe] at hnd hq E1 E2
      have HQ := hidd hq
      have HN := hidd (show NodeAt wr b o q (.slice qa qn qc) from by simpa using hnd)
      clear hq hnd
      obtain ⟨c0, c1, c2, c3, c4, _, _, _, _⟩ := HN.out.kept ((Grew.refl wr).alloc (.cells #[.int .i64 20, .string ⟨#[]⟩, .int .i64 0, .string ⟨#[]⟩, .slice none 0 0] 24))
      have CE : Hid (∀ w, Calls Tryd.prog 48 #[.agg #[.int .i64 q.kind, .string q.text, .int .i64 q.n, .string q.name, .slice qa qn qc]] w fun e w' => e = .returned (.bool false) ∧ Grew w w') := hidd fun w => by
        have := empty_any q (.slice qa qn qc) w; rw [E1.out] at this; exact this
      have CF : Hid (∀ w, Calls Tryd.prog 44 #[.agg #[.int .i64 q.kind, .string q.text, .int .i64 q.n, .string q.name, .slice qa qn qc], .int .i64 15] w fun e w' => e = .returned (.bool true) ∧ Grew w w') := hidd fun w => by
        have := is_any q (.slice qa qn qc) 15 w; rw [E2.out] at this; exact this
      go_wp2_with fail
      refine (CE.out _).mono ?_; rintro e w1 ⟨rfl, g1⟩
      have HG1 := hidd ((((Grew.refl wr).alloc (.cells #[.int .i64 20, .string ⟨#[]⟩, .int .i64 0, .string ⟨#[]⟩, .slice none 0 0] 24)).alloc (.cells #[.int .i64 q.kind, .string q.text, .int .i64 q.n, .string q.name, .slice qa qn qc] 24)).trans g1)
      have HO1 := hidd (heap_kept g1 (heap_more (heap_alloc_new wr (.cells #[.int .i64 20, .string ⟨#[]⟩, .int .i64 0, .string ⟨#[]⟩, .slice none 0 0] 24))))
      have HK1 := hidd (heap_kept g1 (heap_second wr _ (.cells #[.int .i64 q.kind, .string q.text, .int .i64 q.n, .string q.name, .slice qa qn qc] 24)))
      clear g1
      clear f0 f1 f2 f3 f4 ff z0 z1 z2 z3 z4 zf o0 o1 o2 o3 o4 of
      clear c0 c1 c2 c3 c4
      obtain ⟨⟨f0, f1, f2, f3, f4⟩, ff⟩ := five_cells (heap_kept (HG1.out) HB.out)
      obtain ⟨⟨z0, z1, z2, z3, z4⟩, zf⟩ := five_cells (heap_kept (HG1.out) HZ.out)
      obtain ⟨⟨o0, o1, o2, o3, o4⟩, of⟩ := five_cells (HO1.out)
      obtain ⟨⟨k0, k1, k2, k3, k4⟩, kf⟩ := five_cells (HK1.out)
      go_wp2_with fail
      refine (CF.out _).mono ?_; rintro e w2 ⟨rfl, g2⟩
      have HG2 := hidd (HG1.out.trans g2)
      have HO2 := hidd (heap_kept g2 HO1.out)
      have HK2 := hidd (heap_kept g2 HK1.out)
      clear g2
      clear f0 f1 f2 f3 f4 ff z0 z1 z2 z3 z4 zf o0 o1 o2 o3 o4 of k0 k1 k2 k3 k4 kf
      obtain ⟨⟨f0, f1, f2, f3, f4⟩, ff⟩ := five_cells (heap_kept (HG2.out) HB.out)
      obtain ⟨⟨z0, z1, z2, z3, z4⟩, zf⟩ := five_cells (heap_kept (HG2.out) HZ.out)
      obtain ⟨⟨o0, o1, o2, o3, o4⟩, of⟩ := five_cells (HO2.out)
      obtain ⟨⟨k0, k1, k2, k3, k4⟩, kf⟩ := five_cells (HK2.out)
      go_wp2_with fail
      refine (lit_exact _ _).mono ?_; rintro e w9 ⟨rfl, hw9⟩
      have HG9 : Hid (Grew wr w9) := hidd (by rw [hw9]; exact HG2.out.alloc _)
      obtain ⟨⟨q0, q1, q2, q3, q4⟩, qf⟩ := five_cells (heap_kept HG9.out HZ.out)
      clear hw9
      go_wp2_with fail
      exact bodyPost_ret (results_pat (rb := w.heap.size + 1) rfl rfl (setPat_heap (heap_kept HG9.out HZ.out)) rfl) rfl (leaf_end (litP ByteArray.empty) (nums_leaf (by omega) zero_in none_size none_size) rfl (setPat_grew (HGw.out.trans HG9.out) (by omega) _ _ _ _ _))
set_option maxRecDepth 100000 in
set_option maxHeartbeats 2000000 in
theorem simple_k20c (t : ByteArray) (n : Int) (m : ByteArray) (l : List Pat) (kv : Value) (w : World) (h : SimpIn (.mk 20 t n m l) kv w) (e1 : emptyP ((l.map simple).getD 0 Pat.zero) = false) (e2 : (((l.map simple).getD 0 Pat.zero).kind == 15) = false) (e3 : (((l.map simple).getD 0 Pat.zero).kind == 2) = true) (e4 : ((l.map simple).getD 0 Pat.zero).n = 1) : Calls Tryd.prog 23 #[.agg #[.int .i64 20, .string t, .int .i64 n, .string m, kv]] w (SingleEnd w.heap.size (simple (.mk 20 t n m l)) w) := by
  have hkq := h.pat.pq.list
  obtain ⟨a, c, rfl, hlm⟩ := hkq.len
  have hlm : l.length ≤ maxLen := hlm
  have hkq : ListIn w (fun b => b < w.heap.size) (.slice a l.length c) l := hkq
  show Calls _ _ #[.agg #[_, _, _, _, .slice a l.length c]] _ _
  unfold maxLen at hlm
  have HNo := hidd ((errW_iff _).1 h.right).1
  have HT := hidd h.tab
  have HPn := hidd (And.intro h.pat.hn (And.intro h.pat.ht h.pat.hm))
  have HRt := hidd (And.intro h.right h.nodes)
  have HK := hidd (fun i (hi : i < l.length) w' (g : Grew w w') kv' (hv : PatV w' kv' (l.getD i Pat.zero)) => kid_end (h.kids (l.getD i Pat.zero) (by rw [List.getD_eq_getElem?_getD, List.getElem?_eq_getElem hi]; exact List.getElem_mem hi) kv' w' g hv))
  have HLq := hidd hkq
  have HW0 : Hid (Grew w ((w.alloc (.cells #[.int .i64 20, .string t, .int .i64 n, .string m, .slice a l.length c] 24)).alloc (.cells #[.int .i64 0, .string ⟨#[]⟩, .int .i64 0, .string ⟨#[]⟩, .slice none 0 0] 24)) ∧ ((w.alloc (.cells #[.int .i64 20, .string t, .int .i64 n, .string m, .slice a l.length c] 24)).alloc (.cells #[.int .i64 0, .string ⟨#[]⟩, .int .i64 0, .string ⟨#[]⟩, .slice none 0 0] 24)).heap[w.heap.size]? = some (.cells #[.int .i64 20, .string t, .int .i64 n, .string m, .slice a l.length c] 24 (0, 0)) ∧ ((w.alloc (.cells #[.int .i64 20, .string t, .int .i64 n, .string m, .slice a l.length c] 24)).alloc (.cells #[.int .i64 0, .string ⟨#[]⟩, .int .i64 0, .string ⟨#[]⟩, .slice none 0 0] 24)).heap[w.heap.size + 1]? = some (.cells #[.int .i64 0, .string ⟨#[]⟩, .int .i64 0, .string ⟨#[]⟩, .slice none 0 0] 24 (0, 0))) :=
    ⟨((Grew.refl w).alloc _).alloc _, heap_more (heap_alloc_new w _), heap_second w _ _⟩
  have hnl : l.length ≤ 4095 := by
    have h1 := h.nodes
    rw [nodesP] at h1
    have := length_le_nodes l
    omega
  have HX : Hid (simple (.mk 20 t n m l) = bareP 13) := by
    refine hidd ?_
    rw [simple, simpleL_map, make20]
    rw [if_neg (by rw [e1, show failB ((l.map simple).getD 0 Pat.zero) = false from e2]; decide)]
    rw [if_pos ⟨by simpa using e3, e4⟩]
  rw [HX.out]
  have HL1 : Hid (l.length = 1) := HNo.out.only (Or.inl rfl)
  have E1 := hidd e1
  have E2 := hidd e2
  have E3 := hidd e3
  clear e1 e2 e3
  have E4 := hidd e4
  clear e4
  clear h hkq
  go_enter Tryd.func23, Tryd.ntmps23
  go_wp2_with fail
  go_loopw [3, 11] (fun s3 s11 wr => ∃ i : Nat, s11 = .int .i64 i ∧ i ≤ l.length ∧ Hid (PatsOwn wr (w.heap.size + 2) (w.heap.size + 2) s3 ((l.map simple).take i) ∧ Grew ((w.alloc (.cells #[.int .i64 20, .string t, .int .i64 n, .string m, .slice a l.length c] 24)).alloc (.cells #[.int .i64 0, .string ⟨#[]⟩, .int .i64 0, .string ⟨#[]⟩, .slice none 0 0] 24)) wr)) (fun _ s11 _ => l.length - (intOf s11).toNat)
  case atStart => exact ⟨0, rfl, by omega, PatsOwn.nil _ _ _, Grew.refl _⟩
  case round =>
    obtain ⟨i, rfl, hi, HD⟩ := hrel
    by_cases hlt : i < l.length
    · have HGw := hidd (HW0.out.1.trans HD.out.2)
      obtain ⟨b, o, kk, rfl, hnd, hq⟩ := (HLq.out.kept HGw.out).at hlt
      obtain ⟨ka, kn, kc, rfl⟩ := hq.form
      have HS := hidd (simple_take hlt)
      have HC := hidd (HK.out i hlt (wr.alloc (.cells #[.int .i64 (l.getD i Pat.zero).kind, .string (l.getD i Pat.zero).text, .int .i64 (l.getD i Pat.zero).n, .string (l.getD i Pat.zero).name, .slice ka kn kc] 24)) (HGw.out.alloc _) (.slice ka kn kc) (hq.kept ((Grew.refl wr).alloc _)).patV)
      obtain ⟨r, hr⟩ : ∃ r, l.getD i Pat.zero = r := ⟨_, rfl⟩
      rw [hr] at hnd HS HC
      obtain ⟨q, hqs⟩ : ∃ q, simple r = q := ⟨_, rfl⟩
      rw [hqs] at HS HC
      obtain ⟨c0, c1, c2, c3, c4, _, _, _, _⟩ := hnd
      have kl : decide ((i : Int) < (l.length : Int)) = true := decide_eq_true (by omega)
      have hsz := HGw.out.size
      clear hr hq hqs HK
      go_wp2_with fail
      refine HC.out.mono ?_; rintro e w2 ⟨qa, qn, qc, rfl, hq2, g2⟩
      have HG3 := hidd (((Grew.refl wr).alloc (.cells #[.int .i64 r.kind, .string r.text, .int .i64 r.n, .string r.name, .slice ka kn kc] 24)).trans g2)
      have hs0 : w.heap.size + 2 ≤ wr.heap.size := by have := HD.out.2.size; simpa using this
      have hl2 : ((l.map simple).take i).length = i := by rw [List.length_take, List.length_map]; omega
      obtain ⟨v', w', hap, ho, hbel, hgr⟩ := pats_append_one (HD.out.1.kept HG3.out) (Nat.le_trans hs0 HG3.out.size) hq2 (fun b hb _ => ⟨by rw [World.size_alloc] at hb; omega, fun e => by have := HD.out.1.blocks b e; rw [World.size_alloc] at hb; omega⟩) (by rw [hl2]; omega) 22 24
      have ho2 := ho
      rw [← HS.out] at ho2
      have HE := hidd (And.intro ho2 ((HD.out.2.trans HG3.out).below hbel (by simp)))
      clear ho ho2 hbel hgr g2 hq2
      go_wp2_with (at_builtin; refine wpList_append_eq rfl rfl rfl rfl hap ?_)
      go_roundw
      case rel => exact ⟨i + 1, by go_num, by omega, HE⟩
      case measure => simp [intOf]; omega
    · have hie : i = l.length := by omega
      have kl : decide ((i : Int) < (l.length : Int)) = false := decide_eq_false (by omega)
      have HE := hidd HD.out.1
      rw [show (l.map simple).take i = l.map simple from by rw [hie, show l.length = (l.map simple).length from (List.length_map _).symm, List.take_length]] at HE
      have HGw := hidd (HW0.out.1.trans HD.out.2)
      have HB := hidd (heap_kept HD.out.2 HW0.out.2.1)
      have HZ := hidd (heap_kept HD.out.2 HW0.out.2.2)
      have hsz := HGw.out.size
      clear HD hie HK HW0 HLq
      obtain ⟨⟨b0, b1, b2, b3, b4⟩, bf⟩ := five_cells HB.out
      obtain ⟨⟨f0, f1, f2, f3, f4⟩, ff⟩ := five_cells (heap_more (o := (.cells #[.int .i64 20, .string ⟨#[]⟩, .int .i64 0, .string ⟨#[]⟩, .slice none 0 0] 24)) HB.out)
      obtain ⟨⟨z0, z1, z2, z3, z4⟩, zf⟩ := five_cells (heap_more (o := (.cells #[.int .i64 20, .string ⟨#[]⟩, .int .i64 0, .string ⟨#[]⟩, .slice none 0 0] 24)) HZ.out)
      obtain ⟨⟨o0, o1, o2, o3, o4⟩, of⟩ := five_cells (heap_alloc_new wr (.cells #[.int .i64 20, .string ⟨#[]⟩, .int .i64 0, .string ⟨#[]⟩, .slice none 0 0] 24))
      have hl1 := HL1.out
      obtain ⟨a3, cc, rfl⟩ := HE.out.len
      obtain ⟨b, o, kk, rfl, hnd, hq⟩ := HE.out.list.at (i := 0) (by rw [List.length_map]; omega)
      obtain ⟨qa, qn, qc, rfl⟩ := hq.form
      have hll : (l.map simple).length = 1 := by rw [List.length_map]; exact hl1
      rw [hll]
      obtain ⟨q, hqe⟩ : ∃ q, (l.map simple).getD 0 Pat.zero = q := ⟨_, rfl⟩
      rw [hqe] at hnd hq E1 E2 E3 E4
      have HQ := hidd hq
      have HN := hidd (show NodeAt wr b o q (.slice qa qn qc) from by simpa using hnd)
      clear hq hnd
      obtain ⟨c0, c1, c2, c3, c4, _, _, _, _⟩ := HN.out.kept ((Grew.refl wr).alloc (.cells #[.int .i64 20, .string ⟨#[]⟩, .int .i64 0, .string ⟨#[]⟩, .slice none 0 0] 24))
      have CE : Hid (∀ w, Calls Tryd.prog 48 #[.agg #[.int .i64 q.kind, .string q.text, .int .i64 q.n, .string q.name, .slice qa qn qc]] w fun e w' => e = .returned (.bool false) ∧ Grew w w') := hidd fun w => by
        have := empty_any q (.slice qa qn qc) w; rw [E1.out] at this; exact this
      have CF : Hid (∀ w, Calls Tryd.prog 44 #[.agg #[.int .i64 q.kind, .string q.text, .int .i64 q.n, .string q.name, .slice qa qn qc], .int .i64 15] w fun e w' => e = .returned (.bool false) ∧ Grew w w') := hidd fun w => by
        have := is_any q (.slice qa qn qc) 15 w; rw [E2.out] at this; exact this
      have CL : Hid (∀ w, Calls Tryd.prog 44 #[.agg #[.int .i64 q.kind, .string q.text, .int .i64 q.n, .string q.name, .slice qa qn qc], .int .i64 2] w fun e w' => e = .returned (.bool true) ∧ Grew w w') := hidd fun w => by
        have := is_any q (.slice qa qn qc) 2 w; rw [E3.out] at this; exact this
      have kz : (q.n == 1) = true := by rw [beq_iff_eq]; exact E4.out
      go_wp2_with fail
      refine (CE.out _).mono ?_; rintro e w1 ⟨rfl, g1⟩
      have HG1 := hidd ((((Grew.refl wr).alloc (.cells #[.int .i64 20, .string ⟨#[]⟩, .int .i64 0, .string ⟨#[]⟩, .slice none 0 0] 24)).alloc (.cells #[.int .i64 q.kind, .string q.text, .int .i64 q.n, .string q.name, .slice qa qn qc] 24)).trans g1)
      have HO1 := hidd (heap_kept g1 (heap_more (heap_alloc_new wr (.cells #[.int .i64 20, .string ⟨#[]⟩, .int .i64 0, .string ⟨#[]⟩, .slice none 0 0] 24))))
      have HK1 := hidd (heap_kept g1 (heap_second wr _ (.cells #[.int .i64 q.kind, .string q.text, .int .i64 q.n, .string q.name, .slice qa qn qc] 24)))
      clear g1
      clear f0 f1 f2 f3 f4 ff z0 z1 z2 z3 z4 zf o0 o1 o2 o3 o4 of
      clear c0 c1 c2 c3 c4
      obtain ⟨⟨f0, f1, f2, f3, f4⟩, ff⟩ := five_cells (heap_kept (HG1.out) HB.out)
      obtain ⟨⟨z0, z1, z2, z3, z4⟩, zf⟩ := five_cells (heap_kept (HG1.out) HZ.out)
      obtain ⟨⟨o0, o1, o2, o3, o4⟩, of⟩ := five_cells (HO1.out)
      obtain ⟨⟨k0, k1, k2, k3, k4⟩, kf⟩ := five_cells (HK1.out)
      go_wp2_with fail
      refine (CF.out _).mono ?_; rintro e w2 ⟨rfl, g2⟩
      have HG2 := hidd (HG1.out.trans g2)
      have HO2 := hidd (heap_kept g2 HO1.out)
      have HK2 := hidd (heap_kept g2 HK1.out)
      clear g2
      clear f0 f1 f2 f3 f4 ff z0 z1 z2 z3 z4 zf o0 o1 o2 o3 o4 of k0 k1 k2 k3 k4 kf
      obtain ⟨⟨f0, f1, f2, f3, f4⟩, ff⟩ := five_cells (heap_kept (HG2.out) HB.out)
      obtain ⟨⟨z0, z1, z2, z3, z4⟩, zf⟩ := five_cells (heap_kept (HG2.out) HZ.out)
      obtain ⟨⟨o0, o1, o2, o3, o4⟩, of⟩ := five_cells (HO2.out)
      obtain ⟨⟨k0, k1, k2, k3, k4⟩, kf⟩ := five_cells (HK2.out)
      go_wp2_with fail
      refine (CL.out _).mono ?_; rintro e w3 ⟨rfl, g3⟩
      have HG3 := hidd (HG2.out.trans g3)
      have HO3 := hidd (heap_kept g3 HO2.out)
      have HK3 := hidd (heap_kept g3 HK2.out)
      clear g3
      clear f0 f1 f2 f3 f4 ff z0 z1 z2 z3 z4 zf o0 o1 o2 o3 o4 of k0 k1 k2 k3 k4 kf
      obtain ⟨⟨f0, f1, f2, f3, f4⟩, ff⟩ := five_cells (heap_kept (HG3.out) HB.out)
      obtain ⟨⟨z0, z1, z2, z3, z4⟩, zf⟩ := five_cells (heap_kept (HG3.out) HZ.out)
      obtain ⟨⟨o0, o1, o2, o3, o4⟩, of⟩ := five_cells (HO3.out)
      obtain ⟨⟨k0, k1, k2, k3, k4⟩, kf⟩ := five_cells (HK3.out)
      go_wp2_with fail
      exact bodyPost_ret (results_pat (rb := w.heap.size + 1) rfl rfl (setPat_heap (heap_kept HG3.out HZ.out)) rfl) rfl (leaf_end (bareP 13) (nums_leaf (by omega) zero_in none_size none_size) rfl (setPat_grew (HGw.out.trans HG3.out) (by omega) _ _ _ _ _))
set_option maxRecDepth 100000 in
set_option maxHeartbeats 2000000 in
theorem simple_k20d (t : ByteArray) (n : Int) (m : ByteArray) (l : List Pat) (kv : Value) (w : World) (h : SimpIn (.mk 20 t n m l) kv w) (e1 : emptyP ((l.map simple).getD 0 Pat.zero) = false) (e2 : (((l.map simple).getD 0 Pat.zero).kind == 15) = false) (e3 : (((l.map simple).getD 0 Pat.zero).kind == 2) = false) : Calls Tryd.prog 23 #[.agg #[.int .i64 20, .string t, .int .i64 n, .string m, kv]] w (SingleEnd w.heap.size (simple (.mk 20 t n m l)) w) := by
  have hkq := h.pat.pq.list
  obtain ⟨a, c, rfl, hlm⟩ := hkq.len
  have hlm : l.length ≤ maxLen := hlm
  have hkq : ListIn w (fun b => b < w.heap.size) (.slice a l.length c) l := hkq
  show Calls _ _ #[.agg #[_, _, _, _, .slice a l.length c]] _ _
  unfold maxLen at hlm
  have HNo := hidd ((errW_iff _).1 h.right).1
  have HT := hidd h.tab
  have HPn := hidd (And.intro h.pat.hn (And.intro h.pat.ht h.pat.hm))
  have HRt := hidd (And.intro h.right h.nodes)
  have HK := hidd (fun i (hi : i < l.length) w' (g : Grew w w') kv' (hv : PatV w' kv' (l.getD i Pat.zero)) => kid_end (h.kids (l.getD i Pat.zero) (by rw [List.getD_eq_getElem?_getD, List.getElem?_eq_getElem hi]; exact List.getElem_mem hi) kv' w' g hv))
  have HLq := hidd hkq
  have HW0 : Hid (Grew w ((w.alloc (.cells #[.int .i64 20, .string t, .int .i64 n, .string m, .slice a l.length c] 24)).alloc (.cells #[.int .i64 0, .string ⟨#[]⟩, .int .i64 0, .string ⟨#[]⟩, .slice none 0 0] 24)) ∧ ((w.alloc (.cells #[.int .i64 20, .string t, .int .i64 n, .string m, .slice a l.length c] 24)).alloc (.cells #[.int .i64 0, .string ⟨#[]⟩, .int .i64 0, .string ⟨#[]⟩, .slice none 0 0] 24)).heap[w.heap.size]? = some (.cells #[.int .i64 20, .string t, .int .i64 n, .string m, .slice a l.length c] 24 (0, 0)) ∧ ((w.alloc (.cells #[.int .i64 20, .string t, .int .i64 n, .string m, .slice a l.length c] 24)).alloc (.cells #[.int .i64 0, .string ⟨#[]⟩, .int .i64 0, .string ⟨#[]⟩, .slice none 0 0] 24)).heap[w.heap.size + 1]? = some (.cells #[.int .i64 0, .string ⟨#[]⟩, .int .i64 0, .string ⟨#[]⟩, .slice none 0 0] 24 (0, 0))) :=
    ⟨((Grew.refl w).alloc _).alloc _, heap_more (heap_alloc_new w _), heap_second w _ _⟩
  have hnl : l.length ≤ 4095 := by
    have h1 := h.nodes
    rw [nodesP] at h1
    have := length_le_nodes l
    omega
  have HX : Hid (simple (.mk 20 t n m l) = kidsP 20 (l.map simple)) := by
    refine hidd ?_
    rw [simple, simpleL_map, make20]
    rw [if_neg (by rw [e1, show failB ((l.map simple).getD 0 Pat.zero) = false from e2]; decide)]
    rw [if_neg (fun h => by rw [h.1] at e3; simp at e3)]
  rw [HX.out]
  have HL1 : Hid (l.length = 1) := HNo.out.only (Or.inl rfl)
  have E1 := hidd e1
  have E2 := hidd e2
  have E3 := hidd e3
  clear e1 e2 e3
  clear h hkq
  go_enter Tryd.func23, Tryd.ntmps23
  go_wp2_with fail
  go_loopw [3, 11] (fun s3 s11 wr => ∃ i : Nat, s11 = .int .i64 i ∧ i ≤ l.length ∧ Hid (PatsOwn wr (w.heap.size + 2) (w.heap.size + 2) s3 ((l.map simple).take i) ∧ Grew ((w.alloc (.cells #[.int .i64 20, .string t, .int .i64 n, .string m, .slice a l.length c] 24)).alloc (.cells #[.int .i64 0, .string ⟨#[]⟩, .int .i64 0, .string ⟨#[]⟩, .slice none 0 0] 24)) wr)) (fun _ s11 _ => l.length - (intOf s11).toNat)
  case atStart => exact ⟨0, rfl, by omega, PatsOwn.nil _ _ _, Grew.refl _⟩
  case round =>
    obtain ⟨i, rfl, hi, HD⟩ := hrel
    by_cases hlt : i < l.length
    · have HGw := hidd (HW0.out.1.trans HD.out.2)
      obtain ⟨b, o, kk, rfl, hnd, hq⟩ := (HLq.out.kept HGw.out).at hlt
      obtain ⟨ka, kn, kc, rfl⟩ := hq.form
      have HS := hidd (simple_take hlt)
      have HC := hidd (HK.out i hlt (wr.alloc (.cells #[.int .i64 (l.getD i Pat.zero).kind, .string (l.getD i Pat.zero).text, .int .i64 (l.getD i Pat.zero).n, .string (l.getD i Pat.zero).name, .slice ka kn kc] 24)) (HGw.out.alloc _) (.slice ka kn kc) (hq.kept ((Grew.refl wr).alloc _)).patV)
      obtain ⟨r, hr⟩ : ∃ r, l.getD i Pat.zero = r := ⟨_, rfl⟩
      rw [hr] at hnd HS HC
      obtain ⟨q, hqs⟩ : ∃ q, simple r = q := ⟨_, rfl⟩
      rw [hqs] at HS HC
      obtain ⟨c0, c1, c2, c3, c4, _, _, _, _⟩ := hnd
      have kl : decide ((i : Int) < (l.length : Int)) = true := decide_eq_true (by omega)
      have hsz := HGw.out.size
      clear hr hq hqs HK
      go_wp2_with fail
      refine HC.out.mono ?_; rintro e w2 ⟨qa, qn, qc, rfl, hq2, g2⟩
      have HG3 := hidd (((Grew.refl wr).alloc (.cells #[.int .i64 r.kind, .string r.text, .int .i64 r.n, .string r.name, .slice ka kn kc] 24)).trans g2)
      have hs0 : w.heap.size + 2 ≤ wr.heap.size := by have := HD.out.2.size; simpa using this
      have hl2 : ((l.map simple).take i).length = i := by rw [List.length_take, List.length_map]; omega
      obtain ⟨v', w', hap, ho, hbel, hgr⟩ := pats_append_one (HD.out.1.kept HG3.out) (Nat.le_trans hs0 HG3.out.size) hq2 (fun b hb _ => ⟨by rw [World.size_alloc] at hb; omega, fun e => by have := HD.out.1.blocks b e; rw [World.size_alloc] at hb; omega⟩) (by rw [hl2]; omega) 22 24
      have ho2 := ho
      rw [← HS.out] at ho2
      have HE := hidd (And.intro ho2 ((HD.out.2.trans HG3.out).below hbel (by simp)))
      clear ho ho2 hbel hgr g2 hq2
      go_wp2_with (at_builtin; refine wpList_append_eq rfl rfl rfl rfl hap ?_)
      go_roundw
      case rel => exact ⟨i + 1, by go_num, by omega, HE⟩
      case measure => simp [intOf]; omega
    · have hie : i = l.length := by omega
      have kl : decide ((i : Int) < (l.length : Int)) = false := decide_eq_false (by omega)
      have HE := hidd HD.out.1
      rw [show (l.map simple).take i = l.map simple from by rw [hie, show l.length = (l.map simple).length from (List.length_map _).symm, List.take_length]] at HE
      have HGw := hidd (HW0.out.1.trans HD.out.2)
      have HB := hidd (heap_kept HD.out.2 HW0.out.2.1)
      have HZ := hidd (heap_kept HD.out.2 HW0.out.2.2)
      have hsz := HGw.out.size
      clear HD hie HK HW0 HLq
      obtain ⟨⟨b0, b1, b2, b3, b4⟩, bf⟩ := five_cells HB.out
      obtain ⟨⟨f0, f1, f2, f3, f4⟩, ff⟩ := five_cells (heap_more (o := (.cells #[.int .i64 20, .string ⟨#[]⟩, .int .i64 0, .string ⟨#[]⟩, .slice none 0 0] 24)) HB.out)
      obtain ⟨⟨z0, z1, z2, z3, z4⟩, zf⟩ := five_cells (heap_more (o := (.cells #[.int .i64 20, .string ⟨#[]⟩, .int .i64 0, .string ⟨#[]⟩, .slice none 0 0] 24)) HZ.out)
      obtain ⟨⟨o0, o1, o2, o3, o4⟩, of⟩ := five_cells (heap_alloc_new wr (.cells #[.int .i64 20, .string ⟨#[]⟩, .int .i64 0, .string ⟨#[]⟩, .slice none 0 0] 24))
      have hl1 := HL1.out
      obtain ⟨a3, cc, rfl⟩ := HE.out.len
      obtain ⟨b, o, kk, rfl, hnd, hq⟩ := HE.out.list.at (i := 0) (by rw [List.length_map]; omega)
      obtain ⟨qa, qn, qc, rfl⟩ := hq.form
      have hll : (l.map simple).length = 1 := by rw [List.length_map]; exact hl1
      rw [hll]
      obtain ⟨q, hqe⟩ : ∃ q, (l.map simple).getD 0 Pat.zero = q := ⟨_, rfl⟩
      rw [hqe] at hnd hq E1 E2 E3
      have HQ := hidd hq
      have HN := hidd (show NodeAt wr b o q (.slice qa qn qc) from by simpa using hnd)
      clear hq hnd
      obtain ⟨c0, c1, c2, c3, c4, _, _, _, _⟩ := HN.out.kept ((Grew.refl wr).alloc (.cells #[.int .i64 20, .string ⟨#[]⟩, .int .i64 0, .string ⟨#[]⟩, .slice none 0 0] 24))
      have HV := hidd (own_node HE.out (by omega) (p := kidsP 20 (l.map simple)) (nums_kids (by omega)) rfl (by omega))
      rw [hll] at HV
      have CE : Hid (∀ w, Calls Tryd.prog 48 #[.agg #[.int .i64 q.kind, .string q.text, .int .i64 q.n, .string q.name, .slice qa qn qc]] w fun e w' => e = .returned (.bool false) ∧ Grew w w') := hidd fun w => by
        have := empty_any q (.slice qa qn qc) w; rw [E1.out] at this; exact this
      have CF : Hid (∀ w, Calls Tryd.prog 44 #[.agg #[.int .i64 q.kind, .string q.text, .int .i64 q.n, .string q.name, .slice qa qn qc], .int .i64 15] w fun e w' => e = .returned (.bool false) ∧ Grew w w') := hidd fun w => by
        have := is_any q (.slice qa qn qc) 15 w; rw [E2.out] at this; exact this
      have CL : Hid (∀ w, Calls Tryd.prog 44 #[.agg #[.int .i64 q.kind, .string q.text, .int .i64 q.n, .string q.name, .slice qa qn qc], .int .i64 2] w fun e w' => e = .returned (.bool false) ∧ Grew w w') := hidd fun w => by
        have := is_any q (.slice qa qn qc) 2 w; rw [E3.out] at this; exact this
      go_wp2_with fail
      refine (CE.out _).mono ?_; rintro e w1 ⟨rfl, g1⟩
      have HG1 := hidd ((((Grew.refl wr).alloc (.cells #[.int .i64 20, .string ⟨#[]⟩, .int .i64 0, .string ⟨#[]⟩, .slice none 0 0] 24)).alloc (.cells #[.int .i64 q.kind, .string q.text, .int .i64 q.n, .string q.name, .slice qa qn qc] 24)).trans g1)
      have HO1 := hidd (heap_kept g1 (heap_more (heap_alloc_new wr (.cells #[.int .i64 20, .string ⟨#[]⟩, .int .i64 0, .string ⟨#[]⟩, .slice none 0 0] 24))))
      have HK1 := hidd (heap_kept g1 (heap_second wr _ (.cells #[.int .i64 q.kind, .string q.text, .int .i64 q.n, .string q.name, .slice qa qn qc] 24)))
      clear g1
      clear f0 f1 f2 f3 f4 ff z0 z1 z2 z3 z4 zf o0 o1 o2 o3 o4 of
      clear c0 c1 c2 c3 c4
      obtain ⟨⟨f0, f1, f2, f3, f4⟩, ff⟩ := five_cells (heap_kept (HG1.out) HB.out)
      obtain ⟨⟨z0, z1, z2, z3, z4⟩, zf⟩ := five_cells (heap_kept (HG1.out) HZ.out)
      obtain ⟨⟨o0, o1, o2, o3, o4⟩, of⟩ := five_cells (HO1.out)
      obtain ⟨⟨k0, k1, k2, k3, k4⟩, kf⟩ := five_cells (HK1.out)
      go_wp2_with fail
      refine (CF.out _).mono ?_; rintro e w2 ⟨rfl, g2⟩
      have HG2 := hidd (HG1.out.trans g2)
      have HO2 := hidd (heap_kept g2 HO1.out)
      have HK2 := hidd (heap_kept g2 HK1.out)
      clear g2
      clear f0 f1 f2 f3 f4 ff z0 z1 z2 z3 z4 zf o0 o1 o2 o3 o4 of k0 k1 k2 k3 k4 kf
      obtain ⟨⟨f0, f1, f2, f3, f4⟩, ff⟩ := five_cells (heap_kept (HG2.out) HB.out)
      obtain ⟨⟨z0, z1, z2, z3, z4⟩, zf⟩ := five_cells (heap_kept (HG2.out) HZ.out)
      obtain ⟨⟨o0, o1, o2, o3, o4⟩, of⟩ := five_cells (HO2.out)
      obtain ⟨⟨k0, k1, k2, k3, k4⟩, kf⟩ := five_cells (HK2.out)
      go_wp2_with fail
      refine (CL.out _).mono ?_; rintro e w3 ⟨rfl, g3⟩
      have HG3 := hidd (HG2.out.trans g3)
      have HO3 := hidd (heap_kept g3 HO2.out)
      have HK3 := hidd (heap_kept g3 HK2.out)
      clear g3
      clear f0 f1 f2 f3 f4 ff z0 z1 z2 z3 z4 zf o0 o1 o2 o3 o4 of k0 k1 k2 k3 k4 kf
      obtain ⟨⟨f0, f1, f2, f3, f4⟩, ff⟩ := five_cells (heap_kept (HG3.out) HB.out)
      obtain ⟨⟨z0, z1, z2, z3, z4⟩, zf⟩ := five_cells (heap_kept (HG3.out) HZ.out)
      obtain ⟨⟨o0, o1, o2, o3, o4⟩, of⟩ := five_cells (HO3.out)
      obtain ⟨⟨k0, k1, k2, k3, k4⟩, kf⟩ := five_cells (HK3.out)
      obtain ⟨⟨f0', f1', f2', f3', f4'⟩, ff'⟩ := five_cells (heap_kept ((HG3.out.setOwn (b := wr.heap.size) (o := 4) (Nat.le_refl _) (.slice (some ⟨b, o, none⟩) 1 cc))) HB.out)
      obtain ⟨⟨z0', z1', z2', z3', z4'⟩, zf'⟩ := five_cells (heap_kept ((HG3.out.setOwn (b := wr.heap.size) (o := 4) (Nat.le_refl _) (.slice (some ⟨b, o, none⟩) 1 cc))) HZ.out)
      obtain ⟨⟨o0', o1', o2', o3', o4'⟩, of'⟩ := five_cells (setCell_heap_same HO3.out 4 (.slice (some ⟨b, o, none⟩) 1 cc))
      go_wp2_with fail
      exact bodyPost_ret (results_pat (rb := w.heap.size + 1) rfl rfl (setPat_heap (heap_kept (HG3.out.setOwn (b := wr.heap.size) (o := 4) (Nat.le_refl _) (.slice (some ⟨b, o, none⟩) 1 cc)) HZ.out)) rfl) rfl (own_end (kidsP 20 (l.map simple)) (HV.out.kept (HG3.out.setOwn (b := wr.heap.size) (o := 4) (Nat.le_refl _) (.slice (some ⟨b, o, none⟩) 1 cc))) (by omega) (by omega) (HGw.out.trans (HG3.out.setOwn (b := wr.heap.size) (o := 4) (Nat.le_refl _) (.slice (some ⟨b, o, none⟩) 1 cc))) (by omega) _ _ _ _ _)
set_option maxRecDepth 100000 in
set_option maxHeartbeats 2000000 in
theorem simple_k20e (t : ByteArray) (n : Int) (m : ByteArray) (l : List Pat) (kv : Value) (w : World) (h : SimpIn (.mk 20 t n m l) kv w) (e1 : emptyP ((l.map simple).getD 0 Pat.zero) = false) (e2 : (((l.map simple).getD 0 Pat.zero).kind == 15) = false) (e3 : (((l.map simple).getD 0 Pat.zero).kind == 2) = true) (e4 : ¬ ((l.map simple).getD 0 Pat.zero).n = 1) : Calls Tryd.prog 23 #[.agg #[.int .i64 20, .string t, .int .i64 n, .string m, kv]] w (SingleEnd w.heap.size (simple (.mk 20 t n m l)) w) := by
  have hkq := h.pat.pq.list
  obtain ⟨a, c, rfl, hlm⟩ := hkq.len
  have hlm : l.length ≤ maxLen := hlm
  have hkq : ListIn w (fun b => b < w.heap.size) (.slice a l.length c) l := hkq
  show Calls _ _ #[.agg #[_, _, _, _, .slice a l.length c]] _ _
  unfold maxLen at hlm
  have HNo := hidd ((errW_iff _).1 h.right).1
  have HT := hidd h.tab
  have HPn := hidd (And.intro h.pat.hn (And.intro h.pat.ht h.pat.hm))
  have HRt := hidd (And.intro h.right h.nodes)
  have HK := hidd (fun i (hi : i < l.length) w' (g : Grew w w') kv' (hv : PatV w' kv' (l.getD i Pat.zero)) => kid_end (h.kids (l.getD i Pat.zero) (by rw [List.getD_eq_getElem?_getD, List.getElem?_eq_getElem hi]; exact List.getElem_mem hi) kv' w' g hv))
  have HLq := hidd hkq
  have HW0 : Hid (Grew w ((w.alloc (.cells #[.int .i64 20, .string t, .int .i64 n, .string m, .slice a l.length c] 24)).alloc (.cells #[.int .i64 0, .string ⟨#[]⟩, .int .i64 0, .string ⟨#[]⟩, .slice none 0 0] 24)) ∧ ((w.alloc (.cells #[.int .i64 20, .string t, .int .i64 n, .string m, .slice a l.length c] 24)).alloc (.cells #[.int .i64 0, .string ⟨#[]⟩, .int .i64 0, .string ⟨#[]⟩, .slice none 0 0] 24)).heap[w.heap.size]? = some (.cells #[.int .i64 20, .string t, .int .i64 n, .string m, .slice a l.length c] 24 (0, 0)) ∧ ((w.alloc (.cells #[.int .i64 20, .string t, .int .i64 n, .string m, .slice a l.length c] 24)).alloc (.cells #[.int .i64 0, .string ⟨#[]⟩, .int .i64 0, .string ⟨#[]⟩, .slice none 0 0] 24)).heap[w.heap.size + 1]? = some (.cells #[.int .i64 0, .string ⟨#[]⟩, .int .i64 0, .string ⟨#[]⟩, .slice none 0 0] 24 (0, 0))) :=
    ⟨((Grew.refl w).alloc _).alloc _, heap_more (heap_alloc_new w _), heap_second w _ _⟩
  have hnl : l.length ≤ 4095 := by
    have h1 := h.nodes
    rw [nodesP] at h1
    have := length_le_nodes l
    omega
  have HX : Hid (simple (.mk 20 t n m l) = kidsP 20 (l.map simple)) := by
    refine hidd ?_
    rw [simple, simpleL_map, make20]
    rw [if_neg (by rw [e1, show failB ((l.map simple).getD 0 Pat.zero) = false from e2]; decide)]
    rw [if_neg (fun h => e4 h.2)]
  rw [HX.out]
  have HL1 : Hid (l.length = 1) := HNo.out.only (Or.inl rfl)
  have E1 := hidd e1
  have E2 := hidd e2
  have E3 := hidd e3
  clear e1 e2 e3
  have E4 := hidd e4
  clear e4
  clear h hkq
  go_enter Tryd.func23, Tryd.ntmps23
  go_wp2_with fail
  go_loopw [3, 11] (fun s3 s11 wr => ∃ i : Nat, s11 = .int .i64 i ∧ i ≤ l.length ∧ Hid (PatsOwn wr (w.heap.size + 2) (w.heap.size + 2) s3 ((l.map simple).take i) ∧ Grew ((w.alloc (.cells #[.int .i64 20, .string t, .int .i64 n, .string m, .slice a l.length c] 24)).alloc (.cells #[.int .i64 0, .string ⟨#[]⟩, .int .i64 0, .string ⟨#[]⟩, .slice none 0 0] 24)) wr)) (fun _ s11 _ => l.length - (intOf s11).toNat)
  case atStart => exact ⟨0, rfl, by omega, PatsOwn.nil _ _ _, Grew.refl _⟩
  case round =>
    obtain ⟨i, rfl, hi, HD⟩ := hrel
    by_cases hlt : i < l.length
    · have HGw := hidd (HW0.out.1.trans HD.out.2)
      obtain ⟨b, o, kk, rfl, hnd, hq⟩ := (HLq.out.kept HGw.out).at hlt
      obtain ⟨ka, kn, kc, rfl⟩ := hq.form
      have HS := hidd (simple_take hlt)
      have HC := hidd (HK.out i hlt (wr.alloc (.cells #[.int .i64 (l.getD i Pat.zero).kind, .string (l.getD i Pat.zero).text, .int .i64 (l.getD i Pat.zero).n, .string (l.getD i Pat.zero).name, .slice ka kn kc] 24)) (HGw.out.alloc _) (.slice ka kn kc) (hq.kept ((Grew.refl wr).alloc _)).patV)
      obtain ⟨r, hr⟩ : ∃ r, l.getD i Pat.zero = r := ⟨_, rfl⟩
      rw [hr] at hnd HS HC
      obtain ⟨q, hqs⟩ : ∃ q, simple r = q := ⟨_, rfl⟩
      rw [hqs] at HS HC
      obtain ⟨c0, c1, c2, c3, c4, _, _, _, _⟩ := hnd
      have kl : decide ((i : Int) < (l.length : Int)) = true := decide_eq_true (by omega)
      have hsz := HGw.out.size
      clear hr hq hqs HK
      go_wp2_with fail
      refine HC.out.mono ?_; rintro e w2 ⟨qa, qn, qc, rfl, hq2, g2⟩
      have HG3 := hidd (((Grew.refl wr).alloc (.cells #[.int .i64 r.kind, .string r.text, .int .i64 r.n, .string r.name, .slice ka kn kc] 24)).trans g2)
      have hs0 : w.heap.size + 2 ≤ wr.heap.size := by have := HD.out.2.size; simpa using this
      have hl2 : ((l.map simple).take i).length = i := by rw [List.length_take, List.length_map]; omega
      obtain ⟨v', w', hap, ho, hbel, hgr⟩ := pats_append_one (HD.out.1.kept HG3.out) (Nat.le_trans hs0 HG3.out.size) hq2 (fun b hb _ => ⟨by rw [World.size_alloc] at hb; omega, fun e => by have := HD.out.1.blocks b e; rw [World.size_alloc] at hb; omega⟩) (by rw [hl2]; omega) 22 24
      have ho2 := ho
      rw [← HS.out] at ho2
      have HE := hidd (And.intro ho2 ((HD.out.2.trans HG3.out).below hbel (by simp)))
      clear ho ho2 hbel hgr g2 hq2
      go_wp2_with (at_builtin; refine wpList_append_eq rfl rfl rfl rfl hap ?_)
      go_roundw
      case rel => exact ⟨i + 1, by go_num, by omega, HE⟩
      case measure => simp [intOf]; omega
    · have hie : i = l.length := by omega
      have kl : decide ((i : Int) < (l.length : Int)) = false := decide_eq_false (by omega)
      have HE := hidd HD.out.1
      rw [show (l.map simple).take i = l.map simple from by rw [hie, show l.length = (l.map simple).length from (List.length_map _).symm, List.take_length]] at HE
      have HGw := hidd (HW0.out.1.trans HD.out.2)
      have HB := hidd (heap_kept HD.out.2 HW0.out.2.1)
      have HZ := hidd (heap_kept HD.out.2 HW0.out.2.2)
      have hsz := HGw.out.size
      clear HD hie HK HW0 HLq
      obtain ⟨⟨b0, b1, b2, b3, b4⟩, bf⟩ := five_cells HB.out
      obtain ⟨⟨f0, f1, f2, f3, f4⟩, ff⟩ := five_cells (heap_more (o := (.cells #[.int .i64 20, .string ⟨#[]⟩, .int .i64 0, .string ⟨#[]⟩, .slice none 0 0] 24)) HB.out)
      obtain ⟨⟨z0, z1, z2, z3, z4⟩, zf⟩ := five_cells (heap_more (o := (.cells #[.int .i64 20, .string ⟨#[]⟩, .int .i64 0, .string ⟨#[]⟩, .slice none 0 0] 24)) HZ.out)
      obtain ⟨⟨o0, o1, o2, o3, o4⟩, of⟩ := five_cells (heap_alloc_new wr (.cells #[.int .i64 20, .string ⟨#[]⟩, .int .i64 0, .string ⟨#[]⟩, .slice none 0 0] 24))
      have hl1 := HL1.out
      obtain ⟨a3, cc, rfl⟩ := HE.out.len
      obtain ⟨b, o, kk, rfl, hnd, hq⟩ := HE.out.list.at (i := 0) (by rw [List.length_map]; omega)
      obtain ⟨qa, qn, qc, rfl⟩ := hq.form
      have hll : (l.map simple).length = 1 := by rw [List.length_map]; exact hl1
      rw [hll]
      obtain ⟨q, hqe⟩ : ∃ q, (l.map simple).getD 0 Pat.zero = q := ⟨_, rfl⟩
      rw [hqe] at hnd hq E1 E2 E3 E4
      have HQ := hidd hq
      have HN := hidd (show NodeAt wr b o q (.slice qa qn qc) from by simpa using hnd)
      clear hq hnd
      obtain ⟨c0, c1, c2, c3, c4, _, _, _, _⟩ := HN.out.kept ((Grew.refl wr).alloc (.cells #[.int .i64 20, .string ⟨#[]⟩, .int .i64 0, .string ⟨#[]⟩, .slice none 0 0] 24))
      have HV := hidd (own_node HE.out (by omega) (p := kidsP 20 (l.map simple)) (nums_kids (by omega)) rfl (by omega))
      rw [hll] at HV
      have CE : Hid (∀ w, Calls Tryd.prog 48 #[.agg #[.int .i64 q.kind, .string q.text, .int .i64 q.n, .string q.name, .slice qa qn qc]] w fun e w' => e = .returned (.bool false) ∧ Grew w w') := hidd fun w => by
        have := empty_any q (.slice qa qn qc) w; rw [E1.out] at this; exact this
      have CF : Hid (∀ w, Calls Tryd.prog 44 #[.agg #[.int .i64 q.kind, .string q.text, .int .i64 q.n, .string q.name, .slice qa qn qc], .int .i64 15] w fun e w' => e = .returned (.bool false) ∧ Grew w w') := hidd fun w => by
        have := is_any q (.slice qa qn qc) 15 w; rw [E2.out] at this; exact this
      have CL : Hid (∀ w, Calls Tryd.prog 44 #[.agg #[.int .i64 q.kind, .string q.text, .int .i64 q.n, .string q.name, .slice qa qn qc], .int .i64 2] w fun e w' => e = .returned (.bool true) ∧ Grew w w') := hidd fun w => by
        have := is_any q (.slice qa qn qc) 2 w; rw [E3.out] at this; exact this
      have kz : (q.n == 1) = false := by rw [beq_eq_false_iff_ne]; exact E4.out
      go_wp2_with fail
      refine (CE.out _).mono ?_; rintro e w1 ⟨rfl, g1⟩
      have HG1 := hidd ((((Grew.refl wr).alloc (.cells #[.int .i64 20, .string ⟨#[]⟩, .int .i64 0, .string ⟨#[]⟩, .slice none 0 0] 24)).alloc (.cells #[.int .i64 q.kind, .string q.text, .int .i64 q.n, .string q.name, .slice qa qn qc] 24)).trans g1)
      have HO1 := hidd (heap_kept g1 (heap_more (heap_alloc_new wr (.cells #[.int .i64 20, .string ⟨#[]⟩, .int .i64 0, .string ⟨#[]⟩, .slice none 0 0] 24))))
      have HK1 := hidd (heap_kept g1 (heap_second wr _ (.cells #[.int .i64 q.kind, .string q.text, .int .i64 q.n, .string q.name, .slice qa qn qc] 24)))
      clear g1
      clear f0 f1 f2 f3 f4 ff z0 z1 z2 z3 z4 zf o0 o1 o2 o3 o4 of
      clear c0 c1 c2 c3 c4
      obtain ⟨⟨f0, f1, f2, f3, f4⟩, ff⟩ := five_cells (heap_kept (HG1.out) HB.out)
      obtain ⟨⟨z0, z1, z2, z3, z4⟩, zf⟩ := five_cells (heap_kept (HG1.out) HZ.out)
      obtain ⟨⟨o0, o1, o2, o3, o4⟩, of⟩ := five_cells (HO1.out)
      obtain ⟨⟨k0, k1, k2, k3, k4⟩, kf⟩ := five_cells (HK1.out)
      go_wp2_with fail
      refine (CF.out _).mono ?_; rintro e w2 ⟨rfl, g2⟩
      have HG2 := hidd (HG1.out.trans g2)
      have HO2 := hidd (heap_kept g2 HO1.out)
      have HK2 := hidd (heap_kept g2 HK1.out)
      clear g2
      clear f0 f1 f2 f3 f4 ff z0 z1 z2 z3 z4 zf o0 o1 o2 o3 o4 of k0 k1 k2 k3 k4 kf
      obtain ⟨⟨f0, f1, f2, f3, f4⟩, ff⟩ := five_cells (heap_kept (HG2.out) HB.out)
      obtain ⟨⟨z0, z1, z2, z3, z4⟩, zf⟩ := five_cells (heap_kept (HG2.out) HZ.out)
      obtain ⟨⟨o0, o1, o2, o3, o4⟩, of⟩ := five_cells (HO2.out)
      obtain ⟨⟨k0, k1, k2, k3, k4⟩, kf⟩ := five_cells (HK2.out)
      go_wp2_with fail
      refine (CL.out _).mono ?_; rintro e w3 ⟨rfl, g3⟩
      have HG3 := hidd (HG2.out.trans g3)
      have HO3 := hidd (heap_kept g3 HO2.out)
      have HK3 := hidd (heap_kept g3 HK2.out)
      clear g3
      clear f0 f1 f2 f3 f4 ff z0 z1 z2 z3 z4 zf o0 o1 o2 o3 o4 of k0 k1 k2 k3 k4 kf
      obtain ⟨⟨f0, f1, f2, f3, f4⟩, ff⟩ := five_cells (heap_kept (HG3.out) HB.out)
      obtain ⟨⟨z0, z1, z2, z3, z4⟩, zf⟩ := five_cells (heap_kept (HG3.out) HZ.out)
      obtain ⟨⟨o0, o1, o2, o3, o4⟩, of⟩ := five_cells (HO3.out)
      obtain ⟨⟨k0, k1, k2, k3, k4⟩, kf⟩ := five_cells (HK3.out)
      obtain ⟨⟨f0', f1', f2', f3', f4'⟩, ff'⟩ := five_cells (heap_kept ((HG3.out.setOwn (b := wr.heap.size) (o := 4) (Nat.le_refl _) (.slice (some ⟨b, o, none⟩) 1 cc))) HB.out)
      obtain ⟨⟨z0', z1', z2', z3', z4'⟩, zf'⟩ := five_cells (heap_kept ((HG3.out.setOwn (b := wr.heap.size) (o := 4) (Nat.le_refl _) (.slice (some ⟨b, o, none⟩) 1 cc))) HZ.out)
      obtain ⟨⟨o0', o1', o2', o3', o4'⟩, of'⟩ := five_cells (setCell_heap_same HO3.out 4 (.slice (some ⟨b, o, none⟩) 1 cc))
      go_wp2_with fail
      exact bodyPost_ret (results_pat (rb := w.heap.size + 1) rfl rfl (setPat_heap (heap_kept (HG3.out.setOwn (b := wr.heap.size) (o := 4) (Nat.le_refl _) (.slice (some ⟨b, o, none⟩) 1 cc)) HZ.out)) rfl) rfl (own_end (kidsP 20 (l.map simple)) (HV.out.kept (HG3.out.setOwn (b := wr.heap.size) (o := 4) (Nat.le_refl _) (.slice (some ⟨b, o, none⟩) 1 cc))) (by omega) (by omega) (HGw.out.trans (HG3.out.setOwn (b := wr.heap.size) (o := 4) (Nat.le_refl _) (.slice (some ⟨b, o, none⟩) 1 cc))) (by omega) _ _ _ _ _)
end Go.Proofs.YtmcfoefhenmjeaaDoor
/-! tune: simple, some kinds. Printed. -/
namespace Go.Proofs.YtmcfoefhenmjeaaDoor
open Go.RowKit
set_option linter.unusedVariables false
set_option maxRecDepth 100000 in
set_option maxHeartbeats 2000000 in
theorem simple_k21a (t : ByteArray) (n : Int) (m : ByteArray) (l : List Pat) (kv : Value) (w : World) (h : SimpIn (.mk 21 t n m l) kv w) (e1 : (((l.map simple).getD 0 Pat.zero).kind == 15) = true) : Calls Tryd.prog 23 #[.agg #[.int .i64 21, .string t, .int .i64 n, .string m, kv]] w (SingleEnd w.heap.size (simple (.mk 21 t n m l)) w) := by
  have hkq := h.pat.pq.list
  obtain ⟨a, c, rfl, hlm⟩ := hkq.len
  have hlm : l.length ≤ maxLen := hlm
  have hkq : ListIn w (fun b => b < w.heap.size) (.slice a l.length c) l := hkq
  show Calls _ _ #[.agg #[_, _, _, _, .slice a l.length c]] _ _
  unfold maxLen at hlm
  have HNo := hidd ((errW_iff _).1 h.right).1
  have HT := hidd h.tab
  have HPn := hidd (And.intro h.pat.hn (And.intro h.pat.ht h.pat.hm))
  have HRt := hidd (And.intro h.right h.nodes)
  have HK := hidd (fun i (hi : i < l.length) w' (g : Grew w w') kv' (hv : PatV w' kv' (l.getD i Pat.zero)) => kid_end (h.kids (l.getD i Pat.zero) (by rw [List.getD_eq_getElem?_getD, List.getElem?_eq_getElem hi]; exact List.getElem_mem hi) kv' w' g hv))
  have HLq := hidd hkq
  have HW0 : Hid (Grew w ((w.alloc (.cells #[.int .i64 21, .string t, .int .i64 n, .string m, .slice a l.length c] 24)).alloc (.cells #[.int .i64 0, .string ⟨#[]⟩, .int .i64 0, .string ⟨#[]⟩, .slice none 0 0] 24)) ∧ ((w.alloc (.cells #[.int .i64 21, .string t, .int .i64 n, .string m, .slice a l.length c] 24)).alloc (.cells #[.int .i64 0, .string ⟨#[]⟩, .int .i64 0, .string ⟨#[]⟩, .slice none 0 0] 24)).heap[w.heap.size]? = some (.cells #[.int .i64 21, .string t, .int .i64 n, .string m, .slice a l.length c] 24 (0, 0)) ∧ ((w.alloc (.cells #[.int .i64 21, .string t, .int .i64 n, .string m, .slice a l.length c] 24)).alloc (.cells #[.int .i64 0, .string ⟨#[]⟩, .int .i64 0, .string ⟨#[]⟩, .slice none 0 0] 24)).heap[w.heap.size + 1]? = some (.cells #[.int .i64 0, .string ⟨#[]⟩, .int .i64 0, .string ⟨#[]⟩, .slice none 0 0] 24 (0, 0))) :=
    ⟨((Grew.refl w).alloc _).alloc _, heap_more (heap_alloc_new w _), heap_second w _ _⟩
  have hnl : l.length ≤ 4095 := by
    have h1 := h.nodes
    rw [nodesP] at h1
    have := length_le_nodes l
    omega
  have HX : Hid (simple (.mk 21 t n m l) = ((l.map simple).getD 0 Pat.zero)) := by
    refine hidd ?_
    rw [simple, simpleL_map, make21]
    rw [if_pos (by unfold endsB; rw [e1]; rfl)]
  rw [HX.out]
  have HL1 : Hid (l.length = 1) := HNo.out.only (Or.inr (Or.inl rfl))
  have E1 := hidd e1
  clear e1
  clear h hkq
  go_enter Tryd.func23, Tryd.ntmps23
  go_wp2_with fail
  go_loopw [3, 11] (fun s3 s11 wr => ∃ i : Nat, s11 = .int .i64 i ∧ i ≤ l.length ∧ Hid (PatsOwn wr (w.heap.size + 2) (w.heap.size + 2) s3 ((l.map simple).take i) ∧ Grew ((w.alloc (.cells #[.int .i64 21, .string t, .int .i64 n, .string m, .slice a l.length c] 24)).alloc (.cells #[.int .i64 0, .string ⟨#[]⟩, .int .i64 0, .string ⟨#[]⟩, .slice none 0 0] 24)) wr)) (fun _ s11 _ => l.length - (intOf s11).toNat)
  case atStart => exact ⟨0, rfl, by omega, PatsOwn.nil _ _ _, Grew.refl _⟩
  case round =>
    obtain ⟨i, rfl, hi, HD⟩ := hrel
    by_cases hlt : i < l.length
    · have HGw := hidd (HW0.out.1.trans HD.out.2)
      obtain ⟨b, o, kk, rfl, hnd, hq⟩ := (HLq.out.kept HGw.out).at hlt
      obtain ⟨ka, kn, kc, rfl⟩ := hq.form
      have HS := hidd (simple_take hlt)
      have HC := hidd (HK.out i hlt (wr.alloc (.cells #[.int .i64 (l.getD i Pat.zero).kind, .string (l.getD i Pat.zero).text, .int .i64 (l.getD i Pat.zero).n, .string (l.getD i Pat.zero).name, .slice ka kn kc] 24)) (HGw.out.alloc _) (.slice ka kn kc) (hq.kept ((Grew.refl wr).alloc _)).patV)
      obtain ⟨r, hr⟩ : ∃ r, l.getD i Pat.zero = r := ⟨_, rfl⟩
      rw [hr] at hnd HS HC
      obtain ⟨q, hqs⟩ : ∃ q, simple r = q := ⟨_, rfl⟩
      rw [hqs] at HS HC
      obtain ⟨c0, c1, c2, c3, c4, _, _, _, _⟩ := hnd
      have kl : decide ((i : Int) < (l.length : Int)) = true := decide_eq_true (by omega)
      have hsz := HGw.out.size
      clear hr hq hqs HK
      go_wp2_with fail
      refine HC.out.mono ?_; rintro e w2 ⟨qa, qn, qc, rfl, hq2, g2⟩
      have HG3 := hidd (((Grew.refl wr).alloc (.cells #[.int .i64 r.kind, .string r.text, .int .i64 r.n, .string r.name, .slice ka kn kc] 24)).trans g2)
      have hs0 : w.heap.size + 2 ≤ wr.heap.size := by have := HD.out.2.size; simpa using this
      have hl2 : ((l.map simple).take i).length = i := by rw [List.length_take, List.length_map]; omega
      obtain ⟨v', w', hap, ho, hbel, hgr⟩ := pats_append_one (HD.out.1.kept HG3.out) (Nat.le_trans hs0 HG3.out.size) hq2 (fun b hb _ => ⟨by rw [World.size_alloc] at hb; omega, fun e => by have := HD.out.1.blocks b e; rw [World.size_alloc] at hb; omega⟩) (by rw [hl2]; omega) 22 24
      have ho2 := ho
      rw [← HS.out] at ho2
      have HE := hidd (And.intro ho2 ((HD.out.2.trans HG3.out).below hbel (by simp)))
      clear ho ho2 hbel hgr g2 hq2
      go_wp2_with (at_builtin; refine wpList_append_eq rfl rfl rfl rfl hap ?_)
      go_roundw
      case rel => exact ⟨i + 1, by go_num, by omega, HE⟩
      case measure => simp [intOf]; omega
    · have hie : i = l.length := by omega
      have kl : decide ((i : Int) < (l.length : Int)) = false := decide_eq_false (by omega)
      have HE := hidd HD.out.1
      rw [show (l.map simple).take i = l.map simple from by rw [hie, show l.length = (l.map simple).length from (List.length_map _).symm, List.take_length]] at HE
      have HGw := hidd (HW0.out.1.trans HD.out.2)
      have HB := hidd (heap_kept HD.out.2 HW0.out.2.1)
      have HZ := hidd (heap_kept HD.out.2 HW0.out.2.2)
      have hsz := HGw.out.size
      clear HD hie HK HW0 HLq
      obtain ⟨⟨b0, b1, b2, b3, b4⟩, bf⟩ := five_cells HB.out
      obtain ⟨⟨f0, f1, f2, f3, f4⟩, ff⟩ := five_cells (heap_more (o := (.cells #[.int .i64 21, .string ⟨#[]⟩, .int .i64 0, .string ⟨#[]⟩, .slice none 0 0] 24)) HB.out)
      obtain ⟨⟨z0, z1, z2, z3, z4⟩, zf⟩ := five_cells (heap_more (o := (.cells #[.int .i64 21, .string ⟨#[]⟩, .int .i64 0, .string ⟨#[]⟩, .slice none 0 0] 24)) HZ.out)
      obtain ⟨⟨o0, o1, o2, o3, o4⟩, of⟩ := five_cells (heap_alloc_new wr (.cells #[.int .i64 21, .string ⟨#[]⟩, .int .i64 0, .string ⟨#[]⟩, .slice none 0 0] 24))
      have hl1 := HL1.out
      obtain ⟨a3, cc, rfl⟩ := HE.out.len
      obtain ⟨b, o, kk, rfl, hnd, hq⟩ := HE.out.list.at (i := 0) (by rw [List.length_map]; omega)
      obtain ⟨qa, qn, qc, rfl⟩ := hq.form
      have hll : (l.map simple).length = 1 := by rw [List.length_map]; exact hl1
      rw [hll]
      obtain ⟨q, hqe⟩ : ∃ q, (l.map simple).getD 0 Pat.zero = q := ⟨_, rfl⟩
      rw [hqe] at hnd hq E1
      have HQ := hidd hq
      have HN := hidd (show NodeAt wr b o q (.slice qa qn qc) from by simpa using hnd)
      clear hq hnd
      obtain ⟨c0, c1, c2, c3, c4, _, _, _, _⟩ := HN.out.kept ((Grew.refl wr).alloc (.cells #[.int .i64 21, .string ⟨#[]⟩, .int .i64 0, .string ⟨#[]⟩, .slice none 0 0] 24))
      have CF : Hid (∀ w, Calls Tryd.prog 44 #[.agg #[.int .i64 q.kind, .string q.text, .int .i64 q.n, .string q.name, .slice qa qn qc], .int .i64 15] w fun e w' => e = .returned (.bool true) ∧ Grew w w') := hidd fun w => by
        have := is_any q (.slice qa qn qc) 15 w; rw [E1.out] at this; exact this
      go_wp2_with fail
      refine (CF.out _).mono ?_; rintro e w1 ⟨rfl, g1⟩
      have HG1 := hidd (((Grew.refl wr).alloc (.cells #[.int .i64 21, .string ⟨#[]⟩, .int .i64 0, .string ⟨#[]⟩, .slice none 0 0] 24)).trans g1)
      have HO1 := hidd (heap_kept g1 (heap_alloc_new wr (.cells #[.int .i64 21, .string ⟨#[]⟩, .int .i64 0, .string ⟨#[]⟩, .slice none 0 0] 24)))
      clear g1
      clear f0 f1 f2 f3 f4 ff z0 z1 z2 z3 z4 zf o0 o1 o2 o3 o4 of
      clear c0 c1 c2 c3 c4
      obtain ⟨⟨f0, f1, f2, f3, f4⟩, ff⟩ := five_cells (heap_kept (HG1.out) HB.out)
      obtain ⟨⟨z0, z1, z2, z3, z4⟩, zf⟩ := five_cells (heap_kept (HG1.out) HZ.out)
      obtain ⟨⟨o0, o1, o2, o3, o4⟩, of⟩ := five_cells (HO1.out)
      obtain ⟨c0, c1, c2, c3, c4, _, _, _, _⟩ := HN.out.kept HG1.out
      go_wp2_with fail
      exact bodyPost_ret (results_pat (rb := w.heap.size + 1) rfl rfl (setPat_heap (heap_kept HG1.out HZ.out)) rfl) rfl (by rw [hqe]; exact own_end q (HQ.out.kept HG1.out) (by omega) (by omega) (HGw.out.trans HG1.out) (by omega) _ _ _ _ _)
set_option maxRecDepth 100000 in
set_option maxHeartbeats 2000000 in
theorem simple_k21b (t : ByteArray) (n : Int) (m : ByteArray) (l : List Pat) (kv : Value) (w : World) (h : SimpIn (.mk 21 t n m l) kv w) (e1 : (((l.map simple).getD 0 Pat.zero).kind == 15) = false) (e2 : (((l.map simple).getD 0 Pat.zero).kind == 17) = true) : Calls Tryd.prog 23 #[.agg #[.int .i64 21, .string t, .int .i64 n, .string m, kv]] w (SingleEnd w.heap.size (simple (.mk 21 t n m l)) w) := by
  have hkq := h.pat.pq.list
  obtain ⟨a, c, rfl, hlm⟩ := hkq.len
  have hlm : l.length ≤ maxLen := hlm
  have hkq : ListIn w (fun b => b < w.heap.size) (.slice a l.length c) l := hkq
  show Calls _ _ #[.agg #[_, _, _, _, .slice a l.length c]] _ _
  unfold maxLen at hlm
  have HNo := hidd ((errW_iff _).1 h.right).1
  have HT := hidd h.tab
  have HPn := hidd (And.intro h.pat.hn (And.intro h.pat.ht h.pat.hm))
  have HRt := hidd (And.intro h.right h.nodes)
  have HK := hidd (fun i (hi : i < l.length) w' (g : Grew w w') kv' (hv : PatV w' kv' (l.getD i Pat.zero)) => kid_end (h.kids (l.getD i Pat.zero) (by rw [List.getD_eq_getElem?_getD, List.getElem?_eq_getElem hi]; exact List.getElem_mem hi) kv' w' g hv))
  have HLq := hidd hkq
  have HW0 : Hid (Grew w ((w.alloc (.cells #[.int .i64 21, .string t, .int .i64 n, .string m, .slice a l.length c] 24)).alloc (.cells #[.int .i64 0, .string ⟨#[]⟩, .int .i64 0, .string ⟨#[]⟩, .slice none 0 0] 24)) ∧ ((w.alloc (.cells #[.int .i64 21, .string t, .int .i64 n, .string m, .slice a l.length c] 24)).alloc (.cells #[.int .i64 0, .string ⟨#[]⟩, .int .i64 0, .string ⟨#[]⟩, .slice none 0 0] 24)).heap[w.heap.size]? = some (.cells #[.int .i64 21, .string t, .int .i64 n, .string m, .slice a l.length c] 24 (0, 0)) ∧ ((w.alloc (.cells #[.int .i64 21, .string t, .int .i64 n, .string m, .slice a l.length c] 24)).alloc (.cells #[.int .i64 0, .string ⟨#[]⟩, .int .i64 0, .string ⟨#[]⟩, .slice none 0 0] 24)).heap[w.heap.size + 1]? = some (.cells #[.int .i64 0, .string ⟨#[]⟩, .int .i64 0, .string ⟨#[]⟩, .slice none 0 0] 24 (0, 0))) :=
    ⟨((Grew.refl w).alloc _).alloc _, heap_more (heap_alloc_new w _), heap_second w _ _⟩
  have hnl : l.length ≤ 4095 := by
    have h1 := h.nodes
    rw [nodesP] at h1
    have := length_le_nodes l
    omega
  have HX : Hid (simple (.mk 21 t n m l) = ((l.map simple).getD 0 Pat.zero)) := by
    refine hidd ?_
    rw [simple, simpleL_map, make21]
    rw [if_pos (by unfold endsB; rw [e1, e2]; rfl)]
  rw [HX.out]
  have HL1 : Hid (l.length = 1) := HNo.out.only (Or.inr (Or.inl rfl))
  have E1 := hidd e1
  have E2 := hidd e2
  clear e1 e2
  clear h hkq
  go_enter Tryd.func23, Tryd.ntmps23
  go_wp2_with fail
  go_loopw [3, 11] (fun s3 s11 wr => ∃ i : Nat, s11 = .int .i64 i ∧ i ≤ l.length ∧ Hid (PatsOwn wr (w.heap.size + 2) (w.heap.size + 2) s3 ((l.map simple).take i) ∧ Grew ((w.alloc (.cells #[.int .i64 21, .string t, .int .i64 n, .string m, .slice a l.length c] 24)).alloc (.cells #[.int .i64 0, .string ⟨#[]⟩, .int .i64 0, .string ⟨#[]⟩, .slice none 0 0] 24)) wr)) (fun _ s11 _ => l.length - (intOf s11).toNat)
  case atStart => exact ⟨0, rfl, by omega, PatsOwn.nil _ _ _, Grew.refl _⟩
  case round =>
    obtain ⟨i, rfl, hi, HD⟩ := hrel
    by_cases hlt : i < l.length
    · have HGw := hidd (HW0.out.1.trans HD.out.2)
      obtain ⟨b, o, kk, rfl, hnd, hq⟩ := (HLq.out.kept HGw.out).at hlt
      obtain ⟨ka, kn, kc, rfl⟩ := hq.form
      have HS := hidd (simple_take hlt)
      have HC := hidd (HK.out i hlt (wr.alloc (.cells #[.int .i64 (l.getD i Pat.zero).kind, .string (l.getD i Pat.zero).text, .int .i64 (l.getD i Pat.zero).n, .string (l.getD i Pat.zero).name, .slice ka kn kc] 24)) (HGw.out.alloc _) (.slice ka kn kc) (hq.kept ((Grew.refl wr).alloc _)).patV)
      obtain ⟨r, hr⟩ : ∃ r, l.getD i Pat.zero = r := ⟨_, rfl⟩
      rw [hr] at hnd HS HC
      obtain ⟨q, hqs⟩ : ∃ q, simple r = q := ⟨_, rfl⟩
      rw [hqs] at HS HC
      obtain ⟨c0, c1, c2, c3, c4, _, _, _, _⟩ := hnd
      have kl : decide ((i : Int) < (l.length : Int)) = true := decide_eq_true (by omega)
      have hsz := HGw.out.size
      clear hr hq hqs HK
      go_wp2_with fail
      refine HC.out.mono ?_; rintro e w2 ⟨qa, qn, qc, rfl, hq2, g2⟩
      have HG3 := hidd (((Grew.refl wr).alloc (.cells #[.int .i64 r.kind, .string r.text, .int .i64 r.n, .string r.name, .slice ka kn kc] 24)).trans g2)
      have hs0 : w.heap.size + 2 ≤ wr.heap.size := by have := HD.out.2.size; simpa using this
      have hl2 : ((l.map simple).take i).length = i := by rw [List.length_take, List.length_map]; omega
      obtain ⟨v', w', hap, ho, hbel, hgr⟩ := pats_append_one (HD.out.1.kept HG3.out) (Nat.le_trans hs0 HG3.out.size) hq2 (fun b hb _ => ⟨by rw [World.size_alloc] at hb; omega, fun e => by have := HD.out.1.blocks b e; rw [World.size_alloc] at hb; omega⟩) (by rw [hl2]; omega) 22 24
      have ho2 := ho
      rw [← HS.out] at ho2
      have HE := hidd (And.intro ho2 ((HD.out.2.trans HG3.out).below hbel (by simp)))
      clear ho ho2 hbel hgr g2 hq2
      go_wp2_with (at_builtin; refine wpList_append_eq rfl rfl rfl rfl hap ?_)
      go_roundw
      case rel => exact ⟨i + 1, by go_num, by omega, HE⟩
      case measure => simp [intOf]; omega
    · have hie : i = l.length := by omega
      have kl : decide ((i : Int) < (l.length : Int)) = false := decide_eq_false (by omega)
      have HE := hidd HD.out.1
      rw [show (l.map simple).take i = l.map simple from by rw [hie, show l.length = (l.map simple).length from (List.length_map _).symm, List.take_length]] at HE
      have HGw := hidd (HW0.out.1.trans HD.out.2)
      have HB := hidd (heap_kept HD.out.2 HW0.out.2.1)
      have HZ := hidd (heap_kept HD.out.2 HW0.out.2.2)
      have hsz := HGw.out.size
      clear HD hie HK HW0 HLq
      obtain ⟨⟨b0, b1, b2, b3, b4⟩, bf⟩ := five_cells HB.out
      obtain ⟨⟨f0, f1, f2, f3, f4⟩, ff⟩ := five_cells (heap_more (o := (.cells #[.int .i64 21, .string ⟨#[]⟩, .int .i64 0, .string ⟨#[]⟩, .slice none 0 0] 24)) HB.out)
      obtain ⟨⟨z0, z1, z2, z3, z4⟩, zf⟩ := five_cells (heap_more (o := (.cells #[.int .i64 21, .string ⟨#[]⟩, .int .i64 0, .string ⟨#[]⟩, .slice none 0 0] 24)) HZ.out)
      obtain ⟨⟨o0, o1, o2, o3, o4⟩, of⟩ := five_cells (heap_alloc_new wr (.cells #[.int .i64 21, .string ⟨#[]⟩, .int .i64 0, .string ⟨#[]⟩, .slice none 0 0] 24))
      have hl1 := HL1.out
      obtain ⟨a3, cc, rfl⟩ := HE.out.len
      obtain ⟨b, o, kk, rfl, hnd, hq⟩ := HE.out.list.at (i := 0) (by rw [List.length_map]; omega)
      obtain ⟨qa, qn, qc, rfl⟩ := hq.form
      have hll : (l.map simple).length = 1 := by rw [List.length_map]; exact hl1
      rw [hll]
      obtain ⟨q, hqe⟩ : ∃ q, (l.map simple).getD 0 Pat.zero = q := ⟨_, rfl⟩
      rw [hqe] at hnd hq E1 E2
      have HQ := hidd hq
      have HN := hidd (show NodeAt wr b o q (.slice qa qn qc) from by simpa using hnd)
      clear hq hnd
      obtain ⟨c0, c1, c2, c3, c4, _, _, _, _⟩ := HN.out.kept ((Grew.refl wr).alloc (.cells #[.int .i64 21, .string ⟨#[]⟩, .int .i64 0, .string ⟨#[]⟩, .slice none 0 0] 24))
      have CF : Hid (∀ w, Calls Tryd.prog 44 #[.agg #[.int .i64 q.kind, .string q.text, .int .i64 q.n, .string q.name, .slice qa qn qc], .int .i64 15] w fun e w' => e = .returned (.bool false) ∧ Grew w w') := hidd fun w => by
        have := is_any q (.slice qa qn qc) 15 w; rw [E1.out] at this; exact this
      have CA : Hid (∀ w, Calls Tryd.prog 44 #[.agg #[.int .i64 q.kind, .string q.text, .int .i64 q.n, .string q.name, .slice qa qn qc], .int .i64 17] w fun e w' => e = .returned (.bool true) ∧ Grew w w') := hidd fun w => by
        have := is_any q (.slice qa qn qc) 17 w; rw [E2.out] at this; exact this
      go_wp2_with fail
      refine (CF.out _).mono ?_; rintro e w1 ⟨rfl, g1⟩
      have HG1 := hidd (((Grew.refl wr).alloc (.cells #[.int .i64 21, .string ⟨#[]⟩, .int .i64 0, .string ⟨#[]⟩, .slice none 0 0] 24)).trans g1)
      have HO1 := hidd (heap_kept g1 (heap_alloc_new wr (.cells #[.int .i64 21, .string ⟨#[]⟩, .int .i64 0, .string ⟨#[]⟩, .slice none 0 0] 24)))
      clear g1
      clear f0 f1 f2 f3 f4 ff z0 z1 z2 z3 z4 zf o0 o1 o2 o3 o4 of
      clear c0 c1 c2 c3 c4
      obtain ⟨⟨f0, f1, f2, f3, f4⟩, ff⟩ := five_cells (heap_kept (HG1.out) HB.out)
      obtain ⟨⟨z0, z1, z2, z3, z4⟩, zf⟩ := five_cells (heap_kept (HG1.out) HZ.out)
      obtain ⟨⟨o0, o1, o2, o3, o4⟩, of⟩ := five_cells (HO1.out)
      obtain ⟨c0, c1, c2, c3, c4, _, _, _, _⟩ := HN.out.kept HG1.out
      go_wp2_with fail
      refine (CA.out _).mono ?_; rintro e w2 ⟨rfl, g2⟩
      have HG2 := hidd (HG1.out.trans g2)
      have HO2 := hidd (heap_kept g2 HO1.out)
      clear g2
      clear f0 f1 f2 f3 f4 ff z0 z1 z2 z3 z4 zf o0 o1 o2 o3 o4 of
      clear c0 c1 c2 c3 c4
      obtain ⟨⟨f0, f1, f2, f3, f4⟩, ff⟩ := five_cells (heap_kept (HG2.out) HB.out)
      obtain ⟨⟨z0, z1, z2, z3, z4⟩, zf⟩ := five_cells (heap_kept (HG2.out) HZ.out)
      obtain ⟨⟨o0, o1, o2, o3, o4⟩, of⟩ := five_cells (HO2.out)
      obtain ⟨c0, c1, c2, c3, c4, _, _, _, _⟩ := HN.out.kept HG2.out
      go_wp2_with fail
      exact bodyPost_ret (results_pat (rb := w.heap.size + 1) rfl rfl (setPat_heap (heap_kept HG2.out HZ.out)) rfl) rfl (by rw [hqe]; exact own_end q (HQ.out.kept HG2.out) (by omega) (by omega) (HGw.out.trans HG2.out) (by omega) _ _ _ _ _)
set_option maxRecDepth 100000 in
set_option maxHeartbeats 2000000 in
theorem simple_k21c (t : ByteArray) (n : Int) (m : ByteArray) (l : List Pat) (kv : Value) (w : World) (h : SimpIn (.mk 21 t n m l) kv w) (e1 : (((l.map simple).getD 0 Pat.zero).kind == 15) = false) (e2 : (((l.map simple).getD 0 Pat.zero).kind == 17) = false) : Calls Tryd.prog 23 #[.agg #[.int .i64 21, .string t, .int .i64 n, .string m, kv]] w (SingleEnd w.heap.size (simple (.mk 21 t n m l)) w) := by
  have hkq := h.pat.pq.list
  obtain ⟨a, c, rfl, hlm⟩ := hkq.len
  have hlm : l.length ≤ maxLen := hlm
  have hkq : ListIn w (fun b => b < w.heap.size) (.slice a l.length c) l := hkq
  show Calls _ _ #[.agg #[_, _, _, _, .slice a l.length c]] _ _
  unfold maxLen at hlm
  have HNo := hidd ((errW_iff _).1 h.right).1
  have HT := hidd h.tab
  have HPn := hidd (And.intro h.pat.hn (And.intro h.pat.ht h.pat.hm))
  have HRt := hidd (And.intro h.right h.nodes)
  have HK := hidd (fun i (hi : i < l.length) w' (g : Grew w w') kv' (hv : PatV w' kv' (l.getD i Pat.zero)) => kid_end (h.kids (l.getD i Pat.zero) (by rw [List.getD_eq_getElem?_getD, List.getElem?_eq_getElem hi]; exact List.getElem_mem hi) kv' w' g hv))
  have HLq := hidd hkq
  have HW0 : Hid (Grew w ((w.alloc (.cells #[.int .i64 21, .string t, .int .i64 n, .string m, .slice a l.length c] 24)).alloc (.cells #[.int .i64 0, .string ⟨#[]⟩, .int .i64 0, .string ⟨#[]⟩, .slice none 0 0] 24)) ∧ ((w.alloc (.cells #[.int .i64 21, .string t, .int .i64 n, .string m, .slice a l.length c] 24)).alloc (.cells #[.int .i64 0, .string ⟨#[]⟩, .int .i64 0, .string ⟨#[]⟩, .slice none 0 0] 24)).heap[w.heap.size]? = some (.cells #[.int .i64 21, .string t, .int .i64 n, .string m, .slice a l.length c] 24 (0, 0)) ∧ ((w.alloc (.cells #[.int .i64 21, .string t, .int .i64 n, .string m, .slice a l.length c] 24)).alloc (.cells #[.int .i64 0, .string ⟨#[]⟩, .int .i64 0, .string ⟨#[]⟩, .slice none 0 0] 24)).heap[w.heap.size + 1]? = some (.cells #[.int .i64 0, .string ⟨#[]⟩, .int .i64 0, .string ⟨#[]⟩, .slice none 0 0] 24 (0, 0))) :=
    ⟨((Grew.refl w).alloc _).alloc _, heap_more (heap_alloc_new w _), heap_second w _ _⟩
  have hnl : l.length ≤ 4095 := by
    have h1 := h.nodes
    rw [nodesP] at h1
    have := length_le_nodes l
    omega
  have HX : Hid (simple (.mk 21 t n m l) = .mk 21 ByteArray.empty 0 m (l.map simple)) := by
    refine hidd ?_
    rw [simple, simpleL_map, make21]
    rw [if_neg (by unfold endsB; rw [e1, e2]; decide)]
  rw [HX.out]
  have HL1 : Hid (l.length = 1) := HNo.out.only (Or.inr (Or.inl rfl))
  have E1 := hidd e1
  have E2 := hidd e2
  clear e1 e2
  clear h hkq
  go_enter Tryd.func23, Tryd.ntmps23
  go_wp2_with fail
  go_loopw [3, 11] (fun s3 s11 wr => ∃ i : Nat, s11 = .int .i64 i ∧ i ≤ l.length ∧ Hid (PatsOwn wr (w.heap.size + 2) (w.heap.size + 2) s3 ((l.map simple).take i) ∧ Grew ((w.alloc (.cells #[.int .i64 21, .string t, .int .i64 n, .string m, .slice a l.length c] 24)).alloc (.cells #[.int .i64 0, .string ⟨#[]⟩, .int .i64 0, .string ⟨#[]⟩, .slice none 0 0] 24)) wr)) (fun _ s11 _ => l.length - (intOf s11).toNat)
  case atStart => exact ⟨0, rfl, by omega, PatsOwn.nil _ _ _, Grew.refl _⟩
  case round =>
    obtain ⟨i, rfl, hi, HD⟩ := hrel
    by_cases hlt : i < l.length
    · have HGw := hidd (HW0.out.1.trans HD.out.2)
      obtain ⟨b, o, kk, rfl, hnd, hq⟩ := (HLq.out.kept HGw.out).at hlt
      obtain ⟨ka, kn, kc, rfl⟩ := hq.form
      have HS := hidd (simple_take hlt)
      have HC := hidd (HK.out i hlt (wr.alloc (.cells #[.int .i64 (l.getD i Pat.zero).kind, .string (l.getD i Pat.zero).text, .int .i64 (l.getD i Pat.zero).n, .string (l.getD i Pat.zero).name, .slice ka kn kc] 24)) (HGw.out.alloc _) (.slice ka kn kc) (hq.kept ((Grew.refl wr).alloc _)).patV)
      obtain ⟨r, hr⟩ : ∃ r, l.getD i Pat.zero = r := ⟨_, rfl⟩
      rw [hr] at hnd HS HC
      obtain ⟨q, hqs⟩ : ∃ q, simple r = q := ⟨_, rfl⟩
      rw [hqs] at HS HC
      obtain ⟨c0, c1, c2, c3, c4, _, _, _, _⟩ := hnd
      have kl : decide ((i : Int) < (l.length : Int)) = true := decide_eq_true (by omega)
      have hsz := HGw.out.size
      clear hr hq hqs HK
      go_wp2_with fail
      refine HC.out.mono ?_; rintro e w2 ⟨qa, qn, qc, rfl, hq2, g2⟩
      have HG3 := hidd (((Grew.refl wr).alloc (.cells #[.int .i64 r.kind, .string r.text, .int .i64 r.n, .string r.name, .slice ka kn kc] 24)).trans g2)
      have hs0 : w.heap.size + 2 ≤ wr.heap.size := by have := HD.out.2.size; simpa using this
      have hl2 : ((l.map simple).take i).length = i := by rw [List.length_take, List.length_map]; omega
      obtain ⟨v', w', hap, ho, hbel, hgr⟩ := pats_append_one (HD.out.1.kept HG3.out) (Nat.le_trans hs0 HG3.out.size) hq2 (fun b hb _ => ⟨by rw [World.size_alloc] at hb; omega, fun e => by have := HD.out.1.blocks b e; rw [World.size_alloc] at hb; omega⟩) (by rw [hl2]; omega) 22 24
      have ho2 := ho
      rw [← HS.out] at ho2
      have HE := hidd (And.intro ho2 ((HD.out.2.trans HG3.out).below hbel (by simp)))
      clear ho ho2 hbel hgr g2 hq2
      go_wp2_with (at_builtin; refine wpList_append_eq rfl rfl rfl rfl hap ?_)
      go_roundw
      case rel => exact ⟨i + 1, by go_num, by omega, HE⟩
      case measure => simp [intOf]; omega
    · have hie : i = l.length := by omega
      have kl : decide ((i : Int) < (l.length : Int)) = false := decide_eq_false (by omega)
      have HE := hidd HD.out.1
      rw [show (l.map simple).take i = l.map simple from by rw [hie, show l.length = (l.map simple).length from (List.length_map _).symm, List.take_length]] at HE
      have HGw := hidd (HW0.out.1.trans HD.out.2)
      have HB := hidd (heap_kept HD.out.2 HW0.out.2.1)
      have HZ := hidd (heap_kept HD.out.2 HW0.out.2.2)
      have hsz := HGw.out.size
      clear HD hie HK HW0 HLq
      obtain ⟨⟨b0, b1, b2, b3, b4⟩, bf⟩ := five_cells HB.out
      obtain ⟨⟨f0, f1, f2, f3, f4⟩, ff⟩ := five_cells (heap_more (o := (.cells #[.int .i64 21, .string ⟨#[]⟩, .int .i64 0, .string ⟨#[]⟩, .slice none 0 0] 24)) HB.out)
      obtain ⟨⟨z0, z1, z2, z3, z4⟩, zf⟩ := five_cells (heap_more (o := (.cells #[.int .i64 21, .string ⟨#[]⟩, .int .i64 0, .string ⟨#[]⟩, .slice none 0 0] 24)) HZ.out)
      obtain ⟨⟨o0, o1, o2, o3, o4⟩, of⟩ := five_cells (heap_alloc_new wr (.cells #[.int .i64 21, .string ⟨#[]⟩, .int .i64 0, .string ⟨#[]⟩, .slice none 0 0] 24))
      have hl1 := HL1.out
      obtain ⟨a3, cc, rfl⟩ := HE.out.len
      obtain ⟨b, o, kk, rfl, hnd, hq⟩ := HE.out.list.at (i := 0) (by rw [List.length_map]; omega)
      obtain ⟨qa, qn, qc, rfl⟩ := hq.form
      have hll : (l.map simple).length = 1 := by rw [List.length_map]; exact hl1
      rw [hll]
      obtain ⟨q, hqe⟩ : ∃ q, (l.map simple).getD 0 Pat.zero = q := ⟨_, rfl⟩
      rw [hqe] at hnd hq E1 E2
      have HQ := hidd hq
      have HN := hidd (show NodeAt wr b o q (.slice qa qn qc) from by simpa using hnd)
      clear hq hnd
      obtain ⟨c0, c1, c2, c3, c4, _, _, _, _⟩ := HN.out.kept ((Grew.refl wr).alloc (.cells #[.int .i64 21, .string ⟨#[]⟩, .int .i64 0, .string ⟨#[]⟩, .slice none 0 0] 24))
      have HV := hidd (own_node HE.out (by omega) (p := .mk 21 ByteArray.empty 0 m (l.map simple)) (nums_leaf (by omega) zero_in none_size HPn.out.2.2) rfl (by omega))
      rw [hll] at HV
      have CF : Hid (∀ w, Calls Tryd.prog 44 #[.agg #[.int .i64 q.kind, .string q.text, .int .i64 q.n, .string q.name, .slice qa qn qc], .int .i64 15] w fun e w' => e = .returned (.bool false) ∧ Grew w w') := hidd fun w => by
        have := is_any q (.slice qa qn qc) 15 w; rw [E1.out] at this; exact this
      have CA : Hid (∀ w, Calls Tryd.prog 44 #[.agg #[.int .i64 q.kind, .string q.text, .int .i64 q.n, .string q.name, .slice qa qn qc], .int .i64 17] w fun e w' => e = .returned (.bool false) ∧ Grew w w') := hidd fun w => by
        have := is_any q (.slice qa qn qc) 17 w; rw [E2.out] at this; exact this
      go_wp2_with fail
      refine (CF.out _).mono ?_; rintro e w1 ⟨rfl, g1⟩
      have HG1 := hidd (((Grew.refl wr).alloc (.cells #[.int .i64 21, .string ⟨#[]⟩, .int .i64 0, .string ⟨#[]⟩, .slice none 0 0] 24)).trans g1)
      have HO1 := hidd (heap_kept g1 (heap_alloc_new wr (.cells #[.int .i64 21, .string ⟨#[]⟩, .int .i64 0, .string ⟨#[]⟩, .slice none 0 0] 24)))
      clear g1
      clear f0 f1 f2 f3 f4 ff z0 z1 z2 z3 z4 zf o0 o1 o2 o3 o4 of
      clear c0 c1 c2 c3 c4
      obtain ⟨⟨f0, f1, f2, f3, f4⟩, ff⟩ := five_cells (heap_kept (HG1.out) HB.out)
      obtain ⟨⟨z0, z1, z2, z3, z4⟩, zf⟩ := five_cells (heap_kept (HG1.out) HZ.out)
      obtain ⟨⟨o0, o1, o2, o3, o4⟩, of⟩ := five_cells (HO1.out)
      obtain ⟨c0, c1, c2, c3, c4, _, _, _, _⟩ := HN.out.kept HG1.out
      go_wp2_with fail
      refine (CA.out _).mono ?_; rintro e w2 ⟨rfl, g2⟩
      have HG2 := hidd (HG1.out.trans g2)
      have HO2 := hidd (heap_kept g2 HO1.out)
      clear g2
      clear f0 f1 f2 f3 f4 ff z0 z1 z2 z3 z4 zf o0 o1 o2 o3 o4 of
      clear c0 c1 c2 c3 c4
      obtain ⟨⟨f0, f1, f2, f3, f4⟩, ff⟩ := five_cells (heap_kept (HG2.out) HB.out)
      obtain ⟨⟨z0, z1, z2, z3, z4⟩, zf⟩ := five_cells (heap_kept (HG2.out) HZ.out)
      obtain ⟨⟨o0, o1, o2, o3, o4⟩, of⟩ := five_cells (HO2.out)
      obtain ⟨c0, c1, c2, c3, c4, _, _, _, _⟩ := HN.out.kept HG2.out
      obtain ⟨⟨f0', f1', f2', f3', f4'⟩, ff'⟩ := five_cells (heap_kept ((HG2.out.setOwn (b := wr.heap.size) (o := 3) (Nat.le_refl _) (.string m))) HB.out)
      obtain ⟨⟨z0', z1', z2', z3', z4'⟩, zf'⟩ := five_cells (heap_kept ((HG2.out.setOwn (b := wr.heap.size) (o := 3) (Nat.le_refl _) (.string m))) HZ.out)
      obtain ⟨⟨o0', o1', o2', o3', o4'⟩, of'⟩ := five_cells (setCell_heap_same HO2.out 3 (.string m))
      obtain ⟨⟨f0'', f1'', f2'', f3'', f4''⟩, ff''⟩ := five_cells (heap_kept (((HG2.out.setOwn (b := wr.heap.size) (o := 3) (Nat.le_refl _) (.string m)).setOwn (b := wr.heap.size) (o := 4) (Nat.le_refl _) (.slice (some ⟨b, o, none⟩) 1 cc))) HB.out)
      obtain ⟨⟨z0'', z1'', z2'', z3'', z4''⟩, zf''⟩ := five_cells (heap_kept (((HG2.out.setOwn (b := wr.heap.size) (o := 3) (Nat.le_refl _) (.string m)).setOwn (b := wr.heap.size) (o := 4) (Nat.le_refl _) (.slice (some ⟨b, o, none⟩) 1 cc))) HZ.out)
      obtain ⟨⟨o0'', o1'', o2'', o3'', o4''⟩, of''⟩ := five_cells (setCell_heap_same (setCell_heap_same HO2.out 3 (.string m)) 4 (.slice (some ⟨b, o, none⟩) 1 cc))
      go_wp2_with fail
      exact bodyPost_ret (results_pat (rb := w.heap.size + 1) rfl rfl (setPat_heap (heap_kept ((HG2.out.setOwn (b := wr.heap.size) (o := 3) (Nat.le_refl _) (.string m)).setOwn (b := wr.heap.size) (o := 4) (Nat.le_refl _) (.slice (some ⟨b, o, none⟩) 1 cc)) HZ.out)) rfl) rfl (own_end (.mk 21 ByteArray.empty 0 m (l.map simple)) (HV.out.kept ((HG2.out.setOwn (b := wr.heap.size) (o := 3) (Nat.le_refl _) (.string m)).setOwn (b := wr.heap.size) (o := 4) (Nat.le_refl _) (.slice (some ⟨b, o, none⟩) 1 cc))) (by omega) (by omega) (HGw.out.trans ((HG2.out.setOwn (b := wr.heap.size) (o := 3) (Nat.le_refl _) (.string m)).setOwn (b := wr.heap.size) (o := 4) (Nat.le_refl _) (.slice (some ⟨b, o, none⟩) 1 cc))) (by omega) _ _ _ _ _)
set_option maxRecDepth 100000 in
set_option maxHeartbeats 2000000 in
theorem simple_k22a (t : ByteArray) (n : Int) (m : ByteArray) (l : List Pat) (kv : Value) (w : World) (h : SimpIn (.mk 22 t n m l) kv w) (e1 : (((l.map simple).getD 0 Pat.zero).kind == 15) = true) : Calls Tryd.prog 23 #[.agg #[.int .i64 22, .string t, .int .i64 n, .string m, kv]] w (SingleEnd w.heap.size (simple (.mk 22 t n m l)) w) := by
  have hkq := h.pat.pq.list
  obtain ⟨a, c, rfl, hlm⟩ := hkq.len
  have hlm : l.length ≤ maxLen := hlm
  have hkq : ListIn w (fun b => b < w.heap.size) (.slice a l.length c) l := hkq
  show Calls _ _ #[.agg #[_, _, _, _, .slice a l.length c]] _ _
  unfold maxLen at hlm
  have HNo := hidd ((errW_iff _).1 h.right).1
  have HT := hidd h.tab
  have HPn := hidd (And.intro h.pat.hn (And.intro h.pat.ht h.pat.hm))
  have HRt := hidd (And.intro h.right h.nodes)
  have HK := hidd (fun i (hi : i < l.length) w' (g : Grew w w') kv' (hv : PatV w' kv' (l.getD i Pat.zero)) => kid_end (h.kids (l.getD i Pat.zero) (by rw [List.getD_eq_getElem?_getD, List.getElem?_eq_getElem hi]; exact List.getElem_mem hi) kv' w' g hv))
  have HLq := hidd hkq
  have HW0 : Hid (Grew w ((w.alloc (.cells #[.int .i64 22, .string t, .int .i64 n, .string m, .slice a l.length c] 24)).alloc (.cells #[.int .i64 0, .string ⟨#[]⟩, .int .i64 0, .string ⟨#[]⟩, .slice none 0 0] 24)) ∧ ((w.alloc (.cells #[.int .i64 22, .string t, .int .i64 n, .string m, .slice a l.length c] 24)).alloc (.cells #[.int .i64 0, .string ⟨#[]⟩, .int .i64 0, .string ⟨#[]⟩, .slice none 0 0] 24)).heap[w.heap.size]? = some (.cells #[.int .i64 22, .string t, .int .i64 n, .string m, .slice a l.length c] 24 (0, 0)) ∧ ((w.alloc (.cells #[.int .i64 22, .string t, .int .i64 n, .string m, .slice a l.length c] 24)).alloc (.cells #[.int .i64 0, .string ⟨#[]⟩, .int .i64 0, .string ⟨#[]⟩, .slice none 0 0] 24)).heap[w.heap.size + 1]? = some (.cells #[.int .i64 0, .string ⟨#[]⟩, .int .i64 0, .string ⟨#[]⟩, .slice none 0 0] 24 (0, 0))) :=
    ⟨((Grew.refl w).alloc _).alloc _, heap_more (heap_alloc_new w _), heap_second w _ _⟩
  have hnl : l.length ≤ 4095 := by
    have h1 := h.nodes
    rw [nodesP] at h1
    have := length_le_nodes l
    omega
  have HX : Hid (simple (.mk 22 t n m l) = ((l.map simple).getD 0 Pat.zero)) := by
    refine hidd ?_
    rw [simple, simpleL_map, make22]
    rw [if_pos (by unfold endsB; rw [e1]; rfl)]
  rw [HX.out]
  have HL1 : Hid (l.length = 1) := HNo.out.only (Or.inr (Or.inr rfl))
  have E1 := hidd e1
  clear e1
  clear h hkq
  go_enter Tryd.func23, Tryd.ntmps23
  go_wp2_with fail
  go_loopw [3, 11] (fun s3 s11 wr => ∃ i : Nat, s11 = .int .i64 i ∧ i ≤ l.length ∧ Hid (PatsOwn wr (w.heap.size + 2) (w.heap.size + 2) s3 ((l.map simple).take i) ∧ Grew ((w.alloc (.cells #[.int .i64 22, .string t, .int .i64 n, .string m, .slice a l.length c] 24)).alloc (.cells #[.int .i64 0, .string ⟨#[]⟩, .int .i64 0, .string ⟨#[]⟩, .slice none 0 0] 24)) wr)) (fun _ s11 _ => l.length - (intOf s11).toNat)
  case atStart => exact ⟨0, rfl, by omega, PatsOwn.nil _ _ _, Grew.refl _⟩
  case round =>
    obtain ⟨i, rfl, hi, HD⟩ := hrel
    by_cases hlt : i < l.length
    · have HGw := hidd (HW0.out.1.trans HD.out.2)
      obtain ⟨b, o, kk, rfl, hnd, hq⟩ := (HLq.out.kept HGw.out).at hlt
      obtain ⟨ka, kn, kc, rfl⟩ := hq.form
      have HS := hidd (simple_take hlt)
      have HC := hidd (HK.out i hlt (wr.alloc (.cells #[.int .i64 (l.getD i Pat.zero).kind, .string (l.getD i Pat.zero).text, .int .i64 (l.getD i Pat.zero).n, .string (l.getD i Pat.zero).name, .slice ka kn kc] 24)) (HGw.out.alloc _) (.slice ka kn kc) (hq.kept ((Grew.refl wr).alloc _)).patV)
      obtain ⟨r, hr⟩ : ∃ r, l.getD i Pat.zero = r := ⟨_, rfl⟩
      rw [hr] at hnd HS HC
      obtain ⟨q, hqs⟩ : ∃ q, simple r = q := ⟨_, rfl⟩
      rw [hqs] at HS HC
      obtain ⟨c0, c1, c2, c3, c4, _, _, _, _⟩ := hnd
      have kl : decide ((i : Int) < (l.length : Int)) = true := decide_eq_true (by omega)
      have hsz := HGw.out.size
      clear hr hq hqs HK
      go_wp2_with fail
      refine HC.out.mono ?_; rintro e w2 ⟨qa, qn, qc, rfl, hq2, g2⟩
      have HG3 := hidd (((Grew.refl wr).alloc (.cells #[.int .i64 r.kind, .string r.text, .int .i64 r.n, .string r.name, .slice ka kn kc] 24)).trans g2)
      have hs0 : w.heap.size + 2 ≤ wr.heap.size := by have := HD.out.2.size; simpa using this
      have hl2 : ((l.map simple).take i).length = i := by rw [List.length_take, List.length_map]; omega
      obtain ⟨v', w', hap, ho, hbel, hgr⟩ := pats_append_one (HD.out.1.kept HG3.out) (Nat.le_trans hs0 HG3.out.size) hq2 (fun b hb _ => ⟨by rw [World.size_alloc] at hb; omega, fun e => by have := HD.out.1.blocks b e; rw [World.size_alloc] at hb; omega⟩) (by rw [hl2]; omega) 22 24
      have ho2 := ho
      rw [← HS.out] at ho2
      have HE := hidd (And.intro ho2 ((HD.out.2.trans HG3.out).below hbel (by simp)))
      clear ho ho2 hbel hgr g2 hq2
      go_wp2_with (at_builtin; refine wpList_append_eq rfl rfl rfl rfl hap ?_)
      go_roundw
      case rel => exact ⟨i + 1, by go_num, by omega, HE⟩
      case measure => simp [intOf]; omega
    · have hie : i = l.length := by omega
      have kl : decide ((i : Int) < (l.length : Int)) = false := decide_eq_false (by omega)
      have HE := hidd HD.out.1
      rw [show (l.map simple).take i = l.map simple from by rw [hie, show l.length = (l.map simple).length from (List.length_map _).symm, List.take_length]] at HE
      have HGw := hidd (HW0.out.1.trans HD.out.2)
      have HB := hidd (heap_kept HD.out.2 HW0.out.2.1)
      have HZ := hidd (heap_kept HD.out.2 HW0.out.2.2)
      have hsz := HGw.out.size
      clear HD hie HK HW0 HLq
      obtain ⟨⟨b0, b1, b2, b3, b4⟩, bf⟩ := five_cells HB.out
      obtain ⟨⟨f0, f1, f2, f3, f4⟩, ff⟩ := five_cells (heap_more (o := (.cells #[.int .i64 22, .string ⟨#[]⟩, .int .i64 0, .string ⟨#[]⟩, .slice none 0 0] 24)) HB.out)
      obtain ⟨⟨z0, z1, z2, z3, z4⟩, zf⟩ := five_cells (heap_more (o := (.cells #[.int .i64 22, .string ⟨#[]⟩, .int .i64 0, .string ⟨#[]⟩, .slice none 0 0] 24)) HZ.out)
      obtain ⟨⟨o0, o1, o2, o3, o4⟩, of⟩ := five_cells (heap_alloc_new wr (.cells #[.int .i64 22, .string ⟨#[]⟩, .int .i64 0, .string ⟨#[]⟩, .slice none 0 0] 24))
      have hl1 := HL1.out
      obtain ⟨a3, cc, rfl⟩ := HE.out.len
      obtain ⟨b, o, kk, rfl, hnd, hq⟩ := HE.out.list.at (i := 0) (by rw [List.length_map]; omega)
      obtain ⟨qa, qn, qc, rfl⟩ := hq.form
      have hll : (l.map simple).length = 1 := by rw [List.length_map]; exact hl1
      rw [hll]
      obtain ⟨q, hqe⟩ : ∃ q, (l.map simple).getD 0 Pat.zero = q := ⟨_, rfl⟩
      rw [hqe] at hnd hq E1
      have HQ := hidd hq
      have HN := hidd (show NodeAt wr b o q (.slice qa qn qc) from by simpa using hnd)
      clear hq hnd
      obtain ⟨c0, c1, c2, c3, c4, _, _, _, _⟩ := HN.out.kept ((Grew.refl wr).alloc (.cells #[.int .i64 22, .string ⟨#[]⟩, .int .i64 0, .string ⟨#[]⟩, .slice none 0 0] 24))
      have CF : Hid (∀ w, Calls Tryd.prog 44 #[.agg #[.int .i64 q.kind, .string q.text, .int .i64 q.n, .string q.name, .slice qa qn qc], .int .i64 15] w fun e w' => e = .returned (.bool true) ∧ Grew w w') := hidd fun w => by
        have := is_any q (.slice qa qn qc) 15 w; rw [E1.out] at this; exact this
      go_wp2_with fail
      refine (CF.out _).mono ?_; rintro e w1 ⟨rfl, g1⟩
      have HG1 := hidd (((Grew.refl wr).alloc (.cells #[.int .i64 22, .string ⟨#[]⟩, .int .i64 0, .string ⟨#[]⟩, .slice none 0 0] 24)).trans g1)
      have HO1 := hidd (heap_kept g1 (heap_alloc_new wr (.cells #[.int .i64 22, .string ⟨#[]⟩, .int .i64 0, .string ⟨#[]⟩, .slice none 0 0] 24)))
      clear g1
      clear f0 f1 f2 f3 f4 ff z0 z1 z2 z3 z4 zf o0 o1 o2 o3 o4 of
      clear c0 c1 c2 c3 c4
      obtain ⟨⟨f0, f1, f2, f3, f4⟩, ff⟩ := five_cells (heap_kept (HG1.out) HB.out)
      obtain ⟨⟨z0, z1, z2, z3, z4⟩, zf⟩ := five_cells (heap_kept (HG1.out) HZ.out)
      obtain ⟨⟨o0, o1, o2, o3, o4⟩, of⟩ := five_cells (HO1.out)
      obtain ⟨c0, c1, c2, c3, c4, _, _, _, _⟩ := HN.out.kept HG1.out
      go_wp2_with fail
      exact bodyPost_ret (results_pat (rb := w.heap.size + 1) rfl rfl (setPat_heap (heap_kept HG1.out HZ.out)) rfl) rfl (by rw [hqe]; exact own_end q (HQ.out.kept HG1.out) (by omega) (by omega) (HGw.out.trans HG1.out) (by omega) _ _ _ _ _)
set_option maxRecDepth 100000 in
set_option maxHeartbeats 2000000 in
theorem simple_k22b (t : ByteArray) (n : Int) (m : ByteArray) (l : List Pat) (kv : Value) (w : World) (h : SimpIn (.mk 22 t n m l) kv w) (e1 : (((l.map simple).getD 0 Pat.zero).kind == 15) = false) (e2 : (((l.map simple).getD 0 Pat.zero).kind == 17) = true) : Calls Tryd.prog 23 #[.agg #[.int .i64 22, .string t, .int .i64 n, .string m, kv]] w (SingleEnd w.heap.size (simple (.mk 22 t n m l)) w) := by
  have hkq := h.pat.pq.list
  obtain ⟨a, c, rfl, hlm⟩ := hkq.len
  have hlm : l.length ≤ maxLen := hlm
  have hkq : ListIn w (fun b => b < w.heap.size) (.slice a l.length c) l := hkq
  show Calls _ _ #[.agg #[_, _, _, _, .slice a l.length c]] _ _
  unfold maxLen at hlm
  have HNo := hidd ((errW_iff _).1 h.right).1
  have HT := hidd h.tab
  have HPn := hidd (And.intro h.pat.hn (And.intro h.pat.ht h.pat.hm))
  have HRt := hidd (And.intro h.right h.nodes)
  have HK := hidd (fun i (hi : i < l.length) w' (g : Grew w w') kv' (hv : PatV w' kv' (l.getD i Pat.zero)) => kid_end (h.kids (l.getD i Pat.zero) (by rw [List.getD_eq_getElem?_getD, List.getElem?_eq_getElem hi]; exact List.getElem_mem hi) kv' w' g hv))
  have HLq := hidd hkq
  have HW0 : Hid (Grew w ((w.alloc (.cells #[.int .i64 22, .string t, .int .i64 n, .string m, .slice a l.length c] 24)).alloc (.cells #[.int .i64 0, .string ⟨#[]⟩, .int .i64 0, .string ⟨#[]⟩, .slice none 0 0] 24)) ∧ ((w.alloc (.cells #[.int .i64 22, .string t, .int .i64 n, .string m, .slice a l.length c] 24)).alloc (.cells #[.int .i64 0, .string ⟨#[]⟩, .int .i64 0, .string ⟨#[]⟩, .slice none 0 0] 24)).heap[w.heap.size]? = some (.cells #[.int .i64 22, .string t, .int .i64 n, .string m, .slice a l.length c] 24 (0, 0)) ∧ ((w.alloc (.cells #[.int .i64 22, .string t, .int .i64 n, .string m, .slice a l.length c] 24)).alloc (.cells #[.int .i64 0, .string ⟨#[]⟩, .int .i64 0, .string ⟨#[]⟩, .slice none 0 0] 24)).heap[w.heap.size + 1]? = some (.cells #[.int .i64 0, .string ⟨#[]⟩, .int .i64 0, .string ⟨#[]⟩, .slice none 0 0] 24 (0, 0))) :=
    ⟨((Grew.refl w).alloc _).alloc _, heap_more (heap_alloc_new w _), heap_second w _ _⟩
  have hnl : l.length ≤ 4095 := by
    have h1 := h.nodes
    rw [nodesP] at h1
    have := length_le_nodes l
    omega
  have HX : Hid (simple (.mk 22 t n m l) = ((l.map simple).getD 0 Pat.zero)) := by
    refine hidd ?_
    rw [simple, simpleL_map, make22]
    rw [if_pos (by unfold endsB; rw [e1, e2]; rfl)]
  rw [HX.out]
  have HL1 : Hid (l.length = 1) := HNo.out.only (Or.inr (Or.inr rfl))
  have E1 := hidd e1
  have E2 := hidd e2
  clear e1 e2
  clear h hkq
  go_enter Tryd.func23, Tryd.ntmps23
  go_wp2_with fail
  go_loopw [3, 11] (fun s3 s11 wr => ∃ i : Nat, s11 = .int .i64 i ∧ i ≤ l.length ∧ Hid (PatsOwn wr (w.heap.size + 2) (w.heap.size + 2) s3 ((l.map simple).take i) ∧ Grew ((w.alloc (.cells #[.int .i64 22, .string t, .int .i64 n, .string m, .slice a l.length c] 24)).alloc (.cells #[.int .i64 0, .string ⟨#[]⟩, .int .i64 0, .string ⟨#[]⟩, .slice none 0 0] 24)) wr)) (fun _ s11 _ => l.length - (intOf s11).toNat)
  case atStart => exact ⟨0, rfl, by omega, PatsOwn.nil _ _ _, Grew.refl _⟩
  case round =>
    obtain ⟨i, rfl, hi, HD⟩ := hrel
    by_cases hlt : i < l.length
    · have HGw := hidd (HW0.out.1.trans HD.out.2)
      obtain ⟨b, o, kk, rfl, hnd, hq⟩ := (HLq.out.kept HGw.out).at hlt
      obtain ⟨ka, kn, kc, rfl⟩ := hq.form
      have HS := hidd (simple_take hlt)
      have HC := hidd (HK.out i hlt (wr.alloc (.cells #[.int .i64 (l.getD i Pat.zero).kind, .string (l.getD i Pat.zero).text, .int .i64 (l.getD i Pat.zero).n, .string (l.getD i Pat.zero).name, .slice ka kn kc] 24)) (HGw.out.alloc _) (.slice ka kn kc) (hq.kept ((Grew.refl wr).alloc _)).patV)
      obtain ⟨r, hr⟩ : ∃ r, l.getD i Pat.zero = r := ⟨_, rfl⟩
      rw [hr] at hnd HS HC
      obtain ⟨q, hqs⟩ : ∃ q, simple r = q := ⟨_, rfl⟩
      rw [hqs] at HS HC
      obtain ⟨c0, c1, c2, c3, c4, _, _, _, _⟩ := hnd
      have kl : decide ((i : Int) < (l.length : Int)) = true := decide_eq_true (by omega)
      have hsz := HGw.out.size
      clear hr hq hqs HK
      go_wp2_with fail
      refine HC.out.mono ?_; rintro e w2 ⟨qa, qn, qc, rfl, hq2, g2⟩
      have HG3 := hidd (((Grew.refl wr).alloc (.cells #[.int .i64 r.kind, .string r.text, .int .i64 r.n, .string r.name, .slice ka kn kc] 24)).trans g2)
      have hs0 : w.heap.size + 2 ≤ wr.heap.size := by have := HD.out.2.size; simpa using this
      have hl2 : ((l.map simple).take i).length = i := by rw [List.length_take, List.length_map]; omega
      obtain ⟨v', w', hap, ho, hbel, hgr⟩ := pats_append_one (HD.out.1.kept HG3.out) (Nat.le_trans hs0 HG3.out.size) hq2 (fun b hb _ => ⟨by rw [World.size_alloc] at hb; omega, fun e => by have := HD.out.1.blocks b e; rw [World.size_alloc] at hb; omega⟩) (by rw [hl2]; omega) 22 24
      have ho2 := ho
      rw [← HS.out] at ho2
      have HE := hidd (And.intro ho2 ((HD.out.2.trans HG3.out).below hbel (by simp)))
      clear ho ho2 hbel hgr g2 hq2
      go_wp2_with (at_builtin; refine wpList_append_eq rfl rfl rfl rfl hap ?_)
      go_roundw
      case rel => exact ⟨i + 1, by go_num, by omega, HE⟩
      case measure => simp [intOf]; omega
    · have hie : i = l.length := by omega
      have kl : decide ((i : Int) < (l.length : Int)) = false := decide_eq_false (by omega)
      have HE := hidd HD.out.1
      rw [show (l.map simple).take i = l.map simple from by rw [hie, show l.length = (l.map simple).length from (List.length_map _).symm, List.take_length]] at HE
      have HGw := hidd (HW0.out.1.trans HD.out.2)
      have HB := hidd (heap_kept HD.out.2 HW0.out.2.1)
      have HZ := hidd (heap_kept HD.out.2 HW0.out.2.2)
      have hsz := HGw.out.size
      clear HD hie HK HW0 HLq
      obtain ⟨⟨b0, b1, b2, b3, b4⟩, bf⟩ := five_cells HB.out
      obtain ⟨⟨f0, f1, f2, f3, f4⟩, ff⟩ := five_cells (heap_more (o := (.cells #[.int .i64 22, .string ⟨#[]⟩, .int .i64 0, .string ⟨#[]⟩, .slice none 0 0] 24)) HB.out)
      obtain ⟨⟨z0, z1, z2, z3, z4⟩, zf⟩ := five_cells (heap_more (o := (.cells #[.int .i64 22, .string ⟨#[]⟩, .int .i64 0, .string ⟨#[]⟩, .slice none 0 0] 24)) HZ.out)
      obtain ⟨⟨o0, o1, o2, o3, o4⟩, of⟩ := five_cells (heap_alloc_new wr (.cells #[.int .i64 22, .string ⟨#[]⟩, .int .i64 0, .string ⟨#[]⟩, .slice none 0 0] 24))
      have hl1 := HL1.out
      obtain ⟨a3, cc, rfl⟩ := HE.out.len
      obtain ⟨b, o, kk, rfl, hnd, hq⟩ := HE.out.list.at (i := 0) (by rw [List.length_map]; omega)
      obtain ⟨qa, qn, qc, rfl⟩ := hq.form
      have hll : (l.map simple).length = 1 := by rw [List.length_map]; exact hl1
      rw [hll]
      obtain ⟨q, hqe⟩ : ∃ q, (l.map simple).getD 0 Pat.zero = q := ⟨_, rfl⟩
      rw [hqe] at hnd hq E1 E2
      have HQ := hidd hq
      have HN := hidd (show NodeAt wr b o q (.slice qa qn qc) from by simpa using hnd)
      clear hq hnd
      obtain ⟨c0, c1, c2, c3, c4, _, _, _, _⟩ := HN.out.kept ((Grew.refl wr).alloc (.cells #[.int .i64 22, .string ⟨#[]⟩, .int .i64 0, .string ⟨#[]⟩, .slice none 0 0] 24))
      have CF : Hid (∀ w, Calls Tryd.prog 44 #[.agg #[.int .i64 q.kind, .string q.text, .int .i64 q.n, .string q.name, .slice qa qn qc], .int .i64 15] w fun e w' => e = .returned (.bool false) ∧ Grew w w') := hidd fun w => by
        have := is_any q (.slice qa qn qc) 15 w; rw [E1.out] at this; exact this
      have CA : Hid (∀ w, Calls Tryd.prog 44 #[.agg #[.int .i64 q.kind, .string q.text, .int .i64 q.n, .string q.name, .slice qa qn qc], .int .i64 17] w fun e w' => e = .returned (.bool true) ∧ Grew w w') := hidd fun w => by
        have := is_any q (.slice qa qn qc) 17 w; rw [E2.out] at this; exact this
      go_wp2_with fail
      refine (CF.out _).mono ?_; rintro e w1 ⟨rfl, g1⟩
      have HG1 := hidd (((Grew.refl wr).alloc (.cells #[.int .i64 22, .string ⟨#[]⟩, .int .i64 0, .string ⟨#[]⟩, .slice none 0 0] 24)).trans g1)
      have HO1 := hidd (heap_kept g1 (heap_alloc_new wr (.cells #[.int .i64 22, .string ⟨#[]⟩, .int .i64 0, .string ⟨#[]⟩, .slice none 0 0] 24)))
      clear g1
      clear f0 f1 f2 f3 f4 ff z0 z1 z2 z3 z4 zf o0 o1 o2 o3 o4 of
      clear c0 c1 c2 c3 c4
      obtain ⟨⟨f0, f1, f2, f3, f4⟩, ff⟩ := five_cells (heap_kept (HG1.out) HB.out)
      obtain ⟨⟨z0, z1, z2, z3, z4⟩, zf⟩ := five_cells (heap_kept (HG1.out) HZ.out)
      obtain ⟨⟨o0, o1, o2, o3, o4⟩, of⟩ := five_cells (HO1.out)
      obtain ⟨c0, c1, c2, c3, c4, _, _, _, _⟩ := HN.out.kept HG1.out
      go_wp2_with fail
      refine (CA.out _).mono ?_; rintro e w2 ⟨rfl, g2⟩
      have HG2 := hidd (HG1.out.trans g2)
      have HO2 := hidd (heap_kept g2 HO1.out)
      clear g2
      clear f0 f1 f2 f3 f4 ff z0 z1 z2 z3 z4 zf o0 o1 o2 o3 o4 of
      clear c0 c1 c2 c3 c4
      obtain ⟨⟨f0, f1, f2, f3, f4⟩, ff⟩ := five_cells (heap_kept (HG2.out) HB.out)
      obtain ⟨⟨z0, z1, z2, z3, z4⟩, zf⟩ := five_cells (heap_kept (HG2.out) HZ.out)
      obtain ⟨⟨o0, o1, o2, o3, o4⟩, of⟩ := five_cells (HO2.out)
      obtain ⟨c0, c1, c2, c3, c4, _, _, _, _⟩ := HN.out.kept HG2.out
      go_wp2_with fail
      exact bodyPost_ret (results_pat (rb := w.heap.size + 1) rfl rfl (setPat_heap (heap_kept HG2.out HZ.out)) rfl) rfl (by rw [hqe]; exact own_end q (HQ.out.kept HG2.out) (by omega) (by omega) (HGw.out.trans HG2.out) (by omega) _ _ _ _ _)
set_option maxRecDepth 100000 in
set_option maxHeartbeats 2000000 in
theorem simple_k22c (t : ByteArray) (n : Int) (m : ByteArray) (l : List Pat) (kv : Value) (w : World) (h : SimpIn (.mk 22 t n m l) kv w) (e1 : (((l.map simple).getD 0 Pat.zero).kind == 15) = false) (e2 : (((l.map simple).getD 0 Pat.zero).kind == 17) = false) : Calls Tryd.prog 23 #[.agg #[.int .i64 22, .string t, .int .i64 n, .string m, kv]] w (SingleEnd w.heap.size (simple (.mk 22 t n m l)) w) := by
  have hkq := h.pat.pq.list
  obtain ⟨a, c, rfl, hlm⟩ := hkq.len
  have hlm : l.length ≤ maxLen := hlm
  have hkq : ListIn w (fun b => b < w.heap.size) (.slice a l.length c) l := hkq
  show Calls _ _ #[.agg #[_, _, _, _, .slice a l.length c]] _ _
  unfold maxLen at hlm
  have HNo := hidd ((errW_iff _).1 h.right).1
  have HT := hidd h.tab
  have HPn := hidd (And.intro h.pat.hn (And.intro h.pat.ht h.pat.hm))
  have HRt := hidd (And.intro h.right h.nodes)
  have HK := hidd (fun i (hi : i < l.length) w' (g : Grew w w') kv' (hv : PatV w' kv' (l.getD i Pat.zero)) => kid_end (h.kids (l.getD i Pat.zero) (by rw [List.getD_eq_getElem?_getD, List.getElem?_eq_getElem hi]; exact List.getElem_mem hi) kv' w' g hv))
  have HLq := hidd hkq
  have HW0 : Hid (Grew w ((w.alloc (.cells #[.int .i64 22, .string t, .int .i64 n, .string m, .slice a l.length c] 24)).alloc (.cells #[.int .i64 0, .string ⟨#[]⟩, .int .i64 0, .string ⟨#[]⟩, .slice none 0 0] 24)) ∧ ((w.alloc (.cells #[.int .i64 22, .string t, .int .i64 n, .string m, .slice a l.length c] 24)).alloc (.cells #[.int .i64 0, .string ⟨#[]⟩, .int .i64 0, .string ⟨#[]⟩, .slice none 0 0] 24)).heap[w.heap.size]? = some (.cells #[.int .i64 22, .string t, .int .i64 n, .string m, .slice a l.length c] 24 (0, 0)) ∧ ((w.alloc (.cells #[.int .i64 22, .string t, .int .i64 n, .string m, .slice a l.length c] 24)).alloc (.cells #[.int .i64 0, .string ⟨#[]⟩, .int .i64 0, .string ⟨#[]⟩, .slice none 0 0] 24)).heap[w.heap.size + 1]? = some (.cells #[.int .i64 0, .string ⟨#[]⟩, .int .i64 0, .string ⟨#[]⟩, .slice none 0 0] 24 (0, 0))) :=
    ⟨((Grew.refl w).alloc _).alloc _, heap_more (heap_alloc_new w _), heap_second w _ _⟩
  have hnl : l.length ≤ 4095 := by
    have h1 := h.nodes
    rw [nodesP] at h1
    have := length_le_nodes l
    omega
  have HX : Hid (simple (.mk 22 t n m l) = .mk 22 ByteArray.empty 0 m (l.map simple)) := by
    refine hidd ?_
    rw [simple, simpleL_map, make22]
    rw [if_neg (by unfold endsB; rw [e1, e2]; decide)]
  rw [HX.out]
  have HL1 : Hid (l.length = 1) := HNo.out.only (Or.inr (Or.inr rfl))
  have E1 := hidd e1
  have E2 := hidd e2
  clear e1 e2
  clear h hkq
  go_enter Tryd.func23, Tryd.ntmps23
  go_wp2_with fail
  go_loopw [3, 11] (fun s3 s11 wr => ∃ i : Nat, s11 = .int .i64 i ∧ i ≤ l.length ∧ Hid (PatsOwn wr (w.heap.size + 2) (w.heap.size + 2) s3 ((l.map simple).take i) ∧ Grew ((w.alloc (.cells #[.int .i64 22, .string t, .int .i64 n, .string m, .slice a l.length c] 24)).alloc (.cells #[.int .i64 0, .string ⟨#[]⟩, .int .i64 0, .string ⟨#[]⟩, .slice none 0 0] 24)) wr)) (fun _ s11 _ => l.length - (intOf s11).toNat)
  case atStart => exact ⟨0, rfl, by omega, PatsOwn.nil _ _ _, Grew.refl _⟩
  case round =>
    obtain ⟨i, rfl, hi, HD⟩ := hrel
    by_cases hlt : i < l.length
    · have HGw := hidd (HW0.out.1.trans HD.out.2)
      obtain ⟨b, o, kk, rfl, hnd, hq⟩ := (HLq.out.kept HGw.out).at hlt
      obtain ⟨ka, kn, kc, rfl⟩ := hq.form
      have HS := hidd (simple_take hlt)
      have HC := hidd (HK.out i hlt (wr.alloc (.cells #[.int .i64 (l.getD i Pat.zero).kind, .string (l.getD i Pat.zero).text, .int .i64 (l.getD i Pat.zero).n, .string (l.getD i Pat.zero).name, .slice ka kn kc] 24)) (HGw.out.alloc _) (.slice ka kn kc) (hq.kept ((Grew.refl wr).alloc _)).patV)
      obtain ⟨r, hr⟩ : ∃ r, l.getD i Pat.zero = r := ⟨_, rfl⟩
      rw [hr] at hnd HS HC
      obtain ⟨q, hqs⟩ : ∃ q, simple r = q := ⟨_, rfl⟩
      rw [hqs] at HS HC
      obtain ⟨c0, c1, c2, c3, c4, _, _, _, _⟩ := hnd
      have kl : decide ((i : Int) < (l.length : Int)) = true := decide_eq_true (by omega)
      have hsz := HGw.out.size
      clear hr hq hqs HK
      go_wp2_with fail
      refine HC.out.mono ?_; rintro e w2 ⟨qa, qn, qc, rfl, hq2, g2⟩
      have HG3 := hidd (((Grew.refl wr).alloc (.cells #[.int .i64 r.kind, .string r.text, .int .i64 r.n, .string r.name, .slice ka kn kc] 24)).trans g2)
      have hs0 : w.heap.size + 2 ≤ wr.heap.size := by have := HD.out.2.size; simpa using this
      have hl2 : ((l.map simple).take i).length = i := by rw [List.length_take, List.length_map]; omega
      obtain ⟨v', w', hap, ho, hbel, hgr⟩ := pats_append_one (HD.out.1.kept HG3.out) (Nat.le_trans hs0 HG3.out.size) hq2 (fun b hb _ => ⟨by rw [World.size_alloc] at hb; omega, fun e => by have := HD.out.1.blocks b e; rw [World.size_alloc] at hb; omega⟩) (by rw [hl2]; omega) 22 24
      have ho2 := ho
      rw [← HS.out] at ho2
      have HE := hidd (And.intro ho2 ((HD.out.2.trans HG3.out).below hbel (by simp)))
      clear ho ho2 hbel hgr g2 hq2
      go_wp2_with (at_builtin; refine wpList_append_eq rfl rfl rfl rfl hap ?_)
      go_roundw
      case rel => exact ⟨i + 1, by go_num, by omega, HE⟩
      case measure => simp [intOf]; omega
    · have hie : i = l.length := by omega
      have kl : decide ((i : Int) < (l.length : Int)) = false := decide_eq_false (by omega)
      have HE := hidd HD.out.1
      rw [show (l.map simple).take i = l.map simple from by rw [hie, show l.length = (l.map simple).length from (List.length_map _).symm, List.take_length]] at HE
      have HGw := hidd (HW0.out.1.trans HD.out.2)
      have HB := hidd (heap_kept HD.out.2 HW0.out.2.1)
      have HZ := hidd (heap_kept HD.out.2 HW0.out.2.2)
      have hsz := HGw.out.size
      clear HD hie HK HW0 HLq
      obtain ⟨⟨b0, b1, b2, b3, b4⟩, bf⟩ := five_cells HB.out
      obtain ⟨⟨f0, f1, f2, f3, f4⟩, ff⟩ := five_cells (heap_more (o := (.cells #[.int .i64 22, .string ⟨#[]⟩, .int .i64 0, .string ⟨#[]⟩, .slice none 0 0] 24)) HB.out)
      obtain ⟨⟨z0, z1, z2, z3, z4⟩, zf⟩ := five_cells (heap_more (o := (.cells #[.int .i64 22, .string ⟨#[]⟩, .int .i64 0, .string ⟨#[]⟩, .slice none 0 0] 24)) HZ.out)
      obtain ⟨⟨o0, o1, o2, o3, o4⟩, of⟩ := five_cells (heap_alloc_new wr (.cells #[.int .i64 22, .string ⟨#[]⟩, .int .i64 0, .string ⟨#[]⟩, .slice none 0 0] 24))
      have hl1 := HL1.out
      obtain ⟨a3, cc, rfl⟩ := HE.out.len
      obtain ⟨b, o, kk, rfl, hnd, hq⟩ := HE.out.list.at (i := 0) (by rw [List.length_map]; omega)
      obtain ⟨qa, qn, qc, rfl⟩ := hq.form
      have hll : (l.map simple).length = 1 := by rw [List.length_map]; exact hl1
      rw [hll]
      obtain ⟨q, hqe⟩ : ∃ q, (l.map simple).getD 0 Pat.zero = q := ⟨_, rfl⟩
      rw [hqe] at hnd hq E1 E2
      have HQ := hidd hq
      have HN := hidd (show NodeAt wr b o q (.slice qa qn qc) from by simpa using hnd)
      clear hq hnd
      obtain ⟨c0, c1, c2, c3, c4, _, _, _, _⟩ := HN.out.kept ((Grew.refl wr).alloc (.cells #[.int .i64 22, .string ⟨#[]⟩, .int .i64 0, .string ⟨#[]⟩, .slice none 0 0] 24))
      have HV := hidd (own_node HE.out (by omega) (p := .mk 22 ByteArray.empty 0 m (l.map simple)) (nums_leaf (by omega) zero_in none_size HPn.out.2.2) rfl (by omega))
      rw [hll] at HV
      have CF : Hid (∀ w, Calls Tryd.prog 44 #[.agg #[.int .i64 q.kind, .string q.text, .int .i64 q.n, .string q.name, .slice qa qn qc], .int .i64 15] w fun e w' => e = .returned (.bool false) ∧ Grew w w') := hidd fun w => by
        have := is_any q (.slice qa qn qc) 15 w; rw [E1.out] at this; exact this
      have CA : Hid (∀ w, Calls Tryd.prog 44 #[.agg #[.int .i64 q.kind, .string q.text, .int .i64 q.n, .string q.name, .slice qa qn qc], .int .i64 17] w fun e w' => e = .returned (.bool false) ∧ Grew w w') := hidd fun w => by
        have := is_any q (.slice qa qn qc) 17 w; rw [E2.out] at this; exact this
      go_wp2_with fail
      refine (CF.out _).mono ?_; rintro e w1 ⟨rfl, g1⟩
      have HG1 := hidd (((Grew.refl wr).alloc (.cells #[.int .i64 22, .string ⟨#[]⟩, .int .i64 0, .string ⟨#[]⟩, .slice none 0 0] 24)).trans g1)
      have HO1 := hidd (heap_kept g1 (heap_alloc_new wr (.cells #[.int .i64 22, .string ⟨#[]⟩, .int .i64 0, .string ⟨#[]⟩, .slice none 0 0] 24)))
      clear g1
      clear f0 f1 f2 f3 f4 ff z0 z1 z2 z3 z4 zf o0 o1 o2 o3 o4 of
      clear c0 c1 c2 c3 c4
      obtain ⟨⟨f0, f1, f2, f3, f4⟩, ff⟩ := five_cells (heap_kept (HG1.out) HB.out)
      obtain ⟨⟨z0, z1, z2, z3, z4⟩, zf⟩ := five_cells (heap_kept (HG1.out) HZ.out)
      obtain ⟨⟨o0, o1, o2, o3, o4⟩, of⟩ := five_cells (HO1.out)
      obtain ⟨c0, c1, c2, c3, c4, _, _, _, _⟩ := HN.out.kept HG1.out
      go_wp2_with fail
      refine (CA.out _).mono ?_; rintro e w2 ⟨rfl, g2⟩
      have HG2 := hidd (HG1.out.trans g2)
      have HO2 := hidd (heap_kept g2 HO1.out)
      clear g2
      clear f0 f1 f2 f3 f4 ff z0 z1 z2 z3 z4 zf o0 o1 o2 o3 o4 of
      clear c0 c1 c2 c3 c4
      obtain ⟨⟨f0, f1, f2, f3, f4⟩, ff⟩ := five_cells (heap_kept (HG2.out) HB.out)
      obtain ⟨⟨z0, z1, z2, z3, z4⟩, zf⟩ := five_cells (heap_kept (HG2.out) HZ.out)
      obtain ⟨⟨o0, o1, o2, o3, o4⟩, of⟩ := five_cells (HO2.out)
      obtain ⟨c0, c1, c2, c3, c4, _, _, _, _⟩ := HN.out.kept HG2.out
      obtain ⟨⟨f0', f1', f2', f3', f4'⟩, ff'⟩ := five_cells (heap_kept ((HG2.out.setOwn (b := wr.heap.size) (o := 3) (Nat.le_refl _) (.string m))) HB.out)
      obtain ⟨⟨z0', z1', z2', z3', z4'⟩, zf'⟩ := five_cells (heap_kept ((HG2.out.setOwn (b := wr.heap.size) (o := 3) (Nat.le_refl _) (.string m))) HZ.out)
      obtain ⟨⟨o0', o1', o2', o3', o4'⟩, of'⟩ := five_cells (setCell_heap_same HO2.out 3 (.string m))
      obtain ⟨⟨f0'', f1'', f2'', f3'', f4''⟩, ff''⟩ := five_cells (heap_kept (((HG2.out.setOwn (b := wr.heap.size) (o := 3) (Nat.le_refl _) (.string m)).setOwn (b := wr.heap.size) (o := 4) (Nat.le_refl _) (.slice (some ⟨b, o, none⟩) 1 cc))) HB.out)
      obtain ⟨⟨z0'', z1'', z2'', z3'', z4''⟩, zf''⟩ := five_cells (heap_kept (((HG2.out.setOwn (b := wr.heap.size) (o := 3) (Nat.le_refl _) (.string m)).setOwn (b := wr.heap.size) (o := 4) (Nat.le_refl _) (.slice (some ⟨b, o, none⟩) 1 cc))) HZ.out)
      obtain ⟨⟨o0'', o1'', o2'', o3'', o4''⟩, of''⟩ := five_cells (setCell_heap_same (setCell_heap_same HO2.out 3 (.string m)) 4 (.slice (some ⟨b, o, none⟩) 1 cc))
      go_wp2_with fail
      exact bodyPost_ret (results_pat (rb := w.heap.size + 1) rfl rfl (setPat_heap (heap_kept ((HG2.out.setOwn (b := wr.heap.size) (o := 3) (Nat.le_refl _) (.string m)).setOwn (b := wr.heap.size) (o := 4) (Nat.le_refl _) (.slice (some ⟨b, o, none⟩) 1 cc)) HZ.out)) rfl) rfl (own_end (.mk 22 ByteArray.empty 0 m (l.map simple)) (HV.out.kept ((HG2.out.setOwn (b := wr.heap.size) (o := 3) (Nat.le_refl _) (.string m)).setOwn (b := wr.heap.size) (o := 4) (Nat.le_refl _) (.slice (some ⟨b, o, none⟩) 1 cc))) (by omega) (by omega) (HGw.out.trans ((HG2.out.setOwn (b := wr.heap.size) (o := 3) (Nat.le_refl _) (.string m)).setOwn (b := wr.heap.size) (o := 4) (Nat.le_refl _) (.slice (some ⟨b, o, none⟩) 1 cc))) (by omega) _ _ _ _ _)
end Go.Proofs.YtmcfoefhenmjeaaDoor
