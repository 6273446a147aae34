/- tune: simple, some kinds. Printed. -/
import Derived.Test.YtmcfoefhenmjeaaDoorTnMerge
/-! tune: simple, some kinds. Printed. -/
namespace Go.Proofs.YtmcfoefhenmjeaaDoor
open Go.RowKit
set_option linter.unusedVariables false
set_option maxRecDepth 100000 in
set_option maxHeartbeats 1000000 in
theorem simple_k12 (t : ByteArray) (n : Int) (m : ByteArray) (l : List Pat) (kv : Value) (w : World) (h : SimpIn (.mk 12 t n m l) kv w) : Calls Tryd.prog 23 #[.agg #[.int .i64 12, .string t, .int .i64 n, .string m, kv]] w (SingleEnd w.heap.size (simple (.mk 12 t n m l)) w) := by
  have hkq := h.pat.pq.list
  obtain ⟨a, c, rfl, hlm⟩ := hkq.len
  have hlm : l.length ≤ maxLen := hlm
  have hkq : ListIn w (fun b => b < w.heap.size) (.slice a l.length c) l := hkq
  show Calls _ _ #[.agg #[_, _, _, _, .slice a l.length c]] _ _
  unfold maxLen at hlm
  have HNo := hidd ((errW_iff _).1 h.right).1
  have HT := hidd h.tab
  have HPn := hidd (And.intro h.pat.hn (And.intro h.pat.ht h.pat.hm))
  have HRt := hidd (And.intro h.right h.nodes)
  have HK := hidd (fun i (hi : i < l.length) w' (g : Grew w w') kv' (hv : PatV w' kv' (l.getD i Pat.zero)) => kid_end (h.kids (l.getD i Pat.zero) (by rw [List.getD_eq_getElem?_getD, List.getElem?_eq_getElem hi]; exact List.getElem_mem hi) kv' w' g hv))
  have HLq := hidd hkq
  have HW0 : Hid (Grew w ((w.alloc (.cells #[.int .i64 12, .string t, .int .i64 n, .string m, .slice a l.length c] 24)).alloc (.cells #[.int .i64 0, .string ⟨#[]⟩, .int .i64 0, .string ⟨#[]⟩, .slice none 0 0] 24)) ∧ ((w.alloc (.cells #[.int .i64 12, .string t, .int .i64 n, .string m, .slice a l.length c] 24)).alloc (.cells #[.int .i64 0, .string ⟨#[]⟩, .int .i64 0, .string ⟨#[]⟩, .slice none 0 0] 24)).heap[w.heap.size]? = some (.cells #[.int .i64 12, .string t, .int .i64 n, .string m, .slice a l.length c] 24 (0, 0)) ∧ ((w.alloc (.cells #[.int .i64 12, .string t, .int .i64 n, .string m, .slice a l.length c] 24)).alloc (.cells #[.int .i64 0, .string ⟨#[]⟩, .int .i64 0, .string ⟨#[]⟩, .slice none 0 0] 24)).heap[w.heap.size + 1]? = some (.cells #[.int .i64 0, .string ⟨#[]⟩, .int .i64 0, .string ⟨#[]⟩, .slice none 0 0] 24 (0, 0))) :=
    ⟨((Grew.refl w).alloc _).alloc _, heap_more (heap_alloc_new w _), heap_second w _ _⟩
  have hnl : l.length ≤ 4095 := by
    have h1 := h.nodes
    rw [nodesP] at h1
    have := length_le_nodes l
    omega
  have HX : Hid (simple (.mk 12 t n m l) = bareP 12) := by
    show makeP _ _ _ _ _ = _
    unfold makeP
    simp
  rw [HX.out]
  clear h hkq
  go_enter Tryd.func23, Tryd.ntmps23
  go_wp2_with fail
  go_loopw [3, 11] (fun s3 s11 wr => ∃ i : Nat, s11 = .int .i64 i ∧ i ≤ l.length ∧ Hid (PatsOwn wr (w.heap.size + 2) (w.heap.size + 2) s3 ((l.map simple).take i) ∧ Grew ((w.alloc (.cells #[.int .i64 12, .string t, .int .i64 n, .string m, .slice a l.length c] 24)).alloc (.cells #[.int .i64 0, .string ⟨#[]⟩, .int .i64 0, .string ⟨#[]⟩, .slice none 0 0] 24)) wr)) (fun _ s11 _ => l.length - (intOf s11).toNat)
  case atStart => exact ⟨0, rfl, by omega, PatsOwn.nil _ _ _, Grew.refl _⟩
  case round =>
    obtain ⟨i, rfl, hi, HD⟩ := hrel
    by_cases hlt : i < l.length
    · have HGw := hidd (HW0.out.1.trans HD.out.2)
      obtain ⟨b, o, kk, rfl, hnd, hq⟩ := (HLq.out.kept HGw.out).at hlt
      obtain ⟨ka, kn, kc, rfl⟩ := hq.form
      have HS := hidd (simple_take hlt)
      have HC := hidd (HK.out i hlt (wr.alloc (.cells #[.int .i64 (l.getD i Pat.zero).kind, .string (l.getD i Pat.zero).text, .int .i64 (l.getD i Pat.zero).n, .string (l.getD i Pat.zero).name, .slice ka kn kc] 24)) (HGw.out.alloc _) (.slice ka kn kc) (hq.kept ((Grew.refl wr).alloc _)).patV)
      obtain ⟨r, hr⟩ : ∃ r, l.getD i Pat.zero = r := ⟨_, rfl⟩
      rw [hr] at hnd HS HC
      obtain ⟨q, hqs⟩ : ∃ q, simple r = q := ⟨_, rfl⟩
      rw [hqs] at HS HC
      obtain ⟨c0, c1, c2, c3, c4, _, _, _, _⟩ := hnd
      have kl : decide ((i : Int) < (l.length : Int)) = true := decide_eq_true (by omega)
      have hsz := HGw.out.size
      clear hr hq hqs HK
      go_wp2_with fail
      refine HC.out.mono ?_; rintro e w2 ⟨qa, qn, qc, rfl, hq2, g2⟩
      have HG3 := hidd (((Grew.refl wr).alloc (.cells #[.int .i64 r.kind, .string r.text, .int .i64 r.n, .string r.name, .slice ka kn kc] 24)).trans g2)
      have hs0 : w.heap.size + 2 ≤ wr.heap.size := by have := HD.out.2.size; simpa using this
      have hl2 : ((l.map simple).take i).length = i := by rw [List.length_take, List.length_map]; omega
      obtain ⟨v', w', hap, ho, hbel, hgr⟩ := pats_append_one (HD.out.1.kept HG3.out) (Nat.le_trans hs0 HG3.out.size) hq2 (fun b hb _ => ⟨by rw [World.size_alloc] at hb; omega, fun e => by have := HD.out.1.blocks b e; rw [World.size_alloc] at hb; omega⟩) (by rw [hl2]; omega) 22 24
      have ho2 := ho
      rw [← HS.out] at ho2
      have HE := hidd (And.intro ho2 ((HD.out.2.trans HG3.out).below hbel (by simp)))
      clear ho ho2 hbel hgr g2 hq2
      go_wp2_with (at_builtin; refine wpList_append_eq rfl rfl rfl rfl hap ?_)
      go_roundw
      case rel => exact ⟨i + 1, by go_num, by omega, HE⟩
      case measure => simp [intOf]; omega
    · have hie : i = l.length := by omega
      have kl : decide ((i : Int) < (l.length : Int)) = false := decide_eq_false (by omega)
      have HE := hidd HD.out.1
      rw [show (l.map simple).take i = l.map simple from by rw [hie, show l.length = (l.map simple).length from (List.length_map _).symm, List.take_length]] at HE
      have HGw := hidd (HW0.out.1.trans HD.out.2)
      have HB := hidd (heap_kept HD.out.2 HW0.out.2.1)
      have HZ := hidd (heap_kept HD.out.2 HW0.out.2.2)
      have hsz := HGw.out.size
      clear HD hie HK HW0 HLq
      obtain ⟨⟨b0, b1, b2, b3, b4⟩, bf⟩ := five_cells HB.out
      obtain ⟨⟨f0, f1, f2, f3, f4⟩, ff⟩ := five_cells (heap_more (o := (.cells #[.int .i64 12, .string ⟨#[]⟩, .int .i64 0, .string ⟨#[]⟩, .slice none 0 0] 24)) HB.out)
      obtain ⟨⟨z0, z1, z2, z3, z4⟩, zf⟩ := five_cells (heap_more (o := (.cells #[.int .i64 12, .string ⟨#[]⟩, .int .i64 0, .string ⟨#[]⟩, .slice none 0 0] 24)) HZ.out)
      obtain ⟨⟨o0, o1, o2, o3, o4⟩, of⟩ := five_cells (heap_alloc_new wr (.cells #[.int .i64 12, .string ⟨#[]⟩, .int .i64 0, .string ⟨#[]⟩, .slice none 0 0] 24))
      go_wp2_with fail
      exact bodyPost_ret (results_pat (rb := w.heap.size + 1) rfl rfl (setPat_heap (heap_kept ((Grew.refl wr).alloc _) HZ.out)) rfl) rfl (leaf_end (bareP 12) (nums_leaf (by omega) zero_in none_size none_size) rfl (setPat_grew (HGw.out.trans ((Grew.refl wr).alloc _)) (by omega) _ _ _ _ _))
set_option maxRecDepth 100000 in
set_option maxHeartbeats 1000000 in
theorem simple_k13 (t : ByteArray) (n : Int) (m : ByteArray) (l : List Pat) (kv : Value) (w : World) (h : SimpIn (.mk 13 t n m l) kv w) : Calls Tryd.prog 23 #[.agg #[.int .i64 13, .string t, .int .i64 n, .string m, kv]] w (SingleEnd w.heap.size (simple (.mk 13 t n m l)) w) := by
  have hkq := h.pat.pq.list
  obtain ⟨a, c, rfl, hlm⟩ := hkq.len
  have hlm : l.length ≤ maxLen := hlm
  have hkq : ListIn w (fun b => b < w.heap.size) (.slice a l.length c) l := hkq
  show Calls _ _ #[.agg #[_, _, _, _, .slice a l.length c]] _ _
  unfold maxLen at hlm
  have HNo := hidd ((errW_iff _).1 h.right).1
  have HT := hidd h.tab
  have HPn := hidd (And.intro h.pat.hn (And.intro h.pat.ht h.pat.hm))
  have HRt := hidd (And.intro h.right h.nodes)
  have HK := hidd (fun i (hi : i < l.length) w' (g : Grew w w') kv' (hv : PatV w' kv' (l.getD i Pat.zero)) => kid_end (h.kids (l.getD i Pat.zero) (by rw [List.getD_eq_getElem?_getD, List.getElem?_eq_getElem hi]; exact List.getElem_mem hi) kv' w' g hv))
  have HLq := hidd hkq
  have HW0 : Hid (Grew w ((w.alloc (.cells #[.int .i64 13, .string t, .int .i64 n, .string m, .slice a l.length c] 24)).alloc (.cells #[.int .i64 0, .string ⟨#[]⟩, .int .i64 0, .string ⟨#[]⟩, .slice none 0 0] 24)) ∧ ((w.alloc (.cells #[.int .i64 13, .string t, .int .i64 n, .string m, .slice a l.length c] 24)).alloc (.cells #[.int .i64 0, .string ⟨#[]⟩, .int .i64 0, .string ⟨#[]⟩, .slice none 0 0] 24)).heap[w.heap.size]? = some (.cells #[.int .i64 13, .string t, .int .i64 n, .string m, .slice a l.length c] 24 (0, 0)) ∧ ((w.alloc (.cells #[.int .i64 13, .string t, .int .i64 n, .string m, .slice a l.length c] 24)).alloc (.cells #[.int .i64 0, .string ⟨#[]⟩, .int .i64 0, .string ⟨#[]⟩, .slice none 0 0] 24)).heap[w.heap.size + 1]? = some (.cells #[.int .i64 0, .string ⟨#[]⟩, .int .i64 0, .string ⟨#[]⟩, .slice none 0 0] 24 (0, 0))) :=
    ⟨((Grew.refl w).alloc _).alloc _, heap_more (heap_alloc_new w _), heap_second w _ _⟩
  have hnl : l.length ≤ 4095 := by
    have h1 := h.nodes
    rw [nodesP] at h1
    have := length_le_nodes l
    omega
  have HX : Hid (simple (.mk 13 t n m l) = bareP 13) := by
    show makeP _ _ _ _ _ = _
    unfold makeP
    simp
  rw [HX.out]
  clear h hkq
  go_enter Tryd.func23, Tryd.ntmps23
  go_wp2_with fail
  go_loopw [3, 11] (fun s3 s11 wr => ∃ i : Nat, s11 = .int .i64 i ∧ i ≤ l.length ∧ Hid (PatsOwn wr (w.heap.size + 2) (w.heap.size + 2) s3 ((l.map simple).take i) ∧ Grew ((w.alloc (.cells #[.int .i64 13, .string t, .int .i64 n, .string m, .slice a l.length c] 24)).alloc (.cells #[.int .i64 0, .string ⟨#[]⟩, .int .i64 0, .string ⟨#[]⟩, .slice none 0 0] 24)) wr)) (fun _ s11 _ => l.length - (intOf s11).toNat)
  case atStart => exact ⟨0, rfl, by omega, PatsOwn.nil _ _ _, Grew.refl _⟩
  case round =>
    obtain ⟨i, rfl, hi, HD⟩ := hrel
    by_cases hlt : i < l.length
    · have HGw := hidd (HW0.out.1.trans HD.out.2)
      obtain ⟨b, o, kk, rfl, hnd, hq⟩ := (HLq.out.kept HGw.out).at hlt
      obtain ⟨ka, kn, kc, rfl⟩ := hq.form
      have HS := hidd (simple_take hlt)
      have HC := hidd (HK.out i hlt (wr.alloc (.cells #[.int .i64 (l.getD i Pat.zero).kind, .string (l.getD i Pat.zero).text, .int .i64 (l.getD i Pat.zero).n, .string (l.getD i Pat.zero).name, .slice ka kn kc] 24)) (HGw.out.alloc _) (.slice ka kn kc) (hq.kept ((Grew.refl wr).alloc _)).patV)
      obtain ⟨r, hr⟩ : ∃ r, l.getD i Pat.zero = r := ⟨_, rfl⟩
      rw [hr] at hnd HS HC
      obtain ⟨q, hqs⟩ : ∃ q, simple r = q := ⟨_, rfl⟩
      rw [hqs] at HS HC
      obtain ⟨c0, c1, c2, c3, c4, _, _, _, _⟩ := hnd
      have kl : decide ((i : Int) < (l.length : Int)) = true := decide_eq_true (by omega)
      have hsz := HGw.out.size
      clear hr hq hqs HK
      go_wp2_with fail
      refine HC.out.mono ?_; rintro e w2 ⟨qa, qn, qc, rfl, hq2, g2⟩
      have HG3 := hidd (((Grew.refl wr).alloc (.cells #[.int .i64 r.kind, .string r.text, .int .i64 r.n, .string r.name, .slice ka kn kc] 24)).trans g2)
      have hs0 : w.heap.size + 2 ≤ wr.heap.size := by have := HD.out.2.size; simpa using this
      have hl2 : ((l.map simple).take i).length = i := by rw [List.length_take, List.length_map]; omega
      obtain ⟨v', w', hap, ho, hbel, hgr⟩ := pats_append_one (HD.out.1.kept HG3.out) (Nat.le_trans hs0 HG3.out.size) hq2 (fun b hb _ => ⟨by rw [World.size_alloc] at hb; omega, fun e => by have := HD.out.1.blocks b e; rw [World.size_alloc] at hb; omega⟩) (by rw [hl2]; omega) 22 24
      have ho2 := ho
      rw [← HS.out] at ho2
      have HE := hidd (And.intro ho2 ((HD.out.2.trans HG3.out).below hbel (by simp)))
      clear ho ho2 hbel hgr g2 hq2
      go_wp2_with (at_builtin; refine wpList_append_eq rfl rfl rfl rfl hap ?_)
      go_roundw
      case rel => exact ⟨i + 1, by go_num, by omega, HE⟩
      case measure => simp [intOf]; omega
    · have hie : i = l.length := by omega
      have kl : decide ((i : Int) < (l.length : Int)) = false := decide_eq_false (by omega)
      have HE := hidd HD.out.1
      rw [show (l.map simple).take i = l.map simple from by rw [hie, show l.length = (l.map simple).length from (List.length_map _).symm, List.take_length]] at HE
      have HGw := hidd (HW0.out.1.trans HD.out.2)
      have HB := hidd (heap_kept HD.out.2 HW0.out.2.1)
      have HZ := hidd (heap_kept HD.out.2 HW0.out.2.2)
      have hsz := HGw.out.size
      clear HD hie HK HW0 HLq
      obtain ⟨⟨b0, b1, b2, b3, b4⟩, bf⟩ := five_cells HB.out
      obtain ⟨⟨f0, f1, f2, f3, f4⟩, ff⟩ := five_cells (heap_more (o := (.cells #[.int .i64 13, .string ⟨#[]⟩, .int .i64 0, .string ⟨#[]⟩, .slice none 0 0] 24)) HB.out)
      obtain ⟨⟨z0, z1, z2, z3, z4⟩, zf⟩ := five_cells (heap_more (o := (.cells #[.int .i64 13, .string ⟨#[]⟩, .int .i64 0, .string ⟨#[]⟩, .slice none 0 0] 24)) HZ.out)
      obtain ⟨⟨o0, o1, o2, o3, o4⟩, of⟩ := five_cells (heap_alloc_new wr (.cells #[.int .i64 13, .string ⟨#[]⟩, .int .i64 0, .string ⟨#[]⟩, .slice none 0 0] 24))
      go_wp2_with fail
      exact bodyPost_ret (results_pat (rb := w.heap.size + 1) rfl rfl (setPat_heap (heap_kept ((Grew.refl wr).alloc _) HZ.out)) rfl) rfl (leaf_end (bareP 13) (nums_leaf (by omega) zero_in none_size none_size) rfl (setPat_grew (HGw.out.trans ((Grew.refl wr).alloc _)) (by omega) _ _ _ _ _))
set_option maxRecDepth 100000 in
set_option maxHeartbeats 1000000 in
theorem simple_k14 (t : ByteArray) (n : Int) (m : ByteArray) (l : List Pat) (kv : Value) (w : World) (h : SimpIn (.mk 14 t n m l) kv w) : Calls Tryd.prog 23 #[.agg #[.int .i64 14, .string t, .int .i64 n, .string m, kv]] w (SingleEnd w.heap.size (simple (.mk 14 t n m l)) w) := by
  have hkq := h.pat.pq.list
  obtain ⟨a, c, rfl, hlm⟩ := hkq.len
  have hlm : l.length ≤ maxLen := hlm
  have hkq : ListIn w (fun b => b < w.heap.size) (.slice a l.length c) l := hkq
  show Calls _ _ #[.agg #[_, _, _, _, .slice a l.length c]] _ _
  unfold maxLen at hlm
  have HNo := hidd ((errW_iff _).1 h.right).1
  have HT := hidd h.tab
  have HPn := hidd (And.intro h.pat.hn (And.intro h.pat.ht h.pat.hm))
  have HRt := hidd (And.intro h.right h.nodes)
  have HK := hidd (fun i (hi : i < l.length) w' (g : Grew w w') kv' (hv : PatV w' kv' (l.getD i Pat.zero)) => kid_end (h.kids (l.getD i Pat.zero) (by rw [List.getD_eq_getElem?_getD, List.getElem?_eq_getElem hi]; exact List.getElem_mem hi) kv' w' g hv))
  have HLq := hidd hkq
  have HW0 : Hid (Grew w ((w.alloc (.cells #[.int .i64 14, .string t, .int .i64 n, .string m, .slice a l.length c] 24)).alloc (.cells #[.int .i64 0, .string ⟨#[]⟩, .int .i64 0, .string ⟨#[]⟩, .slice none 0 0] 24)) ∧ ((w.alloc (.cells #[.int .i64 14, .string t, .int .i64 n, .string m, .slice a l.length c] 24)).alloc (.cells #[.int .i64 0, .string ⟨#[]⟩, .int .i64 0, .string ⟨#[]⟩, .slice none 0 0] 24)).heap[w.heap.size]? = some (.cells #[.int .i64 14, .string t, .int .i64 n, .string m, .slice a l.length c] 24 (0, 0)) ∧ ((w.alloc (.cells #[.int .i64 14, .string t, .int .i64 n, .string m, .slice a l.length c] 24)).alloc (.cells #[.int .i64 0, .string ⟨#[]⟩, .int .i64 0, .string ⟨#[]⟩, .slice none 0 0] 24)).heap[w.heap.size + 1]? = some (.cells #[.int .i64 0, .string ⟨#[]⟩, .int .i64 0, .string ⟨#[]⟩, .slice none 0 0] 24 (0, 0))) :=
    ⟨((Grew.refl w).alloc _).alloc _, heap_more (heap_alloc_new w _), heap_second w _ _⟩
  have hnl : l.length ≤ 4095 := by
    have h1 := h.nodes
    rw [nodesP] at h1
    have := length_le_nodes l
    omega
  have HX : Hid (simple (.mk 14 t n m l) = bareP 14) := by
    show makeP _ _ _ _ _ = _
    unfold makeP
    simp
  rw [HX.out]
  clear h hkq
  go_enter Tryd.func23, Tryd.ntmps23
  go_wp2_with fail
  go_loopw [3, 11] (fun s3 s11 wr => ∃ i : Nat, s11 = .int .i64 i ∧ i ≤ l.length ∧ Hid (PatsOwn wr (w.heap.size + 2) (w.heap.size + 2) s3 ((l.map simple).take i) ∧ Grew ((w.alloc (.cells #[.int .i64 14, .string t, .int .i64 n, .string m, .slice a l.length c] 24)).alloc (.cells #[.int .i64 0, .string ⟨#[]⟩, .int .i64 0, .string ⟨#[]⟩, .slice none 0 0] 24)) wr)) (fun _ s11 _ => l.length - (intOf s11).toNat)
  case atStart => exact ⟨0, rfl, by omega, PatsOwn.nil _ _ _, Grew.refl _⟩
  case round =>
    obtain ⟨i, rfl, hi, HD⟩ := hrel
    by_cases hlt : i < l.length
    · have HGw := hidd (HW0.out.1.trans HD.out.2)
      obtain ⟨b, o, kk, rfl, hnd, hq⟩ := (HLq.out.kept HGw.out).at hlt
      obtain ⟨ka, kn, kc, rfl⟩ := hq.form
      have HS := hidd (simple_take hlt)
      have HC := hidd (HK.out i hlt (wr.alloc (.cells #[.int .i64 (l.getD i Pat.zero).kind, .string (l.getD i Pat.zero).text, .int .i64 (l.getD i Pat.zero).n, .string (l.getD i Pat.zero).name, .slice ka kn kc] 24)) (HGw.out.alloc _) (.slice ka kn kc) (hq.kept ((Grew.refl wr).alloc _)).patV)
      obtain ⟨r, hr⟩ : ∃ r, l.getD i Pat.zero = r := ⟨_, rfl⟩
      rw [hr] at hnd HS HC
      obtain ⟨q, hqs⟩ : ∃ q, simple r = q := ⟨_, rfl⟩
      rw [hqs] at HS HC
      obtain ⟨c0, c1, c2, c3, c4, _, _, _, _⟩ := hnd
      have kl : decide ((i : Int) < (l.length : Int)) = true := decide_eq_true (by omega)
      have hsz := HGw.out.size
      clear hr hq hqs HK
      go_wp2_with fail
      refine HC.out.mono ?_; rintro e w2 ⟨qa, qn, qc, rfl, hq2, g2⟩
      have HG3 := hidd (((Grew.refl wr).alloc (.cells #[.int .i64 r.kind, .string r.text, .int .i64 r.n, .string r.name, .slice ka kn kc] 24)).trans g2)
      have hs0 : w.heap.size + 2 ≤ wr.heap.size := by have := HD.out.2.size; simpa using this
      have hl2 : ((l.map simple).take i).length = i := by rw [List.length_take, List.length_map]; omega
      obtain ⟨v', w', hap, ho, hbel, hgr⟩ := pats_append_one (HD.out.1.kept HG3.out) (Nat.le_trans hs0 HG3.out.size) hq2 (fun b hb _ => ⟨by rw [World.size_alloc] at hb; omega, fun e => by have := HD.out.1.blocks b e; rw [World.size_alloc] at hb; omega⟩) (by rw [hl2]; omega) 22 24
      have ho2 := ho
      rw [← HS.out] at ho2
      have HE := hidd (And.intro ho2 ((HD.out.2.trans HG3.out).below hbel (by simp)))
      clear ho ho2 hbel hgr g2 hq2
      go_wp2_with (at_builtin; refine wpList_append_eq rfl rfl rfl rfl hap ?_)
      go_roundw
      case rel => exact ⟨i + 1, by go_num, by omega, HE⟩
      case measure => simp [intOf]; omega
    · have hie : i = l.length := by omega
      have kl : decide ((i : Int) < (l.length : Int)) = false := decide_eq_false (by omega)
      have HE := hidd HD.out.1
      rw [show (l.map simple).take i = l.map simple from by rw [hie, show l.length = (l.map simple).length from (List.length_map _).symm, List.take_length]] at HE
      have HGw := hidd (HW0.out.1.trans HD.out.2)
      have HB := hidd (heap_kept HD.out.2 HW0.out.2.1)
      have HZ := hidd (heap_kept HD.out.2 HW0.out.2.2)
      have hsz := HGw.out.size
      clear HD hie HK HW0 HLq
      obtain ⟨⟨b0, b1, b2, b3, b4⟩, bf⟩ := five_cells HB.out
      obtain ⟨⟨f0, f1, f2, f3, f4⟩, ff⟩ := five_cells (heap_more (o := (.cells #[.int .i64 14, .string ⟨#[]⟩, .int .i64 0, .string ⟨#[]⟩, .slice none 0 0] 24)) HB.out)
      obtain ⟨⟨z0, z1, z2, z3, z4⟩, zf⟩ := five_cells (heap_more (o := (.cells #[.int .i64 14, .string ⟨#[]⟩, .int .i64 0, .string ⟨#[]⟩, .slice none 0 0] 24)) HZ.out)
      obtain ⟨⟨o0, o1, o2, o3, o4⟩, of⟩ := five_cells (heap_alloc_new wr (.cells #[.int .i64 14, .string ⟨#[]⟩, .int .i64 0, .string ⟨#[]⟩, .slice none 0 0] 24))
      go_wp2_with fail
      exact bodyPost_ret (results_pat (rb := w.heap.size + 1) rfl rfl (setPat_heap (heap_kept ((Grew.refl wr).alloc _) HZ.out)) rfl) rfl (leaf_end (bareP 14) (nums_leaf (by omega) zero_in none_size none_size) rfl (setPat_grew (HGw.out.trans ((Grew.refl wr).alloc _)) (by omega) _ _ _ _ _))
set_option maxRecDepth 100000 in
set_option maxHeartbeats 1000000 in
theorem simple_k15 (t : ByteArray) (n : Int) (m : ByteArray) (l : List Pat) (kv : Value) (w : World) (h : SimpIn (.mk 15 t n m l) kv w) : Calls Tryd.prog 23 #[.agg #[.int .i64 15, .string t, .int .i64 n, .string m, kv]] w (SingleEnd w.heap.size (simple (.mk 15 t n m l)) w) := by
  have hkq := h.pat.pq.list
  obtain ⟨a, c, rfl, hlm⟩ := hkq.len
  have hlm : l.length ≤ maxLen := hlm
  have hkq : ListIn w (fun b => b < w.heap.size) (.slice a l.length c) l := hkq
  show Calls _ _ #[.agg #[_, _, _, _, .slice a l.length c]] _ _
  unfold maxLen at hlm
  have HNo := hidd ((errW_iff _).1 h.right).1
  have HT := hidd h.tab
  have HPn := hidd (And.intro h.pat.hn (And.intro h.pat.ht h.pat.hm))
  have HRt := hidd (And.intro h.right h.nodes)
  have HK := hidd (fun i (hi : i < l.length) w' (g : Grew w w') kv' (hv : PatV w' kv' (l.getD i Pat.zero)) => kid_end (h.kids (l.getD i Pat.zero) (by rw [List.getD_eq_getElem?_getD, List.getElem?_eq_getElem hi]; exact List.getElem_mem hi) kv' w' g hv))
  have HLq := hidd hkq
  have HW0 : Hid (Grew w ((w.alloc (.cells #[.int .i64 15, .string t, .int .i64 n, .string m, .slice a l.length c] 24)).alloc (.cells #[.int .i64 0, .string ⟨#[]⟩, .int .i64 0, .string ⟨#[]⟩, .slice none 0 0] 24)) ∧ ((w.alloc (.cells #[.int .i64 15, .string t, .int .i64 n, .string m, .slice a l.length c] 24)).alloc (.cells #[.int .i64 0, .string ⟨#[]⟩, .int .i64 0, .string ⟨#[]⟩, .slice none 0 0] 24)).heap[w.heap.size]? = some (.cells #[.int .i64 15, .string t, .int .i64 n, .string m, .slice a l.length c] 24 (0, 0)) ∧ ((w.alloc (.cells #[.int .i64 15, .string t, .int .i64 n, .string m, .slice a l.length c] 24)).alloc (.cells #[.int .i64 0, .string ⟨#[]⟩, .int .i64 0, .string ⟨#[]⟩, .slice none 0 0] 24)).heap[w.heap.size + 1]? = some (.cells #[.int .i64 0, .string ⟨#[]⟩, .int .i64 0, .string ⟨#[]⟩, .slice none 0 0] 24 (0, 0))) :=
    ⟨((Grew.refl w).alloc _).alloc _, heap_more (heap_alloc_new w _), heap_second w _ _⟩
  have hnl : l.length ≤ 4095 := by
    have h1 := h.nodes
    rw [nodesP] at h1
    have := length_le_nodes l
    omega
  have HX : Hid (simple (.mk 15 t n m l) = bareP 15) := by
    show makeP _ _ _ _ _ = _
    unfold makeP
    simp
  rw [HX.out]
  clear h hkq
  go_enter Tryd.func23, Tryd.ntmps23
  go_wp2_with fail
  go_loopw [3, 11] (fun s3 s11 wr => ∃ i : Nat, s11 = .int .i64 i ∧ i ≤ l.length ∧ Hid (PatsOwn wr (w.heap.size + 2) (w.heap.size + 2) s3 ((l.map simple).take i) ∧ Grew ((w.alloc (.cells #[.int .i64 15, .string t, .int .i64 n, .string m, .slice a l.length c] 24)).alloc (.cells #[.int .i64 0, .string ⟨#[]⟩, .int .i64 0, .string ⟨#[]⟩, .slice none 0 0] 24)) wr)) (fun _ s11 _ => l.length - (intOf s11).toNat)
  case atStart => exact ⟨0, rfl, by omega, PatsOwn.nil _ _ _, Grew.refl _⟩
  case round =>
    obtain ⟨i, rfl, hi, HD⟩ := hrel
    by_cases hlt : i < l.length
    · have HGw := hidd (HW0.out.1.trans HD.out.2)
      obtain ⟨b, o, kk, rfl, hnd, hq⟩ := (HLq.out.kept HGw.out).at hlt
      obtain ⟨ka, kn, kc, rfl⟩ := hq.form
      have HS := hidd (simple_take hlt)
      have HC := hidd (HK.out i hlt (wr.alloc (.cells #[.int .i64 (l.getD i Pat.zero).kind, .string (l.getD i Pat.zero).text, .int .i64 (l.getD i Pat.zero).n, .string (l.getD i Pat.zero).name, .slice ka kn kc] 24)) (HGw.out.alloc _) (.slice ka kn kc) (hq.kept ((Grew.refl wr).alloc _)).patV)
      obtain ⟨r, hr⟩ : ∃ r, l.getD i Pat.zero = r := ⟨_, rfl⟩
      rw [hr] at hnd HS HC
      obtain ⟨q, hqs⟩ : ∃ q, simple r = q := ⟨_, rfl⟩
      rw [hqs] at HS HC
      obtain ⟨c0, c1, c2, c3, c4, _, _, _, _⟩ := hnd
      have kl : decide ((i : Int) < (l.length : Int)) = true := decide_eq_true (by omega)
      have hsz := HGw.out.size
      clear hr hq hqs HK
      go_wp2_with fail
      refine HC.out.mono ?_; rintro e w2 ⟨qa, qn, qc, rfl, hq2, g2⟩
      have HG3 := hidd (((Grew.refl wr).alloc (.cells #[.int .i64 r.kind, .string r.text, .int .i64 r.n, .string r.name, .slice ka kn kc] 24)).trans g2)
      have hs0 : w.heap.size + 2 ≤ wr.heap.size := by have := HD.out.2.size; simpa using this
      have hl2 : ((l.map simple).take i).length = i := by rw [List.length_take, List.length_map]; omega
      obtain ⟨v', w', hap, ho, hbel, hgr⟩ := pats_append_one (HD.out.1.kept HG3.out) (Nat.le_trans hs0 HG3.out.size) hq2 (fun b hb _ => ⟨by rw [World.size_alloc] at hb; omega, fun e => by have := HD.out.1.blocks b e; rw [World.size_alloc] at hb; omega⟩) (by rw [hl2]; omega) 22 24
      have ho2 := ho
      rw [← HS.out] at ho2
      have HE := hidd (And.intro ho2 ((HD.out.2.trans HG3.out).below hbel (by simp)))
      clear ho ho2 hbel hgr g2 hq2
      go_wp2_with (at_builtin; refine wpList_append_eq rfl rfl rfl rfl hap ?_)
      go_roundw
      case rel => exact ⟨i + 1, by go_num, by omega, HE⟩
      case measure => simp [intOf]; omega
    · have hie : i = l.length := by omega
      have kl : decide ((i : Int) < (l.length : Int)) = false := decide_eq_false (by omega)
      have HE := hidd HD.out.1
      rw [show (l.map simple).take i = l.map simple from by rw [hie, show l.length = (l.map simple).length from (List.length_map _).symm, List.take_length]] at HE
      have HGw := hidd (HW0.out.1.trans HD.out.2)
      have HB := hidd (heap_kept HD.out.2 HW0.out.2.1)
      have HZ := hidd (heap_kept HD.out.2 HW0.out.2.2)
      have hsz := HGw.out.size
      clear HD hie HK HW0 HLq
      obtain ⟨⟨b0, b1, b2, b3, b4⟩, bf⟩ := five_cells HB.out
      obtain ⟨⟨f0, f1, f2, f3, f4⟩, ff⟩ := five_cells (heap_more (o := (.cells #[.int .i64 15, .string ⟨#[]⟩, .int .i64 0, .string ⟨#[]⟩, .slice none 0 0] 24)) HB.out)
      obtain ⟨⟨z0, z1, z2, z3, z4⟩, zf⟩ := five_cells (heap_more (o := (.cells #[.int .i64 15, .string ⟨#[]⟩, .int .i64 0, .string ⟨#[]⟩, .slice none 0 0] 24)) HZ.out)
      obtain ⟨⟨o0, o1, o2, o3, o4⟩, of⟩ := five_cells (heap_alloc_new wr (.cells #[.int .i64 15, .string ⟨#[]⟩, .int .i64 0, .string ⟨#[]⟩, .slice none 0 0] 24))
      go_wp2_with fail
      exact bodyPost_ret (results_pat (rb := w.heap.size + 1) rfl rfl (setPat_heap (heap_kept ((Grew.refl wr).alloc _) HZ.out)) rfl) rfl (leaf_end (bareP 15) (nums_leaf (by omega) zero_in none_size none_size) rfl (setPat_grew (HGw.out.trans ((Grew.refl wr).alloc _)) (by omega) _ _ _ _ _))
set_option maxRecDepth 100000 in
set_option maxHeartbeats 1000000 in
theorem simple_k16 (t : ByteArray) (n : Int) (m : ByteArray) (l : List Pat) (kv : Value) (w : World) (h : SimpIn (.mk 16 t n m l) kv w) : Calls Tryd.prog 23 #[.agg #[.int .i64 16, .string t, .int .i64 n, .string m, kv]] w (SingleEnd w.heap.size (simple (.mk 16 t n m l)) w) := by
  have hkq := h.pat.pq.list
  obtain ⟨a, c, rfl, hlm⟩ := hkq.len
  have hlm : l.length ≤ maxLen := hlm
  have hkq : ListIn w (fun b => b < w.heap.size) (.slice a l.length c) l := hkq
  show Calls _ _ #[.agg #[_, _, _, _, .slice a l.length c]] _ _
  unfold maxLen at hlm
  have HNo := hidd ((errW_iff _).1 h.right).1
  have HT := hidd h.tab
  have HPn := hidd (And.intro h.pat.hn (And.intro h.pat.ht h.pat.hm))
  have HRt := hidd (And.intro h.right h.nodes)
  have HK := hidd (fun i (hi : i < l.length) w' (g : Grew w w') kv' (hv : PatV w' kv' (l.getD i Pat.zero)) => kid_end (h.kids (l.getD i Pat.zero) (by rw [List.getD_eq_getElem?_getD, List.getElem?_eq_getElem hi]; exact List.getElem_mem hi) kv' w' g hv))
  have HLq := hidd hkq
  have HW0 : Hid (Grew w ((w.alloc (.cells #[.int .i64 16, .string t, .int .i64 n, .string m, .slice a l.length c] 24)).alloc (.cells #[.int .i64 0, .string ⟨#[]⟩, .int .i64 0, .string ⟨#[]⟩, .slice none 0 0] 24)) ∧ ((w.alloc (.cells #[.int .i64 16, .string t, .int .i64 n, .string m, .slice a l.length c] 24)).alloc (.cells #[.int .i64 0, .string ⟨#[]⟩, .int .i64 0, .string ⟨#[]⟩, .slice none 0 0] 24)).heap[w.heap.size]? = some (.cells #[.int .i64 16, .string t, .int .i64 n, .string m, .slice a l.length c] 24 (0, 0)) ∧ ((w.alloc (.cells #[.int .i64 16, .string t, .int .i64 n, .string m, .slice a l.length c] 24)).alloc (.cells #[.int .i64 0, .string ⟨#[]⟩, .int .i64 0, .string ⟨#[]⟩, .slice none 0 0] 24)).heap[w.heap.size + 1]? = some (.cells #[.int .i64 0, .string ⟨#[]⟩, .int .i64 0, .string ⟨#[]⟩, .slice none 0 0] 24 (0, 0))) :=
    ⟨((Grew.refl w).alloc _).alloc _, heap_more (heap_alloc_new w _), heap_second w _ _⟩
  have hnl : l.length ≤ 4095 := by
    have h1 := h.nodes
    rw [nodesP] at h1
    have := length_le_nodes l
    omega
  have HX : Hid (simple (.mk 16 t n m l) = bareP 16) := by
    show makeP _ _ _ _ _ = _
    unfold makeP
    simp
  rw [HX.out]
  clear h hkq
  go_enter Tryd.func23, Tryd.ntmps23
  go_wp2_with fail
  go_loopw [3, 11] (fun s3 s11 wr => ∃ i : Nat, s11 = .int .i64 i ∧ i ≤ l.length ∧ Hid (PatsOwn wr (w.heap.size + 2) (w.heap.size + 2) s3 ((l.map simple).take i) ∧ Grew ((w.alloc (.cells #[.int .i64 16, .string t, .int .i64 n, .string m, .slice a l.length c] 24)).alloc (.cells #[.int .i64 0, .string ⟨#[]⟩, .int .i64 0, .string ⟨#[]⟩, .slice none 0 0] 24)) wr)) (fun _ s11 _ => l.length - (intOf s11).toNat)
  case atStart => exact ⟨0, rfl, by omega, PatsOwn.nil _ _ _, Grew.refl _⟩
  case round =>
    obtain ⟨i, rfl, hi, HD⟩ := hrel
    by_cases hlt : i < l.length
    · have HGw := hidd (HW0.out.1.trans HD.out.2)
      obtain ⟨b, o, kk, rfl, hnd, hq⟩ := (HLq.out.kept HGw.out).at hlt
      obtain ⟨ka, kn, kc, rfl⟩ := hq.form
      have HS := hidd (simple_take hlt)
      have HC := hidd (HK.out i hlt (wr.alloc (.cells #[.int .i64 (l.getD i Pat.zero).kind, .string (l.getD i Pat.zero).text, .int .i64 (l.getD i Pat.zero).n, .string (l.getD i Pat.zero).name, .slice ka kn kc] 24)) (HGw.out.alloc _) (.slice ka kn kc) (hq.kept ((Grew.refl wr).alloc _)).patV)
      obtain ⟨r, hr⟩ : ∃ r, l.getD i Pat.zero = r := ⟨_, rfl⟩
      rw [hr] at hnd HS HC
      obtain ⟨q, hqs⟩ : ∃ q, simple r = q := ⟨_, rfl⟩
      rw [hqs] at HS HC
      obtain ⟨c0, c1, c2, c3, c4, _, _, _, _⟩ := hnd
      have kl : decide ((i : Int) < (l.length : Int)) = true := decide_eq_true (by omega)
      have hsz := HGw.out.size
      clear hr hq hqs HK
      go_wp2_with fail
      refine HC.out.mono ?_; rintro e w2 ⟨qa, qn, qc, rfl, hq2, g2⟩
      have HG3 := hidd (((Grew.refl wr).alloc (.cells #[.int .i64 r.kind, .string r.text, .int .i64 r.n, .string r.name, .slice ka kn kc] 24)).trans g2)
      have hs0 : w.heap.size + 2 ≤ wr.heap.size := by have := HD.out.2.size; simpa using this
      have hl2 : ((l.map simple).take i).length = i := by rw [List.length_take, List.length_map]; omega
      obtain ⟨v', w', hap, ho, hbel, hgr⟩ := pats_append_one (HD.out.1.kept HG3.out) (Nat.le_trans hs0 HG3.out.size) hq2 (fun b hb _ => ⟨by rw [World.size_alloc] at hb; omega, fun e => by have := HD.out.1.blocks b e; rw [World.size_alloc] at hb; omega⟩) (by rw [hl2]; omega) 22 24
      have ho2 := ho
      rw [← HS.out] at ho2
      have HE := hidd (And.intro ho2 ((HD.out.2.trans HG3.out).below hbel (by simp)))
      clear ho ho2 hbel hgr g2 hq2
      go_wp2_with (at_builtin; refine wpList_append_eq rfl rfl rfl rfl hap ?_)
      go_roundw
      case rel => exact ⟨i + 1, by go_num, by omega, HE⟩
      case measure => simp [intOf]; omega
    · have hie : i = l.length := by omega
      have kl : decide ((i : Int) < (l.length : Int)) = false := decide_eq_false (by omega)
      have HE := hidd HD.out.1
      rw [show (l.map simple).take i = l.map simple from by rw [hie, show l.length = (l.map simple).length from (List.length_map _).symm, List.take_length]] at HE
      have HGw := hidd (HW0.out.1.trans HD.out.2)
      have HB := hidd (heap_kept HD.out.2 HW0.out.2.1)
      have HZ := hidd (heap_kept HD.out.2 HW0.out.2.2)
      have hsz := HGw.out.size
      clear HD hie HK HW0 HLq
      obtain ⟨⟨b0, b1, b2, b3, b4⟩, bf⟩ := five_cells HB.out
      obtain ⟨⟨f0, f1, f2, f3, f4⟩, ff⟩ := five_cells (heap_more (o := (.cells #[.int .i64 16, .string ⟨#[]⟩, .int .i64 0, .string ⟨#[]⟩, .slice none 0 0] 24)) HB.out)
      obtain ⟨⟨z0, z1, z2, z3, z4⟩, zf⟩ := five_cells (heap_more (o := (.cells #[.int .i64 16, .string ⟨#[]⟩, .int .i64 0, .string ⟨#[]⟩, .slice none 0 0] 24)) HZ.out)
      obtain ⟨⟨o0, o1, o2, o3, o4⟩, of⟩ := five_cells (heap_alloc_new wr (.cells #[.int .i64 16, .string ⟨#[]⟩, .int .i64 0, .string ⟨#[]⟩, .slice none 0 0] 24))
      go_wp2_with fail
      exact bodyPost_ret (results_pat (rb := w.heap.size + 1) rfl rfl (setPat_heap (heap_kept ((Grew.refl wr).alloc _) HZ.out)) rfl) rfl (leaf_end (bareP 16) (nums_leaf (by omega) zero_in none_size none_size) rfl (setPat_grew (HGw.out.trans ((Grew.refl wr).alloc _)) (by omega) _ _ _ _ _))
set_option maxRecDepth 100000 in
set_option maxHeartbeats 1000000 in
theorem simple_k17 (t : ByteArray) (n : Int) (m : ByteArray) (l : List Pat) (kv : Value) (w : World) (h : SimpIn (.mk 17 t n m l) kv w) : Calls Tryd.prog 23 #[.agg #[.int .i64 17, .string t, .int .i64 n, .string m, kv]] w (SingleEnd w.heap.size (simple (.mk 17 t n m l)) w) := by
  have hkq := h.pat.pq.list
  obtain ⟨a, c, rfl, hlm⟩ := hkq.len
  have hlm : l.length ≤ maxLen := hlm
  have hkq : ListIn w (fun b => b < w.heap.size) (.slice a l.length c) l := hkq
  show Calls _ _ #[.agg #[_, _, _, _, .slice a l.length c]] _ _
  unfold maxLen at hlm
  have HNo := hidd ((errW_iff _).1 h.right).1
  have HT := hidd h.tab
  have HPn := hidd (And.intro h.pat.hn (And.intro h.pat.ht h.pat.hm))
  have HRt := hidd (And.intro h.right h.nodes)
  have HK := hidd (fun i (hi : i < l.length) w' (g : Grew w w') kv' (hv : PatV w' kv' (l.getD i Pat.zero)) => kid_end (h.kids (l.getD i Pat.zero) (by rw [List.getD_eq_getElem?_getD, List.getElem?_eq_getElem hi]; exact List.getElem_mem hi) kv' w' g hv))
  have HLq := hidd hkq
  have HW0 : Hid (Grew w ((w.alloc (.cells #[.int .i64 17, .string t, .int .i64 n, .string m, .slice a l.length c] 24)).alloc (.cells #[.int .i64 0, .string ⟨#[]⟩, .int .i64 0, .string ⟨#[]⟩, .slice none 0 0] 24)) ∧ ((w.alloc (.cells #[.int .i64 17, .string t, .int .i64 n, .string m, .slice a l.length c] 24)).alloc (.cells #[.int .i64 0, .string ⟨#[]⟩, .int .i64 0, .string ⟨#[]⟩, .slice none 0 0] 24)).heap[w.heap.size]? = some (.cells #[.int .i64 17, .string t, .int .i64 n, .string m, .slice a l.length c] 24 (0, 0)) ∧ ((w.alloc (.cells #[.int .i64 17, .string t, .int .i64 n, .string m, .slice a l.length c] 24)).alloc (.cells #[.int .i64 0, .string ⟨#[]⟩, .int .i64 0, .string ⟨#[]⟩, .slice none 0 0] 24)).heap[w.heap.size + 1]? = some (.cells #[.int .i64 0, .string ⟨#[]⟩, .int .i64 0, .string ⟨#[]⟩, .slice none 0 0] 24 (0, 0))) :=
    ⟨((Grew.refl w).alloc _).alloc _, heap_more (heap_alloc_new w _), heap_second w _ _⟩
  have hnl : l.length ≤ 4095 := by
    have h1 := h.nodes
    rw [nodesP] at h1
    have := length_le_nodes l
    omega
  have HX : Hid (simple (.mk 17 t n m l) = bareP 17) := by
    show makeP _ _ _ _ _ = _
    unfold makeP
    simp
  rw [HX.out]
  clear h hkq
  go_enter Tryd.func23, Tryd.ntmps23
  go_wp2_with fail
  go_loopw [3, 11] (fun s3 s11 wr => ∃ i : Nat, s11 = .int .i64 i ∧ i ≤ l.length ∧ Hid (PatsOwn wr (w.heap.size + 2) (w.heap.size + 2) s3 ((l.map simple).take i) ∧ Grew ((w.alloc (.cells #[.int .i64 17, .string t, .int .i64 n, .string m, .slice a l.length c] 24)).alloc (.cells #[.int .i64 0, .string ⟨#[]⟩, .int .i64 0, .string ⟨#[]⟩, .slice none 0 0] 24)) wr)) (fun _ s11 _ => l.length - (intOf s11).toNat)
  case atStart => exact ⟨0, rfl, by omega, PatsOwn.nil _ _ _, Grew.refl _⟩
  case round =>
    obtain ⟨i, rfl, hi, HD⟩ := hrel
    by_cases hlt : i < l.length
    · have HGw := hidd (HW0.out.1.trans HD.out.2)
      obtain ⟨b, o, kk, rfl, hnd, hq⟩ := (HLq.out.kept HGw.out).at hlt
      obtain ⟨ka, kn, kc, rfl⟩ := hq.form
      have HS := hidd (simple_take hlt)
      have HC := hidd (HK.out i hlt (wr.alloc (.cells #[.int .i64 (l.getD i Pat.zero).kind, .string (l.getD i Pat.zero).text, .int .i64 (l.getD i Pat.zero).n, .string (l.getD i Pat.zero).name, .slice ka kn kc] 24)) (HGw.out.alloc _) (.slice ka kn kc) (hq.kept ((Grew.refl wr).alloc _)).patV)
      obtain ⟨r, hr⟩ : ∃ r, l.getD i Pat.zero = r := ⟨_, rfl⟩
      rw [hr] at hnd HS HC
      obtain ⟨q, hqs⟩ : ∃ q, simple r = q := ⟨_, rfl⟩
      rw [hqs] at HS HC
      obtain ⟨c0, c1, c2, c3, c4, _, _, _, _⟩ := hnd
      have kl : decide ((i : Int) < (l.length : Int)) = true := decide_eq_true (by omega)
      have hsz := HGw.out.size
      clear hr hq hqs HK
      go_wp2_with fail
      refine HC.out.mono ?_; rintro e w2 ⟨qa, qn, qc, rfl, hq2, g2⟩
      have HG3 := hidd (((Grew.refl wr).alloc (.cells #[.int .i64 r.kind, .string r.text, .int .i64 r.n, .string r.name, .slice ka kn kc] 24)).trans g2)
      have hs0 : w.heap.size + 2 ≤ wr.heap.size := by have := HD.out.2.size; simpa using this
      have hl2 : ((l.map simple).take i).length = i := by rw [List.length_take, List.length_map]; omega
      obtain ⟨v', w', hap, ho, hbel, hgr⟩ := pats_append_one (HD.out.1.kept HG3.out) (Nat.le_trans hs0 HG3.out.size) hq2 (fun b hb _ => ⟨by rw [World.size_alloc] at hb; omega, fun e => by have := HD.out.1.blocks b e; rw [World.size_alloc] at hb; omega⟩) (by rw [hl2]; omega) 22 24
      have ho2 := ho
      rw [← HS.out] at ho2
      have HE := hidd (And.intro ho2 ((HD.out.2.trans HG3.out).below hbel (by simp)))
      clear ho ho2 hbel hgr g2 hq2
      go_wp2_with (at_builtin; refine wpList_append_eq rfl rfl rfl rfl hap ?_)
      go_roundw
      case rel => exact ⟨i + 1, by go_num, by omega, HE⟩
      case measure => simp [intOf]; omega
    · have hie : i = l.length := by omega
      have kl : decide ((i : Int) < (l.length : Int)) = false := decide_eq_false (by omega)
      have HE := hidd HD.out.1
      rw [show (l.map simple).take i = l.map simple from by rw [hie, show l.length = (l.map simple).length from (List.length_map _).symm, List.take_length]] at HE
      have HGw := hidd (HW0.out.1.trans HD.out.2)
      have HB := hidd (heap_kept HD.out.2 HW0.out.2.1)
      have HZ := hidd (heap_kept HD.out.2 HW0.out.2.2)
      have hsz := HGw.out.size
      clear HD hie HK HW0 HLq
      obtain ⟨⟨b0, b1, b2, b3, b4⟩, bf⟩ := five_cells HB.out
      obtain ⟨⟨f0, f1, f2, f3, f4⟩, ff⟩ := five_cells (heap_more (o := (.cells #[.int .i64 17, .string ⟨#[]⟩, .int .i64 0, .string ⟨#[]⟩, .slice none 0 0] 24)) HB.out)
      obtain ⟨⟨z0, z1, z2, z3, z4⟩, zf⟩ := five_cells (heap_more (o := (.cells #[.int .i64 17, .string ⟨#[]⟩, .int .i64 0, .string ⟨#[]⟩, .slice none 0 0] 24)) HZ.out)
      obtain ⟨⟨o0, o1, o2, o3, o4⟩, of⟩ := five_cells (heap_alloc_new wr (.cells #[.int .i64 17, .string ⟨#[]⟩, .int .i64 0, .string ⟨#[]⟩, .slice none 0 0] 24))
      go_wp2_with fail
      exact bodyPost_ret (results_pat (rb := w.heap.size + 1) rfl rfl (setPat_heap (heap_kept ((Grew.refl wr).alloc _) HZ.out)) rfl) rfl (leaf_end (bareP 17) (nums_leaf (by omega) zero_in none_size none_size) rfl (setPat_grew (HGw.out.trans ((Grew.refl wr).alloc _)) (by omega) _ _ _ _ _))
set_option maxRecDepth 100000 in
set_option maxHeartbeats 1000000 in
theorem simple_k8 (t : ByteArray) (n : Int) (m : ByteArray) (l : List Pat) (kv : Value) (w : World) (h : SimpIn (.mk 8 t n m l) kv w) : Calls Tryd.prog 23 #[.agg #[.int .i64 8, .string t, .int .i64 n, .string m, kv]] w (SingleEnd w.heap.size (simple (.mk 8 t n m l)) w) := by
  have hkq := h.pat.pq.list
  obtain ⟨a, c, rfl, hlm⟩ := hkq.len
  have hlm : l.length ≤ maxLen := hlm
  have hkq : ListIn w (fun b => b < w.heap.size) (.slice a l.length c) l := hkq
  show Calls _ _ #[.agg #[_, _, _, _, .slice a l.length c]] _ _
  unfold maxLen at hlm
  have HNo := hidd ((errW_iff _).1 h.right).1
  have HT := hidd h.tab
  have HPn := hidd (And.intro h.pat.hn (And.intro h.pat.ht h.pat.hm))
  have HRt := hidd (And.intro h.right h.nodes)
  have HK := hidd (fun i (hi : i < l.length) w' (g : Grew w w') kv' (hv : PatV w' kv' (l.getD i Pat.zero)) => kid_end (h.kids (l.getD i Pat.zero) (by rw [List.getD_eq_getElem?_getD, List.getElem?_eq_getElem hi]; exact List.getElem_mem hi) kv' w' g hv))
  have HLq := hidd hkq
  have HW0 : Hid (Grew w ((w.alloc (.cells #[.int .i64 8, .string t, .int .i64 n, .string m, .slice a l.length c] 24)).alloc (.cells #[.int .i64 0, .string ⟨#[]⟩, .int .i64 0, .string ⟨#[]⟩, .slice none 0 0] 24)) ∧ ((w.alloc (.cells #[.int .i64 8, .string t, .int .i64 n, .string m, .slice a l.length c] 24)).alloc (.cells #[.int .i64 0, .string ⟨#[]⟩, .int .i64 0, .string ⟨#[]⟩, .slice none 0 0] 24)).heap[w.heap.size]? = some (.cells #[.int .i64 8, .string t, .int .i64 n, .string m, .slice a l.length c] 24 (0, 0)) ∧ ((w.alloc (.cells #[.int .i64 8, .string t, .int .i64 n, .string m, .slice a l.length c] 24)).alloc (.cells #[.int .i64 0, .string ⟨#[]⟩, .int .i64 0, .string ⟨#[]⟩, .slice none 0 0] 24)).heap[w.heap.size + 1]? = some (.cells #[.int .i64 0, .string ⟨#[]⟩, .int .i64 0, .string ⟨#[]⟩, .slice none 0 0] 24 (0, 0))) :=
    ⟨((Grew.refl w).alloc _).alloc _, heap_more (heap_alloc_new w _), heap_second w _ _⟩
  have hnl : l.length ≤ 4095 := by
    have h1 := h.nodes
    rw [nodesP] at h1
    have := length_le_nodes l
    omega
  have HX : Hid (simple (.mk 8 t n m l) = numP 8 n) := by
    show makeP _ _ _ _ _ = _
    unfold makeP
    simp
  rw [HX.out]
  clear h hkq
  go_enter Tryd.func23, Tryd.ntmps23
  go_wp2_with fail
  go_loopw [3, 11] (fun s3 s11 wr => ∃ i : Nat, s11 = .int .i64 i ∧ i ≤ l.length ∧ Hid (PatsOwn wr (w.heap.size + 2) (w.heap.size + 2) s3 ((l.map simple).take i) ∧ Grew ((w.alloc (.cells #[.int .i64 8, .string t, .int .i64 n, .string m, .slice a l.length c] 24)).alloc (.cells #[.int .i64 0, .string ⟨#[]⟩, .int .i64 0, .string ⟨#[]⟩, .slice none 0 0] 24)) wr)) (fun _ s11 _ => l.length - (intOf s11).toNat)
  case atStart => exact ⟨0, rfl, by omega, PatsOwn.nil _ _ _, Grew.refl _⟩
  case round =>
    obtain ⟨i, rfl, hi, HD⟩ := hrel
    by_cases hlt : i < l.length
    · have HGw := hidd (HW0.out.1.trans HD.out.2)
      obtain ⟨b, o, kk, rfl, hnd, hq⟩ := (HLq.out.kept HGw.out).at hlt
      obtain ⟨ka, kn, kc, rfl⟩ := hq.form
      have HS := hidd (simple_take hlt)
      have HC := hidd (HK.out i hlt (wr.alloc (.cells #[.int .i64 (l.getD i Pat.zero).kind, .string (l.getD i Pat.zero).text, .int .i64 (l.getD i Pat.zero).n, .string (l.getD i Pat.zero).name, .slice ka kn kc] 24)) (HGw.out.alloc _) (.slice ka kn kc) (hq.kept ((Grew.refl wr).alloc _)).patV)
      obtain ⟨r, hr⟩ : ∃ r, l.getD i Pat.zero = r := ⟨_, rfl⟩
      rw [hr] at hnd HS HC
      obtain ⟨q, hqs⟩ : ∃ q, simple r = q := ⟨_, rfl⟩
      rw [hqs] at HS HC
      obtain ⟨c0, c1, c2, c3, c4, _, _, _, _⟩ := hnd
      have kl : decide ((i : Int) < (l.length : Int)) = true := decide_eq_true (by omega)
      have hsz := HGw.out.size
      clear hr hq hqs HK
      go_wp2_with fail
      refine HC.out.mono ?_; rintro e w2 ⟨qa, qn, qc, rfl, hq2, g2⟩
      have HG3 := hidd (((Grew.refl wr).alloc (.cells #[.int .i64 r.kind, .string r.text, .int .i64 r.n, .string r.name, .slice ka kn kc] 24)).trans g2)
      have hs0 : w.heap.size + 2 ≤ wr.heap.size := by have := HD.out.2.size; simpa using this
      have hl2 : ((l.map simple).take i).length = i := by rw [List.length_take, List.length_map]; omega
      obtain ⟨v', w', hap, ho, hbel, hgr⟩ := pats_append_one (HD.out.1.kept HG3.out) (Nat.le_trans hs0 HG3.out.size) hq2 (fun b hb _ => ⟨by rw [World.size_alloc] at hb; omega, fun e => by have := HD.out.1.blocks b e; rw [World.size_alloc] at hb; omega⟩) (by rw [hl2]; omega) 22 24
      have ho2 := ho
      rw [← HS.out] at ho2
      have HE := hidd (And.intro ho2 ((HD.out.2.trans HG3.out).below hbel (by simp)))
      clear ho ho2 hbel hgr g2 hq2
      go_wp2_with (at_builtin; refine wpList_append_eq rfl rfl rfl rfl hap ?_)
      go_roundw
      case rel => exact ⟨i + 1, by go_num, by omega, HE⟩
      case measure => simp [intOf]; omega
    · have hie : i = l.length := by omega
      have kl : decide ((i : Int) < (l.length : Int)) = false := decide_eq_false (by omega)
      have HE := hidd HD.out.1
      rw [show (l.map simple).take i = l.map simple from by rw [hie, show l.length = (l.map simple).length from (List.length_map _).symm, List.take_length]] at HE
      have HGw := hidd (HW0.out.1.trans HD.out.2)
      have HB := hidd (heap_kept HD.out.2 HW0.out.2.1)
      have HZ := hidd (heap_kept HD.out.2 HW0.out.2.2)
      have hsz := HGw.out.size
      clear HD hie HK HW0 HLq
      obtain ⟨⟨b0, b1, b2, b3, b4⟩, bf⟩ := five_cells HB.out
      obtain ⟨⟨f0, f1, f2, f3, f4⟩, ff⟩ := five_cells (heap_more (o := (.cells #[.int .i64 8, .string ⟨#[]⟩, .int .i64 0, .string ⟨#[]⟩, .slice none 0 0] 24)) HB.out)
      obtain ⟨⟨z0, z1, z2, z3, z4⟩, zf⟩ := five_cells (heap_more (o := (.cells #[.int .i64 8, .string ⟨#[]⟩, .int .i64 0, .string ⟨#[]⟩, .slice none 0 0] 24)) HZ.out)
      obtain ⟨⟨o0, o1, o2, o3, o4⟩, of⟩ := five_cells (heap_alloc_new wr (.cells #[.int .i64 8, .string ⟨#[]⟩, .int .i64 0, .string ⟨#[]⟩, .slice none 0 0] 24))
      obtain ⟨⟨f'0, f'1, f'2, f'3, f'4⟩, f'f⟩ := five_cells (heap_more (o := (.cells #[.int .i64 8, .string ⟨#[]⟩, .int .i64 n, .string ⟨#[]⟩, .slice none 0 0] 24)) HB.out)
      obtain ⟨⟨z'0, z'1, z'2, z'3, z'4⟩, z'f⟩ := five_cells (heap_more (o := (.cells #[.int .i64 8, .string ⟨#[]⟩, .int .i64 n, .string ⟨#[]⟩, .slice none 0 0] 24)) HZ.out)
      obtain ⟨⟨o'0, o'1, o'2, o'3, o'4⟩, o'f⟩ := five_cells (heap_alloc_new wr (.cells #[.int .i64 8, .string ⟨#[]⟩, .int .i64 n, .string ⟨#[]⟩, .slice none 0 0] 24))
      go_wp2_with fail
      exact bodyPost_ret (results_pat (rb := w.heap.size + 1) rfl rfl (setPat_heap (heap_kept ((Grew.refl wr).alloc _) HZ.out)) rfl) rfl (leaf_end (numP 8 n) (nums_leaf (by omega) HPn.out.1 none_size none_size) rfl (setPat_grew (HGw.out.trans ((Grew.refl wr).alloc _)) (by omega) _ _ _ _ _))
set_option maxRecDepth 100000 in
set_option maxHeartbeats 1000000 in
theorem simple_k10 (t : ByteArray) (n : Int) (m : ByteArray) (l : List Pat) (kv : Value) (w : World) (h : SimpIn (.mk 10 t n m l) kv w) : Calls Tryd.prog 23 #[.agg #[.int .i64 10, .string t, .int .i64 n, .string m, kv]] w (SingleEnd w.heap.size (simple (.mk 10 t n m l)) w) := by
  have hkq := h.pat.pq.list
  obtain ⟨a, c, rfl, hlm⟩ := hkq.len
  have hlm : l.length ≤ maxLen := hlm
  have hkq : ListIn w (fun b => b < w.heap.size) (.slice a l.length c) l := hkq
  show Calls _ _ #[.agg #[_, _, _, _, .slice a l.length c]] _ _
  unfold maxLen at hlm
  have HNo := hidd ((errW_iff _).1 h.right).1
  have HT := hidd h.tab
  have HPn := hidd (And.intro h.pat.hn (And.intro h.pat.ht h.pat.hm))
  have HRt := hidd (And.intro h.right h.nodes)
  have HK := hidd (fun i (hi : i < l.length) w' (g : Grew w w') kv' (hv : PatV w' kv' (l.getD i Pat.zero)) => kid_end (h.kids (l.getD i Pat.zero) (by rw [List.getD_eq_getElem?_getD, List.getElem?_eq_getElem hi]; exact List.getElem_mem hi) kv' w' g hv))
  have HLq := hidd hkq
  have HW0 : Hid (Grew w ((w.alloc (.cells #[.int .i64 10, .string t, .int .i64 n, .string m, .slice a l.length c] 24)).alloc (.cells #[.int .i64 0, .string ⟨#[]⟩, .int .i64 0, .string ⟨#[]⟩, .slice none 0 0] 24)) ∧ ((w.alloc (.cells #[.int .i64 10, .string t, .int .i64 n, .string m, .slice a l.length c] 24)).alloc (.cells #[.int .i64 0, .string ⟨#[]⟩, .int .i64 0, .string ⟨#[]⟩, .slice none 0 0] 24)).heap[w.heap.size]? = some (.cells #[.int .i64 10, .string t, .int .i64 n, .string m, .slice a l.length c] 24 (0, 0)) ∧ ((w.alloc (.cells #[.int .i64 10, .string t, .int .i64 n, .string m, .slice a l.length c] 24)).alloc (.cells #[.int .i64 0, .string ⟨#[]⟩, .int .i64 0, .string ⟨#[]⟩, .slice none 0 0] 24)).heap[w.heap.size + 1]? = some (.cells #[.int .i64 0, .string ⟨#[]⟩, .int .i64 0, .string ⟨#[]⟩, .slice none 0 0] 24 (0, 0))) :=
    ⟨((Grew.refl w).alloc _).alloc _, heap_more (heap_alloc_new w _), heap_second w _ _⟩
  have hnl : l.length ≤ 4095 := by
    have h1 := h.nodes
    rw [nodesP] at h1
    have := length_le_nodes l
    omega
  have HX : Hid (simple (.mk 10 t n m l) = numP 10 n) := by
    show makeP _ _ _ _ _ = _
    unfold makeP
    simp
  rw [HX.out]
  clear h hkq
  go_enter Tryd.func23, Tryd.ntmps23
  go_wp2_with fail
  go_loopw [3, 11] (fun s3 s11 wr => ∃ i : Nat, s11 = .int .i64 i ∧ i ≤ l.length ∧ Hid (PatsOwn wr (w.heap.size + 2) (w.heap.size + 2) s3 ((l.map simple).take i) ∧ Grew ((w.alloc (.cells #[.int .i64 10, .string t, .int .i64 n, .string m, .slice a l.length c] 24)).alloc (.cells #[.int .i64 0, .string ⟨#[]⟩, .int .i64 0, .string ⟨#[]⟩, .slice none 0 0] 24)) wr)) (fun _ s11 _ => l.length - (intOf s11).toNat)
  case atStart => exact ⟨0, rfl, by omega, PatsOwn.nil _ _ _, Grew.refl _⟩
  case round =>
    obtain ⟨i, rfl, hi, HD⟩ := hrel
    by_cases hlt : i < l.length
    · have HGw := hidd (HW0.out.1.trans HD.out.2)
      obtain ⟨b, o, kk, rfl, hnd, hq⟩ := (HLq.out.kept HGw.out).at hlt
      obtain ⟨ka, kn, kc, rfl⟩ := hq.form
      have HS := hidd (simple_take hlt)
      have HC := hidd (HK.out i hlt (wr.alloc (.cells #[.int .i64 (l.getD i Pat.zero).kind, .string (l.getD i Pat.zero).text, .int .i64 (l.getD i Pat.zero).n, .string (l.getD i Pat.zero).name, .slice ka kn kc] 24)) (HGw.out.alloc _) (.slice ka kn kc) (hq.kept ((Grew.refl wr).alloc _)).patV)
      obtain ⟨r, hr⟩ : ∃ r, l.getD i Pat.zero = r := ⟨_, rfl⟩
      rw [hr] at hnd HS HC
      obtain ⟨q, hqs⟩ : ∃ q, simple r = q := ⟨_, rfl⟩
      rw [hqs] at HS HC
      obtain ⟨c0, c1, c2, c3, c4, _, _, _, _⟩ := hnd
      have kl : decide ((i : Int) < (l.length : Int)) = true := decide_eq_true (by omega)
      have hsz := HGw.out.size
      clear hr hq hqs HK
      go_wp2_with fail
      refine HC.out.mono ?_; rintro e w2 ⟨qa, qn, qc, rfl, hq2, g2⟩
      have HG3 := hidd (((Grew.refl wr).alloc (.cells #[.int .i64 r.kind, .string r.text, .int .i64 r.n, .string r.name, .slice ka kn kc] 24)).trans g2)
      have hs0 : w.heap.size + 2 ≤ wr.heap.size := by have := HD.out.2.size; simpa using this
      have hl2 : ((l.map simple).take i).length = i := by rw [List.length_take, List.length_map]; omega
      obtain ⟨v', w', hap, ho, hbel, hgr⟩ := pats_append_one (HD.out.1.kept HG3.out) (Nat.le_trans hs0 HG3.out.size) hq2 (fun b hb _ => ⟨by rw [World.size_alloc] at hb; omega, fun e => by have := HD.out.1.blocks b e; rw [World.size_alloc] at hb; omega⟩) (by rw [hl2]; omega) 22 24
      have ho2 := ho
      rw [← HS.out] at ho2
      have HE := hidd (And.intro ho2 ((HD.out.2.trans HG3.out).below hbel (by simp)))
      clear ho ho2 hbel hgr g2 hq2
      go_wp2_with (at_builtin; refine wpList_append_eq rfl rfl rfl rfl hap ?_)
      go_roundw
      case rel => exact ⟨i + 1, by go_num, by omega, HE⟩
      case measure => simp [intOf]; omega
    · have hie : i = l.length := by omega
      have kl : decide ((i : Int) < (l.length : Int)) = false := decide_eq_false (by omega)
      have HE := hidd HD.out.1
      rw [show (l.map simple).take i = l.map simple from by rw [hie, show l.length = (l.map simple).length from (List.length_map _).symm, List.take_length]] at HE
      have HGw := hidd (HW0.out.1.trans HD.out.2)
      have HB := hidd (heap_kept HD.out.2 HW0.out.2.1)
      have HZ := hidd (heap_kept HD.out.2 HW0.out.2.2)
      have hsz := HGw.out.size
      clear HD hie HK HW0 HLq
      obtain ⟨⟨b0, b1, b2, b3, b4⟩, bf⟩ := five_cells HB.out
      obtain ⟨⟨f0, f1, f2, f3, f4⟩, ff⟩ := five_cells (heap_more (o := (.cells #[.int .i64 10, .string ⟨#[]⟩, .int .i64 0, .string ⟨#[]⟩, .slice none 0 0] 24)) HB.out)
      obtain ⟨⟨z0, z1, z2, z3, z4⟩, zf⟩ := five_cells (heap_more (o := (.cells #[.int .i64 10, .string ⟨#[]⟩, .int .i64 0, .string ⟨#[]⟩, .slice none 0 0] 24)) HZ.out)
      obtain ⟨⟨o0, o1, o2, o3, o4⟩, of⟩ := five_cells (heap_alloc_new wr (.cells #[.int .i64 10, .string ⟨#[]⟩, .int .i64 0, .string ⟨#[]⟩, .slice none 0 0] 24))
      obtain ⟨⟨f'0, f'1, f'2, f'3, f'4⟩, f'f⟩ := five_cells (heap_more (o := (.cells #[.int .i64 10, .string ⟨#[]⟩, .int .i64 n, .string ⟨#[]⟩, .slice none 0 0] 24)) HB.out)
      obtain ⟨⟨z'0, z'1, z'2, z'3, z'4⟩, z'f⟩ := five_cells (heap_more (o := (.cells #[.int .i64 10, .string ⟨#[]⟩, .int .i64 n, .string ⟨#[]⟩, .slice none 0 0] 24)) HZ.out)
      obtain ⟨⟨o'0, o'1, o'2, o'3, o'4⟩, o'f⟩ := five_cells (heap_alloc_new wr (.cells #[.int .i64 10, .string ⟨#[]⟩, .int .i64 n, .string ⟨#[]⟩, .slice none 0 0] 24))
      go_wp2_with fail
      exact bodyPost_ret (results_pat (rb := w.heap.size + 1) rfl rfl (setPat_heap (heap_kept ((Grew.refl wr).alloc _) HZ.out)) rfl) rfl (leaf_end (numP 10 n) (nums_leaf (by omega) HPn.out.1 none_size none_size) rfl (setPat_grew (HGw.out.trans ((Grew.refl wr).alloc _)) (by omega) _ _ _ _ _))
set_option maxRecDepth 100000 in
set_option maxHeartbeats 1000000 in
theorem simple_k11 (t : ByteArray) (n : Int) (m : ByteArray) (l : List Pat) (kv : Value) (w : World) (h : SimpIn (.mk 11 t n m l) kv w) : Calls Tryd.prog 23 #[.agg #[.int .i64 11, .string t, .int .i64 n, .string m, kv]] w (SingleEnd w.heap.size (simple (.mk 11 t n m l)) w) := by
  have hkq := h.pat.pq.list
  obtain ⟨a, c, rfl, hlm⟩ := hkq.len
  have hlm : l.length ≤ maxLen := hlm
  have hkq : ListIn w (fun b => b < w.heap.size) (.slice a l.length c) l := hkq
  show Calls _ _ #[.agg #[_, _, _, _, .slice a l.length c]] _ _
  unfold maxLen at hlm
  have HNo := hidd ((errW_iff _).1 h.right).1
  have HT := hidd h.tab
  have HPn := hidd (And.intro h.pat.hn (And.intro h.pat.ht h.pat.hm))
  have HRt := hidd (And.intro h.right h.nodes)
  have HK := hidd (fun i (hi : i < l.length) w' (g : Grew w w') kv' (hv : PatV w' kv' (l.getD i Pat.zero)) => kid_end (h.kids (l.getD i Pat.zero) (by rw [List.getD_eq_getElem?_getD, List.getElem?_eq_getElem hi]; exact List.getElem_mem hi) kv' w' g hv))
  have HLq := hidd hkq
  have HW0 : Hid (Grew w ((w.alloc (.cells #[.int .i64 11, .string t, .int .i64 n, .string m, .slice a l.length c] 24)).alloc (.cells #[.int .i64 0, .string ⟨#[]⟩, .int .i64 0, .string ⟨#[]⟩, .slice none 0 0] 24)) ∧ ((w.alloc (.cells #[.int .i64 11, .string t, .int .i64 n, .string m, .slice a l.length c] 24)).alloc (.cells #[.int .i64 0, .string ⟨#[]⟩, .int .i64 0, .string ⟨#[]⟩, .slice none 0 0] 24)).heap[w.heap.size]? = some (.cells #[.int .i64 11, .string t, .int .i64 n, .string m, .slice a l.length c] 24 (0, 0)) ∧ ((w.alloc (.cells #[.int .i64 11, .string t, .int .i64 n, .string m, .slice a l.length c] 24)).alloc (.cells #[.int .i64 0, .string ⟨#[]⟩, .int .i64 0, .string ⟨#[]⟩, .slice none 0 0] 24)).heap[w.heap.size + 1]? = some (.cells #[.int .i64 0, .string ⟨#[]⟩, .int .i64 0, .string ⟨#[]⟩, .slice none 0 0] 24 (0, 0))) :=
    ⟨((Grew.refl w).alloc _).alloc _, heap_more (heap_alloc_new w _), heap_second w _ _⟩
  have hnl : l.length ≤ 4095 := by
    have h1 := h.nodes
    rw [nodesP] at h1
    have := length_le_nodes l
    omega
  have HX : Hid (simple (.mk 11 t n m l) = numP 11 n) := by
    show makeP _ _ _ _ _ = _
    unfold makeP
    simp
  rw [HX.out]
  clear h hkq
  go_enter Tryd.func23, Tryd.ntmps23
  go_wp2_with fail
  go_loopw [3, 11] (fun s3 s11 wr => ∃ i : Nat, s11 = .int .i64 i ∧ i ≤ l.length ∧ Hid (PatsOwn wr (w.heap.size + 2) (w.heap.size + 2) s3 ((l.map simple).take i) ∧ Grew ((w.alloc (.cells #[.int .i64 11, .string t, .int .i64 n, .string m, .slice a l.length c] 24)).alloc (.cells #[.int .i64 0, .string ⟨#[]⟩, .int .i64 0, .string ⟨#[]⟩, .slice none 0 0] 24)) wr)) (fun _ s11 _ => l.length - (intOf s11).toNat)
  case atStart => exact ⟨0, rfl, by omega, PatsOwn.nil _ _ _, Grew.refl _⟩
  case round =>
    obtain ⟨i, rfl, hi, HD⟩ := hrel
    by_cases hlt : i < l.length
    · have HGw := hidd (HW0.out.1.trans HD.out.2)
      obtain ⟨b, o, kk, rfl, hnd, hq⟩ := (HLq.out.kept HGw.out).at hlt
      obtain ⟨ka, kn, kc, rfl⟩ := hq.form
      have HS := hidd (simple_take hlt)
      have HC := hidd (HK.out i hlt (wr.alloc (.cells #[.int .i64 (l.getD i Pat.zero).kind, .string (l.getD i Pat.zero).text, .int .i64 (l.getD i Pat.zero).n, .string (l.getD i Pat.zero).name, .slice ka kn kc] 24)) (HGw.out.alloc _) (.slice ka kn kc) (hq.kept ((Grew.refl wr).alloc _)).patV)
      obtain ⟨r, hr⟩ : ∃ r, l.getD i Pat.zero = r := ⟨_, rfl⟩
      rw [hr] at hnd HS HC
      obtain ⟨q, hqs⟩ : ∃ q, simple r = q := ⟨_, rfl⟩
      rw [hqs] at HS HC
      obtain ⟨c0, c1, c2, c3, c4, _, _, _, _⟩ := hnd
      have kl : decide ((i : Int) < (l.length : Int)) = true := decide_eq_true (by omega)
      have hsz := HGw.out.size
      clear hr hq hqs HK
      go_wp2_with fail
      refine HC.out.mono ?_; rintro e w2 ⟨qa, qn, qc, rfl, hq2, g2⟩
      have HG3 := hidd (((Grew.refl wr).alloc (.cells #[.int .i64 r.kind, .string r.text, .int .i64 r.n, .string r.name, .slice ka kn kc] 24)).trans g2)
      have hs0 : w.heap.size + 2 ≤ wr.heap.size := by have := HD.out.2.size; simpa using this
      have hl2 : ((l.map simple).take i).length = i := by rw [List.length_take, List.length_map]; omega
      obtain ⟨v', w', hap, ho, hbel, hgr⟩ := pats_append_one (HD.out.1.kept HG3.out) (Nat.le_trans hs0 HG3.out.size) hq2 (fun b hb _ => ⟨by rw [World.size_alloc] at hb; omega, fun e => by have := HD.out.1.blocks b e; rw [World.size_alloc] at hb; omega⟩) (by rw [hl2]; omega) 22 24
      have ho2 := ho
      rw [← HS.out] at ho2
      have HE := hidd (And.intro ho2 ((HD.out.2.trans HG3.out).below hbel (by simp)))
      clear ho ho2 hbel hgr g2 hq2
      go_wp2_with (at_builtin; refine wpList_append_eq rfl rfl rfl rfl hap ?_)
      go_roundw
      case rel => exact ⟨i + 1, by go_num, by omega, HE⟩
      case measure => simp [intOf]; omega
    · have hie : i = l.length := by omega
      have kl : decide ((i : Int) < (l.length : Int)) = false := decide_eq_false (by omega)
      have HE := hidd HD.out.1
      rw [show (l.map simple).take i = l.map simple from by rw [hie, show l.length = (l.map simple).length from (List.length_map _).symm, List.take_length]] at HE
      have HGw := hidd (HW0.out.1.trans HD.out.2)
      have HB := hidd (heap_kept HD.out.2 HW0.out.2.1)
      have HZ := hidd (heap_kept HD.out.2 HW0.out.2.2)
      have hsz := HGw.out.size
      clear HD hie HK HW0 HLq
      obtain ⟨⟨b0, b1, b2, b3, b4⟩, bf⟩ := five_cells HB.out
      obtain ⟨⟨f0, f1, f2, f3, f4⟩, ff⟩ := five_cells (heap_more (o := (.cells #[.int .i64 11, .string ⟨#[]⟩, .int .i64 0, .string ⟨#[]⟩, .slice none 0 0] 24)) HB.out)
      obtain ⟨⟨z0, z1, z2, z3, z4⟩, zf⟩ := five_cells (heap_more (o := (.cells #[.int .i64 11, .string ⟨#[]⟩, .int .i64 0, .string ⟨#[]⟩, .slice none 0 0] 24)) HZ.out)
      obtain ⟨⟨o0, o1, o2, o3, o4⟩, of⟩ := five_cells (heap_alloc_new wr (.cells #[.int .i64 11, .string ⟨#[]⟩, .int .i64 0, .string ⟨#[]⟩, .slice none 0 0] 24))
      obtain ⟨⟨f'0, f'1, f'2, f'3, f'4⟩, f'f⟩ := five_cells (heap_more (o := (.cells #[.int .i64 11, .string ⟨#[]⟩, .int .i64 n, .string ⟨#[]⟩, .slice none 0 0] 24)) HB.out)
      obtain ⟨⟨z'0, z'1, z'2, z'3, z'4⟩, z'f⟩ := five_cells (heap_more (o := (.cells #[.int .i64 11, .string ⟨#[]⟩, .int .i64 n, .string ⟨#[]⟩, .slice none 0 0] 24)) HZ.out)
      obtain ⟨⟨o'0, o'1, o'2, o'3, o'4⟩, o'f⟩ := five_cells (heap_alloc_new wr (.cells #[.int .i64 11, .string ⟨#[]⟩, .int .i64 n, .string ⟨#[]⟩, .slice none 0 0] 24))
      go_wp2_with fail
      exact bodyPost_ret (results_pat (rb := w.heap.size + 1) rfl rfl (setPat_heap (heap_kept ((Grew.refl wr).alloc _) HZ.out)) rfl) rfl (leaf_end (numP 11 n) (nums_leaf (by omega) HPn.out.1 none_size none_size) rfl (setPat_grew (HGw.out.trans ((Grew.refl wr).alloc _)) (by omega) _ _ _ _ _))
set_option maxRecDepth 100000 in
set_option maxHeartbeats 1000000 in
theorem simple_k1 (t : ByteArray) (n : Int) (m : ByteArray) (l : List Pat) (kv : Value) (w : World) (h : SimpIn (.mk 1 t n m l) kv w) : Calls Tryd.prog 23 #[.agg #[.int .i64 1, .string t, .int .i64 n, .string m, kv]] w (SingleEnd w.heap.size (simple (.mk 1 t n m l)) w) := by
  have hkq := h.pat.pq.list
  obtain ⟨a, c, rfl, hlm⟩ := hkq.len
  have hlm : l.length ≤ maxLen := hlm
  have hkq : ListIn w (fun b => b < w.heap.size) (.slice a l.length c) l := hkq
  show Calls _ _ #[.agg #[_, _, _, _, .slice a l.length c]] _ _
  unfold maxLen at hlm
  have HNo := hidd ((errW_iff _).1 h.right).1
  have HT := hidd h.tab
  have HPn := hidd (And.intro h.pat.hn (And.intro h.pat.ht h.pat.hm))
  have HRt := hidd (And.intro h.right h.nodes)
  have HK := hidd (fun i (hi : i < l.length) w' (g : Grew w w') kv' (hv : PatV w' kv' (l.getD i Pat.zero)) => kid_end (h.kids (l.getD i Pat.zero) (by rw [List.getD_eq_getElem?_getD, List.getElem?_eq_getElem hi]; exact List.getElem_mem hi) kv' w' g hv))
  have HLq := hidd hkq
  have HW0 : Hid (Grew w ((w.alloc (.cells #[.int .i64 1, .string t, .int .i64 n, .string m, .slice a l.length c] 24)).alloc (.cells #[.int .i64 0, .string ⟨#[]⟩, .int .i64 0, .string ⟨#[]⟩, .slice none 0 0] 24)) ∧ ((w.alloc (.cells #[.int .i64 1, .string t, .int .i64 n, .string m, .slice a l.length c] 24)).alloc (.cells #[.int .i64 0, .string ⟨#[]⟩, .int .i64 0, .string ⟨#[]⟩, .slice none 0 0] 24)).heap[w.heap.size]? = some (.cells #[.int .i64 1, .string t, .int .i64 n, .string m, .slice a l.length c] 24 (0, 0)) ∧ ((w.alloc (.cells #[.int .i64 1, .string t, .int .i64 n, .string m, .slice a l.length c] 24)).alloc (.cells #[.int .i64 0, .string ⟨#[]⟩, .int .i64 0, .string ⟨#[]⟩, .slice none 0 0] 24)).heap[w.heap.size + 1]? = some (.cells #[.int .i64 0, .string ⟨#[]⟩, .int .i64 0, .string ⟨#[]⟩, .slice none 0 0] 24 (0, 0))) :=
    ⟨((Grew.refl w).alloc _).alloc _, heap_more (heap_alloc_new w _), heap_second w _ _⟩
  have hnl : l.length ≤ 4095 := by
    have h1 := h.nodes
    rw [nodesP] at h1
    have := length_le_nodes l
    omega
  have HX : Hid (simple (.mk 1 t n m l) = litP t) := by
    show makeP _ _ _ _ _ = _
    unfold makeP
    simp
  rw [HX.out]
  clear h hkq
  go_enter Tryd.func23, Tryd.ntmps23
  go_wp2_with fail
  go_loopw [3, 11] (fun s3 s11 wr => ∃ i : Nat, s11 = .int .i64 i ∧ i ≤ l.length ∧ Hid (PatsOwn wr (w.heap.size + 2) (w.heap.size + 2) s3 ((l.map simple).take i) ∧ Grew ((w.alloc (.cells #[.int .i64 1, .string t, .int .i64 n, .string m, .slice a l.length c] 24)).alloc (.cells #[.int .i64 0, .string ⟨#[]⟩, .int .i64 0, .string ⟨#[]⟩, .slice none 0 0] 24)) wr)) (fun _ s11 _ => l.length - (intOf s11).toNat)
  case atStart => exact ⟨0, rfl, by omega, PatsOwn.nil _ _ _, Grew.refl _⟩
  case round =>
    obtain ⟨i, rfl, hi, HD⟩ := hrel
    by_cases hlt : i < l.length
    · have HGw := hidd (HW0.out.1.trans HD.out.2)
      obtain ⟨b, o, kk, rfl, hnd, hq⟩ := (HLq.out.kept HGw.out).at hlt
      obtain ⟨ka, kn, kc, rfl⟩ := hq.form
      have HS := hidd (simple_take hlt)
      have HC := hidd (HK.out i hlt (wr.alloc (.cells #[.int .i64 (l.getD i Pat.zero).kind, .string (l.getD i Pat.zero).text, .int .i64 (l.getD i Pat.zero).n, .string (l.getD i Pat.zero).name, .slice ka kn kc] 24)) (HGw.out.alloc _) (.slice ka kn kc) (hq.kept ((Grew.refl wr).alloc _)).patV)
      obtain ⟨r, hr⟩ : ∃ r, l.getD i Pat.zero = r := ⟨_, rfl⟩
      rw [hr] at hnd HS HC
      obtain ⟨q, hqs⟩ : ∃ q, simple r = q := ⟨_, rfl⟩
      rw [hqs] at HS HC
      obtain ⟨c0, c1, c2, c3, c4, _, _, _, _⟩ := hnd
      have kl : decide ((i : Int) < (l.length : Int)) = true := decide_eq_true (by omega)
      have hsz := HGw.out.size
      clear hr hq hqs HK
      go_wp2_with fail
      refine HC.out.mono ?_; rintro e w2 ⟨qa, qn, qc, rfl, hq2, g2⟩
      have HG3 := hidd (((Grew.refl wr).alloc (.cells #[.int .i64 r.kind, .string r.text, .int .i64 r.n, .string r.name, .slice ka kn kc] 24)).trans g2)
      have hs0 : w.heap.size + 2 ≤ wr.heap.size := by have := HD.out.2.size; simpa using this
      have hl2 : ((l.map simple).take i).length = i := by rw [List.length_take, List.length_map]; omega
      obtain ⟨v', w', hap, ho, hbel, hgr⟩ := pats_append_one (HD.out.1.kept HG3.out) (Nat.le_trans hs0 HG3.out.size) hq2 (fun b hb _ => ⟨by rw [World.size_alloc] at hb; omega, fun e => by have := HD.out.1.blocks b e; rw [World.size_alloc] at hb; omega⟩) (by rw [hl2]; omega) 22 24
      have ho2 := ho
      rw [← HS.out] at ho2
      have HE := hidd (And.intro ho2 ((HD.out.2.trans HG3.out).below hbel (by simp)))
      clear ho ho2 hbel hgr g2 hq2
      go_wp2_with (at_builtin; refine wpList_append_eq rfl rfl rfl rfl hap ?_)
      go_roundw
      case rel => exact ⟨i + 1, by go_num, by omega, HE⟩
      case measure => simp [intOf]; omega
    · have hie : i = l.length := by omega
      have kl : decide ((i : Int) < (l.length : Int)) = false := decide_eq_false (by omega)
      have HE := hidd HD.out.1
      rw [show (l.map simple).take i = l.map simple from by rw [hie, show l.length = (l.map simple).length from (List.length_map _).symm, List.take_length]] at HE
      have HGw := hidd (HW0.out.1.trans HD.out.2)
      have HB := hidd (heap_kept HD.out.2 HW0.out.2.1)
      have HZ := hidd (heap_kept HD.out.2 HW0.out.2.2)
      have hsz := HGw.out.size
      clear HD hie HK HW0 HLq
      obtain ⟨⟨b0, b1, b2, b3, b4⟩, bf⟩ := five_cells HB.out
      obtain ⟨⟨f0, f1, f2, f3, f4⟩, ff⟩ := five_cells (heap_more (o := (.cells #[.int .i64 1, .string ⟨#[]⟩, .int .i64 0, .string ⟨#[]⟩, .slice none 0 0] 24)) HB.out)
      obtain ⟨⟨z0, z1, z2, z3, z4⟩, zf⟩ := five_cells (heap_more (o := (.cells #[.int .i64 1, .string ⟨#[]⟩, .int .i64 0, .string ⟨#[]⟩, .slice none 0 0] 24)) HZ.out)
      obtain ⟨⟨o0, o1, o2, o3, o4⟩, of⟩ := five_cells (heap_alloc_new wr (.cells #[.int .i64 1, .string ⟨#[]⟩, .int .i64 0, .string ⟨#[]⟩, .slice none 0 0] 24))
      obtain ⟨⟨f'0, f'1, f'2, f'3, f'4⟩, f'f⟩ := five_cells (heap_more (o := (.cells #[.int .i64 1, .string t, .int .i64 0, .string ⟨#[]⟩, .slice none 0 0] 24)) HB.out)
      obtain ⟨⟨z'0, z'1, z'2, z'3, z'4⟩, z'f⟩ := five_cells (heap_more (o := (.cells #[.int .i64 1, .string t, .int .i64 0, .string ⟨#[]⟩, .slice none 0 0] 24)) HZ.out)
      obtain ⟨⟨o'0, o'1, o'2, o'3, o'4⟩, o'f⟩ := five_cells (heap_alloc_new wr (.cells #[.int .i64 1, .string t, .int .i64 0, .string ⟨#[]⟩, .slice none 0 0] 24))
      go_wp2_with fail
      exact bodyPost_ret (results_pat (rb := w.heap.size + 1) rfl rfl (setPat_heap (heap_kept ((Grew.refl wr).alloc _) HZ.out)) rfl) rfl (leaf_end (litP t) (nums_leaf (by omega) zero_in HPn.out.2.1 none_size) rfl (setPat_grew (HGw.out.trans ((Grew.refl wr).alloc _)) (by omega) _ _ _ _ _))
set_option maxRecDepth 100000 in
set_option maxHeartbeats 1000000 in
theorem simple_k23 (t : ByteArray) (n : Int) (m : ByteArray) (l : List Pat) (kv : Value) (w : World) (h : SimpIn (.mk 23 t n m l) kv w) : Calls Tryd.prog 23 #[.agg #[.int .i64 23, .string t, .int .i64 n, .string m, kv]] w (SingleEnd w.heap.size (simple (.mk 23 t n m l)) w) := by
  have hkq := h.pat.pq.list
  obtain ⟨a, c, rfl, hlm⟩ := hkq.len
  have hlm : l.length ≤ maxLen := hlm
  have hkq : ListIn w (fun b => b < w.heap.size) (.slice a l.length c) l := hkq
  show Calls _ _ #[.agg #[_, _, _, _, .slice a l.length c]] _ _
  unfold maxLen at hlm
  have HNo := hidd ((errW_iff _).1 h.right).1
  have HT := hidd h.tab
  have HPn := hidd (And.intro h.pat.hn (And.intro h.pat.ht h.pat.hm))
  have HRt := hidd (And.intro h.right h.nodes)
  have HK := hidd (fun i (hi : i < l.length) w' (g : Grew w w') kv' (hv : PatV w' kv' (l.getD i Pat.zero)) => kid_end (h.kids (l.getD i Pat.zero) (by rw [List.getD_eq_getElem?_getD, List.getElem?_eq_getElem hi]; exact List.getElem_mem hi) kv' w' g hv))
  have HLq := hidd hkq
  have HW0 : Hid (Grew w ((w.alloc (.cells #[.int .i64 23, .string t, .int .i64 n, .string m, .slice a l.length c] 24)).alloc (.cells #[.int .i64 0, .string ⟨#[]⟩, .int .i64 0, .string ⟨#[]⟩, .slice none 0 0] 24)) ∧ ((w.alloc (.cells #[.int .i64 23, .string t, .int .i64 n, .string m, .slice a l.length c] 24)).alloc (.cells #[.int .i64 0, .string ⟨#[]⟩, .int .i64 0, .string ⟨#[]⟩, .slice none 0 0] 24)).heap[w.heap.size]? = some (.cells #[.int .i64 23, .string t, .int .i64 n, .string m, .slice a l.length c] 24 (0, 0)) ∧ ((w.alloc (.cells #[.int .i64 23, .string t, .int .i64 n, .string m, .slice a l.length c] 24)).alloc (.cells #[.int .i64 0, .string ⟨#[]⟩, .int .i64 0, .string ⟨#[]⟩, .slice none 0 0] 24)).heap[w.heap.size + 1]? = some (.cells #[.int .i64 0, .string ⟨#[]⟩, .int .i64 0, .string ⟨#[]⟩, .slice none 0 0] 24 (0, 0))) :=
    ⟨((Grew.refl w).alloc _).alloc _, heap_more (heap_alloc_new w _), heap_second w _ _⟩
  have hnl : l.length ≤ 4095 := by
    have h1 := h.nodes
    rw [nodesP] at h1
    have := length_le_nodes l
    omega
  have HX : Hid (simple (.mk 23 t n m l) = .mk 23 ByteArray.empty 0 m []) := by
    show makeP _ _ _ _ _ = _
    unfold makeP
    simp
  rw [HX.out]
  clear h hkq
  go_enter Tryd.func23, Tryd.ntmps23
  go_wp2_with fail
  go_loopw [3, 11] (fun s3 s11 wr => ∃ i : Nat, s11 = .int .i64 i ∧ i ≤ l.length ∧ Hid (PatsOwn wr (w.heap.size + 2) (w.heap.size + 2) s3 ((l.map simple).take i) ∧ Grew ((w.alloc (.cells #[.int .i64 23, .string t, .int .i64 n, .string m, .slice a l.length c] 24)).alloc (.cells #[.int .i64 0, .string ⟨#[]⟩, .int .i64 0, .string ⟨#[]⟩, .slice none 0 0] 24)) wr)) (fun _ s11 _ => l.length - (intOf s11).toNat)
  case atStart => exact ⟨0, rfl, by omega, PatsOwn.nil _ _ _, Grew.refl _⟩
  case round =>
    obtain ⟨i, rfl, hi, HD⟩ := hrel
    by_cases hlt : i < l.length
    · have HGw := hidd (HW0.out.1.trans HD.out.2)
      obtain ⟨b, o, kk, rfl, hnd, hq⟩ := (HLq.out.kept HGw.out).at hlt
      obtain ⟨ka, kn, kc, rfl⟩ := hq.form
      have HS := hidd (simple_take hlt)
      have HC := hidd (HK.out i hlt (wr.alloc (.cells #[.int .i64 (l.getD i Pat.zero).kind, .string (l.getD i Pat.zero).text, .int .i64 (l.getD i Pat.zero).n, .string (l.getD i Pat.zero).name, .slice ka kn kc] 24)) (HGw.out.alloc _) (.slice ka kn kc) (hq.kept ((Grew.refl wr).alloc _)).patV)
      obtain ⟨r, hr⟩ : ∃ r, l.getD i Pat.zero = r := ⟨_, rfl⟩
      rw [hr] at hnd HS HC
      obtain ⟨q, hqs⟩ : ∃ q, simple r = q := ⟨_, rfl⟩
      rw [hqs] at HS HC
      obtain ⟨c0, c1, c2, c3, c4, _, _, _, _⟩ := hnd
      have kl : decide ((i : Int) < (l.length : Int)) = true := decide_eq_true (by omega)
      have hsz := HGw.out.size
      clear hr hq hqs HK
      go_wp2_with fail
      refine HC.out.mono ?_; rintro e w2 ⟨qa, qn, qc, rfl, hq2, g2⟩
      have HG3 := hidd (((Grew.refl wr).alloc (.cells #[.int .i64 r.kind, .string r.text, .int .i64 r.n, .string r.name, .slice ka kn kc] 24)).trans g2)
      have hs0 : w.heap.size + 2 ≤ wr.heap.size := by have := HD.out.2.size; simpa using this
      have hl2 : ((l.map simple).take i).length = i := by rw [List.length_take, List.length_map]; omega
      obtain ⟨v', w', hap, ho, hbel, hgr⟩ := pats_append_one (HD.out.1.kept HG3.out) (Nat.le_trans hs0 HG3.out.size) hq2 (fun b hb _ => ⟨by rw [World.size_alloc] at hb; omega, fun e => by have := HD.out.1.blocks b e; rw [World.size_alloc] at hb; omega⟩) (by rw [hl2]; omega) 22 24
      have ho2 := ho
      rw [← HS.out] at ho2
      have HE := hidd (And.intro ho2 ((HD.out.2.trans HG3.out).below hbel (by simp)))
      clear ho ho2 hbel hgr g2 hq2
      go_wp2_with (at_builtin; refine wpList_append_eq rfl rfl rfl rfl hap ?_)
      go_roundw
      case rel => exact ⟨i + 1, by go_num, by omega, HE⟩
      case measure => simp [intOf]; omega
    · have hie : i = l.length := by omega
      have kl : decide ((i : Int) < (l.length : Int)) = false := decide_eq_false (by omega)
      have HE := hidd HD.out.1
      rw [show (l.map simple).take i = l.map simple from by rw [hie, show l.length = (l.map simple).length from (List.length_map _).symm, List.take_length]] at HE
      have HGw := hidd (HW0.out.1.trans HD.out.2)
      have HB := hidd (heap_kept HD.out.2 HW0.out.2.1)
      have HZ := hidd (heap_kept HD.out.2 HW0.out.2.2)
      have hsz := HGw.out.size
      clear HD hie HK HW0 HLq
      obtain ⟨⟨b0, b1, b2, b3, b4⟩, bf⟩ := five_cells HB.out
      obtain ⟨⟨f0, f1, f2, f3, f4⟩, ff⟩ := five_cells (heap_more (o := (.cells #[.int .i64 23, .string ⟨#[]⟩, .int .i64 0, .string ⟨#[]⟩, .slice none 0 0] 24)) HB.out)
      obtain ⟨⟨z0, z1, z2, z3, z4⟩, zf⟩ := five_cells (heap_more (o := (.cells #[.int .i64 23, .string ⟨#[]⟩, .int .i64 0, .string ⟨#[]⟩, .slice none 0 0] 24)) HZ.out)
      obtain ⟨⟨o0, o1, o2, o3, o4⟩, of⟩ := five_cells (heap_alloc_new wr (.cells #[.int .i64 23, .string ⟨#[]⟩, .int .i64 0, .string ⟨#[]⟩, .slice none 0 0] 24))
      obtain ⟨⟨f'0, f'1, f'2, f'3, f'4⟩, f'f⟩ := five_cells (heap_more (o := (.cells #[.int .i64 23, .string ⟨#[]⟩, .int .i64 0, .string m, .slice none 0 0] 24)) HB.out)
      obtain ⟨⟨z'0, z'1, z'2, z'3, z'4⟩, z'f⟩ := five_cells (heap_more (o := (.cells #[.int .i64 23, .string ⟨#[]⟩, .int .i64 0, .string m, .slice none 0 0] 24)) HZ.out)
      obtain ⟨⟨o'0, o'1, o'2, o'3, o'4⟩, o'f⟩ := five_cells (heap_alloc_new wr (.cells #[.int .i64 23, .string ⟨#[]⟩, .int .i64 0, .string m, .slice none 0 0] 24))
      go_wp2_with fail
      exact bodyPost_ret (results_pat (rb := w.heap.size + 1) rfl rfl (setPat_heap (heap_kept ((Grew.refl wr).alloc _) HZ.out)) rfl) rfl (leaf_end (.mk 23 ByteArray.empty 0 m []) (nums_leaf (by omega) zero_in none_size HPn.out.2.2) rfl (setPat_grew (HGw.out.trans ((Grew.refl wr).alloc _)) (by omega) _ _ _ _ _))
set_option maxRecDepth 100000 in
set_option maxHeartbeats 1000000 in
theorem simple_k24 (t : ByteArray) (n : Int) (m : ByteArray) (l : List Pat) (kv : Value) (w : World) (h : SimpIn (.mk 24 t n m l) kv w) : Calls Tryd.prog 23 #[.agg #[.int .i64 24, .string t, .int .i64 n, .string m, kv]] w (SingleEnd w.heap.size (simple (.mk 24 t n m l)) w) := by
  have hkq := h.pat.pq.list
  obtain ⟨a, c, rfl, hlm⟩ := hkq.len
  have hlm : l.length ≤ maxLen := hlm
  have hkq : ListIn w (fun b => b < w.heap.size) (.slice a l.length c) l := hkq
  show Calls _ _ #[.agg #[_, _, _, _, .slice a l.length c]] _ _
  unfold maxLen at hlm
  have HNo := hidd ((errW_iff _).1 h.right).1
  have HT := hidd h.tab
  have HPn := hidd (And.intro h.pat.hn (And.intro h.pat.ht h.pat.hm))
  have HRt := hidd (And.intro h.right h.nodes)
  have HK := hidd (fun i (hi : i < l.length) w' (g : Grew w w') kv' (hv : PatV w' kv' (l.getD i Pat.zero)) => kid_end (h.kids (l.getD i Pat.zero) (by rw [List.getD_eq_getElem?_getD, List.getElem?_eq_getElem hi]; exact List.getElem_mem hi) kv' w' g hv))
  have HLq := hidd hkq
  have HW0 : Hid (Grew w ((w.alloc (.cells #[.int .i64 24, .string t, .int .i64 n, .string m, .slice a l.length c] 24)).alloc (.cells #[.int .i64 0, .string ⟨#[]⟩, .int .i64 0, .string ⟨#[]⟩, .slice none 0 0] 24)) ∧ ((w.alloc (.cells #[.int .i64 24, .string t, .int .i64 n, .string m, .slice a l.length c] 24)).alloc (.cells #[.int .i64 0, .string ⟨#[]⟩, .int .i64 0, .string ⟨#[]⟩, .slice none 0 0] 24)).heap[w.heap.size]? = some (.cells #[.int .i64 24, .string t, .int .i64 n, .string m, .slice a l.length c] 24 (0, 0)) ∧ ((w.alloc (.cells #[.int .i64 24, .string t, .int .i64 n, .string m, .slice a l.length c] 24)).alloc (.cells #[.int .i64 0, .string ⟨#[]⟩, .int .i64 0, .string ⟨#[]⟩, .slice none 0 0] 24)).heap[w.heap.size + 1]? = some (.cells #[.int .i64 0, .string ⟨#[]⟩, .int .i64 0, .string ⟨#[]⟩, .slice none 0 0] 24 (0, 0))) :=
    ⟨((Grew.refl w).alloc _).alloc _, heap_more (heap_alloc_new w _), heap_second w _ _⟩
  have hnl : l.length ≤ 4095 := by
    have h1 := h.nodes
    rw [nodesP] at h1
    have := length_le_nodes l
    omega
  have HX : Hid (simple (.mk 24 t n m l) = .mk 24 ByteArray.empty 0 m []) := by
    show makeP _ _ _ _ _ = _
    unfold makeP
    simp
  rw [HX.out]
  clear h hkq
  go_enter Tryd.func23, Tryd.ntmps23
  go_wp2_with fail
  go_loopw [3, 11] (fun s3 s11 wr => ∃ i : Nat, s11 = .int .i64 i ∧ i ≤ l.length ∧ Hid (PatsOwn wr (w.heap.size + 2) (w.heap.size + 2) s3 ((l.map simple).take i) ∧ Grew ((w.alloc (.cells #[.int .i64 24, .string t, .int .i64 n, .string m, .slice a l.length c] 24)).alloc (.cells #[.int .i64 0, .string ⟨#[]⟩, .int .i64 0, .string ⟨#[]⟩, .slice none 0 0] 24)) wr)) (fun _ s11 _ => l.length - (intOf s11).toNat)
  case atStart => exact ⟨0, rfl, by omega, PatsOwn.nil _ _ _, Grew.refl _⟩
  case round =>
    obtain ⟨i, rfl, hi, HD⟩ := hrel
    by_cases hlt : i < l.length
    · have HGw := hidd (HW0.out.1.trans HD.out.2)
      obtain ⟨b, o, kk, rfl, hnd, hq⟩ := (HLq.out.kept HGw.out).at hlt
      obtain ⟨ka, kn, kc, rfl⟩ := hq.form
      have HS := hidd (simple_take hlt)
      have HC := hidd (HK.out i hlt (wr.alloc (.cells #[.int .i64 (l.getD i Pat.zero).kind, .string (l.getD i Pat.zero).text, .int .i64 (l.getD i Pat.zero).n, .string (l.getD i Pat.zero).name, .slice ka kn kc] 24)) (HGw.out.alloc _) (.slice ka kn kc) (hq.kept ((Grew.refl wr).alloc _)).patV)
      obtain ⟨r, hr⟩ : ∃ r, l.getD i Pat.zero = r := ⟨_, rfl⟩
      rw [hr] at hnd HS HC
      obtain ⟨q, hqs⟩ : ∃ q, simple r = q := ⟨_, rfl⟩
      rw [hqs] at HS HC
      obtain ⟨c0, c1, c2, c3, c4, _, _, _, _⟩ := hnd
      have kl : decide ((i : Int) < (l.length : Int)) = true := decide_eq_true (by omega)
      have hsz := HGw.out.size
      clear hr hq hqs HK
      go_wp2_with fail
      refine HC.out.mono ?_; rintro e w2 ⟨qa, qn, qc, rfl, hq2, g2⟩
      have HG3 := hidd (((Grew.refl wr).alloc (.cells #[.int .i64 r.kind, .string r.text, .int .i64 r.n, .string r.name, .slice ka kn kc] 24)).trans g2)
      have hs0 : w.heap.size + 2 ≤ wr.heap.size := by have := HD.out.2.size; simpa using this
      have hl2 : ((l.map simple).take i).length = i := by rw [List.length_take, List.length_map]; omega
      obtain ⟨v', w', hap, ho, hbel, hgr⟩ := pats_append_one (HD.out.1.kept HG3.out) (Nat.le_trans hs0 HG3.out.size) hq2 (fun b hb _ => ⟨by rw [World.size_alloc] at hb; omega, fun e => by have := HD.out.1.blocks b e; rw [World.size_alloc] at hb; omega⟩) (by rw [hl2]; omega) 22 24
      have ho2 := ho
      rw [← HS.out] at ho2
      have HE := hidd (And.intro ho2 ((HD.out.2.trans HG3.out).below hbel (by simp)))
      clear ho ho2 hbel hgr g2 hq2
      go_wp2_with (at_builtin; refine wpList_append_eq rfl rfl rfl rfl hap ?_)
      go_roundw
      case rel => exact ⟨i + 1, by go_num, by omega, HE⟩
      case measure => simp [intOf]; omega
    · have hie : i = l.length := by omega
      have kl : decide ((i : Int) < (l.length : Int)) = false := decide_eq_false (by omega)
      have HE := hidd HD.out.1
      rw [show (l.map simple).take i = l.map simple from by rw [hie, show l.length = (l.map simple).length from (List.length_map _).symm, List.take_length]] at HE
      have HGw := hidd (HW0.out.1.trans HD.out.2)
      have HB := hidd (heap_kept HD.out.2 HW0.out.2.1)
      have HZ := hidd (heap_kept HD.out.2 HW0.out.2.2)
      have hsz := HGw.out.size
      clear HD hie HK HW0 HLq
      obtain ⟨⟨b0, b1, b2, b3, b4⟩, bf⟩ := five_cells HB.out
      obtain ⟨⟨f0, f1, f2, f3, f4⟩, ff⟩ := five_cells (heap_more (o := (.cells #[.int .i64 24, .string ⟨#[]⟩, .int .i64 0, .string ⟨#[]⟩, .slice none 0 0] 24)) HB.out)
      obtain ⟨⟨z0, z1, z2, z3, z4⟩, zf⟩ := five_cells (heap_more (o := (.cells #[.int .i64 24, .string ⟨#[]⟩, .int .i64 0, .string ⟨#[]⟩, .slice none 0 0] 24)) HZ.out)
      obtain ⟨⟨o0, o1, o2, o3, o4⟩, of⟩ := five_cells (heap_alloc_new wr (.cells #[.int .i64 24, .string ⟨#[]⟩, .int .i64 0, .string ⟨#[]⟩, .slice none 0 0] 24))
      obtain ⟨⟨f'0, f'1, f'2, f'3, f'4⟩, f'f⟩ := five_cells (heap_more (o := (.cells #[.int .i64 24, .string ⟨#[]⟩, .int .i64 0, .string m, .slice none 0 0] 24)) HB.out)
      obtain ⟨⟨z'0, z'1, z'2, z'3, z'4⟩, z'f⟩ := five_cells (heap_more (o := (.cells #[.int .i64 24, .string ⟨#[]⟩, .int .i64 0, .string m, .slice none 0 0] 24)) HZ.out)
      obtain ⟨⟨o'0, o'1, o'2, o'3, o'4⟩, o'f⟩ := five_cells (heap_alloc_new wr (.cells #[.int .i64 24, .string ⟨#[]⟩, .int .i64 0, .string m, .slice none 0 0] 24))
      go_wp2_with fail
      exact bodyPost_ret (results_pat (rb := w.heap.size + 1) rfl rfl (setPat_heap (heap_kept ((Grew.refl wr).alloc _) HZ.out)) rfl) rfl (leaf_end (.mk 24 ByteArray.empty 0 m []) (nums_leaf (by omega) zero_in none_size HPn.out.2.2) rfl (setPat_grew (HGw.out.trans ((Grew.refl wr).alloc _)) (by omega) _ _ _ _ _))
end Go.Proofs.YtmcfoefhenmjeaaDoor
/-! tune: simple, some kinds. Printed. -/
namespace Go.Proofs.YtmcfoefhenmjeaaDoor
open Go.RowKit
set_option linter.unusedVariables false
theorem upToP_len (f : Pat → Bool) : ∀ l : List Pat, (upToP f l).length ≤ l.length
  | [] => Nat.le_refl _
  | p :: l => by
    rw [upToP]
    have := upToP_len f l
    refine iteInduction (motive := fun m : List Pat => m.length ≤ (p :: l).length) (fun _ => by simp) (fun _ => by simpa using this)
theorem fit_pieces : TwoFit piecesP := by
  refine ⟨pieces_right, fun a b q ha hb h => ?_, fun a b q h => ?_⟩
  · have na := ((errW_iff _).1 ha).1
    have nb := ((errW_iff _).1 hb).1
    unfold piecesP at h
    split at h
    · rename_i hc; cases h
      exact nums_lit (by rw [ByteArray.size_append]; unfold maxLen; omega)
    · split at h
      · rename_i hc; cases h
        have h1 := na.num (Or.inl hc.1)
        have h2 := nb.num (Or.inl hc.2.1)
        exact ⟨by show (-9223372036854775808 : Int) ≤ 2 ∧ (2 : Int) ≤ 9223372036854775807; omega, by show (-9223372036854775808 : Int) ≤ a.n + b.n ∧ a.n + b.n ≤ 9223372036854775807; omega, Nat.zero_le _, Nat.zero_le _⟩
      · cases h
  · unfold piecesP at h
    split at h
    · cases h; rfl
    · split at h
      · cases h; rfl
      · cases h
theorem fit_others : TwoFit othersP := by
  refine ⟨others_right, fun a b q ha hb h => ?_, fun a b q h => ?_⟩
  · unfold othersP at h
    split at h
    · cases h
      exact ⟨by show (-9223372036854775808 : Int) ≤ 3 ∧ (3 : Int) ≤ 9223372036854775807; omega, by show (-9223372036854775808 : Int) ≤ 0 ∧ (0 : Int) ≤ 9223372036854775807; omega, spell_max _, Nat.zero_le _⟩
    · cases h
  · unfold othersP at h
    split at h
    · cases h; rfl
    · cases h
/-- What is so of the lists of kids. -/
structure Three (k : Int) (l l2 : List Pat) : Prop where
  flatK : ∀ p ∈ l, p.kind = k → 0 < p.kids.length
  nodes : nodesL l ≤ 4096
  right : ∀ p ∈ l2, errW p = 0
  len : l2.length ≤ 4096
theorem three {k : Int} (hk : k = 18 ∨ k = 19) {k0 n : Int} {t m : ByteArray} {l : List Pat} (h : errW (.mk k0 t n m l) = 0) (hn : nodesP (.mk k0 t n m l) ≤ 4096) (f g : Pat → Bool) : Three k (l.map simple) (upToP f ((flatP k (l.map simple)).filter fun p => !g p)) := by
  rw [nodesP] at hn
  have hr := simpleL_right l ((errW_iff _).1 h).2 (by omega)
  have hs := simpleL_nodes l
  rw [simpleL_map] at hr hs
  refine ⟨fun p hp e => ?_, by omega, fun p hp => ?_, ?_⟩
  · have := ((errW_iff _).1 (hr p hp)).1.many (by omega)
    omega
  · exact flatP_all right_kids hr p (List.mem_filter.1 (upToP_mem _ hp)).1
  · refine Nat.le_trans (upToP_len f _) (Nat.le_trans (List.length_filter_le _ _) (Nat.le_trans (flat_len k _) (by omega)))
set_option maxRecDepth 100000 in
set_option maxHeartbeats 4000000 in
theorem simple_k18 (t : ByteArray) (n : Int) (m : ByteArray) (l : List Pat) (kv : Value) (w : World) (h : SimpIn (.mk 18 t n m l) kv w) : Calls Tryd.prog 23 #[.agg #[.int .i64 18, .string t, .int .i64 n, .string m, kv]] w (SingleEnd w.heap.size (simple (.mk 18 t n m l)) w) := by
  have hkq := h.pat.pq.list
  obtain ⟨a, c, rfl, hlm⟩ := hkq.len
  have hlm : l.length ≤ maxLen := hlm
  have hkq : ListIn w (fun b => b < w.heap.size) (.slice a l.length c) l := hkq
  show Calls _ _ #[.agg #[_, _, _, _, .slice a l.length c]] _ _
  unfold maxLen at hlm
  have HNo := hidd ((errW_iff _).1 h.right).1
  have HT := hidd h.tab
  have HPn := hidd (And.intro h.pat.hn (And.intro h.pat.ht h.pat.hm))
  have HRt := hidd (And.intro h.right h.nodes)
  have HK := hidd (fun i (hi : i < l.length) w' (g : Grew w w') kv' (hv : PatV w' kv' (l.getD i Pat.zero)) => kid_end (h.kids (l.getD i Pat.zero) (by rw [List.getD_eq_getElem?_getD, List.getElem?_eq_getElem hi]; exact List.getElem_mem hi) kv' w' g hv))
  have HLq := hidd hkq
  have HW0 : Hid (Grew w ((w.alloc (.cells #[.int .i64 18, .string t, .int .i64 n, .string m, .slice a l.length c] 24)).alloc (.cells #[.int .i64 0, .string ⟨#[]⟩, .int .i64 0, .string ⟨#[]⟩, .slice none 0 0] 24)) ∧ ((w.alloc (.cells #[.int .i64 18, .string t, .int .i64 n, .string m, .slice a l.length c] 24)).alloc (.cells #[.int .i64 0, .string ⟨#[]⟩, .int .i64 0, .string ⟨#[]⟩, .slice none 0 0] 24)).heap[w.heap.size]? = some (.cells #[.int .i64 18, .string t, .int .i64 n, .string m, .slice a l.length c] 24 (0, 0)) ∧ ((w.alloc (.cells #[.int .i64 18, .string t, .int .i64 n, .string m, .slice a l.length c] 24)).alloc (.cells #[.int .i64 0, .string ⟨#[]⟩, .int .i64 0, .string ⟨#[]⟩, .slice none 0 0] 24)).heap[w.heap.size + 1]? = some (.cells #[.int .i64 0, .string ⟨#[]⟩, .int .i64 0, .string ⟨#[]⟩, .slice none 0 0] 24 (0, 0))) :=
    ⟨((Grew.refl w).alloc _).alloc _, heap_more (heap_alloc_new w _), heap_second w _ _⟩
  have hnl : l.length ≤ 4095 := by
    have h1 := h.nodes
    rw [nodesP] at h1
    have := length_le_nodes l
    omega
  have HX : Hid (simple (.mk 18 t n m l) = singleP 18 (litP ByteArray.empty) (catL (l.map simple))) := by
    refine hidd ?_
    rw [simple, simpleL_map]
    rfl
  rw [HX.out]
  have H3 := hidd (three (k := 18) (Or.inl rfl) HRt.out.1 HRt.out.2 endsB emptyP)
  clear h hkq
  go_enter Tryd.func23, Tryd.ntmps23
  go_wp2_with fail
  go_loopw [3, 11] (fun s3 s11 wr => ∃ i : Nat, s11 = .int .i64 i ∧ i ≤ l.length ∧ Hid (PatsOwn wr (w.heap.size + 2) (w.heap.size + 2) s3 ((l.map simple).take i) ∧ Grew ((w.alloc (.cells #[.int .i64 18, .string t, .int .i64 n, .string m, .slice a l.length c] 24)).alloc (.cells #[.int .i64 0, .string ⟨#[]⟩, .int .i64 0, .string ⟨#[]⟩, .slice none 0 0] 24)) wr)) (fun _ s11 _ => l.length - (intOf s11).toNat)
  case atStart => exact ⟨0, rfl, by omega, PatsOwn.nil _ _ _, Grew.refl _⟩
  case round =>
    obtain ⟨i, rfl, hi, HD⟩ := hrel
    by_cases hlt : i < l.length
    · have HGw := hidd (HW0.out.1.trans HD.out.2)
      obtain ⟨b, o, kk, rfl, hnd, hq⟩ := (HLq.out.kept HGw.out).at hlt
      obtain ⟨ka, kn, kc, rfl⟩ := hq.form
      have HS := hidd (simple_take hlt)
      have HC := hidd (HK.out i hlt (wr.alloc (.cells #[.int .i64 (l.getD i Pat.zero).kind, .string (l.getD i Pat.zero).text, .int .i64 (l.getD i Pat.zero).n, .string (l.getD i Pat.zero).name, .slice ka kn kc] 24)) (HGw.out.alloc _) (.slice ka kn kc) (hq.kept ((Grew.refl wr).alloc _)).patV)
      obtain ⟨r, hr⟩ : ∃ r, l.getD i Pat.zero = r := ⟨_, rfl⟩
      rw [hr] at hnd HS HC
      obtain ⟨q, hqs⟩ : ∃ q, simple r = q := ⟨_, rfl⟩
      rw [hqs] at HS HC
      obtain ⟨c0, c1, c2, c3, c4, _, _, _, _⟩ := hnd
      have kl : decide ((i : Int) < (l.length : Int)) = true := decide_eq_true (by omega)
      have hsz := HGw.out.size
      clear hr hq hqs HK
      go_wp2_with fail
      refine HC.out.mono ?_; rintro e w2 ⟨qa, qn, qc, rfl, hq2, g2⟩
      have HG3 := hidd (((Grew.refl wr).alloc (.cells #[.int .i64 r.kind, .string r.text, .int .i64 r.n, .string r.name, .slice ka kn kc] 24)).trans g2)
      have hs0 : w.heap.size + 2 ≤ wr.heap.size := by have := HD.out.2.size; simpa using this
      have hl2 : ((l.map simple).take i).length = i := by rw [List.length_take, List.length_map]; omega
      obtain ⟨v', w', hap, ho, hbel, hgr⟩ := pats_append_one (HD.out.1.kept HG3.out) (Nat.le_trans hs0 HG3.out.size) hq2 (fun b hb _ => ⟨by rw [World.size_alloc] at hb; omega, fun e => by have := HD.out.1.blocks b e; rw [World.size_alloc] at hb; omega⟩) (by rw [hl2]; omega) 22 24
      have ho2 := ho
      rw [← HS.out] at ho2
      have HE := hidd (And.intro ho2 ((HD.out.2.trans HG3.out).below hbel (by simp)))
      clear ho ho2 hbel hgr g2 hq2
      go_wp2_with (at_builtin; refine wpList_append_eq rfl rfl rfl rfl hap ?_)
      go_roundw
      case rel => exact ⟨i + 1, by go_num, by omega, HE⟩
      case measure => simp [intOf]; omega
    · have hie : i = l.length := by omega
      have kl : decide ((i : Int) < (l.length : Int)) = false := decide_eq_false (by omega)
      have HE := hidd HD.out.1
      rw [show (l.map simple).take i = l.map simple from by rw [hie, show l.length = (l.map simple).length from (List.length_map _).symm, List.take_length]] at HE
      have HGw := hidd (HW0.out.1.trans HD.out.2)
      have HB := hidd (heap_kept HD.out.2 HW0.out.2.1)
      have HZ := hidd (heap_kept HD.out.2 HW0.out.2.2)
      have hsz := HGw.out.size
      clear HD hie HK HW0 HLq
      obtain ⟨⟨b0, b1, b2, b3, b4⟩, bf⟩ := five_cells HB.out
      obtain ⟨⟨f0, f1, f2, f3, f4⟩, ff⟩ := five_cells (heap_more (o := (.cells #[.int .i64 18, .string ⟨#[]⟩, .int .i64 0, .string ⟨#[]⟩, .slice none 0 0] 24)) HB.out)
      obtain ⟨⟨z0, z1, z2, z3, z4⟩, zf⟩ := five_cells (heap_more (o := (.cells #[.int .i64 18, .string ⟨#[]⟩, .int .i64 0, .string ⟨#[]⟩, .slice none 0 0] 24)) HZ.out)
      obtain ⟨⟨o0, o1, o2, o3, o4⟩, of⟩ := five_cells (heap_alloc_new wr (.cells #[.int .i64 18, .string ⟨#[]⟩, .int .i64 0, .string ⟨#[]⟩, .slice none 0 0] 24))
      have HW2 : Hid (w.heap.size + 2 ≤ wr.heap.size) := (Array.getElem?_eq_some_iff.1 HZ.out).1
      obtain ⟨X, hX⟩ : ∃ X, singleP 18 (litP ByteArray.empty) (catL (l.map simple)) = X := ⟨_, rfl⟩
      have HXX := hidd hX
      clear hX
      go_wp2_with fail
      refine (flat_any 18 (l.map simple) _ (wr.alloc (.cells #[.int .i64 18, .string ⟨#[]⟩, .int .i64 0, .string ⟨#[]⟩, .slice none 0 0] 24)) (HE.out.kept ((Grew.refl wr).alloc _)).list (fun b hb => hb) H3.out.flatK H3.out.nodes).mono ?_; rintro e w1 ⟨v1, rfl, p1, g1⟩
      have HP1 := hidd p1
      have HG1 := hidd (((Grew.refl wr).alloc (.cells #[.int .i64 18, .string ⟨#[]⟩, .int .i64 0, .string ⟨#[]⟩, .slice none 0 0] 24)).trans g1)
      have HG01 := hidd g1
      have hs1 := g1.size
      rw [World.size_alloc] at hs1
      clear p1 g1
      clear f0 f1 f2 f3 f4 ff z0 z1 z2 z3 z4 zf o0 o1 o2 o3 o4 of
      go_wp2_with fail
      refine (DeleteP_any 48 (Or.inl rfl) emptyP (fun p kv w => empty_any p kv w) _ v1 w1 HP1.out (by rw [World.size_alloc]; omega)).mono ?_; rintro e w2 ⟨v2, rfl, p2, g2⟩
      have HP2 := hidd p2
      have HG2 := hidd (((Grew.refl wr).alloc (.cells #[.int .i64 18, .string ⟨#[]⟩, .int .i64 0, .string ⟨#[]⟩, .slice none 0 0] 24)).trans (HG01.out.below g2 (Nat.le_refl _)))
      clear p2 g2
      go_wp2_with fail
      refine (upTo_any 50 (Or.inl rfl) endsB (fun p kv w => ends_test p kv w) _ v2 w2 HP2.out).mono ?_; rintro e w3 ⟨v3, rfl, p3, g3⟩
      have HP3 := hidd p3
      have HG3 := hidd (HG2.out.trans g3)
      have hs3 := HG3.out.size
      clear p3 g3
      go_wp2_with fail
      refine (merged_pieces piecesP _ v3 w3 (pieces_at w3) fit_pieces HP3.out.list (fun b hb => hb) (by have := HW2.out; omega) H3.out.right H3.out.len).mono ?_; rintro e w4 ⟨v4, rfl, p4, g4⟩
      have HP4 := hidd p4
      have HG4 := hidd (HG3.out.trans g4)
      clear p4 g4
      go_wp2_with fail
      refine (lit_exact _ _).mono ?_; rintro e w5 ⟨rfl, hw5⟩
      have HG45 : Hid (Grew w4 w5) := hidd (by rw [hw5]; exact (Grew.refl _).alloc _)
      clear hw5
      go_wp2_with fail
      have HS := hidd (single_any 18 _ v4 (litP ByteArray.empty) (.slice none 0 0) w5 (HP4.out.kept HG45.out) (by have := HW2.out; omega) (.leaf _ none 0 (nums_leaf (by omega) zero_in none_size none_size) rfl) (by omega))
      rw [show singleP 18 (litP ByteArray.empty) (mergedP piecesP (upToP endsB ((flatP 18 (l.map simple)).filter fun p => !emptyP p))) = X from HXX.out] at HS
      refine (HS.out).mono ?_; rintro e w6 ⟨kv, rfl, hq6, g6⟩
      obtain ⟨qa, qn, qc, rfl⟩ := hq6.form
      have HQ6 := hidd hq6
      have HG6 := hidd (HG4.out.trans (HG45.out.trans g6))
      obtain ⟨⟨z0, z1, z2, z3, z4⟩, zf⟩ := five_cells (heap_kept HG6.out HZ.out)
      clear hq6 g6
      rw [cells_eq]
      go_wp2_with fail
      exact bodyPost_ret (results_pat (rb := w.heap.size + 1) rfl rfl (setPat_heap (heap_kept HG6.out HZ.out)) rfl) rfl (by rw [HXX.out]; exact own_end X HQ6.out (by omega) (by omega) (HGw.out.trans HG6.out) (by omega) _ _ _ _ _)
set_option maxRecDepth 100000 in
set_option maxHeartbeats 4000000 in
theorem simple_k19 (t : ByteArray) (n : Int) (m : ByteArray) (l : List Pat) (kv : Value) (w : World) (h : SimpIn (.mk 19 t n m l) kv w) : Calls Tryd.prog 23 #[.agg #[.int .i64 19, .string t, .int .i64 n, .string m, kv]] w (SingleEnd w.heap.size (simple (.mk 19 t n m l)) w) := by
  have hkq := h.pat.pq.list
  obtain ⟨a, c, rfl, hlm⟩ := hkq.len
  have hlm : l.length ≤ maxLen := hlm
  have hkq : ListIn w (fun b => b < w.heap.size) (.slice a l.length c) l := hkq
  show Calls _ _ #[.agg #[_, _, _, _, .slice a l.length c]] _ _
  unfold maxLen at hlm
  have HNo := hidd ((errW_iff _).1 h.right).1
  have HT := hidd h.tab
  have HPn := hidd (And.intro h.pat.hn (And.intro h.pat.ht h.pat.hm))
  have HRt := hidd (And.intro h.right h.nodes)
  have HK := hidd (fun i (hi : i < l.length) w' (g : Grew w w') kv' (hv : PatV w' kv' (l.getD i Pat.zero)) => kid_end (h.kids (l.getD i Pat.zero) (by rw [List.getD_eq_getElem?_getD, List.getElem?_eq_getElem hi]; exact List.getElem_mem hi) kv' w' g hv))
  have HLq := hidd hkq
  have HW0 : Hid (Grew w ((w.alloc (.cells #[.int .i64 19, .string t, .int .i64 n, .string m, .slice a l.length c] 24)).alloc (.cells #[.int .i64 0, .string ⟨#[]⟩, .int .i64 0, .string ⟨#[]⟩, .slice none 0 0] 24)) ∧ ((w.alloc (.cells #[.int .i64 19, .string t, .int .i64 n, .string m, .slice a l.length c] 24)).alloc (.cells #[.int .i64 0, .string ⟨#[]⟩, .int .i64 0, .string ⟨#[]⟩, .slice none 0 0] 24)).heap[w.heap.size]? = some (.cells #[.int .i64 19, .string t, .int .i64 n, .string m, .slice a l.length c] 24 (0, 0)) ∧ ((w.alloc (.cells #[.int .i64 19, .string t, .int .i64 n, .string m, .slice a l.length c] 24)).alloc (.cells #[.int .i64 0, .string ⟨#[]⟩, .int .i64 0, .string ⟨#[]⟩, .slice none 0 0] 24)).heap[w.heap.size + 1]? = some (.cells #[.int .i64 0, .string ⟨#[]⟩, .int .i64 0, .string ⟨#[]⟩, .slice none 0 0] 24 (0, 0))) :=
    ⟨((Grew.refl w).alloc _).alloc _, heap_more (heap_alloc_new w _), heap_second w _ _⟩
  have hnl : l.length ≤ 4095 := by
    have h1 := h.nodes
    rw [nodesP] at h1
    have := length_le_nodes l
    omega
  have HX : Hid (simple (.mk 19 t n m l) = singleP 19 (bareP 15) (altL (l.map simple))) := by
    refine hidd ?_
    rw [simple, simpleL_map]
    rfl
  rw [HX.out]
  have H3 := hidd (three (k := 19) (Or.inr rfl) HRt.out.1 HRt.out.2 abortB failB)
  clear h hkq
  go_enter Tryd.func23, Tryd.ntmps23
  go_wp2_with fail
  go_loopw [3, 11] (fun s3 s11 wr => ∃ i : Nat, s11 = .int .i64 i ∧ i ≤ l.length ∧ Hid (PatsOwn wr (w.heap.size + 2) (w.heap.size + 2) s3 ((l.map simple).take i) ∧ Grew ((w.alloc (.cells #[.int .i64 19, .string t, .int .i64 n, .string m, .slice a l.length c] 24)).alloc (.cells #[.int .i64 0, .string ⟨#[]⟩, .int .i64 0, .string ⟨#[]⟩, .slice none 0 0] 24)) wr)) (fun _ s11 _ => l.length - (intOf s11).toNat)
  case atStart => exact ⟨0, rfl, by omega, PatsOwn.nil _ _ _, Grew.refl _⟩
  case round =>
    obtain ⟨i, rfl, hi, HD⟩ := hrel
    by_cases hlt : i < l.length
    · have HGw := hidd (HW0.out.1.trans HD.out.2)
      obtain ⟨b, o, kk, rfl, hnd, hq⟩ := (HLq.out.kept HGw.out).at hlt
      obtain ⟨ka, kn, kc, rfl⟩ := hq.form
      have HS := hidd (simple_take hlt)
      have HC := hidd (HK.out i hlt (wr.alloc (.cells #[.int .i64 (l.getD i Pat.zero).kind, .string (l.getD i Pat.zero).text, .int .i64 (l.getD i Pat.zero).n, .string (l.getD i Pat.zero).name, .slice ka kn kc] 24)) (HGw.out.alloc _) (.slice ka kn kc) (hq.kept ((Grew.refl wr).alloc _)).patV)
      obtain ⟨r, hr⟩ : ∃ r, l.getD i Pat.zero = r := ⟨_, rfl⟩
      rw [hr] at hnd HS HC
      obtain ⟨q, hqs⟩ : ∃ q, simple r = q := ⟨_, rfl⟩
      rw [hqs] at HS HC
      obtain ⟨c0, c1, c2, c3, c4, _, _, _, _⟩ := hnd
      have kl : decide ((i : Int) < (l.length : Int)) = true := decide_eq_true (by omega)
      have hsz := HGw.out.size
      clear hr hq hqs HK
      go_wp2_with fail
      refine HC.out.mono ?_; rintro e w2 ⟨qa, qn, qc, rfl, hq2, g2⟩
      have HG3 := hidd (((Grew.refl wr).alloc (.cells #[.int .i64 r.kind, .string r.text, .int .i64 r.n, .string r.name, .slice ka kn kc] 24)).trans g2)
      have hs0 : w.heap.size + 2 ≤ wr.heap.size := by have := HD.out.2.size; simpa using this
      have hl2 : ((l.map simple).take i).length = i := by rw [List.length_take, List.length_map]; omega
      obtain ⟨v', w', hap, ho, hbel, hgr⟩ := pats_append_one (HD.out.1.kept HG3.out) (Nat.le_trans hs0 HG3.out.size) hq2 (fun b hb _ => ⟨by rw [World.size_alloc] at hb; omega, fun e => by have := HD.out.1.blocks b e; rw [World.size_alloc] at hb; omega⟩) (by rw [hl2]; omega) 22 24
      have ho2 := ho
      rw [← HS.out] at ho2
      have HE := hidd (And.intro ho2 ((HD.out.2.trans HG3.out).below hbel (by simp)))
      clear ho ho2 hbel hgr g2 hq2
      go_wp2_with (at_builtin; refine wpList_append_eq rfl rfl rfl rfl hap ?_)
      go_roundw
      case rel => exact ⟨i + 1, by go_num, by omega, HE⟩
      case measure => simp [intOf]; omega
    · have hie : i = l.length := by omega
      have kl : decide ((i : Int) < (l.length : Int)) = false := decide_eq_false (by omega)
      have HE := hidd HD.out.1
      rw [show (l.map simple).take i = l.map simple from by rw [hie, show l.length = (l.map simple).length from (List.length_map _).symm, List.take_length]] at HE
      have HGw := hidd (HW0.out.1.trans HD.out.2)
      have HB := hidd (heap_kept HD.out.2 HW0.out.2.1)
      have HZ := hidd (heap_kept HD.out.2 HW0.out.2.2)
      have hsz := HGw.out.size
      clear HD hie HK HW0 HLq
      obtain ⟨⟨b0, b1, b2, b3, b4⟩, bf⟩ := five_cells HB.out
      obtain ⟨⟨f0, f1, f2, f3, f4⟩, ff⟩ := five_cells (heap_more (o := (.cells #[.int .i64 19, .string ⟨#[]⟩, .int .i64 0, .string ⟨#[]⟩, .slice none 0 0] 24)) HB.out)
      obtain ⟨⟨z0, z1, z2, z3, z4⟩, zf⟩ := five_cells (heap_more (o := (.cells #[.int .i64 19, .string ⟨#[]⟩, .int .i64 0, .string ⟨#[]⟩, .slice none 0 0] 24)) HZ.out)
      obtain ⟨⟨o0, o1, o2, o3, o4⟩, of⟩ := five_cells (heap_alloc_new wr (.cells #[.int .i64 19, .string ⟨#[]⟩, .int .i64 0, .string ⟨#[]⟩, .slice none 0 0] 24))
      have HW2 : Hid (w.heap.size + 2 ≤ wr.heap.size) := (Array.getElem?_eq_some_iff.1 HZ.out).1
      obtain ⟨X, hX⟩ : ∃ X, singleP 19 (bareP 15) (altL (l.map simple)) = X := ⟨_, rfl⟩
      have HXX := hidd hX
      clear hX
      go_wp2_with fail
      refine (flat_any 19 (l.map simple) _ (wr.alloc (.cells #[.int .i64 19, .string ⟨#[]⟩, .int .i64 0, .string ⟨#[]⟩, .slice none 0 0] 24)) (HE.out.kept ((Grew.refl wr).alloc _)).list (fun b hb => hb) H3.out.flatK H3.out.nodes).mono ?_; rintro e w1 ⟨v1, rfl, p1, g1⟩
      have HP1 := hidd p1
      have HG1 := hidd (((Grew.refl wr).alloc (.cells #[.int .i64 19, .string ⟨#[]⟩, .int .i64 0, .string ⟨#[]⟩, .slice none 0 0] 24)).trans g1)
      have HG01 := hidd g1
      have hs1 := g1.size
      rw [World.size_alloc] at hs1
      clear p1 g1
      clear f0 f1 f2 f3 f4 ff z0 z1 z2 z3 z4 zf o0 o1 o2 o3 o4 of
      go_wp2_with fail
      refine (DeleteP_any 54 (Or.inr rfl) failB (fun p kv w => fail_test p kv w) _ v1 w1 HP1.out (by rw [World.size_alloc]; omega)).mono ?_; rintro e w2 ⟨v2, rfl, p2, g2⟩
      have HP2 := hidd p2
      have HG2 := hidd (((Grew.refl wr).alloc (.cells #[.int .i64 19, .string ⟨#[]⟩, .int .i64 0, .string ⟨#[]⟩, .slice none 0 0] 24)).trans (HG01.out.below g2 (Nat.le_refl _)))
      clear p2 g2
      go_wp2_with fail
      refine (upTo_any 55 (Or.inr rfl) abortB (fun p kv w => abort_test p kv w) _ v2 w2 HP2.out).mono ?_; rintro e w3 ⟨v3, rfl, p3, g3⟩
      have HP3 := hidd p3
      have HG3 := hidd (HG2.out.trans g3)
      have hs3 := HG3.out.size
      clear p3 g3
      go_wp2_with fail
      refine (merged_others othersP _ v3 w3 (others_at (HT.out.kept (HGw.out.trans HG3.out))) fit_others HP3.out.list (fun b hb => hb) (by have := HW2.out; omega) H3.out.right H3.out.len).mono ?_; rintro e w4 ⟨v4, rfl, p4, g4⟩
      have HP4 := hidd p4
      have HG4 := hidd (HG3.out.trans g4)
      clear p4 g4
      go_wp2_with fail
      have HS := hidd (single_any 19 _ v4 (bareP 15) (.slice none 0 0) w4 (HP4.out.kept (Grew.refl w4)) (by have := HW2.out; omega) (.leaf _ none 0 (nums_leaf (by omega) zero_in none_size none_size) rfl) (by omega))
      rw [show singleP 19 (bareP 15) (mergedP othersP (upToP abortB ((flatP 19 (l.map simple)).filter fun p => !failB p))) = X from HXX.out] at HS
      refine (HS.out).mono ?_; rintro e w6 ⟨kv, rfl, hq6, g6⟩
      obtain ⟨qa, qn, qc, rfl⟩ := hq6.form
      have HQ6 := hidd hq6
      have HG6 := hidd (HG4.out.trans ((Grew.refl w4).trans g6))
      obtain ⟨⟨z0, z1, z2, z3, z4⟩, zf⟩ := five_cells (heap_kept HG6.out HZ.out)
      clear hq6 g6
      rw [cells_eq]
      go_wp2_with fail
      exact bodyPost_ret (results_pat (rb := w.heap.size + 1) rfl rfl (setPat_heap (heap_kept HG6.out HZ.out)) rfl) rfl (by rw [HXX.out]; exact own_end X HQ6.out (by omega) (by omega) (HGw.out.trans HG6.out) (by omega) _ _ _ _ _)
end Go.Proofs.YtmcfoefhenmjeaaDoor
