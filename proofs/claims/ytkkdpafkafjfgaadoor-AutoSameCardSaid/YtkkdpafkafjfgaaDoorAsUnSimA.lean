/- tune: simple, kind by kind. Printed. -/
import Derived.Test.YtkkdpafkafjfgaaDoorAsUnMerge
namespace Go.Proofs.YtkkdpafkafjfgaaDoor
open Go.RowKit
set_option linter.unusedVariables false
theorem make20 (t : ByteArray) (n : Int) (m : ByteArray) (l : List Pat) : makeP 20 t n m l = (if emptyP (l.getD 0 Pat.zero) = true ∨ failB (l.getD 0 Pat.zero) = true then litP ByteArray.empty else if (l.getD 0 Pat.zero).kind = 2 ∧ (l.getD 0 Pat.zero).n = 1 then bareP 13 else kidsP 20 l) := rfl
theorem make21 (t : ByteArray) (n : Int) (m : ByteArray) (l : List Pat) : makeP 21 t n m l = (if endsB (l.getD 0 Pat.zero) = true then l.getD 0 Pat.zero else .mk 21 ByteArray.empty 0 m l) := rfl
theorem make22 (t : ByteArray) (n : Int) (m : ByteArray) (l : List Pat) : makeP 22 t n m l = (if endsB (l.getD 0 Pat.zero) = true then l.getD 0 Pat.zero else .mk 22 ByteArray.empty 0 m l) := rfl
theorem upToP_len (f : Pat → Bool) : ∀ l : List Pat, (upToP f l).length ≤ l.length
  | [] => Nat.le_refl _
  | p :: l => by
    rw [upToP]
    have := upToP_len f l
    refine iteInduction (motive := fun m : List Pat => m.length ≤ (p :: l).length) (fun _ => by simp) (fun _ => by simpa using this)
theorem fit_pieces : TwoFit piecesP := by
  refine ⟨pieces_right, fun a b q ha hb h => ?_, fun a b q h => ?_⟩
  · have na := ((errW_iff _).1 ha).1
    have nb := ((errW_iff _).1 hb).1
    unfold piecesP at h
    split at h
    · rename_i hc; cases h
      exact nums_lit (by rw [ByteArray.size_append]; unfold maxLen; omega)
    · split at h
      · rename_i hc; cases h
        have h1 := na.num (Or.inl hc.1)
        have h2 := nb.num (Or.inl hc.2.1)
        exact ⟨by show (-9223372036854775808 : Int) ≤ 2 ∧ (2 : Int) ≤ 9223372036854775807; omega, by show (-9223372036854775808 : Int) ≤ a.n + b.n ∧ a.n + b.n ≤ 9223372036854775807; omega, Nat.zero_le _, Nat.zero_le _⟩
      · cases h
  · unfold piecesP at h
    split at h
    · cases h; rfl
    · split at h
      · cases h; rfl
      · cases h
theorem fit_others : TwoFit othersP := by
  refine ⟨others_right, fun a b q ha hb h => ?_, fun a b q h => ?_⟩
  · unfold othersP at h
    split at h
    · cases h
      exact ⟨by show (-9223372036854775808 : Int) ≤ 3 ∧ (3 : Int) ≤ 9223372036854775807; omega, by show (-9223372036854775808 : Int) ≤ 0 ∧ (0 : Int) ≤ 9223372036854775807; omega, spell_max _, Nat.zero_le _⟩
    · cases h
  · unfold othersP at h
    split at h
    · cases h; rfl
    · cases h
structure Three (k : Int) (l l2 : List Pat) : Prop where
  flatK : ∀ p ∈ l, p.kind = k → 0 < p.kids.length
  nodes : nodesL l ≤ 4096
  right : ∀ p ∈ l2, errW p = 0
  len : l2.length ≤ 4096
theorem three {k : Int} (hk : k = 18 ∨ k = 19) {k0 n : Int} {t m : ByteArray} {l : List Pat} (h : errW (.mk k0 t n m l) = 0) (hn : nodesP (.mk k0 t n m l) ≤ 4096) (f g : Pat → Bool) : Three k (l.map simple) (upToP f ((flatP k (l.map simple)).filter fun p => !g p)) := by
  rw [nodesP] at hn
  have hr := simpleL_right l ((errW_iff _).1 h).2 (by omega)
  have hs := simpleL_nodes l
  rw [simpleL_map] at hr hs
  refine ⟨fun p hp e => ?_, by omega, fun p hp => ?_, ?_⟩
  · have := ((errW_iff _).1 (hr p hp)).1.many (by omega)
    omega
  · exact flatP_all right_kids hr p (List.mem_filter.1 (upToP_mem _ hp)).1
  · refine Nat.le_trans (upToP_len f _) (Nat.le_trans (List.length_filter_le _ _) (Nat.le_trans (flat_len k _) (by omega)))
set_option maxRecDepth 100000 in
set_option maxHeartbeats 32000000 in
theorem simple_kinds (k : Int) (t : ByteArray) (n : Int) (m : ByteArray) (l : List Pat) (kv : Value) (w : World) (h : SimpIn (.mk k t n m l) kv w)
    (hc : (k = 12) ∨ (k = 13) ∨ (k = 14) ∨ (k = 15) ∨ (k = 16) ∨ (k = 17) ∨ (k = 8) ∨ (k = 10) ∨ (k = 11) ∨ (k = 1) ∨ (k = 23) ∨ (k = 24) ∨ (k = 4) ∨ (k = 5) ∨ (k = 6) ∨ (k = 7) ∨ (k = 3 ∧ ¬ (spell t).size = 1) ∨ (k = 3 ∧ (spell t).size = 1) ∨ (k = 2 ∧ ¬ n = 0) ∨ (k = 2 ∧ n = 0) ∨ (k = 9 ∧ ¬ n = 0) ∨ (k = 9 ∧ n = 0) ∨ (k = 20 ∧ emptyP ((l.map simple).getD 0 Pat.zero) = true) ∨ (k = 20 ∧ emptyP ((l.map simple).getD 0 Pat.zero) = false ∧ (((l.map simple).getD 0 Pat.zero).kind == 15) = true) ∨ (k = 20 ∧ emptyP ((l.map simple).getD 0 Pat.zero) = false ∧ (((l.map simple).getD 0 Pat.zero).kind == 15) = false ∧ (((l.map simple).getD 0 Pat.zero).kind == 2) = true ∧ ((l.map simple).getD 0 Pat.zero).n = 1) ∨ (k = 20 ∧ emptyP ((l.map simple).getD 0 Pat.zero) = false ∧ (((l.map simple).getD 0 Pat.zero).kind == 15) = false ∧ (((l.map simple).getD 0 Pat.zero).kind == 2) = false) ∨ (k = 20 ∧ emptyP ((l.map simple).getD 0 Pat.zero) = false ∧ (((l.map simple).getD 0 Pat.zero).kind == 15) = false ∧ (((l.map simple).getD 0 Pat.zero).kind == 2) = true ∧ ¬ ((l.map simple).getD 0 Pat.zero).n = 1) ∨ (k = 21 ∧ (((l.map simple).getD 0 Pat.zero).kind == 15) = true) ∨ (k = 21 ∧ (((l.map simple).getD 0 Pat.zero).kind == 15) = false ∧ (((l.map simple).getD 0 Pat.zero).kind == 17) = true) ∨ (k = 21 ∧ (((l.map simple).getD 0 Pat.zero).kind == 15) = false ∧ (((l.map simple).getD 0 Pat.zero).kind == 17) = false) ∨ (k = 22 ∧ (((l.map simple).getD 0 Pat.zero).kind == 15) = true) ∨ (k = 22 ∧ (((l.map simple).getD 0 Pat.zero).kind == 15) = false ∧ (((l.map simple).getD 0 Pat.zero).kind == 17) = true) ∨ (k = 22 ∧ (((l.map simple).getD 0 Pat.zero).kind == 15) = false ∧ (((l.map simple).getD 0 Pat.zero).kind == 17) = false) ∨ (k = 18) ∨ (k = 19)) : Calls Tryd.prog 48 #[.agg #[.int .i64 k, .string t, .int .i64 n, .string m, kv]] w (SingleEnd w.heap.size (simple (.mk k t n m l)) w) := by
  have hkq := h.pat.pq.list
  obtain ⟨a, c, rfl, hlm⟩ := hkq.len
  have hlm : l.length ≤ maxLen := hlm
  have hkq : ListIn w (fun b => b < w.heap.size) (.slice a l.length c) l := hkq
  show Calls _ _ #[.agg #[_, _, _, _, .slice a l.length c]] _ _
  unfold maxLen at hlm
  have HNo := hidd ((errW_iff _).1 h.right).1
  have HT := hidd h.tab
  have HPn := hidd (And.intro h.pat.hn (And.intro h.pat.ht h.pat.hm))
  have HRt := hidd (And.intro h.right h.nodes)
  have HK := hidd (fun i (hi : i < l.length) w' (g : Grew w w') kv' (hv : PatV w' kv' (l.getD i Pat.zero)) => kid_end (h.kids (l.getD i Pat.zero) (by rw [List.getD_eq_getElem?_getD, List.getElem?_eq_getElem hi]; exact List.getElem_mem hi) kv' w' g hv))
  have HLq := hidd hkq
  have HW0 : Hid (Grew w ((w.alloc (.cells #[.int .i64 k, .string t, .int .i64 n, .string m, .slice a l.length c] 24)).alloc (.cells #[.int .i64 0, .string ⟨#[]⟩, .int .i64 0, .string ⟨#[]⟩, .slice none 0 0] 24)) ∧ ((w.alloc (.cells #[.int .i64 k, .string t, .int .i64 n, .string m, .slice a l.length c] 24)).alloc (.cells #[.int .i64 0, .string ⟨#[]⟩, .int .i64 0, .string ⟨#[]⟩, .slice none 0 0] 24)).heap[w.heap.size]? = some (.cells #[.int .i64 k, .string t, .int .i64 n, .string m, .slice a l.length c] 24 (0, 0)) ∧ ((w.alloc (.cells #[.int .i64 k, .string t, .int .i64 n, .string m, .slice a l.length c] 24)).alloc (.cells #[.int .i64 0, .string ⟨#[]⟩, .int .i64 0, .string ⟨#[]⟩, .slice none 0 0] 24)).heap[w.heap.size + 1]? = some (.cells #[.int .i64 0, .string ⟨#[]⟩, .int .i64 0, .string ⟨#[]⟩, .slice none 0 0] 24 (0, 0))) :=
    ⟨((Grew.refl w).alloc _).alloc _, heap_moreT (heap_alloc_new w _), heap_second w _ _⟩
  have hnl : l.length ≤ 4095 := by
    have h1 := h.nodes
    rw [nodesP] at h1
    have := length_le_nodes l
    omega
  obtain ⟨X, hX⟩ : ∃ X, simple (.mk k t n m l) = X := ⟨_, rfl⟩
  rw [hX]
  have HX0 := hidd hX
  have HCs := hidd hc
  clear hX hc
  clear h hkq
  go_enter Tryd.func48, Tryd.ntmps48
  go_wp2_with fail
  go_loopw [3, 11] (fun s3 s11 wr => ∃ i : Nat, s11 = .int .i64 i ∧ i ≤ l.length ∧ Hid (PatsOwn wr (w.heap.size + 2) (w.heap.size + 2) s3 ((l.map simple).take i) ∧ Grew ((w.alloc (.cells #[.int .i64 k, .string t, .int .i64 n, .string m, .slice a l.length c] 24)).alloc (.cells #[.int .i64 0, .string ⟨#[]⟩, .int .i64 0, .string ⟨#[]⟩, .slice none 0 0] 24)) wr)) (fun _ s11 _ => l.length - (intOf s11).toNat)
  case atStart => exact ⟨0, rfl, by omega, PatsOwn.nil _ _ _, Grew.refl _⟩
  case round =>
    obtain ⟨i, rfl, hi, HD⟩ := hrel
    by_cases hlt : i < l.length
    · have HGw := hidd (HW0.out.1.trans HD.out.2)
      obtain ⟨b, o, kk, rfl, hnd, hq⟩ := (HLq.out.kept HGw.out).at hlt
      obtain ⟨ka, kn, kc, rfl⟩ := hq.form
      have HS := hidd (simple_take hlt)
      have HC := hidd (HK.out i hlt (wr.alloc (.cells #[.int .i64 (l.getD i Pat.zero).kind, .string (l.getD i Pat.zero).text, .int .i64 (l.getD i Pat.zero).n, .string (l.getD i Pat.zero).name, .slice ka kn kc] 24)) (HGw.out.alloc _) (.slice ka kn kc) (hq.kept ((Grew.refl wr).alloc _)).patV)
      obtain ⟨r, hr⟩ : ∃ r, l.getD i Pat.zero = r := ⟨_, rfl⟩
      rw [hr] at hnd HS HC
      obtain ⟨q, hqs⟩ : ∃ q, simple r = q := ⟨_, rfl⟩
      rw [hqs] at HS HC
      obtain ⟨c0, c1, c2, c3, c4, _, _, _, _⟩ := hnd
      have kl : decide ((i : Int) < (l.length : Int)) = true := decide_eq_true (by omega)
      have hsz := HGw.out.size
      clear hr hq hqs HK
      go_wp2_with fail
      refine HC.out.mono ?_; rintro e w2 ⟨qa, qn, qc, rfl, hq2, g2⟩
      have HG3 := hidd (((Grew.refl wr).alloc (.cells #[.int .i64 r.kind, .string r.text, .int .i64 r.n, .string r.name, .slice ka kn kc] 24)).trans g2)
      have hs0 : w.heap.size + 2 ≤ wr.heap.size := by have := HD.out.2.size; simpa using this
      have hl2 : ((l.map simple).take i).length = i := by rw [List.length_take, List.length_map]; omega
      obtain ⟨v', w', hap, ho, hbel, hgr⟩ := pats_append_one (HD.out.1.kept HG3.out) (Nat.le_trans hs0 HG3.out.size) hq2 (fun b hb _ => ⟨by rw [World.size_alloc] at hb; omega, fun e => by have := HD.out.1.blocks b e; rw [World.size_alloc] at hb; omega⟩) (by rw [hl2]; omega) 22 24
      have ho2 := ho
      rw [← HS.out] at ho2
      have HE := hidd (And.intro ho2 ((HD.out.2.trans HG3.out).below hbel (by simp)))
      clear ho ho2 hbel hgr g2 hq2
      go_wp2_with (at_builtin; refine wpList_append_eq rfl rfl rfl rfl hap ?_)
      go_roundw
      case rel => exact ⟨i + 1, by go_num, by omega, HE⟩
      case measure => simp [intOf]; omega
    · have hie : i = l.length := by omega
      have kl : decide ((i : Int) < (l.length : Int)) = false := decide_eq_false (by omega)
      have HE := hidd HD.out.1
      rw [show (l.map simple).take i = l.map simple from by rw [hie, show l.length = (l.map simple).length from (List.length_map _).symm, List.take_length]] at HE
      have HGw := hidd (HW0.out.1.trans HD.out.2)
      have HB := hidd (heap_keptT HD.out.2 HW0.out.2.1)
      have HZ := hidd (heap_keptT HD.out.2 HW0.out.2.2)
      have hsz := HGw.out.size
      clear HD hie HK HW0 HLq
      rcases HCs.out with rfl | rfl | rfl | rfl | rfl | rfl | rfl | rfl | rfl | rfl | rfl | rfl | rfl | rfl | rfl | rfl | ⟨rfl, h1⟩ | ⟨rfl, h1⟩ | ⟨rfl, h1⟩ | ⟨rfl, h1⟩ | ⟨rfl, h1⟩ | ⟨rfl, h1⟩ | ⟨rfl, e1⟩ | ⟨rfl, e1, e2⟩ | ⟨rfl, e1, e2, e3, e4⟩ | ⟨rfl, e1, e2, e3⟩ | ⟨rfl, e1, e2, e3, e4⟩ | ⟨rfl, e1⟩ | ⟨rfl, e1, e2⟩ | ⟨rfl, e1, e2⟩ | ⟨rfl, e1⟩ | ⟨rfl, e1, e2⟩ | ⟨rfl, e1, e2⟩ | rfl | rfl
      · have hXe : Hid (simple (.mk 12 t n m l) = bareP 12) := by
          show makeP _ _ _ _ _ = _
          unfold makeP
          simp
        obtain rfl : X = bareP 12 := HX0.out.symm.trans hXe.out
        clear HX0 HCs hXe
        obtain ⟨⟨b0, b1, b2, b3, b4⟩, bf⟩ := five_cells HB.out
        obtain ⟨⟨f0, f1, f2, f3, f4⟩, ff⟩ := five_cells (heap_moreT (o := (.cells #[.int .i64 12, .string ⟨#[]⟩, .int .i64 0, .string ⟨#[]⟩, .slice none 0 0] 24)) HB.out)
        obtain ⟨⟨z0, z1, z2, z3, z4⟩, zf⟩ := five_cells (heap_moreT (o := (.cells #[.int .i64 12, .string ⟨#[]⟩, .int .i64 0, .string ⟨#[]⟩, .slice none 0 0] 24)) HZ.out)
        obtain ⟨⟨o0, o1, o2, o3, o4⟩, of⟩ := five_cells (heap_alloc_new wr (.cells #[.int .i64 12, .string ⟨#[]⟩, .int .i64 0, .string ⟨#[]⟩, .slice none 0 0] 24))
        go_wp2_with fail
        exact bodyPost_ret (results_pat (rb := w.heap.size + 1) rfl rfl (setPat_heap (heap_keptT ((Grew.refl wr).alloc _) HZ.out)) rfl) rfl (leaf_end (bareP 12) (nums_leaf (by omega) zero_in none_size none_size) rfl (setPat_grew (HGw.out.trans ((Grew.refl wr).alloc _)) (by omega) _ _ _ _ _))
      · have hXe : Hid (simple (.mk 13 t n m l) = bareP 13) := by
          show makeP _ _ _ _ _ = _
          unfold makeP
          simp
        obtain rfl : X = bareP 13 := HX0.out.symm.trans hXe.out
        clear HX0 HCs hXe
        obtain ⟨⟨b0, b1, b2, b3, b4⟩, bf⟩ := five_cells HB.out
        obtain ⟨⟨f0, f1, f2, f3, f4⟩, ff⟩ := five_cells (heap_moreT (o := (.cells #[.int .i64 13, .string ⟨#[]⟩, .int .i64 0, .string ⟨#[]⟩, .slice none 0 0] 24)) HB.out)
        obtain ⟨⟨z0, z1, z2, z3, z4⟩, zf⟩ := five_cells (heap_moreT (o := (.cells #[.int .i64 13, .string ⟨#[]⟩, .int .i64 0, .string ⟨#[]⟩, .slice none 0 0] 24)) HZ.out)
        obtain ⟨⟨o0, o1, o2, o3, o4⟩, of⟩ := five_cells (heap_alloc_new wr (.cells #[.int .i64 13, .string ⟨#[]⟩, .int .i64 0, .string ⟨#[]⟩, .slice none 0 0] 24))
        go_wp2_with fail
        exact bodyPost_ret (results_pat (rb := w.heap.size + 1) rfl rfl (setPat_heap (heap_keptT ((Grew.refl wr).alloc _) HZ.out)) rfl) rfl (leaf_end (bareP 13) (nums_leaf (by omega) zero_in none_size none_size) rfl (setPat_grew (HGw.out.trans ((Grew.refl wr).alloc _)) (by omega) _ _ _ _ _))
      · have hXe : Hid (simple (.mk 14 t n m l) = bareP 14) := by
          show makeP _ _ _ _ _ = _
          unfold makeP
          simp
        obtain rfl : X = bareP 14 := HX0.out.symm.trans hXe.out
        clear HX0 HCs hXe
        obtain ⟨⟨b0, b1, b2, b3, b4⟩, bf⟩ := five_cells HB.out
        obtain ⟨⟨f0, f1, f2, f3, f4⟩, ff⟩ := five_cells (heap_moreT (o := (.cells #[.int .i64 14, .string ⟨#[]⟩, .int .i64 0, .string ⟨#[]⟩, .slice none 0 0] 24)) HB.out)
        obtain ⟨⟨z0, z1, z2, z3, z4⟩, zf⟩ := five_cells (heap_moreT (o := (.cells #[.int .i64 14, .string ⟨#[]⟩, .int .i64 0, .string ⟨#[]⟩, .slice none 0 0] 24)) HZ.out)
        obtain ⟨⟨o0, o1, o2, o3, o4⟩, of⟩ := five_cells (heap_alloc_new wr (.cells #[.int .i64 14, .string ⟨#[]⟩, .int .i64 0, .string ⟨#[]⟩, .slice none 0 0] 24))
        go_wp2_with fail
        exact bodyPost_ret (results_pat (rb := w.heap.size + 1) rfl rfl (setPat_heap (heap_keptT ((Grew.refl wr).alloc _) HZ.out)) rfl) rfl (leaf_end (bareP 14) (nums_leaf (by omega) zero_in none_size none_size) rfl (setPat_grew (HGw.out.trans ((Grew.refl wr).alloc _)) (by omega) _ _ _ _ _))
      · have hXe : Hid (simple (.mk 15 t n m l) = bareP 15) := by
          show makeP _ _ _ _ _ = _
          unfold makeP
          simp
        obtain rfl : X = bareP 15 := HX0.out.symm.trans hXe.out
        clear HX0 HCs hXe
        obtain ⟨⟨b0, b1, b2, b3, b4⟩, bf⟩ := five_cells HB.out
        obtain ⟨⟨f0, f1, f2, f3, f4⟩, ff⟩ := five_cells (heap_moreT (o := (.cells #[.int .i64 15, .string ⟨#[]⟩, .int .i64 0, .string ⟨#[]⟩, .slice none 0 0] 24)) HB.out)
        obtain ⟨⟨z0, z1, z2, z3, z4⟩, zf⟩ := five_cells (heap_moreT (o := (.cells #[.int .i64 15, .string ⟨#[]⟩, .int .i64 0, .string ⟨#[]⟩, .slice none 0 0] 24)) HZ.out)
        obtain ⟨⟨o0, o1, o2, o3, o4⟩, of⟩ := five_cells (heap_alloc_new wr (.cells #[.int .i64 15, .string ⟨#[]⟩, .int .i64 0, .string ⟨#[]⟩, .slice none 0 0] 24))
        go_wp2_with fail
        exact bodyPost_ret (results_pat (rb := w.heap.size + 1) rfl rfl (setPat_heap (heap_keptT ((Grew.refl wr).alloc _) HZ.out)) rfl) rfl (leaf_end (bareP 15) (nums_leaf (by omega) zero_in none_size none_size) rfl (setPat_grew (HGw.out.trans ((Grew.refl wr).alloc _)) (by omega) _ _ _ _ _))
      · have hXe : Hid (simple (.mk 16 t n m l) = bareP 16) := by
          show makeP _ _ _ _ _ = _
          unfold makeP
          simp
        obtain rfl : X = bareP 16 := HX0.out.symm.trans hXe.out
        clear HX0 HCs hXe
        obtain ⟨⟨b0, b1, b2, b3, b4⟩, bf⟩ := five_cells HB.out
        obtain ⟨⟨f0, f1, f2, f3, f4⟩, ff⟩ := five_cells (heap_moreT (o := (.cells #[.int .i64 16, .string ⟨#[]⟩, .int .i64 0, .string ⟨#[]⟩, .slice none 0 0] 24)) HB.out)
        obtain ⟨⟨z0, z1, z2, z3, z4⟩, zf⟩ := five_cells (heap_moreT (o := (.cells #[.int .i64 16, .string ⟨#[]⟩, .int .i64 0, .string ⟨#[]⟩, .slice none 0 0] 24)) HZ.out)
        obtain ⟨⟨o0, o1, o2, o3, o4⟩, of⟩ := five_cells (heap_alloc_new wr (.cells #[.int .i64 16, .string ⟨#[]⟩, .int .i64 0, .string ⟨#[]⟩, .slice none 0 0] 24))
        go_wp2_with fail
        exact bodyPost_ret (results_pat (rb := w.heap.size + 1) rfl rfl (setPat_heap (heap_keptT ((Grew.refl wr).alloc _) HZ.out)) rfl) rfl (leaf_end (bareP 16) (nums_leaf (by omega) zero_in none_size none_size) rfl (setPat_grew (HGw.out.trans ((Grew.refl wr).alloc _)) (by omega) _ _ _ _ _))
      · have hXe : Hid (simple (.mk 17 t n m l) = bareP 17) := by
          show makeP _ _ _ _ _ = _
          unfold makeP
          simp
        obtain rfl : X = bareP 17 := HX0.out.symm.trans hXe.out
        clear HX0 HCs hXe
        obtain ⟨⟨b0, b1, b2, b3, b4⟩, bf⟩ := five_cells HB.out
        obtain ⟨⟨f0, f1, f2, f3, f4⟩, ff⟩ := five_cells (heap_moreT (o := (.cells #[.int .i64 17, .string ⟨#[]⟩, .int .i64 0, .string ⟨#[]⟩, .slice none 0 0] 24)) HB.out)
        obtain ⟨⟨z0, z1, z2, z3, z4⟩, zf⟩ := five_cells (heap_moreT (o := (.cells #[.int .i64 17, .string ⟨#[]⟩, .int .i64 0, .string ⟨#[]⟩, .slice none 0 0] 24)) HZ.out)
        obtain ⟨⟨o0, o1, o2, o3, o4⟩, of⟩ := five_cells (heap_alloc_new wr (.cells #[.int .i64 17, .string ⟨#[]⟩, .int .i64 0, .string ⟨#[]⟩, .slice none 0 0] 24))
        go_wp2_with fail
        exact bodyPost_ret (results_pat (rb := w.heap.size + 1) rfl rfl (setPat_heap (heap_keptT ((Grew.refl wr).alloc _) HZ.out)) rfl) rfl (leaf_end (bareP 17) (nums_leaf (by omega) zero_in none_size none_size) rfl (setPat_grew (HGw.out.trans ((Grew.refl wr).alloc _)) (by omega) _ _ _ _ _))
      · have hXe : Hid (simple (.mk 8 t n m l) = numP 8 n) := by
          show makeP _ _ _ _ _ = _
          unfold makeP
          simp
        obtain rfl : X = numP 8 n := HX0.out.symm.trans hXe.out
        clear HX0 HCs hXe
        obtain ⟨⟨b0, b1, b2, b3, b4⟩, bf⟩ := five_cells HB.out
        obtain ⟨⟨f0, f1, f2, f3, f4⟩, ff⟩ := five_cells (heap_moreT (o := (.cells #[.int .i64 8, .string ⟨#[]⟩, .int .i64 0, .string ⟨#[]⟩, .slice none 0 0] 24)) HB.out)
        obtain ⟨⟨z0, z1, z2, z3, z4⟩, zf⟩ := five_cells (heap_moreT (o := (.cells #[.int .i64 8, .string ⟨#[]⟩, .int .i64 0, .string ⟨#[]⟩, .slice none 0 0] 24)) HZ.out)
        obtain ⟨⟨o0, o1, o2, o3, o4⟩, of⟩ := five_cells (heap_alloc_new wr (.cells #[.int .i64 8, .string ⟨#[]⟩, .int .i64 0, .string ⟨#[]⟩, .slice none 0 0] 24))
        obtain ⟨⟨f'0, f'1, f'2, f'3, f'4⟩, f'f⟩ := five_cells (heap_moreT (o := (.cells #[.int .i64 8, .string ⟨#[]⟩, .int .i64 n, .string ⟨#[]⟩, .slice none 0 0] 24)) HB.out)
        obtain ⟨⟨z'0, z'1, z'2, z'3, z'4⟩, z'f⟩ := five_cells (heap_moreT (o := (.cells #[.int .i64 8, .string ⟨#[]⟩, .int .i64 n, .string ⟨#[]⟩, .slice none 0 0] 24)) HZ.out)
        obtain ⟨⟨o'0, o'1, o'2, o'3, o'4⟩, o'f⟩ := five_cells (heap_alloc_new wr (.cells #[.int .i64 8, .string ⟨#[]⟩, .int .i64 n, .string ⟨#[]⟩, .slice none 0 0] 24))
        go_wp2_with fail
        exact bodyPost_ret (results_pat (rb := w.heap.size + 1) rfl rfl (setPat_heap (heap_keptT ((Grew.refl wr).alloc _) HZ.out)) rfl) rfl (leaf_end (numP 8 n) (nums_leaf (by omega) HPn.out.1 none_size none_size) rfl (setPat_grew (HGw.out.trans ((Grew.refl wr).alloc _)) (by omega) _ _ _ _ _))
      · have hXe : Hid (simple (.mk 10 t n m l) = numP 10 n) := by
          show makeP _ _ _ _ _ = _
          unfold makeP
          simp
        obtain rfl : X = numP 10 n := HX0.out.symm.trans hXe.out
        clear HX0 HCs hXe
        obtain ⟨⟨b0, b1, b2, b3, b4⟩, bf⟩ := five_cells HB.out
        obtain ⟨⟨f0, f1, f2, f3, f4⟩, ff⟩ := five_cells (heap_moreT (o := (.cells #[.int .i64 10, .string ⟨#[]⟩, .int .i64 0, .string ⟨#[]⟩, .slice none 0 0] 24)) HB.out)
        obtain ⟨⟨z0, z1, z2, z3, z4⟩, zf⟩ := five_cells (heap_moreT (o := (.cells #[.int .i64 10, .string ⟨#[]⟩, .int .i64 0, .string ⟨#[]⟩, .slice none 0 0] 24)) HZ.out)
        obtain ⟨⟨o0, o1, o2, o3, o4⟩, of⟩ := five_cells (heap_alloc_new wr (.cells #[.int .i64 10, .string ⟨#[]⟩, .int .i64 0, .string ⟨#[]⟩, .slice none 0 0] 24))
        obtain ⟨⟨f'0, f'1, f'2, f'3, f'4⟩, f'f⟩ := five_cells (heap_moreT (o := (.cells #[.int .i64 10, .string ⟨#[]⟩, .int .i64 n, .string ⟨#[]⟩, .slice none 0 0] 24)) HB.out)
        obtain ⟨⟨z'0, z'1, z'2, z'3, z'4⟩, z'f⟩ := five_cells (heap_moreT (o := (.cells #[.int .i64 10, .string ⟨#[]⟩, .int .i64 n, .string ⟨#[]⟩, .slice none 0 0] 24)) HZ.out)
        obtain ⟨⟨o'0, o'1, o'2, o'3, o'4⟩, o'f⟩ := five_cells (heap_alloc_new wr (.cells #[.int .i64 10, .string ⟨#[]⟩, .int .i64 n, .string ⟨#[]⟩, .slice none 0 0] 24))
        go_wp2_with fail
        exact bodyPost_ret (results_pat (rb := w.heap.size + 1) rfl rfl (setPat_heap (heap_keptT ((Grew.refl wr).alloc _) HZ.out)) rfl) rfl (leaf_end (numP 10 n) (nums_leaf (by omega) HPn.out.1 none_size none_size) rfl (setPat_grew (HGw.out.trans ((Grew.refl wr).alloc _)) (by omega) _ _ _ _ _))
      · have hXe : Hid (simple (.mk 11 t n m l) = numP 11 n) := by
          show makeP _ _ _ _ _ = _
          unfold makeP
          simp
        obtain rfl : X = numP 11 n := HX0.out.symm.trans hXe.out
        clear HX0 HCs hXe
        obtain ⟨⟨b0, b1, b2, b3, b4⟩, bf⟩ := five_cells HB.out
        obtain ⟨⟨f0, f1, f2, f3, f4⟩, ff⟩ := five_cells (heap_moreT (o := (.cells #[.int .i64 11, .string ⟨#[]⟩, .int .i64 0, .string ⟨#[]⟩, .slice none 0 0] 24)) HB.out)
        obtain ⟨⟨z0, z1, z2, z3, z4⟩, zf⟩ := five_cells (heap_moreT (o := (.cells #[.int .i64 11, .string ⟨#[]⟩, .int .i64 0, .string ⟨#[]⟩, .slice none 0 0] 24)) HZ.out)
        obtain ⟨⟨o0, o1, o2, o3, o4⟩, of⟩ := five_cells (heap_alloc_new wr (.cells #[.int .i64 11, .string ⟨#[]⟩, .int .i64 0, .string ⟨#[]⟩, .slice none 0 0] 24))
        obtain ⟨⟨f'0, f'1, f'2, f'3, f'4⟩, f'f⟩ := five_cells (heap_moreT (o := (.cells #[.int .i64 11, .string ⟨#[]⟩, .int .i64 n, .string ⟨#[]⟩, .slice none 0 0] 24)) HB.out)
        obtain ⟨⟨z'0, z'1, z'2, z'3, z'4⟩, z'f⟩ := five_cells (heap_moreT (o := (.cells #[.int .i64 11, .string ⟨#[]⟩, .int .i64 n, .string ⟨#[]⟩, .slice none 0 0] 24)) HZ.out)
        obtain ⟨⟨o'0, o'1, o'2, o'3, o'4⟩, o'f⟩ := five_cells (heap_alloc_new wr (.cells #[.int .i64 11, .string ⟨#[]⟩, .int .i64 n, .string ⟨#[]⟩, .slice none 0 0] 24))
        go_wp2_with fail
        exact bodyPost_ret (results_pat (rb := w.heap.size + 1) rfl rfl (setPat_heap (heap_keptT ((Grew.refl wr).alloc _) HZ.out)) rfl) rfl (leaf_end (numP 11 n) (nums_leaf (by omega) HPn.out.1 none_size none_size) rfl (setPat_grew (HGw.out.trans ((Grew.refl wr).alloc _)) (by omega) _ _ _ _ _))
      · have hXe : Hid (simple (.mk 1 t n m l) = litP t) := by
          show makeP _ _ _ _ _ = _
          unfold makeP
          simp
        obtain rfl : X = litP t := HX0.out.symm.trans hXe.out
        clear HX0 HCs hXe
        obtain ⟨⟨b0, b1, b2, b3, b4⟩, bf⟩ := five_cells HB.out
        obtain ⟨⟨f0, f1, f2, f3, f4⟩, ff⟩ := five_cells (heap_moreT (o := (.cells #[.int .i64 1, .string ⟨#[]⟩, .int .i64 0, .string ⟨#[]⟩, .slice none 0 0] 24)) HB.out)
        obtain ⟨⟨z0, z1, z2, z3, z4⟩, zf⟩ := five_cells (heap_moreT (o := (.cells #[.int .i64 1, .string ⟨#[]⟩, .int .i64 0, .string ⟨#[]⟩, .slice none 0 0] 24)) HZ.out)
        obtain ⟨⟨o0, o1, o2, o3, o4⟩, of⟩ := five_cells (heap_alloc_new wr (.cells #[.int .i64 1, .string ⟨#[]⟩, .int .i64 0, .string ⟨#[]⟩, .slice none 0 0] 24))
        obtain ⟨⟨f'0, f'1, f'2, f'3, f'4⟩, f'f⟩ := five_cells (heap_moreT (o := (.cells #[.int .i64 1, .string t, .int .i64 0, .string ⟨#[]⟩, .slice none 0 0] 24)) HB.out)
        obtain ⟨⟨z'0, z'1, z'2, z'3, z'4⟩, z'f⟩ := five_cells (heap_moreT (o := (.cells #[.int .i64 1, .string t, .int .i64 0, .string ⟨#[]⟩, .slice none 0 0] 24)) HZ.out)
        obtain ⟨⟨o'0, o'1, o'2, o'3, o'4⟩, o'f⟩ := five_cells (heap_alloc_new wr (.cells #[.int .i64 1, .string t, .int .i64 0, .string ⟨#[]⟩, .slice none 0 0] 24))
        go_wp2_with fail
        exact bodyPost_ret (results_pat (rb := w.heap.size + 1) rfl rfl (setPat_heap (heap_keptT ((Grew.refl wr).alloc _) HZ.out)) rfl) rfl (leaf_end (litP t) (nums_leaf (by omega) zero_in HPn.out.2.1 none_size) rfl (setPat_grew (HGw.out.trans ((Grew.refl wr).alloc _)) (by omega) _ _ _ _ _))
      · have hXe : Hid (simple (.mk 23 t n m l) = .mk 23 ByteArray.empty 0 m []) := by
          show makeP _ _ _ _ _ = _
          unfold makeP
          simp
        obtain rfl : X = .mk 23 ByteArray.empty 0 m [] := HX0.out.symm.trans hXe.out
        clear HX0 HCs hXe
        obtain ⟨⟨b0, b1, b2, b3, b4⟩, bf⟩ := five_cells HB.out
        obtain ⟨⟨f0, f1, f2, f3, f4⟩, ff⟩ := five_cells (heap_moreT (o := (.cells #[.int .i64 23, .string ⟨#[]⟩, .int .i64 0, .string ⟨#[]⟩, .slice none 0 0] 24)) HB.out)
        obtain ⟨⟨z0, z1, z2, z3, z4⟩, zf⟩ := five_cells (heap_moreT (o := (.cells #[.int .i64 23, .string ⟨#[]⟩, .int .i64 0, .string ⟨#[]⟩, .slice none 0 0] 24)) HZ.out)
        obtain ⟨⟨o0, o1, o2, o3, o4⟩, of⟩ := five_cells (heap_alloc_new wr (.cells #[.int .i64 23, .string ⟨#[]⟩, .int .i64 0, .string ⟨#[]⟩, .slice none 0 0] 24))
        obtain ⟨⟨f'0, f'1, f'2, f'3, f'4⟩, f'f⟩ := five_cells (heap_moreT (o := (.cells #[.int .i64 23, .string ⟨#[]⟩, .int .i64 0, .string m, .slice none 0 0] 24)) HB.out)
        obtain ⟨⟨z'0, z'1, z'2, z'3, z'4⟩, z'f⟩ := five_cells (heap_moreT (o := (.cells #[.int .i64 23, .string ⟨#[]⟩, .int .i64 0, .string m, .slice none 0 0] 24)) HZ.out)
        obtain ⟨⟨o'0, o'1, o'2, o'3, o'4⟩, o'f⟩ := five_cells (heap_alloc_new wr (.cells #[.int .i64 23, .string ⟨#[]⟩, .int .i64 0, .string m, .slice none 0 0] 24))
        go_wp2_with fail
        exact bodyPost_ret (results_pat (rb := w.heap.size + 1) rfl rfl (setPat_heap (heap_keptT ((Grew.refl wr).alloc _) HZ.out)) rfl) rfl (leaf_end (.mk 23 ByteArray.empty 0 m []) (nums_leaf (by omega) zero_in none_size HPn.out.2.2) rfl (setPat_grew (HGw.out.trans ((Grew.refl wr).alloc _)) (by omega) _ _ _ _ _))
      · have hXe : Hid (simple (.mk 24 t n m l) = .mk 24 ByteArray.empty 0 m []) := by
          show makeP _ _ _ _ _ = _
          unfold makeP
          simp
        obtain rfl : X = .mk 24 ByteArray.empty 0 m [] := HX0.out.symm.trans hXe.out
        clear HX0 HCs hXe
        obtain ⟨⟨b0, b1, b2, b3, b4⟩, bf⟩ := five_cells HB.out
        obtain ⟨⟨f0, f1, f2, f3, f4⟩, ff⟩ := five_cells (heap_moreT (o := (.cells #[.int .i64 24, .string ⟨#[]⟩, .int .i64 0, .string ⟨#[]⟩, .slice none 0 0] 24)) HB.out)
        obtain ⟨⟨z0, z1, z2, z3, z4⟩, zf⟩ := five_cells (heap_moreT (o := (.cells #[.int .i64 24, .string ⟨#[]⟩, .int .i64 0, .string ⟨#[]⟩, .slice none 0 0] 24)) HZ.out)
        obtain ⟨⟨o0, o1, o2, o3, o4⟩, of⟩ := five_cells (heap_alloc_new wr (.cells #[.int .i64 24, .string ⟨#[]⟩, .int .i64 0, .string ⟨#[]⟩, .slice none 0 0] 24))
        obtain ⟨⟨f'0, f'1, f'2, f'3, f'4⟩, f'f⟩ := five_cells (heap_moreT (o := (.cells #[.int .i64 24, .string ⟨#[]⟩, .int .i64 0, .string m, .slice none 0 0] 24)) HB.out)
        obtain ⟨⟨z'0, z'1, z'2, z'3, z'4⟩, z'f⟩ := five_cells (heap_moreT (o := (.cells #[.int .i64 24, .string ⟨#[]⟩, .int .i64 0, .string m, .slice none 0 0] 24)) HZ.out)
        obtain ⟨⟨o'0, o'1, o'2, o'3, o'4⟩, o'f⟩ := five_cells (heap_alloc_new wr (.cells #[.int .i64 24, .string ⟨#[]⟩, .int .i64 0, .string m, .slice none 0 0] 24))
        go_wp2_with fail
        exact bodyPost_ret (results_pat (rb := w.heap.size + 1) rfl rfl (setPat_heap (heap_keptT ((Grew.refl wr).alloc _) HZ.out)) rfl) rfl (leaf_end (.mk 24 ByteArray.empty 0 m []) (nums_leaf (by omega) zero_in none_size HPn.out.2.2) rfl (setPat_grew (HGw.out.trans ((Grew.refl wr).alloc _)) (by omega) _ _ _ _ _))
      · have hXe : Hid (simple (.mk 4 t n m l) = textP 4 (spell t)) := by
          show makeP _ _ _ _ _ = _
          unfold makeP
          simp
        obtain rfl : X = textP 4 (spell t) := HX0.out.symm.trans hXe.out
        clear HX0 HCs hXe
        have HOf : Hid (∀ w, Calls Tryd.prog 58 #[.string t] w fun e w' => e = .returned (setV (setOf t.data.toList)) ∧ Grew w w') := hidd fun w => Of_any t w HPn.out.2.1
        have HTx : Hid (∀ w, TabZ w → Calls Tryd.prog 77 #[setV (setOf t.data.toList)] w fun e w' => e = .returned (.string (spell t)) ∧ Grew w w') := hidd fun w hT => Text_any _ w hT
        unfold setV at HOf HTx
        obtain ⟨⟨b0, b1, b2, b3, b4⟩, bf⟩ := five_cells HB.out
        obtain ⟨⟨f0, f1, f2, f3, f4⟩, ff⟩ := five_cells (heap_moreT (o := (.cells #[.int .i64 4, .string ⟨#[]⟩, .int .i64 0, .string ⟨#[]⟩, .slice none 0 0] 24)) HB.out)
        obtain ⟨⟨z0, z1, z2, z3, z4⟩, zf⟩ := five_cells (heap_moreT (o := (.cells #[.int .i64 4, .string ⟨#[]⟩, .int .i64 0, .string ⟨#[]⟩, .slice none 0 0] 24)) HZ.out)
        obtain ⟨⟨o0, o1, o2, o3, o4⟩, of⟩ := five_cells (heap_alloc_new wr (.cells #[.int .i64 4, .string ⟨#[]⟩, .int .i64 0, .string ⟨#[]⟩, .slice none 0 0] 24))
        go_wp2_with fail
        refine (HOf.out _).mono ?_; rintro e w1 ⟨rfl, g1⟩
        have HG0 := hidd g1
        have HG1 := hidd (((Grew.refl wr).alloc (.cells #[.int .i64 4, .string ⟨#[]⟩, .int .i64 0, .string ⟨#[]⟩, .slice none 0 0] 24)).trans g1)
        clear g1
        go_wp2_with fail
        refine (HTx.out _ (HT.out.kept (HGw.out.trans HG1.out))).mono ?_; rintro e w2 ⟨rfl, g2⟩
        have HG2 := hidd (HG1.out.trans g2)
        have HO2 : Hid (w2.heap[wr.heap.size]? = some (.cells #[.int .i64 4, .string ⟨#[]⟩, .int .i64 0, .string ⟨#[]⟩, .slice none 0 0] 24 (0, 0))) := hidd (heap_keptT g2 (heap_keptT HG0.out (heap_alloc_new wr (.cells #[.int .i64 4, .string ⟨#[]⟩, .int .i64 0, .string ⟨#[]⟩, .slice none 0 0] 24))))
        clear g2
        clear f0 f1 f2 f3 f4 ff z0 z1 z2 z3 z4 zf o0 o1 o2 o3 o4 of
        obtain ⟨⟨f0, f1, f2, f3, f4⟩, ff⟩ := five_cells (heap_keptT (HG2.out) HB.out)
        obtain ⟨⟨z0, z1, z2, z3, z4⟩, zf⟩ := five_cells (heap_keptT (HG2.out) HZ.out)
        obtain ⟨⟨o0, o1, o2, o3, o4⟩, of⟩ := five_cells (HO2.out)
        obtain ⟨⟨f0', f1', f2', f3', f4'⟩, ff'⟩ := five_cells (heap_keptT ((HG2.out.setOwn (b := wr.heap.size) (o := 1) (Nat.le_refl _) (.string (spell t)))) HB.out)
        obtain ⟨⟨z0', z1', z2', z3', z4'⟩, zf'⟩ := five_cells (heap_keptT ((HG2.out.setOwn (b := wr.heap.size) (o := 1) (Nat.le_refl _) (.string (spell t)))) HZ.out)
        obtain ⟨⟨o0', o1', o2', o3', o4'⟩, of'⟩ := five_cells (setCell_heap_same HO2.out 1 (.string (spell t)))
        go_wp2_with fail
        refine (is_lit (.mk 4 t n m l) (.slice a l.length c) 3 false rfl _).mono ?_; rintro e w3 ⟨rfl, hw3⟩
        have HG3 : Hid (Grew wr w3) := hidd (by rw [hw3]; exact (HG2.out.setOwn (Nat.le_refl _) _).alloc _)
        have HO3 : Hid (w3.heap[wr.heap.size]? = some (.cells #[.int .i64 4, .string (spell t), .int .i64 0, .string ⟨#[]⟩, .slice none 0 0] 24 (0, 0))) := hidd (by rw [hw3]; exact heap_moreT (setCell_heap_same HO2.out 1 _))
        clear hw3
        clear f0 f1 f2 f3 f4 ff z0 z1 z2 z3 z4 zf o0 o1 o2 o3 o4 of
        clear f0' f1' f2' f3' f4' ff' z0' z1' z2' z3' z4' zf' o0' o1' o2' o3' o4' of'
        obtain ⟨⟨f0, f1, f2, f3, f4⟩, ff⟩ := five_cells (heap_keptT (HG3.out) HB.out)
        obtain ⟨⟨z0, z1, z2, z3, z4⟩, zf⟩ := five_cells (heap_keptT (HG3.out) HZ.out)
        obtain ⟨⟨o0, o1, o2, o3, o4⟩, of⟩ := five_cells (HO3.out)
        go_wp2_with fail
        exact bodyPost_ret (results_pat (rb := w.heap.size + 1) rfl rfl (setPat_heap (heap_keptT HG3.out HZ.out)) rfl) rfl (leaf_end (textP 4 (spell t)) (nums_leaf (by omega) zero_in (spell_max t) none_size) rfl (setPat_grew (HGw.out.trans HG3.out) (by omega) _ _ _ _ _))
      · have hXe : Hid (simple (.mk 5 t n m l) = textP 5 (spell t)) := by
          show makeP _ _ _ _ _ = _
          unfold makeP
          simp
        obtain rfl : X = textP 5 (spell t) := HX0.out.symm.trans hXe.out
        clear HX0 HCs hXe
        have HOf : Hid (∀ w, Calls Tryd.prog 58 #[.string t] w fun e w' => e = .returned (setV (setOf t.data.toList)) ∧ Grew w w') := hidd fun w => Of_any t w HPn.out.2.1
        have HTx : Hid (∀ w, TabZ w → Calls Tryd.prog 77 #[setV (setOf t.data.toList)] w fun e w' => e = .returned (.string (spell t)) ∧ Grew w w') := hidd fun w hT => Text_any _ w hT
        unfold setV at HOf HTx
        obtain ⟨⟨b0, b1, b2, b3, b4⟩, bf⟩ := five_cells HB.out
        obtain ⟨⟨f0, f1, f2, f3, f4⟩, ff⟩ := five_cells (heap_moreT (o := (.cells #[.int .i64 5, .string ⟨#[]⟩, .int .i64 0, .string ⟨#[]⟩, .slice none 0 0] 24)) HB.out)
        obtain ⟨⟨z0, z1, z2, z3, z4⟩, zf⟩ := five_cells (heap_moreT (o := (.cells #[.int .i64 5, .string ⟨#[]⟩, .int .i64 0, .string ⟨#[]⟩, .slice none 0 0] 24)) HZ.out)
        obtain ⟨⟨o0, o1, o2, o3, o4⟩, of⟩ := five_cells (heap_alloc_new wr (.cells #[.int .i64 5, .string ⟨#[]⟩, .int .i64 0, .string ⟨#[]⟩, .slice none 0 0] 24))
        go_wp2_with fail
        refine (HOf.out _).mono ?_; rintro e w1 ⟨rfl, g1⟩
        have HG0 := hidd g1
        have HG1 := hidd (((Grew.refl wr).alloc (.cells #[.int .i64 5, .string ⟨#[]⟩, .int .i64 0, .string ⟨#[]⟩, .slice none 0 0] 24)).trans g1)
        clear g1
        go_wp2_with fail
        refine (HTx.out _ (HT.out.kept (HGw.out.trans HG1.out))).mono ?_; rintro e w2 ⟨rfl, g2⟩
        have HG2 := hidd (HG1.out.trans g2)
        have HO2 : Hid (w2.heap[wr.heap.size]? = some (.cells #[.int .i64 5, .string ⟨#[]⟩, .int .i64 0, .string ⟨#[]⟩, .slice none 0 0] 24 (0, 0))) := hidd (heap_keptT g2 (heap_keptT HG0.out (heap_alloc_new wr (.cells #[.int .i64 5, .string ⟨#[]⟩, .int .i64 0, .string ⟨#[]⟩, .slice none 0 0] 24))))
        clear g2
        clear f0 f1 f2 f3 f4 ff z0 z1 z2 z3 z4 zf o0 o1 o2 o3 o4 of
        obtain ⟨⟨f0, f1, f2, f3, f4⟩, ff⟩ := five_cells (heap_keptT (HG2.out) HB.out)
        obtain ⟨⟨z0, z1, z2, z3, z4⟩, zf⟩ := five_cells (heap_keptT (HG2.out) HZ.out)
        obtain ⟨⟨o0, o1, o2, o3, o4⟩, of⟩ := five_cells (HO2.out)
        obtain ⟨⟨f0', f1', f2', f3', f4'⟩, ff'⟩ := five_cells (heap_keptT ((HG2.out.setOwn (b := wr.heap.size) (o := 1) (Nat.le_refl _) (.string (spell t)))) HB.out)
        obtain ⟨⟨z0', z1', z2', z3', z4'⟩, zf'⟩ := five_cells (heap_keptT ((HG2.out.setOwn (b := wr.heap.size) (o := 1) (Nat.le_refl _) (.string (spell t)))) HZ.out)
        obtain ⟨⟨o0', o1', o2', o3', o4'⟩, of'⟩ := five_cells (setCell_heap_same HO2.out 1 (.string (spell t)))
        go_wp2_with fail
        refine (is_lit (.mk 5 t n m l) (.slice a l.length c) 3 false rfl _).mono ?_; rintro e w3 ⟨rfl, hw3⟩
        have HG3 : Hid (Grew wr w3) := hidd (by rw [hw3]; exact (HG2.out.setOwn (Nat.le_refl _) _).alloc _)
        have HO3 : Hid (w3.heap[wr.heap.size]? = some (.cells #[.int .i64 5, .string (spell t), .int .i64 0, .string ⟨#[]⟩, .slice none 0 0] 24 (0, 0))) := hidd (by rw [hw3]; exact heap_moreT (setCell_heap_same HO2.out 1 _))
        clear hw3
        clear f0 f1 f2 f3 f4 ff z0 z1 z2 z3 z4 zf o0 o1 o2 o3 o4 of
        clear f0' f1' f2' f3' f4' ff' z0' z1' z2' z3' z4' zf' o0' o1' o2' o3' o4' of'
        obtain ⟨⟨f0, f1, f2, f3, f4⟩, ff⟩ := five_cells (heap_keptT (HG3.out) HB.out)
        obtain ⟨⟨z0, z1, z2, z3, z4⟩, zf⟩ := five_cells (heap_keptT (HG3.out) HZ.out)
        obtain ⟨⟨o0, o1, o2, o3, o4⟩, of⟩ := five_cells (HO3.out)
        go_wp2_with fail
        exact bodyPost_ret (results_pat (rb := w.heap.size + 1) rfl rfl (setPat_heap (heap_keptT HG3.out HZ.out)) rfl) rfl (leaf_end (textP 5 (spell t)) (nums_leaf (by omega) zero_in (spell_max t) none_size) rfl (setPat_grew (HGw.out.trans HG3.out) (by omega) _ _ _ _ _))
      · have hXe : Hid (simple (.mk 6 t n m l) = textP 6 (spell t)) := by
          show makeP _ _ _ _ _ = _
          unfold makeP
          simp
        obtain rfl : X = textP 6 (spell t) := HX0.out.symm.trans hXe.out
        clear HX0 HCs hXe
        have HOf : Hid (∀ w, Calls Tryd.prog 58 #[.string t] w fun e w' => e = .returned (setV (setOf t.data.toList)) ∧ Grew w w') := hidd fun w => Of_any t w HPn.out.2.1
        have HTx : Hid (∀ w, TabZ w → Calls Tryd.prog 77 #[setV (setOf t.data.toList)] w fun e w' => e = .returned (.string (spell t)) ∧ Grew w w') := hidd fun w hT => Text_any _ w hT
        unfold setV at HOf HTx
        obtain ⟨⟨b0, b1, b2, b3, b4⟩, bf⟩ := five_cells HB.out
        obtain ⟨⟨f0, f1, f2, f3, f4⟩, ff⟩ := five_cells (heap_moreT (o := (.cells #[.int .i64 6, .string ⟨#[]⟩, .int .i64 0, .string ⟨#[]⟩, .slice none 0 0] 24)) HB.out)
        obtain ⟨⟨z0, z1, z2, z3, z4⟩, zf⟩ := five_cells (heap_moreT (o := (.cells #[.int .i64 6, .string ⟨#[]⟩, .int .i64 0, .string ⟨#[]⟩, .slice none 0 0] 24)) HZ.out)
        obtain ⟨⟨o0, o1, o2, o3, o4⟩, of⟩ := five_cells (heap_alloc_new wr (.cells #[.int .i64 6, .string ⟨#[]⟩, .int .i64 0, .string ⟨#[]⟩, .slice none 0 0] 24))
        go_wp2_with fail
        refine (HOf.out _).mono ?_; rintro e w1 ⟨rfl, g1⟩
        have HG0 := hidd g1
        have HG1 := hidd (((Grew.refl wr).alloc (.cells #[.int .i64 6, .string ⟨#[]⟩, .int .i64 0, .string ⟨#[]⟩, .slice none 0 0] 24)).trans g1)
        clear g1
        go_wp2_with fail
        refine (HTx.out _ (HT.out.kept (HGw.out.trans HG1.out))).mono ?_; rintro e w2 ⟨rfl, g2⟩
        have HG2 := hidd (HG1.out.trans g2)
        have HO2 : Hid (w2.heap[wr.heap.size]? = some (.cells #[.int .i64 6, .string ⟨#[]⟩, .int .i64 0, .string ⟨#[]⟩, .slice none 0 0] 24 (0, 0))) := hidd (heap_keptT g2 (heap_keptT HG0.out (heap_alloc_new wr (.cells #[.int .i64 6, .string ⟨#[]⟩, .int .i64 0, .string ⟨#[]⟩, .slice none 0 0] 24))))
        clear g2
        clear f0 f1 f2 f3 f4 ff z0 z1 z2 z3 z4 zf o0 o1 o2 o3 o4 of
        obtain ⟨⟨f0, f1, f2, f3, f4⟩, ff⟩ := five_cells (heap_keptT (HG2.out) HB.out)
        obtain ⟨⟨z0, z1, z2, z3, z4⟩, zf⟩ := five_cells (heap_keptT (HG2.out) HZ.out)
        obtain ⟨⟨o0, o1, o2, o3, o4⟩, of⟩ := five_cells (HO2.out)
        obtain ⟨⟨f0', f1', f2', f3', f4'⟩, ff'⟩ := five_cells (heap_keptT ((HG2.out.setOwn (b := wr.heap.size) (o := 1) (Nat.le_refl _) (.string (spell t)))) HB.out)
        obtain ⟨⟨z0', z1', z2', z3', z4'⟩, zf'⟩ := five_cells (heap_keptT ((HG2.out.setOwn (b := wr.heap.size) (o := 1) (Nat.le_refl _) (.string (spell t)))) HZ.out)
        obtain ⟨⟨o0', o1', o2', o3', o4'⟩, of'⟩ := five_cells (setCell_heap_same HO2.out 1 (.string (spell t)))
        go_wp2_with fail
        refine (is_lit (.mk 6 t n m l) (.slice a l.length c) 3 false rfl _).mono ?_; rintro e w3 ⟨rfl, hw3⟩
        have HG3 : Hid (Grew wr w3) := hidd (by rw [hw3]; exact (HG2.out.setOwn (Nat.le_refl _) _).alloc _)
        have HO3 : Hid (w3.heap[wr.heap.size]? = some (.cells #[.int .i64 6, .string (spell t), .int .i64 0, .string ⟨#[]⟩, .slice none 0 0] 24 (0, 0))) := hidd (by rw [hw3]; exact heap_moreT (setCell_heap_same HO2.out 1 _))
        clear hw3
        clear f0 f1 f2 f3 f4 ff z0 z1 z2 z3 z4 zf o0 o1 o2 o3 o4 of
        clear f0' f1' f2' f3' f4' ff' z0' z1' z2' z3' z4' zf' o0' o1' o2' o3' o4' of'
        obtain ⟨⟨f0, f1, f2, f3, f4⟩, ff⟩ := five_cells (heap_keptT (HG3.out) HB.out)
        obtain ⟨⟨z0, z1, z2, z3, z4⟩, zf⟩ := five_cells (heap_keptT (HG3.out) HZ.out)
        obtain ⟨⟨o0, o1, o2, o3, o4⟩, of⟩ := five_cells (HO3.out)
        go_wp2_with fail
        exact bodyPost_ret (results_pat (rb := w.heap.size + 1) rfl rfl (setPat_heap (heap_keptT HG3.out HZ.out)) rfl) rfl (leaf_end (textP 6 (spell t)) (nums_leaf (by omega) zero_in (spell_max t) none_size) rfl (setPat_grew (HGw.out.trans HG3.out) (by omega) _ _ _ _ _))
      · have hXe : Hid (simple (.mk 7 t n m l) = textP 7 (spell t)) := by
          show makeP _ _ _ _ _ = _
          unfold makeP
          simp
        obtain rfl : X = textP 7 (spell t) := HX0.out.symm.trans hXe.out
        clear HX0 HCs hXe
        have HOf : Hid (∀ w, Calls Tryd.prog 58 #[.string t] w fun e w' => e = .returned (setV (setOf t.data.toList)) ∧ Grew w w') := hidd fun w => Of_any t w HPn.out.2.1
        have HTx : Hid (∀ w, TabZ w → Calls Tryd.prog 77 #[setV (setOf t.data.toList)] w fun e w' => e = .returned (.string (spell t)) ∧ Grew w w') := hidd fun w hT => Text_any _ w hT
        unfold setV at HOf HTx
        obtain ⟨⟨b0, b1, b2, b3, b4⟩, bf⟩ := five_cells HB.out
        obtain ⟨⟨f0, f1, f2, f3, f4⟩, ff⟩ := five_cells (heap_moreT (o := (.cells #[.int .i64 7, .string ⟨#[]⟩, .int .i64 0, .string ⟨#[]⟩, .slice none 0 0] 24)) HB.out)
        obtain ⟨⟨z0, z1, z2, z3, z4⟩, zf⟩ := five_cells (heap_moreT (o := (.cells #[.int .i64 7, .string ⟨#[]⟩, .int .i64 0, .string ⟨#[]⟩, .slice none 0 0] 24)) HZ.out)
        obtain ⟨⟨o0, o1, o2, o3, o4⟩, of⟩ := five_cells (heap_alloc_new wr (.cells #[.int .i64 7, .string ⟨#[]⟩, .int .i64 0, .string ⟨#[]⟩, .slice none 0 0] 24))
        go_wp2_with fail
        refine (HOf.out _).mono ?_; rintro e w1 ⟨rfl, g1⟩
        have HG0 := hidd g1
        have HG1 := hidd (((Grew.refl wr).alloc (.cells #[.int .i64 7, .string ⟨#[]⟩, .int .i64 0, .string ⟨#[]⟩, .slice none 0 0] 24)).trans g1)
        clear g1
        go_wp2_with fail
        refine (HTx.out _ (HT.out.kept (HGw.out.trans HG1.out))).mono ?_; rintro e w2 ⟨rfl, g2⟩
        have HG2 := hidd (HG1.out.trans g2)
        have HO2 : Hid (w2.heap[wr.heap.size]? = some (.cells #[.int .i64 7, .string ⟨#[]⟩, .int .i64 0, .string ⟨#[]⟩, .slice none 0 0] 24 (0, 0))) := hidd (heap_keptT g2 (heap_keptT HG0.out (heap_alloc_new wr (.cells #[.int .i64 7, .string ⟨#[]⟩, .int .i64 0, .string ⟨#[]⟩, .slice none 0 0] 24))))
        clear g2
        clear f0 f1 f2 f3 f4 ff z0 z1 z2 z3 z4 zf o0 o1 o2 o3 o4 of
        obtain ⟨⟨f0, f1, f2, f3, f4⟩, ff⟩ := five_cells (heap_keptT (HG2.out) HB.out)
        obtain ⟨⟨z0, z1, z2, z3, z4⟩, zf⟩ := five_cells (heap_keptT (HG2.out) HZ.out)
        obtain ⟨⟨o0, o1, o2, o3, o4⟩, of⟩ := five_cells (HO2.out)
        obtain ⟨⟨f0', f1', f2', f3', f4'⟩, ff'⟩ := five_cells (heap_keptT ((HG2.out.setOwn (b := wr.heap.size) (o := 1) (Nat.le_refl _) (.string (spell t)))) HB.out)
        obtain ⟨⟨z0', z1', z2', z3', z4'⟩, zf'⟩ := five_cells (heap_keptT ((HG2.out.setOwn (b := wr.heap.size) (o := 1) (Nat.le_refl _) (.string (spell t)))) HZ.out)
        obtain ⟨⟨o0', o1', o2', o3', o4'⟩, of'⟩ := five_cells (setCell_heap_same HO2.out 1 (.string (spell t)))
        go_wp2_with fail
        refine (is_lit (.mk 7 t n m l) (.slice a l.length c) 3 false rfl _).mono ?_; rintro e w3 ⟨rfl, hw3⟩
        have HG3 : Hid (Grew wr w3) := hidd (by rw [hw3]; exact (HG2.out.setOwn (Nat.le_refl _) _).alloc _)
        have HO3 : Hid (w3.heap[wr.heap.size]? = some (.cells #[.int .i64 7, .string (spell t), .int .i64 0, .string ⟨#[]⟩, .slice none 0 0] 24 (0, 0))) := hidd (by rw [hw3]; exact heap_moreT (setCell_heap_same HO2.out 1 _))
        clear hw3
        clear f0 f1 f2 f3 f4 ff z0 z1 z2 z3 z4 zf o0 o1 o2 o3 o4 of
        clear f0' f1' f2' f3' f4' ff' z0' z1' z2' z3' z4' zf' o0' o1' o2' o3' o4' of'
        obtain ⟨⟨f0, f1, f2, f3, f4⟩, ff⟩ := five_cells (heap_keptT (HG3.out) HB.out)
        obtain ⟨⟨z0, z1, z2, z3, z4⟩, zf⟩ := five_cells (heap_keptT (HG3.out) HZ.out)
        obtain ⟨⟨o0, o1, o2, o3, o4⟩, of⟩ := five_cells (HO3.out)
        go_wp2_with fail
        exact bodyPost_ret (results_pat (rb := w.heap.size + 1) rfl rfl (setPat_heap (heap_keptT HG3.out HZ.out)) rfl) rfl (leaf_end (textP 7 (spell t)) (nums_leaf (by omega) zero_in (spell_max t) none_size) rfl (setPat_grew (HGw.out.trans HG3.out) (by omega) _ _ _ _ _))
      · have hXe : Hid (simple (.mk 3 t n m l) = textP 3 (spell t)) := by
          show makeP _ _ _ _ _ = _
          unfold makeP
          simp [h1]
        obtain rfl : X = textP 3 (spell t) := HX0.out.symm.trans hXe.out
        clear HX0 HCs hXe
        have HOf : Hid (∀ w, Calls Tryd.prog 58 #[.string t] w fun e w' => e = .returned (setV (setOf t.data.toList)) ∧ Grew w w') := hidd fun w => Of_any t w HPn.out.2.1
        have HTx : Hid (∀ w, TabZ w → Calls Tryd.prog 77 #[setV (setOf t.data.toList)] w fun e w' => e = .returned (.string (spell t)) ∧ Grew w w') := hidd fun w hT => Text_any _ w hT
        unfold setV at HOf HTx
        have kz : ((((spell t).size : Nat) : Int) == 1) = false := by rw [beq_eq_false_iff_ne]; omega
        obtain ⟨⟨b0, b1, b2, b3, b4⟩, bf⟩ := five_cells HB.out
        obtain ⟨⟨f0, f1, f2, f3, f4⟩, ff⟩ := five_cells (heap_moreT (o := (.cells #[.int .i64 3, .string ⟨#[]⟩, .int .i64 0, .string ⟨#[]⟩, .slice none 0 0] 24)) HB.out)
        obtain ⟨⟨z0, z1, z2, z3, z4⟩, zf⟩ := five_cells (heap_moreT (o := (.cells #[.int .i64 3, .string ⟨#[]⟩, .int .i64 0, .string ⟨#[]⟩, .slice none 0 0] 24)) HZ.out)
        obtain ⟨⟨o0, o1, o2, o3, o4⟩, of⟩ := five_cells (heap_alloc_new wr (.cells #[.int .i64 3, .string ⟨#[]⟩, .int .i64 0, .string ⟨#[]⟩, .slice none 0 0] 24))
        go_wp2_with fail
        refine (HOf.out _).mono ?_; rintro e w1 ⟨rfl, g1⟩
        have HG0 := hidd g1
        have HG1 := hidd (((Grew.refl wr).alloc (.cells #[.int .i64 3, .string ⟨#[]⟩, .int .i64 0, .string ⟨#[]⟩, .slice none 0 0] 24)).trans g1)
        clear g1
        go_wp2_with fail
        refine (HTx.out _ (HT.out.kept (HGw.out.trans HG1.out))).mono ?_; rintro e w2 ⟨rfl, g2⟩
        have HG2 := hidd (HG1.out.trans g2)
        have HO2 : Hid (w2.heap[wr.heap.size]? = some (.cells #[.int .i64 3, .string ⟨#[]⟩, .int .i64 0, .string ⟨#[]⟩, .slice none 0 0] 24 (0, 0))) := hidd (heap_keptT g2 (heap_keptT HG0.out (heap_alloc_new wr (.cells #[.int .i64 3, .string ⟨#[]⟩, .int .i64 0, .string ⟨#[]⟩, .slice none 0 0] 24))))
        clear g2
        clear f0 f1 f2 f3 f4 ff z0 z1 z2 z3 z4 zf o0 o1 o2 o3 o4 of
        obtain ⟨⟨f0, f1, f2, f3, f4⟩, ff⟩ := five_cells (heap_keptT (HG2.out) HB.out)
        obtain ⟨⟨z0, z1, z2, z3, z4⟩, zf⟩ := five_cells (heap_keptT (HG2.out) HZ.out)
        obtain ⟨⟨o0, o1, o2, o3, o4⟩, of⟩ := five_cells (HO2.out)
        obtain ⟨⟨f0', f1', f2', f3', f4'⟩, ff'⟩ := five_cells (heap_keptT ((HG2.out.setOwn (b := wr.heap.size) (o := 1) (Nat.le_refl _) (.string (spell t)))) HB.out)
        obtain ⟨⟨z0', z1', z2', z3', z4'⟩, zf'⟩ := five_cells (heap_keptT ((HG2.out.setOwn (b := wr.heap.size) (o := 1) (Nat.le_refl _) (.string (spell t)))) HZ.out)
        obtain ⟨⟨o0', o1', o2', o3', o4'⟩, of'⟩ := five_cells (setCell_heap_same HO2.out 1 (.string (spell t)))
        go_wp2_with fail
        refine (is_lit (.mk 3 t n m l) (.slice a l.length c) 3 true rfl _).mono ?_; rintro e w3 ⟨rfl, hw3⟩
        have HG3 : Hid (Grew wr w3) := hidd (by rw [hw3]; exact (HG2.out.setOwn (Nat.le_refl _) _).alloc _)
        have HO3 : Hid (w3.heap[wr.heap.size]? = some (.cells #[.int .i64 3, .string (spell t), .int .i64 0, .string ⟨#[]⟩, .slice none 0 0] 24 (0, 0))) := hidd (by rw [hw3]; exact heap_moreT (setCell_heap_same HO2.out 1 _))
        clear hw3
        clear f0 f1 f2 f3 f4 ff z0 z1 z2 z3 z4 zf o0 o1 o2 o3 o4 of
        clear f0' f1' f2' f3' f4' ff' z0' z1' z2' z3' z4' zf' o0' o1' o2' o3' o4' of'
        obtain ⟨⟨f0, f1, f2, f3, f4⟩, ff⟩ := five_cells (heap_keptT (HG3.out) HB.out)
        obtain ⟨⟨z0, z1, z2, z3, z4⟩, zf⟩ := five_cells (heap_keptT (HG3.out) HZ.out)
        obtain ⟨⟨o0, o1, o2, o3, o4⟩, of⟩ := five_cells (HO3.out)
        go_wp2_with fail
        exact bodyPost_ret (results_pat (rb := w.heap.size + 1) rfl rfl (setPat_heap (heap_keptT HG3.out HZ.out)) rfl) rfl (leaf_end (textP 3 (spell t)) (nums_leaf (by omega) zero_in (spell_max t) none_size) rfl (setPat_grew (HGw.out.trans HG3.out) (by omega) _ _ _ _ _))
      · have hXe : Hid (simple (.mk 3 t n m l) = litP (spell t)) := by
          show makeP _ _ _ _ _ = _
          unfold makeP
          simp [h1]
        obtain rfl : X = litP (spell t) := HX0.out.symm.trans hXe.out
        clear HX0 HCs hXe
        have HOf : Hid (∀ w, Calls Tryd.prog 58 #[.string t] w fun e w' => e = .returned (setV (setOf t.data.toList)) ∧ Grew w w') := hidd fun w => Of_any t w HPn.out.2.1
        have HTx : Hid (∀ w, TabZ w → Calls Tryd.prog 77 #[setV (setOf t.data.toList)] w fun e w' => e = .returned (.string (spell t)) ∧ Grew w w') := hidd fun w hT => Text_any _ w hT
        unfold setV at HOf HTx
        have kz : ((((spell t).size : Nat) : Int) == 1) = true := by rw [beq_iff_eq]; omega
        obtain ⟨⟨b0, b1, b2, b3, b4⟩, bf⟩ := five_cells HB.out
        obtain ⟨⟨f0, f1, f2, f3, f4⟩, ff⟩ := five_cells (heap_moreT (o := (.cells #[.int .i64 3, .string ⟨#[]⟩, .int .i64 0, .string ⟨#[]⟩, .slice none 0 0] 24)) HB.out)
        obtain ⟨⟨z0, z1, z2, z3, z4⟩, zf⟩ := five_cells (heap_moreT (o := (.cells #[.int .i64 3, .string ⟨#[]⟩, .int .i64 0, .string ⟨#[]⟩, .slice none 0 0] 24)) HZ.out)
        obtain ⟨⟨o0, o1, o2, o3, o4⟩, of⟩ := five_cells (heap_alloc_new wr (.cells #[.int .i64 3, .string ⟨#[]⟩, .int .i64 0, .string ⟨#[]⟩, .slice none 0 0] 24))
        go_wp2_with fail
        refine (HOf.out _).mono ?_; rintro e w1 ⟨rfl, g1⟩
        have HG0 := hidd g1
        have HG1 := hidd (((Grew.refl wr).alloc (.cells #[.int .i64 3, .string ⟨#[]⟩, .int .i64 0, .string ⟨#[]⟩, .slice none 0 0] 24)).trans g1)
        clear g1
        go_wp2_with fail
        refine (HTx.out _ (HT.out.kept (HGw.out.trans HG1.out))).mono ?_; rintro e w2 ⟨rfl, g2⟩
        have HG2 := hidd (HG1.out.trans g2)
        have HO2 : Hid (w2.heap[wr.heap.size]? = some (.cells #[.int .i64 3, .string ⟨#[]⟩, .int .i64 0, .string ⟨#[]⟩, .slice none 0 0] 24 (0, 0))) := hidd (heap_keptT g2 (heap_keptT HG0.out (heap_alloc_new wr (.cells #[.int .i64 3, .string ⟨#[]⟩, .int .i64 0, .string ⟨#[]⟩, .slice none 0 0] 24))))
        clear g2
        clear f0 f1 f2 f3 f4 ff z0 z1 z2 z3 z4 zf o0 o1 o2 o3 o4 of
        obtain ⟨⟨f0, f1, f2, f3, f4⟩, ff⟩ := five_cells (heap_keptT (HG2.out) HB.out)
        obtain ⟨⟨z0, z1, z2, z3, z4⟩, zf⟩ := five_cells (heap_keptT (HG2.out) HZ.out)
        obtain ⟨⟨o0, o1, o2, o3, o4⟩, of⟩ := five_cells (HO2.out)
        obtain ⟨⟨f0', f1', f2', f3', f4'⟩, ff'⟩ := five_cells (heap_keptT ((HG2.out.setOwn (b := wr.heap.size) (o := 1) (Nat.le_refl _) (.string (spell t)))) HB.out)
        obtain ⟨⟨z0', z1', z2', z3', z4'⟩, zf'⟩ := five_cells (heap_keptT ((HG2.out.setOwn (b := wr.heap.size) (o := 1) (Nat.le_refl _) (.string (spell t)))) HZ.out)
        obtain ⟨⟨o0', o1', o2', o3', o4'⟩, of'⟩ := five_cells (setCell_heap_same HO2.out 1 (.string (spell t)))
        go_wp2_with fail
        refine (is_lit (.mk 3 t n m l) (.slice a l.length c) 3 true rfl _).mono ?_; rintro e w3 ⟨rfl, hw3⟩
        have HG3 : Hid (Grew wr w3) := hidd (by rw [hw3]; exact (HG2.out.setOwn (Nat.le_refl _) _).alloc _)
        have HO3 : Hid (w3.heap[wr.heap.size]? = some (.cells #[.int .i64 3, .string (spell t), .int .i64 0, .string ⟨#[]⟩, .slice none 0 0] 24 (0, 0))) := hidd (by rw [hw3]; exact heap_moreT (setCell_heap_same HO2.out 1 _))
        clear hw3
        clear f0 f1 f2 f3 f4 ff z0 z1 z2 z3 z4 zf o0 o1 o2 o3 o4 of
        clear f0' f1' f2' f3' f4' ff' z0' z1' z2' z3' z4' zf' o0' o1' o2' o3' o4' of'
        obtain ⟨⟨f0, f1, f2, f3, f4⟩, ff⟩ := five_cells (heap_keptT (HG3.out) HB.out)
        obtain ⟨⟨z0, z1, z2, z3, z4⟩, zf⟩ := five_cells (heap_keptT (HG3.out) HZ.out)
        obtain ⟨⟨o0, o1, o2, o3, o4⟩, of⟩ := five_cells (HO3.out)
        go_wp2_with fail
        refine (lit_exact (spell t) _).mono ?_; rintro e w9 ⟨rfl, hw9⟩
        have HG9 : Hid (Grew wr w9) := hidd (by rw [hw9]; exact HG3.out.alloc _)
        obtain ⟨⟨q0, q1, q2, q3, q4⟩, qf⟩ := five_cells (heap_keptT HG9.out HZ.out)
        clear hw9
        go_wp2_with fail
        exact bodyPost_ret (results_pat (rb := w.heap.size + 1) rfl rfl (setPat_heap (heap_keptT HG9.out HZ.out)) rfl) rfl (leaf_end (litP (spell t)) (nums_leaf (by omega) zero_in (spell_max t) none_size) rfl (setPat_grew (HGw.out.trans HG9.out) (by omega) _ _ _ _ _))
      · have hXe : Hid (simple (.mk 2 t n m l) = numP 2 n) := by
          show makeP _ _ _ _ _ = _
          unfold makeP
          simp [h1]
        obtain rfl : X = numP 2 n := HX0.out.symm.trans hXe.out
        clear HX0 HCs hXe
        have kz : (n == 0) = false := by rw [beq_eq_false_iff_ne]; exact h1
        clear h1
        obtain ⟨⟨b0, b1, b2, b3, b4⟩, bf⟩ := five_cells HB.out
        obtain ⟨⟨f0, f1, f2, f3, f4⟩, ff⟩ := five_cells (heap_moreT (o := (.cells #[.int .i64 2, .string ⟨#[]⟩, .int .i64 0, .string ⟨#[]⟩, .slice none 0 0] 24)) HB.out)
        obtain ⟨⟨z0, z1, z2, z3, z4⟩, zf⟩ := five_cells (heap_moreT (o := (.cells #[.int .i64 2, .string ⟨#[]⟩, .int .i64 0, .string ⟨#[]⟩, .slice none 0 0] 24)) HZ.out)
        obtain ⟨⟨o0, o1, o2, o3, o4⟩, of⟩ := five_cells (heap_alloc_new wr (.cells #[.int .i64 2, .string ⟨#[]⟩, .int .i64 0, .string ⟨#[]⟩, .slice none 0 0] 24))
        obtain ⟨⟨f'0, f'1, f'2, f'3, f'4⟩, f'f⟩ := five_cells (heap_moreT (o := (.cells #[.int .i64 2, .string ⟨#[]⟩, .int .i64 n, .string ⟨#[]⟩, .slice none 0 0] 24)) HB.out)
        obtain ⟨⟨z'0, z'1, z'2, z'3, z'4⟩, z'f⟩ := five_cells (heap_moreT (o := (.cells #[.int .i64 2, .string ⟨#[]⟩, .int .i64 n, .string ⟨#[]⟩, .slice none 0 0] 24)) HZ.out)
        obtain ⟨⟨o'0, o'1, o'2, o'3, o'4⟩, o'f⟩ := five_cells (heap_alloc_new wr (.cells #[.int .i64 2, .string ⟨#[]⟩, .int .i64 n, .string ⟨#[]⟩, .slice none 0 0] 24))
        go_wp2_with fail
        exact bodyPost_ret (results_pat (rb := w.heap.size + 1) rfl rfl (setPat_heap (heap_keptT ((Grew.refl wr).alloc _) HZ.out)) rfl) rfl (leaf_end (numP 2 n) (nums_leaf (by omega) HPn.out.1 none_size none_size) rfl (setPat_grew (HGw.out.trans ((Grew.refl wr).alloc _)) (by omega) _ _ _ _ _))
      · have hXe : Hid (simple (.mk 2 t n m l) = litP ByteArray.empty) := by
          show makeP _ _ _ _ _ = _
          unfold makeP
          simp [h1]
        obtain rfl : X = litP ByteArray.empty := HX0.out.symm.trans hXe.out
        clear HX0 HCs hXe
        have kz : (n == 0) = true := by rw [beq_iff_eq]; exact h1
        clear h1
        obtain ⟨⟨b0, b1, b2, b3, b4⟩, bf⟩ := five_cells HB.out
        obtain ⟨⟨f0, f1, f2, f3, f4⟩, ff⟩ := five_cells (heap_moreT (o := (.cells #[.int .i64 2, .string ⟨#[]⟩, .int .i64 0, .string ⟨#[]⟩, .slice none 0 0] 24)) HB.out)
        obtain ⟨⟨z0, z1, z2, z3, z4⟩, zf⟩ := five_cells (heap_moreT (o := (.cells #[.int .i64 2, .string ⟨#[]⟩, .int .i64 0, .string ⟨#[]⟩, .slice none 0 0] 24)) HZ.out)
        obtain ⟨⟨o0, o1, o2, o3, o4⟩, of⟩ := five_cells (heap_alloc_new wr (.cells #[.int .i64 2, .string ⟨#[]⟩, .int .i64 0, .string ⟨#[]⟩, .slice none 0 0] 24))
        obtain ⟨⟨f'0, f'1, f'2, f'3, f'4⟩, f'f⟩ := five_cells (heap_moreT (o := (.cells #[.int .i64 2, .string ⟨#[]⟩, .int .i64 n, .string ⟨#[]⟩, .slice none 0 0] 24)) HB.out)
        obtain ⟨⟨z'0, z'1, z'2, z'3, z'4⟩, z'f⟩ := five_cells (heap_moreT (o := (.cells #[.int .i64 2, .string ⟨#[]⟩, .int .i64 n, .string ⟨#[]⟩, .slice none 0 0] 24)) HZ.out)
        obtain ⟨⟨o'0, o'1, o'2, o'3, o'4⟩, o'f⟩ := five_cells (heap_alloc_new wr (.cells #[.int .i64 2, .string ⟨#[]⟩, .int .i64 n, .string ⟨#[]⟩, .slice none 0 0] 24))
        go_wp2_with fail
        refine (lit_exact _ _).mono ?_; rintro e w9 ⟨rfl, hw9⟩
        have HG9 : Hid (Grew wr w9) := hidd (by rw [hw9]; exact ((Grew.refl wr).alloc _).alloc _)
        obtain ⟨⟨q0, q1, q2, q3, q4⟩, qf⟩ := five_cells (heap_keptT HG9.out HZ.out)
        clear hw9
        go_wp2_with fail
        exact bodyPost_ret (results_pat (rb := w.heap.size + 1) rfl rfl (setPat_heap (heap_keptT HG9.out HZ.out)) rfl) rfl (leaf_end (litP ByteArray.empty) (nums_leaf (by omega) zero_in none_size none_size) rfl (setPat_grew (HGw.out.trans HG9.out) (by omega) _ _ _ _ _))
      · have hXe : Hid (simple (.mk 9 t n m l) = numP 9 n) := by
          show makeP _ _ _ _ _ = _
          unfold makeP
          simp [h1]
        obtain rfl : X = numP 9 n := HX0.out.symm.trans hXe.out
        clear HX0 HCs hXe
        have kz : (n == 0) = false := by rw [beq_eq_false_iff_ne]; exact h1
        clear h1
        obtain ⟨⟨b0, b1, b2, b3, b4⟩, bf⟩ := five_cells HB.out
        obtain ⟨⟨f0, f1, f2, f3, f4⟩, ff⟩ := five_cells (heap_moreT (o := (.cells #[.int .i64 9, .string ⟨#[]⟩, .int .i64 0, .string ⟨#[]⟩, .slice none 0 0] 24)) HB.out)
        obtain ⟨⟨z0, z1, z2, z3, z4⟩, zf⟩ := five_cells (heap_moreT (o := (.cells #[.int .i64 9, .string ⟨#[]⟩, .int .i64 0, .string ⟨#[]⟩, .slice none 0 0] 24)) HZ.out)
        obtain ⟨⟨o0, o1, o2, o3, o4⟩, of⟩ := five_cells (heap_alloc_new wr (.cells #[.int .i64 9, .string ⟨#[]⟩, .int .i64 0, .string ⟨#[]⟩, .slice none 0 0] 24))
        obtain ⟨⟨f'0, f'1, f'2, f'3, f'4⟩, f'f⟩ := five_cells (heap_moreT (o := (.cells #[.int .i64 9, .string ⟨#[]⟩, .int .i64 n, .string ⟨#[]⟩, .slice none 0 0] 24)) HB.out)
        obtain ⟨⟨z'0, z'1, z'2, z'3, z'4⟩, z'f⟩ := five_cells (heap_moreT (o := (.cells #[.int .i64 9, .string ⟨#[]⟩, .int .i64 n, .string ⟨#[]⟩, .slice none 0 0] 24)) HZ.out)
        obtain ⟨⟨o'0, o'1, o'2, o'3, o'4⟩, o'f⟩ := five_cells (heap_alloc_new wr (.cells #[.int .i64 9, .string ⟨#[]⟩, .int .i64 n, .string ⟨#[]⟩, .slice none 0 0] 24))
        go_wp2_with fail
        exact bodyPost_ret (results_pat (rb := w.heap.size + 1) rfl rfl (setPat_heap (heap_keptT ((Grew.refl wr).alloc _) HZ.out)) rfl) rfl (leaf_end (numP 9 n) (nums_leaf (by omega) HPn.out.1 none_size none_size) rfl (setPat_grew (HGw.out.trans ((Grew.refl wr).alloc _)) (by omega) _ _ _ _ _))
      · have hXe : Hid (simple (.mk 9 t n m l) = bareP 12) := by
          show makeP _ _ _ _ _ = _
          unfold makeP
          simp [h1]
        obtain rfl : X = bareP 12 := HX0.out.symm.trans hXe.out
        clear HX0 HCs hXe
        have kz : (n == 0) = true := by rw [beq_iff_eq]; exact h1
        clear h1
        obtain ⟨⟨b0, b1, b2, b3, b4⟩, bf⟩ := five_cells HB.out
        obtain ⟨⟨f0, f1, f2, f3, f4⟩, ff⟩ := five_cells (heap_moreT (o := (.cells #[.int .i64 9, .string ⟨#[]⟩, .int .i64 0, .string ⟨#[]⟩, .slice none 0 0] 24)) HB.out)
        obtain ⟨⟨z0, z1, z2, z3, z4⟩, zf⟩ := five_cells (heap_moreT (o := (.cells #[.int .i64 9, .string ⟨#[]⟩, .int .i64 0, .string ⟨#[]⟩, .slice none 0 0] 24)) HZ.out)
        obtain ⟨⟨o0, o1, o2, o3, o4⟩, of⟩ := five_cells (heap_alloc_new wr (.cells #[.int .i64 9, .string ⟨#[]⟩, .int .i64 0, .string ⟨#[]⟩, .slice none 0 0] 24))
        obtain ⟨⟨f'0, f'1, f'2, f'3, f'4⟩, f'f⟩ := five_cells (heap_moreT (o := (.cells #[.int .i64 9, .string ⟨#[]⟩, .int .i64 n, .string ⟨#[]⟩, .slice none 0 0] 24)) HB.out)
        obtain ⟨⟨z'0, z'1, z'2, z'3, z'4⟩, z'f⟩ := five_cells (heap_moreT (o := (.cells #[.int .i64 9, .string ⟨#[]⟩, .int .i64 n, .string ⟨#[]⟩, .slice none 0 0] 24)) HZ.out)
        obtain ⟨⟨o'0, o'1, o'2, o'3, o'4⟩, o'f⟩ := five_cells (heap_alloc_new wr (.cells #[.int .i64 9, .string ⟨#[]⟩, .int .i64 n, .string ⟨#[]⟩, .slice none 0 0] 24))
        go_wp2_with fail
        exact bodyPost_ret (results_pat (rb := w.heap.size + 1) rfl rfl (setPat_heap (heap_keptT ((Grew.refl wr).alloc _) HZ.out)) rfl) rfl (leaf_end (bareP 12) (nums_leaf (by omega) zero_in none_size none_size) rfl (setPat_grew (HGw.out.trans ((Grew.refl wr).alloc _)) (by omega) _ _ _ _ _))
      · have hXe : Hid (simple (.mk 20 t n m l) = litP ByteArray.empty) := by
          refine hidd ?_
          rw [simple, simpleL_map, make20]
          simp only [e1, true_or, if_true]
        obtain rfl : X = litP ByteArray.empty := HX0.out.symm.trans hXe.out
        clear HX0 HCs hXe
        have HL1 : Hid (l.length = 1) := HNo.out.only (Or.inl rfl)
        have E1 := hidd e1
        clear e1
        obtain ⟨⟨b0, b1, b2, b3, b4⟩, bf⟩ := five_cells HB.out
        obtain ⟨⟨f0, f1, f2, f3, f4⟩, ff⟩ := five_cells (heap_moreT (o := (.cells #[.int .i64 20, .string ⟨#[]⟩, .int .i64 0, .string ⟨#[]⟩, .slice none 0 0] 24)) HB.out)
        obtain ⟨⟨z0, z1, z2, z3, z4⟩, zf⟩ := five_cells (heap_moreT (o := (.cells #[.int .i64 20, .string ⟨#[]⟩, .int .i64 0, .string ⟨#[]⟩, .slice none 0 0] 24)) HZ.out)
        obtain ⟨⟨o0, o1, o2, o3, o4⟩, of⟩ := five_cells (heap_alloc_new wr (.cells #[.int .i64 20, .string ⟨#[]⟩, .int .i64 0, .string ⟨#[]⟩, .slice none 0 0] 24))
        have hl1 := HL1.out
        obtain ⟨a3, cc, rfl⟩ := HE.out.len
        obtain ⟨b, o, kk, rfl, hnd, hq⟩ := HE.out.list.at (i := 0) (by rw [List.length_map]; omega)
        obtain ⟨qa, qn, qc, rfl⟩ := hq.form
        have hll : (l.map simple).length = 1 := by rw [List.length_map]; exact hl1
        rw [hll]
        obtain ⟨q, hqe⟩ : ∃ q, (l.map simple).getD 0 Pat.zero = q := ⟨_, rfl⟩
        rw [hqe] at hnd hq E1
        have HQ := hidd hq
        have HN := hidd (show NodeAt wr b o q (.slice qa qn qc) from by simpa using hnd)
        clear hq hnd
        obtain ⟨c0, c1, c2, c3, c4, _, _, _, _⟩ := HN.out.kept ((Grew.refl wr).alloc (.cells #[.int .i64 20, .string ⟨#[]⟩, .int .i64 0, .string ⟨#[]⟩, .slice none 0 0] 24))
        have CE : Hid (∀ w, Calls Tryd.prog 82 #[.agg #[.int .i64 q.kind, .string q.text, .int .i64 q.n, .string q.name, .slice qa qn qc]] w fun e w' => e = .returned (.bool true) ∧ Grew w w') := hidd fun w => by
          have := empty_any q (.slice qa qn qc) w; rw [E1.out] at this; exact this
        go_wp2_with fail
        refine (CE.out _).mono ?_; rintro e w1 ⟨rfl, g1⟩
        have HG1 := hidd ((((Grew.refl wr).alloc (.cells #[.int .i64 20, .string ⟨#[]⟩, .int .i64 0, .string ⟨#[]⟩, .slice none 0 0] 24)).alloc (.cells #[.int .i64 q.kind, .string q.text, .int .i64 q.n, .string q.name, .slice qa qn qc] 24)).trans g1)
        have HO1 := hidd (heap_keptT g1 (heap_moreT (heap_alloc_new wr (.cells #[.int .i64 20, .string ⟨#[]⟩, .int .i64 0, .string ⟨#[]⟩, .slice none 0 0] 24))))
        have HK1 := hidd (heap_keptT g1 (heap_second wr _ (.cells #[.int .i64 q.kind, .string q.text, .int .i64 q.n, .string q.name, .slice qa qn qc] 24)))
        clear g1
        clear f0 f1 f2 f3 f4 ff z0 z1 z2 z3 z4 zf o0 o1 o2 o3 o4 of
        clear c0 c1 c2 c3 c4
        obtain ⟨⟨f0, f1, f2, f3, f4⟩, ff⟩ := five_cells (heap_keptT (HG1.out) HB.out)
        obtain ⟨⟨z0, z1, z2, z3, z4⟩, zf⟩ := five_cells (heap_keptT (HG1.out) HZ.out)
        obtain ⟨⟨o0, o1, o2, o3, o4⟩, of⟩ := five_cells (HO1.out)
        obtain ⟨⟨k0, k1, k2, k3, k4⟩, kf⟩ := five_cells (HK1.out)
        go_wp2_with fail
        refine (lit_exact _ _).mono ?_; rintro e w9 ⟨rfl, hw9⟩
        have HG9 : Hid (Grew wr w9) := hidd (by rw [hw9]; exact HG1.out.alloc _)
        obtain ⟨⟨q0, q1, q2, q3, q4⟩, qf⟩ := five_cells (heap_keptT HG9.out HZ.out)
        clear hw9
        go_wp2_with fail
        exact bodyPost_ret (results_pat (rb := w.heap.size + 1) rfl rfl (setPat_heap (heap_keptT HG9.out HZ.out)) rfl) rfl (leaf_end (litP ByteArray.empty) (nums_leaf (by omega) zero_in none_size none_size) rfl (setPat_grew (HGw.out.trans HG9.out) (by omega) _ _ _ _ _))
      · have hXe : Hid (simple (.mk 20 t n m l) = litP ByteArray.empty) := by
          refine hidd ?_
          rw [simple, simpleL_map, make20]
          simp only [show failB _ = true from e2, or_true, if_true]
        obtain rfl : X = litP ByteArray.empty := HX0.out.symm.trans hXe.out
        clear HX0 HCs hXe
        have HL1 : Hid (l.length = 1) := HNo.out.only (Or.inl rfl)
        have E1 := hidd e1
        have E2 := hidd e2
        clear e1 e2
        obtain ⟨⟨b0, b1, b2, b3, b4⟩, bf⟩ := five_cells HB.out
        obtain ⟨⟨f0, f1, f2, f3, f4⟩, ff⟩ := five_cells (heap_moreT (o := (.cells #[.int .i64 20, .string ⟨#[]⟩, .int .i64 0, .string ⟨#[]⟩, .slice none 0 0] 24)) HB.out)
        obtain ⟨⟨z0, z1, z2, z3, z4⟩, zf⟩ := five_cells (heap_moreT (o := (.cells #[.int .i64 20, .string ⟨#[]⟩, .int .i64 0, .string ⟨#[]⟩, .slice none 0 0] 24)) HZ.out)
        obtain ⟨⟨o0, o1, o2, o3, o4⟩, of⟩ := five_cells (heap_alloc_new wr (.cells #[.int .i64 20, .string ⟨#[]⟩, .int .i64 0, .string ⟨#[]⟩, .slice none 0 0] 24))
        have hl1 := HL1.out
        obtain ⟨a3, cc, rfl⟩ := HE.out.len
        obtain ⟨b, o, kk, rfl, hnd, hq⟩ := HE.out.list.at (i := 0) (by rw [List.length_map]; omega)
        obtain ⟨qa, qn, qc, rfl⟩ := hq.form
        have hll : (l.map simple).length = 1 := by rw [List.length_map]; exact hl1
        rw [hll]
        obtain ⟨q, hqe⟩ : ∃ q, (l.map simple).getD 0 Pat.zero = q := ⟨_, rfl⟩
        rw [hqe] at hnd hq E1 E2
        have HQ := hidd hq
        have HN := hidd (show NodeAt wr b o q (.slice qa qn qc) from by simpa using hnd)
        clear hq hnd
        obtain ⟨c0, c1, c2, c3, c4, _, _, _, _⟩ := HN.out.kept ((Grew.refl wr).alloc (.cells #[.int .i64 20, .string ⟨#[]⟩, .int .i64 0, .string ⟨#[]⟩, .slice none 0 0] 24))
        have CE : Hid (∀ w, Calls Tryd.prog 82 #[.agg #[.int .i64 q.kind, .string q.text, .int .i64 q.n, .string q.name, .slice qa qn qc]] w fun e w' => e = .returned (.bool false) ∧ Grew w w') := hidd fun w => by
          have := empty_any q (.slice qa qn qc) w; rw [E1.out] at this; exact this
        have CF : Hid (∀ w, Calls Tryd.prog 78 #[.agg #[.int .i64 q.kind, .string q.text, .int .i64 q.n, .string q.name, .slice qa qn qc], .int .i64 15] w fun e w' => e = .returned (.bool true) ∧ Grew w w') := hidd fun w => by
          have := is_any q (.slice qa qn qc) 15 w; rw [E2.out] at this; exact this
        go_wp2_with fail
        refine (CE.out _).mono ?_; rintro e w1 ⟨rfl, g1⟩
        have HG1 := hidd ((((Grew.refl wr).alloc (.cells #[.int .i64 20, .string ⟨#[]⟩, .int .i64 0, .string ⟨#[]⟩, .slice none 0 0] 24)).alloc (.cells #[.int .i64 q.kind, .string q.text, .int .i64 q.n, .string q.name, .slice qa qn qc] 24)).trans g1)
        have HO1 := hidd (heap_keptT g1 (heap_moreT (heap_alloc_new wr (.cells #[.int .i64 20, .string ⟨#[]⟩, .int .i64 0, .string ⟨#[]⟩, .slice none 0 0] 24))))
        have HK1 := hidd (heap_keptT g1 (heap_second wr _ (.cells #[.int .i64 q.kind, .string q.text, .int .i64 q.n, .string q.name, .slice qa qn qc] 24)))
        clear g1
        clear f0 f1 f2 f3 f4 ff z0 z1 z2 z3 z4 zf o0 o1 o2 o3 o4 of
        clear c0 c1 c2 c3 c4
        obtain ⟨⟨f0, f1, f2, f3, f4⟩, ff⟩ := five_cells (heap_keptT (HG1.out) HB.out)
        obtain ⟨⟨z0, z1, z2, z3, z4⟩, zf⟩ := five_cells (heap_keptT (HG1.out) HZ.out)
        obtain ⟨⟨o0, o1, o2, o3, o4⟩, of⟩ := five_cells (HO1.out)
        obtain ⟨⟨k0, k1, k2, k3, k4⟩, kf⟩ := five_cells (HK1.out)
        go_wp2_with fail
        refine (CF.out _).mono ?_; rintro e w2 ⟨rfl, g2⟩
        have HG2 := hidd (HG1.out.trans g2)
        have HO2 := hidd (heap_keptT g2 HO1.out)
        have HK2 := hidd (heap_keptT g2 HK1.out)
        clear g2
        clear f0 f1 f2 f3 f4 ff z0 z1 z2 z3 z4 zf o0 o1 o2 o3 o4 of k0 k1 k2 k3 k4 kf
        obtain ⟨⟨f0, f1, f2, f3, f4⟩, ff⟩ := five_cells (heap_keptT (HG2.out) HB.out)
        obtain ⟨⟨z0, z1, z2, z3, z4⟩, zf⟩ := five_cells (heap_keptT (HG2.out) HZ.out)
        obtain ⟨⟨o0, o1, o2, o3, o4⟩, of⟩ := five_cells (HO2.out)
        obtain ⟨⟨k0, k1, k2, k3, k4⟩, kf⟩ := five_cells (HK2.out)
        go_wp2_with fail
        refine (lit_exact _ _).mono ?_; rintro e w9 ⟨rfl, hw9⟩
        have HG9 : Hid (Grew wr w9) := hidd (by rw [hw9]; exact HG2.out.alloc _)
        obtain ⟨⟨q0, q1, q2, q3, q4⟩, qf⟩ := five_cells (heap_keptT HG9.out HZ.out)
        clear hw9
        go_wp2_with fail
        exact bodyPost_ret (results_pat (rb := w.heap.size + 1) rfl rfl (setPat_heap (heap_keptT HG9.out HZ.out)) rfl) rfl (leaf_end (litP ByteArray.empty) (nums_leaf (by omega) zero_in none_size none_size) rfl (setPat_grew (HGw.out.trans HG9.out) (by omega) _ _ _ _ _))
      · have hXe : Hid (simple (.mk 20 t n m l) = bareP 13) := by
          refine hidd ?_
          rw [simple, simpleL_map, make20]
          rw [if_neg (by rw [e1, show failB ((l.map simple).getD 0 Pat.zero) = false from e2]; decide)]
          rw [if_pos ⟨by simpa using e3, e4⟩]
        obtain rfl : X = bareP 13 := HX0.out.symm.trans hXe.out
        clear HX0 HCs hXe
        have HL1 : Hid (l.length = 1) := HNo.out.only (Or.inl rfl)
        have E1 := hidd e1
        have E2 := hidd e2
        have E3 := hidd e3
        clear e1 e2 e3
        have E4 := hidd e4
        clear e4
        obtain ⟨⟨b0, b1, b2, b3, b4⟩, bf⟩ := five_cells HB.out
        obtain ⟨⟨f0, f1, f2, f3, f4⟩, ff⟩ := five_cells (heap_moreT (o := (.cells #[.int .i64 20, .string ⟨#[]⟩, .int .i64 0, .string ⟨#[]⟩, .slice none 0 0] 24)) HB.out)
        obtain ⟨⟨z0, z1, z2, z3, z4⟩, zf⟩ := five_cells (heap_moreT (o := (.cells #[.int .i64 20, .string ⟨#[]⟩, .int .i64 0, .string ⟨#[]⟩, .slice none 0 0] 24)) HZ.out)
        obtain ⟨⟨o0, o1, o2, o3, o4⟩, of⟩ := five_cells (heap_alloc_new wr (.cells #[.int .i64 20, .string ⟨#[]⟩, .int .i64 0, .string ⟨#[]⟩, .slice none 0 0] 24))
        have hl1 := HL1.out
        obtain ⟨a3, cc, rfl⟩ := HE.out.len
        obtain ⟨b, o, kk, rfl, hnd, hq⟩ := HE.out.list.at (i := 0) (by rw [List.length_map]; omega)
        obtain ⟨qa, qn, qc, rfl⟩ := hq.form
        have hll : (l.map simple).length = 1 := by rw [List.length_map]; exact hl1
        rw [hll]
        obtain ⟨q, hqe⟩ : ∃ q, (l.map simple).getD 0 Pat.zero = q := ⟨_, rfl⟩
        rw [hqe] at hnd hq E1 E2 E3 E4
        have HQ := hidd hq
        have HN := hidd (show NodeAt wr b o q (.slice qa qn qc) from by simpa using hnd)
        clear hq hnd
        obtain ⟨c0, c1, c2, c3, c4, _, _, _, _⟩ := HN.out.kept ((Grew.refl wr).alloc (.cells #[.int .i64 20, .string ⟨#[]⟩, .int .i64 0, .string ⟨#[]⟩, .slice none 0 0] 24))
        have CE : Hid (∀ w, Calls Tryd.prog 82 #[.agg #[.int .i64 q.kind, .string q.text, .int .i64 q.n, .string q.name, .slice qa qn qc]] w fun e w' => e = .returned (.bool false) ∧ Grew w w') := hidd fun w => by
          have := empty_any q (.slice qa qn qc) w; rw [E1.out] at this; exact this
        have CF : Hid (∀ w, Calls Tryd.prog 78 #[.agg #[.int .i64 q.kind, .string q.text, .int .i64 q.n, .string q.name, .slice qa qn qc], .int .i64 15] w fun e w' => e = .returned (.bool false) ∧ Grew w w') := hidd fun w => by
          have := is_any q (.slice qa qn qc) 15 w; rw [E2.out] at this; exact this
        have CL : Hid (∀ w, Calls Tryd.prog 78 #[.agg #[.int .i64 q.kind, .string q.text, .int .i64 q.n, .string q.name, .slice qa qn qc], .int .i64 2] w fun e w' => e = .returned (.bool true) ∧ Grew w w') := hidd fun w => by
          have := is_any q (.slice qa qn qc) 2 w; rw [E3.out] at this; exact this
        have kz : (q.n == 1) = true := by rw [beq_iff_eq]; exact E4.out
        go_wp2_with fail
        refine (CE.out _).mono ?_; rintro e w1 ⟨rfl, g1⟩
        have HG1 := hidd ((((Grew.refl wr).alloc (.cells #[.int .i64 20, .string ⟨#[]⟩, .int .i64 0, .string ⟨#[]⟩, .slice none 0 0] 24)).alloc (.cells #[.int .i64 q.kind, .string q.text, .int .i64 q.n, .string q.name, .slice qa qn qc] 24)).trans g1)
        have HO1 := hidd (heap_keptT g1 (heap_moreT (heap_alloc_new wr (.cells #[.int .i64 20, .string ⟨#[]⟩, .int .i64 0, .string ⟨#[]⟩, .slice none 0 0] 24))))
        have HK1 := hidd (heap_keptT g1 (heap_second wr _ (.cells #[.int .i64 q.kind, .string q.text, .int .i64 q.n, .string q.name, .slice qa qn qc] 24)))
        clear g1
        clear f0 f1 f2 f3 f4 ff z0 z1 z2 z3 z4 zf o0 o1 o2 o3 o4 of
        clear c0 c1 c2 c3 c4
        obtain ⟨⟨f0, f1, f2, f3, f4⟩, ff⟩ := five_cells (heap_keptT (HG1.out) HB.out)
        obtain ⟨⟨z0, z1, z2, z3, z4⟩, zf⟩ := five_cells (heap_keptT (HG1.out) HZ.out)
        obtain ⟨⟨o0, o1, o2, o3, o4⟩, of⟩ := five_cells (HO1.out)
        obtain ⟨⟨k0, k1, k2, k3, k4⟩, kf⟩ := five_cells (HK1.out)
        go_wp2_with fail
        refine (CF.out _).mono ?_; rintro e w2 ⟨rfl, g2⟩
        have HG2 := hidd (HG1.out.trans g2)
        have HO2 := hidd (heap_keptT g2 HO1.out)
        have HK2 := hidd (heap_keptT g2 HK1.out)
        clear g2
        clear f0 f1 f2 f3 f4 ff z0 z1 z2 z3 z4 zf o0 o1 o2 o3 o4 of k0 k1 k2 k3 k4 kf
        obtain ⟨⟨f0, f1, f2, f3, f4⟩, ff⟩ := five_cells (heap_keptT (HG2.out) HB.out)
        obtain ⟨⟨z0, z1, z2, z3, z4⟩, zf⟩ := five_cells (heap_keptT (HG2.out) HZ.out)
        obtain ⟨⟨o0, o1, o2, o3, o4⟩, of⟩ := five_cells (HO2.out)
        obtain ⟨⟨k0, k1, k2, k3, k4⟩, kf⟩ := five_cells (HK2.out)
        go_wp2_with fail
        refine (CL.out _).mono ?_; rintro e w3 ⟨rfl, g3⟩
        have HG3 := hidd (HG2.out.trans g3)
        have HO3 := hidd (heap_keptT g3 HO2.out)
        have HK3 := hidd (heap_keptT g3 HK2.out)
        clear g3
        clear f0 f1 f2 f3 f4 ff z0 z1 z2 z3 z4 zf o0 o1 o2 o3 o4 of k0 k1 k2 k3 k4 kf
        obtain ⟨⟨f0, f1, f2, f3, f4⟩, ff⟩ := five_cells (heap_keptT (HG3.out) HB.out)
        obtain ⟨⟨z0, z1, z2, z3, z4⟩, zf⟩ := five_cells (heap_keptT (HG3.out) HZ.out)
        obtain ⟨⟨o0, o1, o2, o3, o4⟩, of⟩ := five_cells (HO3.out)
        obtain ⟨⟨k0, k1, k2, k3, k4⟩, kf⟩ := five_cells (HK3.out)
        go_wp2_with fail
        exact bodyPost_ret (results_pat (rb := w.heap.size + 1) rfl rfl (setPat_heap (heap_keptT HG3.out HZ.out)) rfl) rfl (leaf_end (bareP 13) (nums_leaf (by omega) zero_in none_size none_size) rfl (setPat_grew (HGw.out.trans HG3.out) (by omega) _ _ _ _ _))
      · have hXe : Hid (simple (.mk 20 t n m l) = kidsP 20 (l.map simple)) := by
          refine hidd ?_
          rw [simple, simpleL_map, make20]
          rw [if_neg (by rw [e1, show failB ((l.map simple).getD 0 Pat.zero) = false from e2]; decide)]
          rw [if_neg (fun h => by rw [h.1] at e3; simp at e3)]
        obtain rfl : X = kidsP 20 (l.map simple) := HX0.out.symm.trans hXe.out
        clear HX0 HCs hXe
        have HL1 : Hid (l.length = 1) := HNo.out.only (Or.inl rfl)
        have E1 := hidd e1
        have E2 := hidd e2
        have E3 := hidd e3
        clear e1 e2 e3
        obtain ⟨⟨b0, b1, b2, b3, b4⟩, bf⟩ := five_cells HB.out
        obtain ⟨⟨f0, f1, f2, f3, f4⟩, ff⟩ := five_cells (heap_moreT (o := (.cells #[.int .i64 20, .string ⟨#[]⟩, .int .i64 0, .string ⟨#[]⟩, .slice none 0 0] 24)) HB.out)
        obtain ⟨⟨z0, z1, z2, z3, z4⟩, zf⟩ := five_cells (heap_moreT (o := (.cells #[.int .i64 20, .string ⟨#[]⟩, .int .i64 0, .string ⟨#[]⟩, .slice none 0 0] 24)) HZ.out)
        obtain ⟨⟨o0, o1, o2, o3, o4⟩, of⟩ := five_cells (heap_alloc_new wr (.cells #[.int .i64 20, .string ⟨#[]⟩, .int .i64 0, .string ⟨#[]⟩, .slice none 0 0] 24))
        have hl1 := HL1.out
        obtain ⟨a3, cc, rfl⟩ := HE.out.len
        obtain ⟨b, o, kk, rfl, hnd, hq⟩ := HE.out.list.at (i := 0) (by rw [List.length_map]; omega)
        obtain ⟨qa, qn, qc, rfl⟩ := hq.form
        have hll : (l.map simple).length = 1 := by rw [List.length_map]; exact hl1
        rw [hll]
        obtain ⟨q, hqe⟩ : ∃ q, (l.map simple).getD 0 Pat.zero = q := ⟨_, rfl⟩
        rw [hqe] at hnd hq E1 E2 E3
        have HQ := hidd hq
        have HN := hidd (show NodeAt wr b o q (.slice qa qn qc) from by simpa using hnd)
        clear hq hnd
        obtain ⟨c0, c1, c2, c3, c4, _, _, _, _⟩ := HN.out.kept ((Grew.refl wr).alloc (.cells #[.int .i64 20, .string ⟨#[]⟩, .int .i64 0, .string ⟨#[]⟩, .slice none 0 0] 24))
        have HV := hidd (own_node HE.out (by omega) (p := kidsP 20 (l.map simple)) (nums_kids (by omega)) rfl (by omega))
        rw [hll] at HV
        have CE : Hid (∀ w, Calls Tryd.prog 82 #[.agg #[.int .i64 q.kind, .string q.text, .int .i64 q.n, .string q.name, .slice qa qn qc]] w fun e w' => e = .returned (.bool false) ∧ Grew w w') := hidd fun w => by
          have := empty_any q (.slice qa qn qc) w; rw [E1.out] at this; exact this
        have CF : Hid (∀ w, Calls Tryd.prog 78 #[.agg #[.int .i64 q.kind, .string q.text, .int .i64 q.n, .string q.name, .slice qa qn qc], .int .i64 15] w fun e w' => e = .returned (.bool false) ∧ Grew w w') := hidd fun w => by
          have := is_any q (.slice qa qn qc) 15 w; rw [E2.out] at this; exact this
        have CL : Hid (∀ w, Calls Tryd.prog 78 #[.agg #[.int .i64 q.kind, .string q.text, .int .i64 q.n, .string q.name, .slice qa qn qc], .int .i64 2] w fun e w' => e = .returned (.bool false) ∧ Grew w w') := hidd fun w => by
          have := is_any q (.slice qa qn qc) 2 w; rw [E3.out] at this; exact this
        go_wp2_with fail
        refine (CE.out _).mono ?_; rintro e w1 ⟨rfl, g1⟩
        have HG1 := hidd ((((Grew.refl wr).alloc (.cells #[.int .i64 20, .string ⟨#[]⟩, .int .i64 0, .string ⟨#[]⟩, .slice none 0 0] 24)).alloc (.cells #[.int .i64 q.kind, .string q.text, .int .i64 q.n, .string q.name, .slice qa qn qc] 24)).trans g1)
        have HO1 := hidd (heap_keptT g1 (heap_moreT (heap_alloc_new wr (.cells #[.int .i64 20, .string ⟨#[]⟩, .int .i64 0, .string ⟨#[]⟩, .slice none 0 0] 24))))
        have HK1 := hidd (heap_keptT g1 (heap_second wr _ (.cells #[.int .i64 q.kind, .string q.text, .int .i64 q.n, .string q.name, .slice qa qn qc] 24)))
        clear g1
        clear f0 f1 f2 f3 f4 ff z0 z1 z2 z3 z4 zf o0 o1 o2 o3 o4 of
        clear c0 c1 c2 c3 c4
        obtain ⟨⟨f0, f1, f2, f3, f4⟩, ff⟩ := five_cells (heap_keptT (HG1.out) HB.out)
        obtain ⟨⟨z0, z1, z2, z3, z4⟩, zf⟩ := five_cells (heap_keptT (HG1.out) HZ.out)
        obtain ⟨⟨o0, o1, o2, o3, o4⟩, of⟩ := five_cells (HO1.out)
        obtain ⟨⟨k0, k1, k2, k3, k4⟩, kf⟩ := five_cells (HK1.out)
        go_wp2_with fail
        refine (CF.out _).mono ?_; rintro e w2 ⟨rfl, g2⟩
        have HG2 := hidd (HG1.out.trans g2)
        have HO2 := hidd (heap_keptT g2 HO1.out)
        have HK2 := hidd (heap_keptT g2 HK1.out)
        clear g2
        clear f0 f1 f2 f3 f4 ff z0 z1 z2 z3 z4 zf o0 o1 o2 o3 o4 of k0 k1 k2 k3 k4 kf
        obtain ⟨⟨f0, f1, f2, f3, f4⟩, ff⟩ := five_cells (heap_keptT (HG2.out) HB.out)
        obtain ⟨⟨z0, z1, z2, z3, z4⟩, zf⟩ := five_cells (heap_keptT (HG2.out) HZ.out)
        obtain ⟨⟨o0, o1, o2, o3, o4⟩, of⟩ := five_cells (HO2.out)
        obtain ⟨⟨k0, k1, k2, k3, k4⟩, kf⟩ := five_cells (HK2.out)
        go_wp2_with fail
        refine (CL.out _).mono ?_; rintro e w3 ⟨rfl, g3⟩
        have HG3 := hidd (HG2.out.trans g3)
        have HO3 := hidd (heap_keptT g3 HO2.out)
        have HK3 := hidd (heap_keptT g3 HK2.out)
        clear g3
        clear f0 f1 f2 f3 f4 ff z0 z1 z2 z3 z4 zf o0 o1 o2 o3 o4 of k0 k1 k2 k3 k4 kf
        obtain ⟨⟨f0, f1, f2, f3, f4⟩, ff⟩ := five_cells (heap_keptT (HG3.out) HB.out)
        obtain ⟨⟨z0, z1, z2, z3, z4⟩, zf⟩ := five_cells (heap_keptT (HG3.out) HZ.out)
        obtain ⟨⟨o0, o1, o2, o3, o4⟩, of⟩ := five_cells (HO3.out)
        obtain ⟨⟨k0, k1, k2, k3, k4⟩, kf⟩ := five_cells (HK3.out)
        obtain ⟨⟨f0', f1', f2', f3', f4'⟩, ff'⟩ := five_cells (heap_keptT ((HG3.out.setOwn (b := wr.heap.size) (o := 4) (Nat.le_refl _) (.slice (some ⟨b, o, none⟩) 1 cc))) HB.out)
        obtain ⟨⟨z0', z1', z2', z3', z4'⟩, zf'⟩ := five_cells (heap_keptT ((HG3.out.setOwn (b := wr.heap.size) (o := 4) (Nat.le_refl _) (.slice (some ⟨b, o, none⟩) 1 cc))) HZ.out)
        obtain ⟨⟨o0', o1', o2', o3', o4'⟩, of'⟩ := five_cells (setCell_heap_same HO3.out 4 (.slice (some ⟨b, o, none⟩) 1 cc))
        go_wp2_with fail
        exact bodyPost_ret (results_pat (rb := w.heap.size + 1) rfl rfl (setPat_heap (heap_keptT (HG3.out.setOwn (b := wr.heap.size) (o := 4) (Nat.le_refl _) (.slice (some ⟨b, o, none⟩) 1 cc)) HZ.out)) rfl) rfl (own_end (kidsP 20 (l.map simple)) (HV.out.kept (HG3.out.setOwn (b := wr.heap.size) (o := 4) (Nat.le_refl _) (.slice (some ⟨b, o, none⟩) 1 cc))) (by omega) (by omega) (HGw.out.trans (HG3.out.setOwn (b := wr.heap.size) (o := 4) (Nat.le_refl _) (.slice (some ⟨b, o, none⟩) 1 cc))) (by omega) _ _ _ _ _)
      · have hXe : Hid (simple (.mk 20 t n m l) = kidsP 20 (l.map simple)) := by
          refine hidd ?_
          rw [simple, simpleL_map, make20]
          rw [if_neg (by rw [e1, show failB ((l.map simple).getD 0 Pat.zero) = false from e2]; decide)]
          rw [if_neg (fun h => e4 h.2)]
        obtain rfl : X = kidsP 20 (l.map simple) := HX0.out.symm.trans hXe.out
        clear HX0 HCs hXe
        have HL1 : Hid (l.length = 1) := HNo.out.only (Or.inl rfl)
        have E1 := hidd e1
        have E2 := hidd e2
        have E3 := hidd e3
        clear e1 e2 e3
        have E4 := hidd e4
        clear e4
        obtain ⟨⟨b0, b1, b2, b3, b4⟩, bf⟩ := five_cells HB.out
        obtain ⟨⟨f0, f1, f2, f3, f4⟩, ff⟩ := five_cells (heap_moreT (o := (.cells #[.int .i64 20, .string ⟨#[]⟩, .int .i64 0, .string ⟨#[]⟩, .slice none 0 0] 24)) HB.out)
        obtain ⟨⟨z0, z1, z2, z3, z4⟩, zf⟩ := five_cells (heap_moreT (o := (.cells #[.int .i64 20, .string ⟨#[]⟩, .int .i64 0, .string ⟨#[]⟩, .slice none 0 0] 24)) HZ.out)
        obtain ⟨⟨o0, o1, o2, o3, o4⟩, of⟩ := five_cells (heap_alloc_new wr (.cells #[.int .i64 20, .string ⟨#[]⟩, .int .i64 0, .string ⟨#[]⟩, .slice none 0 0] 24))
        have hl1 := HL1.out
        obtain ⟨a3, cc, rfl⟩ := HE.out.len
        obtain ⟨b, o, kk, rfl, hnd, hq⟩ := HE.out.list.at (i := 0) (by rw [List.length_map]; omega)
        obtain ⟨qa, qn, qc, rfl⟩ := hq.form
        have hll : (l.map simple).length = 1 := by rw [List.length_map]; exact hl1
        rw [hll]
        obtain ⟨q, hqe⟩ : ∃ q, (l.map simple).getD 0 Pat.zero = q := ⟨_, rfl⟩
        rw [hqe] at hnd hq E1 E2 E3 E4
        have HQ := hidd hq
        have HN := hidd (show NodeAt wr b o q (.slice qa qn qc) from by simpa using hnd)
        clear hq hnd
        obtain ⟨c0, c1, c2, c3, c4, _, _, _, _⟩ := HN.out.kept ((Grew.refl wr).alloc (.cells #[.int .i64 20, .string ⟨#[]⟩, .int .i64 0, .string ⟨#[]⟩, .slice none 0 0] 24))
        have HV := hidd (own_node HE.out (by omega) (p := kidsP 20 (l.map simple)) (nums_kids (by omega)) rfl (by omega))
        rw [hll] at HV
        have CE : Hid (∀ w, Calls Tryd.prog 82 #[.agg #[.int .i64 q.kind, .string q.text, .int .i64 q.n, .string q.name, .slice qa qn qc]] w fun e w' => e = .returned (.bool false) ∧ Grew w w') := hidd fun w => by
          have := empty_any q (.slice qa qn qc) w; rw [E1.out] at this; exact this
        have CF : Hid (∀ w, Calls Tryd.prog 78 #[.agg #[.int .i64 q.kind, .string q.text, .int .i64 q.n, .string q.name, .slice qa qn qc], .int .i64 15] w fun e w' => e = .returned (.bool false) ∧ Grew w w') := hidd fun w => by
          have := is_any q (.slice qa qn qc) 15 w; rw [E2.out] at this; exact this
        have CL : Hid (∀ w, Calls Tryd.prog 78 #[.agg #[.int .i64 q.kind, .string q.text, .int .i64 q.n, .string q.name, .slice qa qn qc], .int .i64 2] w fun e w' => e = .returned (.bool true) ∧ Grew w w') := hidd fun w => by
          have := is_any q (.slice qa qn qc) 2 w; rw [E3.out] at this; exact this
        have kz : (q.n == 1) = false := by rw [beq_eq_false_iff_ne]; exact E4.out
        go_wp2_with fail
        refine (CE.out _).mono ?_; rintro e w1 ⟨rfl, g1⟩
        have HG1 := hidd ((((Grew.refl wr).alloc (.cells #[.int .i64 20, .string ⟨#[]⟩, .int .i64 0, .string ⟨#[]⟩, .slice none 0 0] 24)).alloc (.cells #[.int .i64 q.kind, .string q.text, .int .i64 q.n, .string q.name, .slice qa qn qc] 24)).trans g1)
        have HO1 := hidd (heap_keptT g1 (heap_moreT (heap_alloc_new wr (.cells #[.int .i64 20, .string ⟨#[]⟩, .int .i64 0, .string ⟨#[]⟩, .slice none 0 0] 24))))
        have HK1 := hidd (heap_keptT g1 (heap_second wr _ (.cells #[.int .i64 q.kind, .string q.text, .int .i64 q.n, .string q.name, .slice qa qn qc] 24)))
        clear g1
        clear f0 f1 f2 f3 f4 ff z0 z1 z2 z3 z4 zf o0 o1 o2 o3 o4 of
        clear c0 c1 c2 c3 c4
        obtain ⟨⟨f0, f1, f2, f3, f4⟩, ff⟩ := five_cells (heap_keptT (HG1.out) HB.out)
        obtain ⟨⟨z0, z1, z2, z3, z4⟩, zf⟩ := five_cells (heap_keptT (HG1.out) HZ.out)
        obtain ⟨⟨o0, o1, o2, o3, o4⟩, of⟩ := five_cells (HO1.out)
        obtain ⟨⟨k0, k1, k2, k3, k4⟩, kf⟩ := five_cells (HK1.out)
        go_wp2_with fail
        refine (CF.out _).mono ?_; rintro e w2 ⟨rfl, g2⟩
        have HG2 := hidd (HG1.out.trans g2)
        have HO2 := hidd (heap_keptT g2 HO1.out)
        have HK2 := hidd (heap_keptT g2 HK1.out)
        clear g2
        clear f0 f1 f2 f3 f4 ff z0 z1 z2 z3 z4 zf o0 o1 o2 o3 o4 of k0 k1 k2 k3 k4 kf
        obtain ⟨⟨f0, f1, f2, f3, f4⟩, ff⟩ := five_cells (heap_keptT (HG2.out) HB.out)
        obtain ⟨⟨z0, z1, z2, z3, z4⟩, zf⟩ := five_cells (heap_keptT (HG2.out) HZ.out)
        obtain ⟨⟨o0, o1, o2, o3, o4⟩, of⟩ := five_cells (HO2.out)
        obtain ⟨⟨k0, k1, k2, k3, k4⟩, kf⟩ := five_cells (HK2.out)
        go_wp2_with fail
        refine (CL.out _).mono ?_; rintro e w3 ⟨rfl, g3⟩
        have HG3 := hidd (HG2.out.trans g3)
        have HO3 := hidd (heap_keptT g3 HO2.out)
        have HK3 := hidd (heap_keptT g3 HK2.out)
        clear g3
        clear f0 f1 f2 f3 f4 ff z0 z1 z2 z3 z4 zf o0 o1 o2 o3 o4 of k0 k1 k2 k3 k4 kf
        obtain ⟨⟨f0, f1, f2, f3, f4⟩, ff⟩ := five_cells (heap_keptT (HG3.out) HB.out)
        obtain ⟨⟨z0, z1, z2, z3, z4⟩, zf⟩ := five_cells (heap_keptT (HG3.out) HZ.out)
        obtain ⟨⟨o0, o1, o2, o3, o4⟩, of⟩ := five_cells (HO3.out)
        obtain ⟨⟨k0, k1, k2, k3, k4⟩, kf⟩ := five_cells (HK3.out)
        obtain ⟨⟨f0', f1', f2', f3', f4'⟩, ff'⟩ := five_cells (heap_keptT ((HG3.out.setOwn (b := wr.heap.size) (o := 4) (Nat.le_refl _) (.slice (some ⟨b, o, none⟩) 1 cc))) HB.out)
        obtain ⟨⟨z0', z1', z2', z3', z4'⟩, zf'⟩ := five_cells (heap_keptT ((HG3.out.setOwn (b := wr.heap.size) (o := 4) (Nat.le_refl _) (.slice (some ⟨b, o, none⟩) 1 cc))) HZ.out)
        obtain ⟨⟨o0', o1', o2', o3', o4'⟩, of'⟩ := five_cells (setCell_heap_same HO3.out 4 (.slice (some ⟨b, o, none⟩) 1 cc))
        go_wp2_with fail
        exact bodyPost_ret (results_pat (rb := w.heap.size + 1) rfl rfl (setPat_heap (heap_keptT (HG3.out.setOwn (b := wr.heap.size) (o := 4) (Nat.le_refl _) (.slice (some ⟨b, o, none⟩) 1 cc)) HZ.out)) rfl) rfl (own_end (kidsP 20 (l.map simple)) (HV.out.kept (HG3.out.setOwn (b := wr.heap.size) (o := 4) (Nat.le_refl _) (.slice (some ⟨b, o, none⟩) 1 cc))) (by omega) (by omega) (HGw.out.trans (HG3.out.setOwn (b := wr.heap.size) (o := 4) (Nat.le_refl _) (.slice (some ⟨b, o, none⟩) 1 cc))) (by omega) _ _ _ _ _)
      · have hXe : Hid (simple (.mk 21 t n m l) = ((l.map simple).getD 0 Pat.zero)) := by
          refine hidd ?_
          rw [simple, simpleL_map, make21]
          rw [if_pos (by unfold endsB; rw [e1]; rfl)]
        obtain rfl : X = ((l.map simple).getD 0 Pat.zero) := HX0.out.symm.trans hXe.out
        clear HX0 HCs hXe
        have HL1 : Hid (l.length = 1) := HNo.out.only (Or.inr (Or.inl rfl))
        have E1 := hidd e1
        clear e1
        obtain ⟨⟨b0, b1, b2, b3, b4⟩, bf⟩ := five_cells HB.out
        obtain ⟨⟨f0, f1, f2, f3, f4⟩, ff⟩ := five_cells (heap_moreT (o := (.cells #[.int .i64 21, .string ⟨#[]⟩, .int .i64 0, .string ⟨#[]⟩, .slice none 0 0] 24)) HB.out)
        obtain ⟨⟨z0, z1, z2, z3, z4⟩, zf⟩ := five_cells (heap_moreT (o := (.cells #[.int .i64 21, .string ⟨#[]⟩, .int .i64 0, .string ⟨#[]⟩, .slice none 0 0] 24)) HZ.out)
        obtain ⟨⟨o0, o1, o2, o3, o4⟩, of⟩ := five_cells (heap_alloc_new wr (.cells #[.int .i64 21, .string ⟨#[]⟩, .int .i64 0, .string ⟨#[]⟩, .slice none 0 0] 24))
        have hl1 := HL1.out
        obtain ⟨a3, cc, rfl⟩ := HE.out.len
        obtain ⟨b, o, kk, rfl, hnd, hq⟩ := HE.out.list.at (i := 0) (by rw [List.length_map]; omega)
        obtain ⟨qa, qn, qc, rfl⟩ := hq.form
        have hll : (l.map simple).length = 1 := by rw [List.length_map]; exact hl1
        rw [hll]
        obtain ⟨q, hqe⟩ : ∃ q, (l.map simple).getD 0 Pat.zero = q := ⟨_, rfl⟩
        rw [hqe] at hnd hq E1
        have HQ := hidd hq
        have HN := hidd (show NodeAt wr b o q (.slice qa qn qc) from by simpa using hnd)
        clear hq hnd
        obtain ⟨c0, c1, c2, c3, c4, _, _, _, _⟩ := HN.out.kept ((Grew.refl wr).alloc (.cells #[.int .i64 21, .string ⟨#[]⟩, .int .i64 0, .string ⟨#[]⟩, .slice none 0 0] 24))
        have CF : Hid (∀ w, Calls Tryd.prog 78 #[.agg #[.int .i64 q.kind, .string q.text, .int .i64 q.n, .string q.name, .slice qa qn qc], .int .i64 15] w fun e w' => e = .returned (.bool true) ∧ Grew w w') := hidd fun w => by
          have := is_any q (.slice qa qn qc) 15 w; rw [E1.out] at this; exact this
        go_wp2_with fail
        refine (CF.out _).mono ?_; rintro e w1 ⟨rfl, g1⟩
        have HG1 := hidd (((Grew.refl wr).alloc (.cells #[.int .i64 21, .string ⟨#[]⟩, .int .i64 0, .string ⟨#[]⟩, .slice none 0 0] 24)).trans g1)
        have HO1 := hidd (heap_keptT g1 (heap_alloc_new wr (.cells #[.int .i64 21, .string ⟨#[]⟩, .int .i64 0, .string ⟨#[]⟩, .slice none 0 0] 24)))
        clear g1
        clear f0 f1 f2 f3 f4 ff z0 z1 z2 z3 z4 zf o0 o1 o2 o3 o4 of
        clear c0 c1 c2 c3 c4
        obtain ⟨⟨f0, f1, f2, f3, f4⟩, ff⟩ := five_cells (heap_keptT (HG1.out) HB.out)
        obtain ⟨⟨z0, z1, z2, z3, z4⟩, zf⟩ := five_cells (heap_keptT (HG1.out) HZ.out)
        obtain ⟨⟨o0, o1, o2, o3, o4⟩, of⟩ := five_cells (HO1.out)
        obtain ⟨c0, c1, c2, c3, c4, _, _, _, _⟩ := HN.out.kept HG1.out
        go_wp2_with fail
        exact bodyPost_ret (results_pat (rb := w.heap.size + 1) rfl rfl (setPat_heap (heap_keptT HG1.out HZ.out)) rfl) rfl (by rw [hqe]; exact own_end q (HQ.out.kept HG1.out) (by omega) (by omega) (HGw.out.trans HG1.out) (by omega) _ _ _ _ _)
      · have hXe : Hid (simple (.mk 21 t n m l) = ((l.map simple).getD 0 Pat.zero)) := by
          refine hidd ?_
          rw [simple, simpleL_map, make21]
          rw [if_pos (by unfold endsB; rw [e1, e2]; rfl)]
        obtain rfl : X = ((l.map simple).getD 0 Pat.zero) := HX0.out.symm.trans hXe.out
        clear HX0 HCs hXe
        have HL1 : Hid (l.length = 1) := HNo.out.only (Or.inr (Or.inl rfl))
        have E1 := hidd e1
        have E2 := hidd e2
        clear e1 e2
        obtain ⟨⟨b0, b1, b2, b3, b4⟩, bf⟩ := five_cells HB.out
        obtain ⟨⟨f0, f1, f2, f3, f4⟩, ff⟩ := five_cells (heap_moreT (o := (.cells #[.int .i64 21, .string ⟨#[]⟩, .int .i64 0, .string ⟨#[]⟩, .slice none 0 0] 24)) HB.out)
        obtain ⟨⟨z0, z1, z2, z3, z4⟩, zf⟩ := five_cells (heap_moreT (o := (.cells #[.int .i64 21, .string ⟨#[]⟩, .int .i64 0, .string ⟨#[]⟩, .slice none 0 0] 24)) HZ.out)
        obtain ⟨⟨o0, o1, o2, o3, o4⟩, of⟩ := five_cells (heap_alloc_new wr (.cells #[.int .i64 21, .string ⟨#[]⟩, .int .i64 0, .string ⟨#[]⟩, .slice none 0 0] 24))
        have hl1 := HL1.out
        obtain ⟨a3, cc, rfl⟩ := HE.out.len
        obtain ⟨b, o, kk, rfl, hnd, hq⟩ := HE.out.list.at (i := 0) (by rw [List.length_map]; omega)
        obtain ⟨qa, qn, qc, rfl⟩ := hq.form
        have hll : (l.map simple).length = 1 := by rw [List.length_map]; exact hl1
        rw [hll]
        obtain ⟨q, hqe⟩ : ∃ q, (l.map simple).getD 0 Pat.zero = q := ⟨_, rfl⟩
        rw [hqe] at hnd hq E1 E2
        have HQ := hidd hq
        have HN := hidd (show NodeAt wr b o q (.slice qa qn qc) from by simpa using hnd)
        clear hq hnd
        obtain ⟨c0, c1, c2, c3, c4, _, _, _, _⟩ := HN.out.kept ((Grew.refl wr).alloc (.cells #[.int .i64 21, .string ⟨#[]⟩, .int .i64 0, .string ⟨#[]⟩, .slice none 0 0] 24))
        have CF : Hid (∀ w, Calls Tryd.prog 78 #[.agg #[.int .i64 q.kind, .string q.text, .int .i64 q.n, .string q.name, .slice qa qn qc], .int .i64 15] w fun e w' => e = .returned (.bool false) ∧ Grew w w') := hidd fun w => by
          have := is_any q (.slice qa qn qc) 15 w; rw [E1.out] at this; exact this
        have CA : Hid (∀ w, Calls Tryd.prog 78 #[.agg #[.int .i64 q.kind, .string q.text, .int .i64 q.n, .string q.name, .slice qa qn qc], .int .i64 17] w fun e w' => e = .returned (.bool true) ∧ Grew w w') := hidd fun w => by
          have := is_any q (.slice qa qn qc) 17 w; rw [E2.out] at this; exact this
        go_wp2_with fail
        refine (CF.out _).mono ?_; rintro e w1 ⟨rfl, g1⟩
        have HG1 := hidd (((Grew.refl wr).alloc (.cells #[.int .i64 21, .string ⟨#[]⟩, .int .i64 0, .string ⟨#[]⟩, .slice none 0 0] 24)).trans g1)
        have HO1 := hidd (heap_keptT g1 (heap_alloc_new wr (.cells #[.int .i64 21, .string ⟨#[]⟩, .int .i64 0, .string ⟨#[]⟩, .slice none 0 0] 24)))
        clear g1
        clear f0 f1 f2 f3 f4 ff z0 z1 z2 z3 z4 zf o0 o1 o2 o3 o4 of
        clear c0 c1 c2 c3 c4
        obtain ⟨⟨f0, f1, f2, f3, f4⟩, ff⟩ := five_cells (heap_keptT (HG1.out) HB.out)
        obtain ⟨⟨z0, z1, z2, z3, z4⟩, zf⟩ := five_cells (heap_keptT (HG1.out) HZ.out)
        obtain ⟨⟨o0, o1, o2, o3, o4⟩, of⟩ := five_cells (HO1.out)
        obtain ⟨c0, c1, c2, c3, c4, _, _, _, _⟩ := HN.out.kept HG1.out
        go_wp2_with fail
        refine (CA.out _).mono ?_; rintro e w2 ⟨rfl, g2⟩
        have HG2 := hidd (HG1.out.trans g2)
        have HO2 := hidd (heap_keptT g2 HO1.out)
        clear g2
        clear f0 f1 f2 f3 f4 ff z0 z1 z2 z3 z4 zf o0 o1 o2 o3 o4 of
        clear c0 c1 c2 c3 c4
        obtain ⟨⟨f0, f1, f2, f3, f4⟩, ff⟩ := five_cells (heap_keptT (HG2.out) HB.out)
        obtain ⟨⟨z0, z1, z2, z3, z4⟩, zf⟩ := five_cells (heap_keptT (HG2.out) HZ.out)
        obtain ⟨⟨o0, o1, o2, o3, o4⟩, of⟩ := five_cells (HO2.out)
        obtain ⟨c0, c1, c2, c3, c4, _, _, _, _⟩ := HN.out.kept HG2.out
        go_wp2_with fail
        exact bodyPost_ret (results_pat (rb := w.heap.size + 1) rfl rfl (setPat_heap (heap_keptT HG2.out HZ.out)) rfl) rfl (by rw [hqe]; exact own_end q (HQ.out.kept HG2.out) (by omega) (by omega) (HGw.out.trans HG2.out) (by omega) _ _ _ _ _)
      · have hXe : Hid (simple (.mk 21 t n m l) = .mk 21 ByteArray.empty 0 m (l.map simple)) := by
          refine hidd ?_
          rw [simple, simpleL_map, make21]
          rw [if_neg (by unfold endsB; rw [e1, e2]; decide)]
        obtain rfl : X = .mk 21 ByteArray.empty 0 m (l.map simple) := HX0.out.symm.trans hXe.out
        clear HX0 HCs hXe
        have HL1 : Hid (l.length = 1) := HNo.out.only (Or.inr (Or.inl rfl))
        have E1 := hidd e1
        have E2 := hidd e2
        clear e1 e2
        obtain ⟨⟨b0, b1, b2, b3, b4⟩, bf⟩ := five_cells HB.out
        obtain ⟨⟨f0, f1, f2, f3, f4⟩, ff⟩ := five_cells (heap_moreT (o := (.cells #[.int .i64 21, .string ⟨#[]⟩, .int .i64 0, .string ⟨#[]⟩, .slice none 0 0] 24)) HB.out)
        obtain ⟨⟨z0, z1, z2, z3, z4⟩, zf⟩ := five_cells (heap_moreT (o := (.cells #[.int .i64 21, .string ⟨#[]⟩, .int .i64 0, .string ⟨#[]⟩, .slice none 0 0] 24)) HZ.out)
        obtain ⟨⟨o0, o1, o2, o3, o4⟩, of⟩ := five_cells (heap_alloc_new wr (.cells #[.int .i64 21, .string ⟨#[]⟩, .int .i64 0, .string ⟨#[]⟩, .slice none 0 0] 24))
        have hl1 := HL1.out
        obtain ⟨a3, cc, rfl⟩ := HE.out.len
        obtain ⟨b, o, kk, rfl, hnd, hq⟩ := HE.out.list.at (i := 0) (by rw [List.length_map]; omega)
        obtain ⟨qa, qn, qc, rfl⟩ := hq.form
        have hll : (l.map simple).length = 1 := by rw [List.length_map]; exact hl1
        rw [hll]
        obtain ⟨q, hqe⟩ : ∃ q, (l.map simple).getD 0 Pat.zero = q := ⟨_, rfl⟩
        rw [hqe] at hnd hq E1 E2
        have HQ := hidd hq
        have HN := hidd (show NodeAt wr b o q (.slice qa qn qc) from by simpa using hnd)
        clear hq hnd
        obtain ⟨c0, c1, c2, c3, c4, _, _, _, _⟩ := HN.out.kept ((Grew.refl wr).alloc (.cells #[.int .i64 21, .string ⟨#[]⟩, .int .i64 0, .string ⟨#[]⟩, .slice none 0 0] 24))
        have HV := hidd (own_node HE.out (by omega) (p := .mk 21 ByteArray.empty 0 m (l.map simple)) (nums_leaf (by omega) zero_in none_size HPn.out.2.2) rfl (by omega))
        rw [hll] at HV
        have CF : Hid (∀ w, Calls Tryd.prog 78 #[.agg #[.int .i64 q.kind, .string q.text, .int .i64 q.n, .string q.name, .slice qa qn qc], .int .i64 15] w fun e w' => e = .returned (.bool false) ∧ Grew w w') := hidd fun w => by
          have := is_any q (.slice qa qn qc) 15 w; rw [E1.out] at this; exact this
        have CA : Hid (∀ w, Calls Tryd.prog 78 #[.agg #[.int .i64 q.kind, .string q.text, .int .i64 q.n, .string q.name, .slice qa qn qc], .int .i64 17] w fun e w' => e = .returned (.bool false) ∧ Grew w w') := hidd fun w => by
          have := is_any q (.slice qa qn qc) 17 w; rw [E2.out] at this; exact this
        go_wp2_with fail
        refine (CF.out _).mono ?_; rintro e w1 ⟨rfl, g1⟩
        have HG1 := hidd (((Grew.refl wr).alloc (.cells #[.int .i64 21, .string ⟨#[]⟩, .int .i64 0, .string ⟨#[]⟩, .slice none 0 0] 24)).trans g1)
        have HO1 := hidd (heap_keptT g1 (heap_alloc_new wr (.cells #[.int .i64 21, .string ⟨#[]⟩, .int .i64 0, .string ⟨#[]⟩, .slice none 0 0] 24)))
        clear g1
        clear f0 f1 f2 f3 f4 ff z0 z1 z2 z3 z4 zf o0 o1 o2 o3 o4 of
        clear c0 c1 c2 c3 c4
        obtain ⟨⟨f0, f1, f2, f3, f4⟩, ff⟩ := five_cells (heap_keptT (HG1.out) HB.out)
        obtain ⟨⟨z0, z1, z2, z3, z4⟩, zf⟩ := five_cells (heap_keptT (HG1.out) HZ.out)
        obtain ⟨⟨o0, o1, o2, o3, o4⟩, of⟩ := five_cells (HO1.out)
        obtain ⟨c0, c1, c2, c3, c4, _, _, _, _⟩ := HN.out.kept HG1.out
        go_wp2_with fail
        refine (CA.out _).mono ?_; rintro e w2 ⟨rfl, g2⟩
        have HG2 := hidd (HG1.out.trans g2)
        have HO2 := hidd (heap_keptT g2 HO1.out)
        clear g2
        clear f0 f1 f2 f3 f4 ff z0 z1 z2 z3 z4 zf o0 o1 o2 o3 o4 of
        clear c0 c1 c2 c3 c4
        obtain ⟨⟨f0, f1, f2, f3, f4⟩, ff⟩ := five_cells (heap_keptT (HG2.out) HB.out)
        obtain ⟨⟨z0, z1, z2, z3, z4⟩, zf⟩ := five_cells (heap_keptT (HG2.out) HZ.out)
        obtain ⟨⟨o0, o1, o2, o3, o4⟩, of⟩ := five_cells (HO2.out)
        obtain ⟨c0, c1, c2, c3, c4, _, _, _, _⟩ := HN.out.kept HG2.out
        obtain ⟨⟨f0', f1', f2', f3', f4'⟩, ff'⟩ := five_cells (heap_keptT ((HG2.out.setOwn (b := wr.heap.size) (o := 3) (Nat.le_refl _) (.string m))) HB.out)
        obtain ⟨⟨z0', z1', z2', z3', z4'⟩, zf'⟩ := five_cells (heap_keptT ((HG2.out.setOwn (b := wr.heap.size) (o := 3) (Nat.le_refl _) (.string m))) HZ.out)
        obtain ⟨⟨o0', o1', o2', o3', o4'⟩, of'⟩ := five_cells (setCell_heap_same HO2.out 3 (.string m))
        obtain ⟨⟨f0'', f1'', f2'', f3'', f4''⟩, ff''⟩ := five_cells (heap_keptT (((HG2.out.setOwn (b := wr.heap.size) (o := 3) (Nat.le_refl _) (.string m)).setOwn (b := wr.heap.size) (o := 4) (Nat.le_refl _) (.slice (some ⟨b, o, none⟩) 1 cc))) HB.out)
        obtain ⟨⟨z0'', z1'', z2'', z3'', z4''⟩, zf''⟩ := five_cells (heap_keptT (((HG2.out.setOwn (b := wr.heap.size) (o := 3) (Nat.le_refl _) (.string m)).setOwn (b := wr.heap.size) (o := 4) (Nat.le_refl _) (.slice (some ⟨b, o, none⟩) 1 cc))) HZ.out)
        obtain ⟨⟨o0'', o1'', o2'', o3'', o4''⟩, of''⟩ := five_cells (setCell_heap_same (setCell_heap_same HO2.out 3 (.string m)) 4 (.slice (some ⟨b, o, none⟩) 1 cc))
        go_wp2_with fail
        exact bodyPost_ret (results_pat (rb := w.heap.size + 1) rfl rfl (setPat_heap (heap_keptT ((HG2.out.setOwn (b := wr.heap.size) (o := 3) (Nat.le_refl _) (.string m)).setOwn (b := wr.heap.size) (o := 4) (Nat.le_refl _) (.slice (some ⟨b, o, none⟩) 1 cc)) HZ.out)) rfl) rfl (own_end (.mk 21 ByteArray.empty 0 m (l.map simple)) (HV.out.kept ((HG2.out.setOwn (b := wr.heap.size) (o := 3) (Nat.le_refl _) (.string m)).setOwn (b := wr.heap.size) (o := 4) (Nat.le_refl _) (.slice (some ⟨b, o, none⟩) 1 cc))) (by omega) (by omega) (HGw.out.trans ((HG2.out.setOwn (b := wr.heap.size) (o := 3) (Nat.le_refl _) (.string m)).setOwn (b := wr.heap.size) (o := 4) (Nat.le_refl _) (.slice (some ⟨b, o, none⟩) 1 cc))) (by omega) _ _ _ _ _)
      · have hXe : Hid (simple (.mk 22 t n m l) = ((l.map simple).getD 0 Pat.zero)) := by
          refine hidd ?_
          rw [simple, simpleL_map, make22]
          rw [if_pos (by unfold endsB; rw [e1]; rfl)]
        obtain rfl : X = ((l.map simple).getD 0 Pat.zero) := HX0.out.symm.trans hXe.out
        clear HX0 HCs hXe
        have HL1 : Hid (l.length = 1) := HNo.out.only (Or.inr (Or.inr rfl))
        have E1 := hidd e1
        clear e1
        obtain ⟨⟨b0, b1, b2, b3, b4⟩, bf⟩ := five_cells HB.out
        obtain ⟨⟨f0, f1, f2, f3, f4⟩, ff⟩ := five_cells (heap_moreT (o := (.cells #[.int .i64 22, .string ⟨#[]⟩, .int .i64 0, .string ⟨#[]⟩, .slice none 0 0] 24)) HB.out)
        obtain ⟨⟨z0, z1, z2, z3, z4⟩, zf⟩ := five_cells (heap_moreT (o := (.cells #[.int .i64 22, .string ⟨#[]⟩, .int .i64 0, .string ⟨#[]⟩, .slice none 0 0] 24)) HZ.out)
        obtain ⟨⟨o0, o1, o2, o3, o4⟩, of⟩ := five_cells (heap_alloc_new wr (.cells #[.int .i64 22, .string ⟨#[]⟩, .int .i64 0, .string ⟨#[]⟩, .slice none 0 0] 24))
        have hl1 := HL1.out
        obtain ⟨a3, cc, rfl⟩ := HE.out.len
        obtain ⟨b, o, kk, rfl, hnd, hq⟩ := HE.out.list.at (i := 0) (by rw [List.length_map]; omega)
        obtain ⟨qa, qn, qc, rfl⟩ := hq.form
        have hll : (l.map simple).length = 1 := by rw [List.length_map]; exact hl1
        rw [hll]
        obtain ⟨q, hqe⟩ : ∃ q, (l.map simple).getD 0 Pat.zero = q := ⟨_, rfl⟩
        rw [hqe] at hnd hq E1
        have HQ := hidd hq
        have HN := hidd (show NodeAt wr b o q (.slice qa qn qc) from by simpa using hnd)
        clear hq hnd
        obtain ⟨c0, c1, c2, c3, c4, _, _, _, _⟩ := HN.out.kept ((Grew.refl wr).alloc (.cells #[.int .i64 22, .string ⟨#[]⟩, .int .i64 0, .string ⟨#[]⟩, .slice none 0 0] 24))
        have CF : Hid (∀ w, Calls Tryd.prog 78 #[.agg #[.int .i64 q.kind, .string q.text, .int .i64 q.n, .string q.name, .slice qa qn qc], .int .i64 15] w fun e w' => e = .returned (.bool true) ∧ Grew w w') := hidd fun w => by
          have := is_any q (.slice qa qn qc) 15 w; rw [E1.out] at this; exact this
        go_wp2_with fail
        refine (CF.out _).mono ?_; rintro e w1 ⟨rfl, g1⟩
        have HG1 := hidd (((Grew.refl wr).alloc (.cells #[.int .i64 22, .string ⟨#[]⟩, .int .i64 0, .string ⟨#[]⟩, .slice none 0 0] 24)).trans g1)
        have HO1 := hidd (heap_keptT g1 (heap_alloc_new wr (.cells #[.int .i64 22, .string ⟨#[]⟩, .int .i64 0, .string ⟨#[]⟩, .slice none 0 0] 24)))
        clear g1
        clear f0 f1 f2 f3 f4 ff z0 z1 z2 z3 z4 zf o0 o1 o2 o3 o4 of
        clear c0 c1 c2 c3 c4
        obtain ⟨⟨f0, f1, f2, f3, f4⟩, ff⟩ := five_cells (heap_keptT (HG1.out) HB.out)
        obtain ⟨⟨z0, z1, z2, z3, z4⟩, zf⟩ := five_cells (heap_keptT (HG1.out) HZ.out)
        obtain ⟨⟨o0, o1, o2, o3, o4⟩, of⟩ := five_cells (HO1.out)
        obtain ⟨c0, c1, c2, c3, c4, _, _, _, _⟩ := HN.out.kept HG1.out
        go_wp2_with fail
        exact bodyPost_ret (results_pat (rb := w.heap.size + 1) rfl rfl (setPat_heap (heap_keptT HG1.out HZ.out)) rfl) rfl (by rw [hqe]; exact own_end q (HQ.out.kept HG1.out) (by omega) (by omega) (HGw.out.trans HG1.out) (by omega) _ _ _ _ _)
      · have hXe : Hid (simple (.mk 22 t n m l) = ((l.map simple).getD 0 Pat.zero)) := by
          refine hidd ?_
          rw [simple, simpleL_map, make22]
          rw [if_pos (by unfold endsB; rw [e1, e2]; rfl)]
        obtain rfl : X = ((l.map simple).getD 0 Pat.zero) := HX0.out.symm.trans hXe.out
        clear HX0 HCs hXe
        have HL1 : Hid (l.length = 1) := HNo.out.only (Or.inr (Or.inr rfl))
        have E1 := hidd e1
        have E2 := hidd e2
        clear e1 e2
        obtain ⟨⟨b0, b1, b2, b3, b4⟩, bf⟩ := five_cells HB.out
        obtain ⟨⟨f0, f1, f2, f3, f4⟩, ff⟩ := five_cells (heap_moreT (o := (.cells #[.int .i64 22, .string ⟨#[]⟩, .int .i64 0, .string ⟨#[]⟩, .slice none 0 0] 24)) HB.out)
        obtain ⟨⟨z0, z1, z2, z3, z4⟩, zf⟩ := five_cells (heap_moreT (o := (.cells #[.int .i64 22, .string ⟨#[]⟩, .int .i64 0, .string ⟨#[]⟩, .slice none 0 0] 24)) HZ.out)
        obtain ⟨⟨o0, o1, o2, o3, o4⟩, of⟩ := five_cells (heap_alloc_new wr (.cells #[.int .i64 22, .string ⟨#[]⟩, .int .i64 0, .string ⟨#[]⟩, .slice none 0 0] 24))
        have hl1 := HL1.out
        obtain ⟨a3, cc, rfl⟩ := HE.out.len
        obtain ⟨b, o, kk, rfl, hnd, hq⟩ := HE.out.list.at (i := 0) (by rw [List.length_map]; omega)
        obtain ⟨qa, qn, qc, rfl⟩ := hq.form
        have hll : (l.map simple).length = 1 := by rw [List.length_map]; exact hl1
        rw [hll]
        obtain ⟨q, hqe⟩ : ∃ q, (l.map simple).getD 0 Pat.zero = q := ⟨_, rfl⟩
        rw [hqe] at hnd hq E1 E2
        have HQ := hidd hq
        have HN := hidd (show NodeAt wr b o q (.slice qa qn qc) from by simpa using hnd)
        clear hq hnd
        obtain ⟨c0, c1, c2, c3, c4, _, _, _, _⟩ := HN.out.kept ((Grew.refl wr).alloc (.cells #[.int .i64 22, .string ⟨#[]⟩, .int .i64 0, .string ⟨#[]⟩, .slice none 0 0] 24))
        have CF : Hid (∀ w, Calls Tryd.prog 78 #[.agg #[.int .i64 q.kind, .string q.text, .int .i64 q.n, .string q.name, .slice qa qn qc], .int .i64 15] w fun e w' => e = .returned (.bool false) ∧ Grew w w') := hidd fun w => by
          have := is_any q (.slice qa qn qc) 15 w; rw [E1.out] at this; exact this
        have CA : Hid (∀ w, Calls Tryd.prog 78 #[.agg #[.int .i64 q.kind, .string q.text, .int .i64 q.n, .string q.name, .slice qa qn qc], .int .i64 17] w fun e w' => e = .returned (.bool true) ∧ Grew w w') := hidd fun w => by
          have := is_any q (.slice qa qn qc) 17 w; rw [E2.out] at this; exact this
        go_wp2_with fail
        refine (CF.out _).mono ?_; rintro e w1 ⟨rfl, g1⟩
        have HG1 := hidd (((Grew.refl wr).alloc (.cells #[.int .i64 22, .string ⟨#[]⟩, .int .i64 0, .string ⟨#[]⟩, .slice none 0 0] 24)).trans g1)
        have HO1 := hidd (heap_keptT g1 (heap_alloc_new wr (.cells #[.int .i64 22, .string ⟨#[]⟩, .int .i64 0, .string ⟨#[]⟩, .slice none 0 0] 24)))
        clear g1
        clear f0 f1 f2 f3 f4 ff z0 z1 z2 z3 z4 zf o0 o1 o2 o3 o4 of
        clear c0 c1 c2 c3 c4
        obtain ⟨⟨f0, f1, f2, f3, f4⟩, ff⟩ := five_cells (heap_keptT (HG1.out) HB.out)
        obtain ⟨⟨z0, z1, z2, z3, z4⟩, zf⟩ := five_cells (heap_keptT (HG1.out) HZ.out)
        obtain ⟨⟨o0, o1, o2, o3, o4⟩, of⟩ := five_cells (HO1.out)
        obtain ⟨c0, c1, c2, c3, c4, _, _, _, _⟩ := HN.out.kept HG1.out
        go_wp2_with fail
        refine (CA.out _).mono ?_; rintro e w2 ⟨rfl, g2⟩
        have HG2 := hidd (HG1.out.trans g2)
        have HO2 := hidd (heap_keptT g2 HO1.out)
        clear g2
        clear f0 f1 f2 f3 f4 ff z0 z1 z2 z3 z4 zf o0 o1 o2 o3 o4 of
        clear c0 c1 c2 c3 c4
        obtain ⟨⟨f0, f1, f2, f3, f4⟩, ff⟩ := five_cells (heap_keptT (HG2.out) HB.out)
        obtain ⟨⟨z0, z1, z2, z3, z4⟩, zf⟩ := five_cells (heap_keptT (HG2.out) HZ.out)
        obtain ⟨⟨o0, o1, o2, o3, o4⟩, of⟩ := five_cells (HO2.out)
        obtain ⟨c0, c1, c2, c3, c4, _, _, _, _⟩ := HN.out.kept HG2.out
        go_wp2_with fail
        exact bodyPost_ret (results_pat (rb := w.heap.size + 1) rfl rfl (setPat_heap (heap_keptT HG2.out HZ.out)) rfl) rfl (by rw [hqe]; exact own_end q (HQ.out.kept HG2.out) (by omega) (by omega) (HGw.out.trans HG2.out) (by omega) _ _ _ _ _)
      · have hXe : Hid (simple (.mk 22 t n m l) = .mk 22 ByteArray.empty 0 m (l.map simple)) := by
          refine hidd ?_
          rw [simple, simpleL_map, make22]
          rw [if_neg (by unfold endsB; rw [e1, e2]; decide)]
        obtain rfl : X = .mk 22 ByteArray.empty 0 m (l.map simple) := HX0.out.symm.trans hXe.out
        clear HX0 HCs hXe
        have HL1 : Hid (l.length = 1) := HNo.out.only (Or.inr (Or.inr rfl))
        have E1 := hidd e1
        have E2 := hidd e2
        clear e1 e2
        obtain ⟨⟨b0, b1, b2, b3, b4⟩, bf⟩ := five_cells HB.out
        obtain ⟨⟨f0, f1, f2, f3, f4⟩, ff⟩ := five_cells (heap_moreT (o := (.cells #[.int .i64 22, .string ⟨#[]⟩, .int .i64 0, .string ⟨#[]⟩, .slice none 0 0] 24)) HB.out)
        obtain ⟨⟨z0, z1, z2, z3, z4⟩, zf⟩ := five_cells (heap_moreT (o := (.cells #[.int .i64 22, .string ⟨#[]⟩, .int .i64 0, .string ⟨#[]⟩, .slice none 0 0] 24)) HZ.out)
        obtain ⟨⟨o0, o1, o2, o3, o4⟩, of⟩ := five_cells (heap_alloc_new wr (.cells #[.int .i64 22, .string ⟨#[]⟩, .int .i64 0, .string ⟨#[]⟩, .slice none 0 0] 24))
        have hl1 := HL1.out
        obtain ⟨a3, cc, rfl⟩ := HE.out.len
        obtain ⟨b, o, kk, rfl, hnd, hq⟩ := HE.out.list.at (i := 0) (by rw [List.length_map]; omega)
        obtain ⟨qa, qn, qc, rfl⟩ := hq.form
        have hll : (l.map simple).length = 1 := by rw [List.length_map]; exact hl1
        rw [hll]
        obtain ⟨q, hqe⟩ : ∃ q, (l.map simple).getD 0 Pat.zero = q := ⟨_, rfl⟩
        rw [hqe] at hnd hq E1 E2
        have HQ := hidd hq
        have HN := hidd (show NodeAt wr b o q (.slice qa qn qc) from by simpa using hnd)
        clear hq hnd
        obtain ⟨c0, c1, c2, c3, c4, _, _, _, _⟩ := HN.out.kept ((Grew.refl wr).alloc (.cells #[.int .i64 22, .string ⟨#[]⟩, .int .i64 0, .string ⟨#[]⟩, .slice none 0 0] 24))
        have HV := hidd (own_node HE.out (by omega) (p := .mk 22 ByteArray.empty 0 m (l.map simple)) (nums_leaf (by omega) zero_in none_size HPn.out.2.2) rfl (by omega))
        rw [hll] at HV
        have CF : Hid (∀ w, Calls Tryd.prog 78 #[.agg #[.int .i64 q.kind, .string q.text, .int .i64 q.n, .string q.name, .slice qa qn qc], .int .i64 15] w fun e w' => e = .returned (.bool false) ∧ Grew w w') := hidd fun w => by
          have := is_any q (.slice qa qn qc) 15 w; rw [E1.out] at this; exact this
        have CA : Hid (∀ w, Calls Tryd.prog 78 #[.agg #[.int .i64 q.kind, .string q.text, .int .i64 q.n, .string q.name, .slice qa qn qc], .int .i64 17] w fun e w' => e = .returned (.bool false) ∧ Grew w w') := hidd fun w => by
          have := is_any q (.slice qa qn qc) 17 w; rw [E2.out] at this; exact this
        go_wp2_with fail
        refine (CF.out _).mono ?_; rintro e w1 ⟨rfl, g1⟩
        have HG1 := hidd (((Grew.refl wr).alloc (.cells #[.int .i64 22, .string ⟨#[]⟩, .int .i64 0, .string ⟨#[]⟩, .slice none 0 0] 24)).trans g1)
        have HO1 := hidd (heap_keptT g1 (heap_alloc_new wr (.cells #[.int .i64 22, .string ⟨#[]⟩, .int .i64 0, .string ⟨#[]⟩, .slice none 0 0] 24)))
        clear g1
        clear f0 f1 f2 f3 f4 ff z0 z1 z2 z3 z4 zf o0 o1 o2 o3 o4 of
        clear c0 c1 c2 c3 c4
        obtain ⟨⟨f0, f1, f2, f3, f4⟩, ff⟩ := five_cells (heap_keptT (HG1.out) HB.out)
        obtain ⟨⟨z0, z1, z2, z3, z4⟩, zf⟩ := five_cells (heap_keptT (HG1.out) HZ.out)
        obtain ⟨⟨o0, o1, o2, o3, o4⟩, of⟩ := five_cells (HO1.out)
        obtain ⟨c0, c1, c2, c3, c4, _, _, _, _⟩ := HN.out.kept HG1.out
        go_wp2_with fail
        refine (CA.out _).mono ?_; rintro e w2 ⟨rfl, g2⟩
        have HG2 := hidd (HG1.out.trans g2)
        have HO2 := hidd (heap_keptT g2 HO1.out)
        clear g2
        clear f0 f1 f2 f3 f4 ff z0 z1 z2 z3 z4 zf o0 o1 o2 o3 o4 of
        clear c0 c1 c2 c3 c4
        obtain ⟨⟨f0, f1, f2, f3, f4⟩, ff⟩ := five_cells (heap_keptT (HG2.out) HB.out)
        obtain ⟨⟨z0, z1, z2, z3, z4⟩, zf⟩ := five_cells (heap_keptT (HG2.out) HZ.out)
        obtain ⟨⟨o0, o1, o2, o3, o4⟩, of⟩ := five_cells (HO2.out)
        obtain ⟨c0, c1, c2, c3, c4, _, _, _, _⟩ := HN.out.kept HG2.out
        obtain ⟨⟨f0', f1', f2', f3', f4'⟩, ff'⟩ := five_cells (heap_keptT ((HG2.out.setOwn (b := wr.heap.size) (o := 3) (Nat.le_refl _) (.string m))) HB.out)
        obtain ⟨⟨z0', z1', z2', z3', z4'⟩, zf'⟩ := five_cells (heap_keptT ((HG2.out.setOwn (b := wr.heap.size) (o := 3) (Nat.le_refl _) (.string m))) HZ.out)
        obtain ⟨⟨o0', o1', o2', o3', o4'⟩, of'⟩ := five_cells (setCell_heap_same HO2.out 3 (.string m))
        obtain ⟨⟨f0'', f1'', f2'', f3'', f4''⟩, ff''⟩ := five_cells (heap_keptT (((HG2.out.setOwn (b := wr.heap.size) (o := 3) (Nat.le_refl _) (.string m)).setOwn (b := wr.heap.size) (o := 4) (Nat.le_refl _) (.slice (some ⟨b, o, none⟩) 1 cc))) HB.out)
        obtain ⟨⟨z0'', z1'', z2'', z3'', z4''⟩, zf''⟩ := five_cells (heap_keptT (((HG2.out.setOwn (b := wr.heap.size) (o := 3) (Nat.le_refl _) (.string m)).setOwn (b := wr.heap.size) (o := 4) (Nat.le_refl _) (.slice (some ⟨b, o, none⟩) 1 cc))) HZ.out)
        obtain ⟨⟨o0'', o1'', o2'', o3'', o4''⟩, of''⟩ := five_cells (setCell_heap_same (setCell_heap_same HO2.out 3 (.string m)) 4 (.slice (some ⟨b, o, none⟩) 1 cc))
        go_wp2_with fail
        exact bodyPost_ret (results_pat (rb := w.heap.size + 1) rfl rfl (setPat_heap (heap_keptT ((HG2.out.setOwn (b := wr.heap.size) (o := 3) (Nat.le_refl _) (.string m)).setOwn (b := wr.heap.size) (o := 4) (Nat.le_refl _) (.slice (some ⟨b, o, none⟩) 1 cc)) HZ.out)) rfl) rfl (own_end (.mk 22 ByteArray.empty 0 m (l.map simple)) (HV.out.kept ((HG2.out.setOwn (b := wr.heap.size) (o := 3) (Nat.le_refl _) (.string m)).setOwn (b := wr.heap.size) (o := 4) (Nat.le_refl _) (.slice (some ⟨b, o, none⟩) 1 cc))) (by omega) (by omega) (HGw.out.trans ((HG2.out.setOwn (b := wr.heap.size) (o := 3) (Nat.le_refl _) (.string m)).setOwn (b := wr.heap.size) (o := 4) (Nat.le_refl _) (.slice (some ⟨b, o, none⟩) 1 cc))) (by omega) _ _ _ _ _)
      · have hXe : Hid (simple (.mk 18 t n m l) = singleP 18 (litP ByteArray.empty) (catL (l.map simple))) := by
          refine hidd ?_
          rw [simple, simpleL_map]
          rfl
        obtain rfl : X = singleP 18 (litP ByteArray.empty) (catL (l.map simple)) := HX0.out.symm.trans hXe.out
        clear HX0 HCs hXe
        have H3 := hidd (three (k := 18) (Or.inl rfl) HRt.out.1 HRt.out.2 endsB emptyP)
        obtain ⟨⟨b0, b1, b2, b3, b4⟩, bf⟩ := five_cells HB.out
        obtain ⟨⟨f0, f1, f2, f3, f4⟩, ff⟩ := five_cells (heap_moreT (o := (.cells #[.int .i64 18, .string ⟨#[]⟩, .int .i64 0, .string ⟨#[]⟩, .slice none 0 0] 24)) HB.out)
        obtain ⟨⟨z0, z1, z2, z3, z4⟩, zf⟩ := five_cells (heap_moreT (o := (.cells #[.int .i64 18, .string ⟨#[]⟩, .int .i64 0, .string ⟨#[]⟩, .slice none 0 0] 24)) HZ.out)
        obtain ⟨⟨o0, o1, o2, o3, o4⟩, of⟩ := five_cells (heap_alloc_new wr (.cells #[.int .i64 18, .string ⟨#[]⟩, .int .i64 0, .string ⟨#[]⟩, .slice none 0 0] 24))
        have HW2 : Hid (w.heap.size + 2 ≤ wr.heap.size) := (Array.getElem?_eq_some_iff.1 HZ.out).1
        obtain ⟨X, hX⟩ : ∃ X, singleP 18 (litP ByteArray.empty) (catL (l.map simple)) = X := ⟨_, rfl⟩
        have HXX := hidd hX
        clear hX
        go_wp2_with fail
        refine (flat_any 18 (l.map simple) _ (wr.alloc (.cells #[.int .i64 18, .string ⟨#[]⟩, .int .i64 0, .string ⟨#[]⟩, .slice none 0 0] 24)) (HE.out.kept ((Grew.refl wr).alloc _)).list (fun b hb => hb) H3.out.flatK H3.out.nodes).mono ?_; rintro e w1 ⟨v1, rfl, p1, g1⟩
        have HP1 := hidd p1
        have HG1 := hidd (((Grew.refl wr).alloc (.cells #[.int .i64 18, .string ⟨#[]⟩, .int .i64 0, .string ⟨#[]⟩, .slice none 0 0] 24)).trans g1)
        have HG01 := hidd g1
        have hs1 := g1.size
        rw [World.size_alloc] at hs1
        clear p1 g1
        clear f0 f1 f2 f3 f4 ff z0 z1 z2 z3 z4 zf o0 o1 o2 o3 o4 of
        go_wp2_with fail
        refine (DeleteP_any 82 (Or.inl rfl) emptyP (fun p kv w => empty_any p kv w) _ v1 w1 HP1.out (by rw [World.size_alloc]; omega)).mono ?_; rintro e w2 ⟨v2, rfl, p2, g2⟩
        have HP2 := hidd p2
        have HG2 := hidd (((Grew.refl wr).alloc (.cells #[.int .i64 18, .string ⟨#[]⟩, .int .i64 0, .string ⟨#[]⟩, .slice none 0 0] 24)).trans (HG01.out.below g2 (Nat.le_refl _)))
        clear p2 g2
        go_wp2_with fail
        refine (upTo_any 84 (Or.inl rfl) endsB (fun p kv w => ends_test p kv w) _ v2 w2 HP2.out).mono ?_; rintro e w3 ⟨v3, rfl, p3, g3⟩
        have HP3 := hidd p3
        have HG3 := hidd (HG2.out.trans g3)
        have hs3 := HG3.out.size
        clear p3 g3
        go_wp2_with fail
        refine (merged_pieces piecesP _ v3 w3 (pieces_at w3) fit_pieces HP3.out.list (fun b hb => hb) (by have := HW2.out; omega) H3.out.right H3.out.len).mono ?_; rintro e w4 ⟨v4, rfl, p4, g4⟩
        have HP4 := hidd p4
        have HG4 := hidd (HG3.out.trans g4)
        clear p4 g4
        go_wp2_with fail
        refine (lit_exact _ _).mono ?_; rintro e w5 ⟨rfl, hw5⟩
        have HG45 : Hid (Grew w4 w5) := hidd (by rw [hw5]; exact (Grew.refl _).alloc _)
        clear hw5
        go_wp2_with fail
        have HS := hidd (single_any 18 _ v4 (litP ByteArray.empty) (.slice none 0 0) w5 (HP4.out.kept HG45.out) (by have := HW2.out; omega) (.leaf _ none 0 (nums_leaf (by omega) zero_in none_size none_size) rfl) (by omega))
        rw [show singleP 18 (litP ByteArray.empty) (mergedP piecesP (upToP endsB ((flatP 18 (l.map simple)).filter fun p => !emptyP p))) = X from HXX.out] at HS
        refine (HS.out).mono ?_; rintro e w6 ⟨kv, rfl, hq6, g6⟩
        obtain ⟨qa, qn, qc, rfl⟩ := hq6.form
        have HQ6 := hidd hq6
        have HG6 := hidd (HG4.out.trans (HG45.out.trans g6))
        obtain ⟨⟨z0, z1, z2, z3, z4⟩, zf⟩ := five_cells (heap_keptT HG6.out HZ.out)
        clear hq6 g6
        rw [cells_eq]
        go_wp2_with fail
        exact bodyPost_ret (results_pat (rb := w.heap.size + 1) rfl rfl (setPat_heap (heap_keptT HG6.out HZ.out)) rfl) rfl (by rw [HXX.out]; exact own_end X HQ6.out (by omega) (by omega) (HGw.out.trans HG6.out) (by omega) _ _ _ _ _)
      · have hXe : Hid (simple (.mk 19 t n m l) = singleP 19 (bareP 15) (altL (l.map simple))) := by
          refine hidd ?_
          rw [simple, simpleL_map]
          rfl
        obtain rfl : X = singleP 19 (bareP 15) (altL (l.map simple)) := HX0.out.symm.trans hXe.out
        clear HX0 HCs hXe
        have H3 := hidd (three (k := 19) (Or.inr rfl) HRt.out.1 HRt.out.2 abortB failB)
        obtain ⟨⟨b0, b1, b2, b3, b4⟩, bf⟩ := five_cells HB.out
        obtain ⟨⟨f0, f1, f2, f3, f4⟩, ff⟩ := five_cells (heap_moreT (o := (.cells #[.int .i64 19, .string ⟨#[]⟩, .int .i64 0, .string ⟨#[]⟩, .slice none 0 0] 24)) HB.out)
        obtain ⟨⟨z0, z1, z2, z3, z4⟩, zf⟩ := five_cells (heap_moreT (o := (.cells #[.int .i64 19, .string ⟨#[]⟩, .int .i64 0, .string ⟨#[]⟩, .slice none 0 0] 24)) HZ.out)
        obtain ⟨⟨o0, o1, o2, o3, o4⟩, of⟩ := five_cells (heap_alloc_new wr (.cells #[.int .i64 19, .string ⟨#[]⟩, .int .i64 0, .string ⟨#[]⟩, .slice none 0 0] 24))
        have HW2 : Hid (w.heap.size + 2 ≤ wr.heap.size) := (Array.getElem?_eq_some_iff.1 HZ.out).1
        obtain ⟨X, hX⟩ : ∃ X, singleP 19 (bareP 15) (altL (l.map simple)) = X := ⟨_, rfl⟩
        have HXX := hidd hX
        clear hX
        go_wp2_with fail
        refine (flat_any 19 (l.map simple) _ (wr.alloc (.cells #[.int .i64 19, .string ⟨#[]⟩, .int .i64 0, .string ⟨#[]⟩, .slice none 0 0] 24)) (HE.out.kept ((Grew.refl wr).alloc _)).list (fun b hb => hb) H3.out.flatK H3.out.nodes).mono ?_; rintro e w1 ⟨v1, rfl, p1, g1⟩
        have HP1 := hidd p1
        have HG1 := hidd (((Grew.refl wr).alloc (.cells #[.int .i64 19, .string ⟨#[]⟩, .int .i64 0, .string ⟨#[]⟩, .slice none 0 0] 24)).trans g1)
        have HG01 := hidd g1
        have hs1 := g1.size
        rw [World.size_alloc] at hs1
        clear p1 g1
        clear f0 f1 f2 f3 f4 ff z0 z1 z2 z3 z4 zf o0 o1 o2 o3 o4 of
        go_wp2_with fail
        refine (DeleteP_any 88 (Or.inr rfl) failB (fun p kv w => fail_test p kv w) _ v1 w1 HP1.out (by rw [World.size_alloc]; omega)).mono ?_; rintro e w2 ⟨v2, rfl, p2, g2⟩
        have HP2 := hidd p2
        have HG2 := hidd (((Grew.refl wr).alloc (.cells #[.int .i64 19, .string ⟨#[]⟩, .int .i64 0, .string ⟨#[]⟩, .slice none 0 0] 24)).trans (HG01.out.below g2 (Nat.le_refl _)))
        clear p2 g2
        go_wp2_with fail
        refine (upTo_any 89 (Or.inr rfl) abortB (fun p kv w => abort_test p kv w) _ v2 w2 HP2.out).mono ?_; rintro e w3 ⟨v3, rfl, p3, g3⟩
        have HP3 := hidd p3
        have HG3 := hidd (HG2.out.trans g3)
        have hs3 := HG3.out.size
        clear p3 g3
        go_wp2_with fail
        refine (merged_others othersP _ v3 w3 (others_at (HT.out.kept (HGw.out.trans HG3.out))) fit_others HP3.out.list (fun b hb => hb) (by have := HW2.out; omega) H3.out.right H3.out.len).mono ?_; rintro e w4 ⟨v4, rfl, p4, g4⟩
        have HP4 := hidd p4
        have HG4 := hidd (HG3.out.trans g4)
        clear p4 g4
        go_wp2_with fail
        have HS := hidd (single_any 19 _ v4 (bareP 15) (.slice none 0 0) w4 (HP4.out.kept (Grew.refl w4)) (by have := HW2.out; omega) (.leaf _ none 0 (nums_leaf (by omega) zero_in none_size none_size) rfl) (by omega))
        rw [show singleP 19 (bareP 15) (mergedP othersP (upToP abortB ((flatP 19 (l.map simple)).filter fun p => !failB p))) = X from HXX.out] at HS
        refine (HS.out).mono ?_; rintro e w6 ⟨kv, rfl, hq6, g6⟩
        obtain ⟨qa, qn, qc, rfl⟩ := hq6.form
        have HQ6 := hidd hq6
        have HG6 := hidd (HG4.out.trans ((Grew.refl w4).trans g6))
        obtain ⟨⟨z0, z1, z2, z3, z4⟩, zf⟩ := five_cells (heap_keptT HG6.out HZ.out)
        clear hq6 g6
        rw [cells_eq]
        go_wp2_with fail
        exact bodyPost_ret (results_pat (rb := w.heap.size + 1) rfl rfl (setPat_heap (heap_keptT HG6.out HZ.out)) rfl) rfl (by rw [HXX.out]; exact own_end X HQ6.out (by omega) (by omega) (HGw.out.trans HG6.out) (by omega) _ _ _ _ _)
theorem simple_k12 (t : ByteArray) (n : Int) (m : ByteArray) (l : List Pat) (kv : Value) (w : World) (h : SimpIn (.mk 12 t n m l) kv w)  : Calls Tryd.prog 48 #[.agg #[.int .i64 12, .string t, .int .i64 n, .string m, kv]] w (SingleEnd w.heap.size (simple (.mk 12 t n m l)) w) := simple_kinds 12 t n m l kv w h (Or.inl rfl)
theorem simple_k13 (t : ByteArray) (n : Int) (m : ByteArray) (l : List Pat) (kv : Value) (w : World) (h : SimpIn (.mk 13 t n m l) kv w)  : Calls Tryd.prog 48 #[.agg #[.int .i64 13, .string t, .int .i64 n, .string m, kv]] w (SingleEnd w.heap.size (simple (.mk 13 t n m l)) w) := simple_kinds 13 t n m l kv w h (Or.inr (Or.inl rfl))
theorem simple_k14 (t : ByteArray) (n : Int) (m : ByteArray) (l : List Pat) (kv : Value) (w : World) (h : SimpIn (.mk 14 t n m l) kv w)  : Calls Tryd.prog 48 #[.agg #[.int .i64 14, .string t, .int .i64 n, .string m, kv]] w (SingleEnd w.heap.size (simple (.mk 14 t n m l)) w) := simple_kinds 14 t n m l kv w h (Or.inr (Or.inr (Or.inl rfl)))
theorem simple_k15 (t : ByteArray) (n : Int) (m : ByteArray) (l : List Pat) (kv : Value) (w : World) (h : SimpIn (.mk 15 t n m l) kv w)  : Calls Tryd.prog 48 #[.agg #[.int .i64 15, .string t, .int .i64 n, .string m, kv]] w (SingleEnd w.heap.size (simple (.mk 15 t n m l)) w) := simple_kinds 15 t n m l kv w h (Or.inr (Or.inr (Or.inr (Or.inl rfl))))
theorem simple_k16 (t : ByteArray) (n : Int) (m : ByteArray) (l : List Pat) (kv : Value) (w : World) (h : SimpIn (.mk 16 t n m l) kv w)  : Calls Tryd.prog 48 #[.agg #[.int .i64 16, .string t, .int .i64 n, .string m, kv]] w (SingleEnd w.heap.size (simple (.mk 16 t n m l)) w) := simple_kinds 16 t n m l kv w h (Or.inr (Or.inr (Or.inr (Or.inr (Or.inl rfl)))))
theorem simple_k17 (t : ByteArray) (n : Int) (m : ByteArray) (l : List Pat) (kv : Value) (w : World) (h : SimpIn (.mk 17 t n m l) kv w)  : Calls Tryd.prog 48 #[.agg #[.int .i64 17, .string t, .int .i64 n, .string m, kv]] w (SingleEnd w.heap.size (simple (.mk 17 t n m l)) w) := simple_kinds 17 t n m l kv w h (Or.inr (Or.inr (Or.inr (Or.inr (Or.inr (Or.inl rfl))))))
theorem simple_k8 (t : ByteArray) (n : Int) (m : ByteArray) (l : List Pat) (kv : Value) (w : World) (h : SimpIn (.mk 8 t n m l) kv w)  : Calls Tryd.prog 48 #[.agg #[.int .i64 8, .string t, .int .i64 n, .string m, kv]] w (SingleEnd w.heap.size (simple (.mk 8 t n m l)) w) := simple_kinds 8 t n m l kv w h (Or.inr (Or.inr (Or.inr (Or.inr (Or.inr (Or.inr (Or.inl rfl)))))))
theorem simple_k10 (t : ByteArray) (n : Int) (m : ByteArray) (l : List Pat) (kv : Value) (w : World) (h : SimpIn (.mk 10 t n m l) kv w)  : Calls Tryd.prog 48 #[.agg #[.int .i64 10, .string t, .int .i64 n, .string m, kv]] w (SingleEnd w.heap.size (simple (.mk 10 t n m l)) w) := simple_kinds 10 t n m l kv w h (Or.inr (Or.inr (Or.inr (Or.inr (Or.inr (Or.inr (Or.inr (Or.inl rfl))))))))
theorem simple_k11 (t : ByteArray) (n : Int) (m : ByteArray) (l : List Pat) (kv : Value) (w : World) (h : SimpIn (.mk 11 t n m l) kv w)  : Calls Tryd.prog 48 #[.agg #[.int .i64 11, .string t, .int .i64 n, .string m, kv]] w (SingleEnd w.heap.size (simple (.mk 11 t n m l)) w) := simple_kinds 11 t n m l kv w h (Or.inr (Or.inr (Or.inr (Or.inr (Or.inr (Or.inr (Or.inr (Or.inr (Or.inl rfl)))))))))
theorem simple_k1 (t : ByteArray) (n : Int) (m : ByteArray) (l : List Pat) (kv : Value) (w : World) (h : SimpIn (.mk 1 t n m l) kv w)  : Calls Tryd.prog 48 #[.agg #[.int .i64 1, .string t, .int .i64 n, .string m, kv]] w (SingleEnd w.heap.size (simple (.mk 1 t n m l)) w) := simple_kinds 1 t n m l kv w h (Or.inr (Or.inr (Or.inr (Or.inr (Or.inr (Or.inr (Or.inr (Or.inr (Or.inr (Or.inl rfl))))))))))
theorem simple_k23 (t : ByteArray) (n : Int) (m : ByteArray) (l : List Pat) (kv : Value) (w : World) (h : SimpIn (.mk 23 t n m l) kv w)  : Calls Tryd.prog 48 #[.agg #[.int .i64 23, .string t, .int .i64 n, .string m, kv]] w (SingleEnd w.heap.size (simple (.mk 23 t n m l)) w) := simple_kinds 23 t n m l kv w h (Or.inr (Or.inr (Or.inr (Or.inr (Or.inr (Or.inr (Or.inr (Or.inr (Or.inr (Or.inr (Or.inl rfl)))))))))))
theorem simple_k24 (t : ByteArray) (n : Int) (m : ByteArray) (l : List Pat) (kv : Value) (w : World) (h : SimpIn (.mk 24 t n m l) kv w)  : Calls Tryd.prog 48 #[.agg #[.int .i64 24, .string t, .int .i64 n, .string m, kv]] w (SingleEnd w.heap.size (simple (.mk 24 t n m l)) w) := simple_kinds 24 t n m l kv w h (Or.inr (Or.inr (Or.inr (Or.inr (Or.inr (Or.inr (Or.inr (Or.inr (Or.inr (Or.inr (Or.inr (Or.inl rfl))))))))))))
theorem simple_k4 (t : ByteArray) (n : Int) (m : ByteArray) (l : List Pat) (kv : Value) (w : World) (h : SimpIn (.mk 4 t n m l) kv w)  : Calls Tryd.prog 48 #[.agg #[.int .i64 4, .string t, .int .i64 n, .string m, kv]] w (SingleEnd w.heap.size (simple (.mk 4 t n m l)) w) := simple_kinds 4 t n m l kv w h (Or.inr (Or.inr (Or.inr (Or.inr (Or.inr (Or.inr (Or.inr (Or.inr (Or.inr (Or.inr (Or.inr (Or.inr (Or.inl rfl)))))))))))))
theorem simple_k5 (t : ByteArray) (n : Int) (m : ByteArray) (l : List Pat) (kv : Value) (w : World) (h : SimpIn (.mk 5 t n m l) kv w)  : Calls Tryd.prog 48 #[.agg #[.int .i64 5, .string t, .int .i64 n, .string m, kv]] w (SingleEnd w.heap.size (simple (.mk 5 t n m l)) w) := simple_kinds 5 t n m l kv w h (Or.inr (Or.inr (Or.inr (Or.inr (Or.inr (Or.inr (Or.inr (Or.inr (Or.inr (Or.inr (Or.inr (Or.inr (Or.inr (Or.inl rfl))))))))))))))
theorem simple_k6 (t : ByteArray) (n : Int) (m : ByteArray) (l : List Pat) (kv : Value) (w : World) (h : SimpIn (.mk 6 t n m l) kv w)  : Calls Tryd.prog 48 #[.agg #[.int .i64 6, .string t, .int .i64 n, .string m, kv]] w (SingleEnd w.heap.size (simple (.mk 6 t n m l)) w) := simple_kinds 6 t n m l kv w h (Or.inr (Or.inr (Or.inr (Or.inr (Or.inr (Or.inr (Or.inr (Or.inr (Or.inr (Or.inr (Or.inr (Or.inr (Or.inr (Or.inr (Or.inl rfl)))))))))))))))
theorem simple_k7 (t : ByteArray) (n : Int) (m : ByteArray) (l : List Pat) (kv : Value) (w : World) (h : SimpIn (.mk 7 t n m l) kv w)  : Calls Tryd.prog 48 #[.agg #[.int .i64 7, .string t, .int .i64 n, .string m, kv]] w (SingleEnd w.heap.size (simple (.mk 7 t n m l)) w) := simple_kinds 7 t n m l kv w h (Or.inr (Or.inr (Or.inr (Or.inr (Or.inr (Or.inr (Or.inr (Or.inr (Or.inr (Or.inr (Or.inr (Or.inr (Or.inr (Or.inr (Or.inr (Or.inl rfl))))))))))))))))
theorem simple_k3a (t : ByteArray) (n : Int) (m : ByteArray) (l : List Pat) (kv : Value) (w : World) (h : SimpIn (.mk 3 t n m l) kv w) (h1 : ¬ (spell t).size = 1) : Calls Tryd.prog 48 #[.agg #[.int .i64 3, .string t, .int .i64 n, .string m, kv]] w (SingleEnd w.heap.size (simple (.mk 3 t n m l)) w) := simple_kinds 3 t n m l kv w h (Or.inr (Or.inr (Or.inr (Or.inr (Or.inr (Or.inr (Or.inr (Or.inr (Or.inr (Or.inr (Or.inr (Or.inr (Or.inr (Or.inr (Or.inr (Or.inr (Or.inl ⟨rfl, h1⟩)))))))))))))))))
theorem simple_k3b (t : ByteArray) (n : Int) (m : ByteArray) (l : List Pat) (kv : Value) (w : World) (h : SimpIn (.mk 3 t n m l) kv w) (h1 : (spell t).size = 1) : Calls Tryd.prog 48 #[.agg #[.int .i64 3, .string t, .int .i64 n, .string m, kv]] w (SingleEnd w.heap.size (simple (.mk 3 t n m l)) w) := simple_kinds 3 t n m l kv w h (Or.inr (Or.inr (Or.inr (Or.inr (Or.inr (Or.inr (Or.inr (Or.inr (Or.inr (Or.inr (Or.inr (Or.inr (Or.inr (Or.inr (Or.inr (Or.inr (Or.inr (Or.inl ⟨rfl, h1⟩))))))))))))))))))
theorem simple_k2a (t : ByteArray) (n : Int) (m : ByteArray) (l : List Pat) (kv : Value) (w : World) (h : SimpIn (.mk 2 t n m l) kv w) (h1 : ¬ n = 0) : Calls Tryd.prog 48 #[.agg #[.int .i64 2, .string t, .int .i64 n, .string m, kv]] w (SingleEnd w.heap.size (simple (.mk 2 t n m l)) w) := simple_kinds 2 t n m l kv w h (Or.inr (Or.inr (Or.inr (Or.inr (Or.inr (Or.inr (Or.inr (Or.inr (Or.inr (Or.inr (Or.inr (Or.inr (Or.inr (Or.inr (Or.inr (Or.inr (Or.inr (Or.inr (Or.inl ⟨rfl, h1⟩)))))))))))))))))))
theorem simple_k2b (t : ByteArray) (n : Int) (m : ByteArray) (l : List Pat) (kv : Value) (w : World) (h : SimpIn (.mk 2 t n m l) kv w) (h1 : n = 0) : Calls Tryd.prog 48 #[.agg #[.int .i64 2, .string t, .int .i64 n, .string m, kv]] w (SingleEnd w.heap.size (simple (.mk 2 t n m l)) w) := simple_kinds 2 t n m l kv w h (Or.inr (Or.inr (Or.inr (Or.inr (Or.inr (Or.inr (Or.inr (Or.inr (Or.inr (Or.inr (Or.inr (Or.inr (Or.inr (Or.inr (Or.inr (Or.inr (Or.inr (Or.inr (Or.inr (Or.inl ⟨rfl, h1⟩))))))))))))))))))))
theorem simple_k9a (t : ByteArray) (n : Int) (m : ByteArray) (l : List Pat) (kv : Value) (w : World) (h : SimpIn (.mk 9 t n m l) kv w) (h1 : ¬ n = 0) : Calls Tryd.prog 48 #[.agg #[.int .i64 9, .string t, .int .i64 n, .string m, kv]] w (SingleEnd w.heap.size (simple (.mk 9 t n m l)) w) := simple_kinds 9 t n m l kv w h (Or.inr (Or.inr (Or.inr (Or.inr (Or.inr (Or.inr (Or.inr (Or.inr (Or.inr (Or.inr (Or.inr (Or.inr (Or.inr (Or.inr (Or.inr (Or.inr (Or.inr (Or.inr (Or.inr (Or.inr (Or.inl ⟨rfl, h1⟩)))))))))))))))))))))
theorem simple_k9b (t : ByteArray) (n : Int) (m : ByteArray) (l : List Pat) (kv : Value) (w : World) (h : SimpIn (.mk 9 t n m l) kv w) (h1 : n = 0) : Calls Tryd.prog 48 #[.agg #[.int .i64 9, .string t, .int .i64 n, .string m, kv]] w (SingleEnd w.heap.size (simple (.mk 9 t n m l)) w) := simple_kinds 9 t n m l kv w h (Or.inr (Or.inr (Or.inr (Or.inr (Or.inr (Or.inr (Or.inr (Or.inr (Or.inr (Or.inr (Or.inr (Or.inr (Or.inr (Or.inr (Or.inr (Or.inr (Or.inr (Or.inr (Or.inr (Or.inr (Or.inr (Or.inl ⟨rfl, h1⟩))))))))))))))))))))))
theorem simple_k20a (t : ByteArray) (n : Int) (m : ByteArray) (l : List Pat) (kv : Value) (w : World) (h : SimpIn (.mk 20 t n m l) kv w) (e1 : emptyP ((l.map simple).getD 0 Pat.zero) = true) : Calls Tryd.prog 48 #[.agg #[.int .i64 20, .string t, .int .i64 n, .string m, kv]] w (SingleEnd w.heap.size (simple (.mk 20 t n m l)) w) := simple_kinds 20 t n m l kv w h (Or.inr (Or.inr (Or.inr (Or.inr (Or.inr (Or.inr (Or.inr (Or.inr (Or.inr (Or.inr (Or.inr (Or.inr (Or.inr (Or.inr (Or.inr (Or.inr (Or.inr (Or.inr (Or.inr (Or.inr (Or.inr (Or.inr (Or.inl ⟨rfl, e1⟩)))))))))))))))))))))))
theorem simple_k20b (t : ByteArray) (n : Int) (m : ByteArray) (l : List Pat) (kv : Value) (w : World) (h : SimpIn (.mk 20 t n m l) kv w) (e1 : emptyP ((l.map simple).getD 0 Pat.zero) = false) (e2 : (((l.map simple).getD 0 Pat.zero).kind == 15) = true) : Calls Tryd.prog 48 #[.agg #[.int .i64 20, .string t, .int .i64 n, .string m, kv]] w (SingleEnd w.heap.size (simple (.mk 20 t n m l)) w) := simple_kinds 20 t n m l kv w h (Or.inr (Or.inr (Or.inr (Or.inr (Or.inr (Or.inr (Or.inr (Or.inr (Or.inr (Or.inr (Or.inr (Or.inr (Or.inr (Or.inr (Or.inr (Or.inr (Or.inr (Or.inr (Or.inr (Or.inr (Or.inr (Or.inr (Or.inr (Or.inl ⟨rfl, e1, e2⟩))))))))))))))))))))))))
theorem simple_k20c (t : ByteArray) (n : Int) (m : ByteArray) (l : List Pat) (kv : Value) (w : World) (h : SimpIn (.mk 20 t n m l) kv w) (e1 : emptyP ((l.map simple).getD 0 Pat.zero) = false) (e2 : (((l.map simple).getD 0 Pat.zero).kind == 15) = false) (e3 : (((l.map simple).getD 0 Pat.zero).kind == 2) = true) (e4 : ((l.map simple).getD 0 Pat.zero).n = 1) : Calls Tryd.prog 48 #[.agg #[.int .i64 20, .string t, .int .i64 n, .string m, kv]] w (SingleEnd w.heap.size (simple (.mk 20 t n m l)) w) := simple_kinds 20 t n m l kv w h (Or.inr (Or.inr (Or.inr (Or.inr (Or.inr (Or.inr (Or.inr (Or.inr (Or.inr (Or.inr (Or.inr (Or.inr (Or.inr (Or.inr (Or.inr (Or.inr (Or.inr (Or.inr (Or.inr (Or.inr (Or.inr (Or.inr (Or.inr (Or.inr (Or.inl ⟨rfl, e1, e2, e3, e4⟩)))))))))))))))))))))))))
theorem simple_k20d (t : ByteArray) (n : Int) (m : ByteArray) (l : List Pat) (kv : Value) (w : World) (h : SimpIn (.mk 20 t n m l) kv w) (e1 : emptyP ((l.map simple).getD 0 Pat.zero) = false) (e2 : (((l.map simple).getD 0 Pat.zero).kind == 15) = false) (e3 : (((l.map simple).getD 0 Pat.zero).kind == 2) = false) : Calls Tryd.prog 48 #[.agg #[.int .i64 20, .string t, .int .i64 n, .string m, kv]] w (SingleEnd w.heap.size (simple (.mk 20 t n m l)) w) := simple_kinds 20 t n m l kv w h (Or.inr (Or.inr (Or.inr (Or.inr (Or.inr (Or.inr (Or.inr (Or.inr (Or.inr (Or.inr (Or.inr (Or.inr (Or.inr (Or.inr (Or.inr (Or.inr (Or.inr (Or.inr (Or.inr (Or.inr (Or.inr (Or.inr (Or.inr (Or.inr (Or.inr (Or.inl ⟨rfl, e1, e2, e3⟩))))))))))))))))))))))))))
theorem simple_k20e (t : ByteArray) (n : Int) (m : ByteArray) (l : List Pat) (kv : Value) (w : World) (h : SimpIn (.mk 20 t n m l) kv w) (e1 : emptyP ((l.map simple).getD 0 Pat.zero) = false) (e2 : (((l.map simple).getD 0 Pat.zero).kind == 15) = false) (e3 : (((l.map simple).getD 0 Pat.zero).kind == 2) = true) (e4 : ¬ ((l.map simple).getD 0 Pat.zero).n = 1) : Calls Tryd.prog 48 #[.agg #[.int .i64 20, .string t, .int .i64 n, .string m, kv]] w (SingleEnd w.heap.size (simple (.mk 20 t n m l)) w) := simple_kinds 20 t n m l kv w h (Or.inr (Or.inr (Or.inr (Or.inr (Or.inr (Or.inr (Or.inr (Or.inr (Or.inr (Or.inr (Or.inr (Or.inr (Or.inr (Or.inr (Or.inr (Or.inr (Or.inr (Or.inr (Or.inr (Or.inr (Or.inr (Or.inr (Or.inr (Or.inr (Or.inr (Or.inr (Or.inl ⟨rfl, e1, e2, e3, e4⟩)))))))))))))))))))))))))))
theorem simple_k21a (t : ByteArray) (n : Int) (m : ByteArray) (l : List Pat) (kv : Value) (w : World) (h : SimpIn (.mk 21 t n m l) kv w) (e1 : (((l.map simple).getD 0 Pat.zero).kind == 15) = true) : Calls Tryd.prog 48 #[.agg #[.int .i64 21, .string t, .int .i64 n, .string m, kv]] w (SingleEnd w.heap.size (simple (.mk 21 t n m l)) w) := simple_kinds 21 t n m l kv w h (Or.inr (Or.inr (Or.inr (Or.inr (Or.inr (Or.inr (Or.inr (Or.inr (Or.inr (Or.inr (Or.inr (Or.inr (Or.inr (Or.inr (Or.inr (Or.inr (Or.inr (Or.inr (Or.inr (Or.inr (Or.inr (Or.inr (Or.inr (Or.inr (Or.inr (Or.inr (Or.inr (Or.inl ⟨rfl, e1⟩))))))))))))))))))))))))))))
theorem simple_k21b (t : ByteArray) (n : Int) (m : ByteArray) (l : List Pat) (kv : Value) (w : World) (h : SimpIn (.mk 21 t n m l) kv w) (e1 : (((l.map simple).getD 0 Pat.zero).kind == 15) = false) (e2 : (((l.map simple).getD 0 Pat.zero).kind == 17) = true) : Calls Tryd.prog 48 #[.agg #[.int .i64 21, .string t, .int .i64 n, .string m, kv]] w (SingleEnd w.heap.size (simple (.mk 21 t n m l)) w) := simple_kinds 21 t n m l kv w h (Or.inr (Or.inr (Or.inr (Or.inr (Or.inr (Or.inr (Or.inr (Or.inr (Or.inr (Or.inr (Or.inr (Or.inr (Or.inr (Or.inr (Or.inr (Or.inr (Or.inr (Or.inr (Or.inr (Or.inr (Or.inr (Or.inr (Or.inr (Or.inr (Or.inr (Or.inr (Or.inr (Or.inr (Or.inl ⟨rfl, e1, e2⟩)))))))))))))))))))))))))))))
theorem simple_k21c (t : ByteArray) (n : Int) (m : ByteArray) (l : List Pat) (kv : Value) (w : World) (h : SimpIn (.mk 21 t n m l) kv w) (e1 : (((l.map simple).getD 0 Pat.zero).kind == 15) = false) (e2 : (((l.map simple).getD 0 Pat.zero).kind == 17) = false) : Calls Tryd.prog 48 #[.agg #[.int .i64 21, .string t, .int .i64 n, .string m, kv]] w (SingleEnd w.heap.size (simple (.mk 21 t n m l)) w) := simple_kinds 21 t n m l kv w h (Or.inr (Or.inr (Or.inr (Or.inr (Or.inr (Or.inr (Or.inr (Or.inr (Or.inr (Or.inr (Or.inr (Or.inr (Or.inr (Or.inr (Or.inr (Or.inr (Or.inr (Or.inr (Or.inr (Or.inr (Or.inr (Or.inr (Or.inr (Or.inr (Or.inr (Or.inr (Or.inr (Or.inr (Or.inr (Or.inl ⟨rfl, e1, e2⟩))))))))))))))))))))))))))))))
theorem simple_k22a (t : ByteArray) (n : Int) (m : ByteArray) (l : List Pat) (kv : Value) (w : World) (h : SimpIn (.mk 22 t n m l) kv w) (e1 : (((l.map simple).getD 0 Pat.zero).kind == 15) = true) : Calls Tryd.prog 48 #[.agg #[.int .i64 22, .string t, .int .i64 n, .string m, kv]] w (SingleEnd w.heap.size (simple (.mk 22 t n m l)) w) := simple_kinds 22 t n m l kv w h (Or.inr (Or.inr (Or.inr (Or.inr (Or.inr (Or.inr (Or.inr (Or.inr (Or.inr (Or.inr (Or.inr (Or.inr (Or.inr (Or.inr (Or.inr (Or.inr (Or.inr (Or.inr (Or.inr (Or.inr (Or.inr (Or.inr (Or.inr (Or.inr (Or.inr (Or.inr (Or.inr (Or.inr (Or.inr (Or.inr (Or.inl ⟨rfl, e1⟩)))))))))))))))))))))))))))))))
theorem simple_k22b (t : ByteArray) (n : Int) (m : ByteArray) (l : List Pat) (kv : Value) (w : World) (h : SimpIn (.mk 22 t n m l) kv w) (e1 : (((l.map simple).getD 0 Pat.zero).kind == 15) = false) (e2 : (((l.map simple).getD 0 Pat.zero).kind == 17) = true) : Calls Tryd.prog 48 #[.agg #[.int .i64 22, .string t, .int .i64 n, .string m, kv]] w (SingleEnd w.heap.size (simple (.mk 22 t n m l)) w) := simple_kinds 22 t n m l kv w h (Or.inr (Or.inr (Or.inr (Or.inr (Or.inr (Or.inr (Or.inr (Or.inr (Or.inr (Or.inr (Or.inr (Or.inr (Or.inr (Or.inr (Or.inr (Or.inr (Or.inr (Or.inr (Or.inr (Or.inr (Or.inr (Or.inr (Or.inr (Or.inr (Or.inr (Or.inr (Or.inr (Or.inr (Or.inr (Or.inr (Or.inr (Or.inl ⟨rfl, e1, e2⟩))))))))))))))))))))))))))))))))
theorem simple_k22c (t : ByteArray) (n : Int) (m : ByteArray) (l : List Pat) (kv : Value) (w : World) (h : SimpIn (.mk 22 t n m l) kv w) (e1 : (((l.map simple).getD 0 Pat.zero).kind == 15) = false) (e2 : (((l.map simple).getD 0 Pat.zero).kind == 17) = false) : Calls Tryd.prog 48 #[.agg #[.int .i64 22, .string t, .int .i64 n, .string m, kv]] w (SingleEnd w.heap.size (simple (.mk 22 t n m l)) w) := simple_kinds 22 t n m l kv w h (Or.inr (Or.inr (Or.inr (Or.inr (Or.inr (Or.inr (Or.inr (Or.inr (Or.inr (Or.inr (Or.inr (Or.inr (Or.inr (Or.inr (Or.inr (Or.inr (Or.inr (Or.inr (Or.inr (Or.inr (Or.inr (Or.inr (Or.inr (Or.inr (Or.inr (Or.inr (Or.inr (Or.inr (Or.inr (Or.inr (Or.inr (Or.inr (Or.inl ⟨rfl, e1, e2⟩)))))))))))))))))))))))))))))))))
theorem simple_k18 (t : ByteArray) (n : Int) (m : ByteArray) (l : List Pat) (kv : Value) (w : World) (h : SimpIn (.mk 18 t n m l) kv w)  : Calls Tryd.prog 48 #[.agg #[.int .i64 18, .string t, .int .i64 n, .string m, kv]] w (SingleEnd w.heap.size (simple (.mk 18 t n m l)) w) := simple_kinds 18 t n m l kv w h (Or.inr (Or.inr (Or.inr (Or.inr (Or.inr (Or.inr (Or.inr (Or.inr (Or.inr (Or.inr (Or.inr (Or.inr (Or.inr (Or.inr (Or.inr (Or.inr (Or.inr (Or.inr (Or.inr (Or.inr (Or.inr (Or.inr (Or.inr (Or.inr (Or.inr (Or.inr (Or.inr (Or.inr (Or.inr (Or.inr (Or.inr (Or.inr (Or.inr (Or.inl rfl))))))))))))))))))))))))))))))))))
theorem simple_k19 (t : ByteArray) (n : Int) (m : ByteArray) (l : List Pat) (kv : Value) (w : World) (h : SimpIn (.mk 19 t n m l) kv w)  : Calls Tryd.prog 48 #[.agg #[.int .i64 19, .string t, .int .i64 n, .string m, kv]] w (SingleEnd w.heap.size (simple (.mk 19 t n m l)) w) := simple_kinds 19 t n m l kv w h (Or.inr (Or.inr (Or.inr (Or.inr (Or.inr (Or.inr (Or.inr (Or.inr (Or.inr (Or.inr (Or.inr (Or.inr (Or.inr (Or.inr (Or.inr (Or.inr (Or.inr (Or.inr (Or.inr (Or.inr (Or.inr (Or.inr (Or.inr (Or.inr (Or.inr (Or.inr (Or.inr (Or.inr (Or.inr (Or.inr (Or.inr (Or.inr (Or.inr (Or.inr (rfl)))))))))))))))))))))))))))))))))))
end Go.Proofs.YtkkdpafkafjfgaaDoor
