/- tune: the law's alive, by itself. -/
import Derived.Test.YtmcfoefhenmjeaaDoorTnMeasL
import Derived.Test.YtmcfoefhenmjeaaDoorTnTwo
namespace Go.Proofs.YtmcfoefhenmjeaaDoor
open Go.RowKit
set_option linter.unusedVariables false
set_option maxRecDepth 100000 in
set_option maxHeartbeats 1000000 in
theorem simple_k2b (t : ByteArray) (n : Int) (m : ByteArray) (l : List Pat) (kv : Value) (w : World) (h : SimpIn (.mk 2 t n m l) kv w) (h1 : n = 0) : Calls Tryd.prog 23 #[.agg #[.int .i64 2, .string t, .int .i64 n, .string m, kv]] w (SingleEnd w.heap.size (simple (.mk 2 t n m l)) w) := by
  have hkq := h.pat.pq.list
  obtain ⟨a, c, rfl, hlm⟩ := hkq.len
  have hlm : l.length ≤ maxLen := hlm
  have hkq : ListIn w (fun b => b < w.heap.size) (.slice a l.length c) l := hkq
  show Calls _ _ #[.agg #[_, _, _, _, .slice a l.length c]] _ _
  unfold maxLen at hlm
  have HNo := hidd ((errW_iff _).1 h.right).1
  have HT := hidd h.tab
  have HPn := hidd (And.intro h.pat.hn (And.intro h.pat.ht h.pat.hm))
  have HRt := hidd (And.intro h.right h.nodes)
  have HK := hidd (fun i (hi : i < l.length) w' (g : Grew w w') kv' (hv : PatV w' kv' (l.getD i Pat.zero)) => kid_end (h.kids (l.getD i Pat.zero) (by rw [List.getD_eq_getElem?_getD, List.getElem?_eq_getElem hi]; exact List.getElem_mem hi) kv' w' g hv))
  have HLq := hidd hkq
  have HW0 : Hid (Grew w ((w.alloc (.cells #[.int .i64 2, .string t, .int .i64 n, .string m, .slice a l.length c] 24)).alloc (.cells #[.int .i64 0, .string ⟨#[]⟩, .int .i64 0, .string ⟨#[]⟩, .slice none 0 0] 24)) ∧ ((w.alloc (.cells #[.int .i64 2, .string t, .int .i64 n, .string m, .slice a l.length c] 24)).alloc (.cells #[.int .i64 0, .string ⟨#[]⟩, .int .i64 0, .string ⟨#[]⟩, .slice none 0 0] 24)).heap[w.heap.size]? = some (.cells #[.int .i64 2, .string t, .int .i64 n, .string m, .slice a l.length c] 24 (0, 0)) ∧ ((w.alloc (.cells #[.int .i64 2, .string t, .int .i64 n, .string m, .slice a l.length c] 24)).alloc (.cells #[.int .i64 0, .string ⟨#[]⟩, .int .i64 0, .string ⟨#[]⟩, .slice none 0 0] 24)).heap[w.heap.size + 1]? = some (.cells #[.int .i64 0, .string ⟨#[]⟩, .int .i64 0, .string ⟨#[]⟩, .slice none 0 0] 24 (0, 0))) :=
    ⟨((Grew.refl w).alloc _).alloc _, heap_more (heap_alloc_new w _), heap_second w _ _⟩
  have hnl : l.length ≤ 4095 := by
    have h1 := h.nodes
    rw [nodesP] at h1
    have := length_le_nodes l
    omega
  have HX : Hid (simple (.mk 2 t n m l) = litP ByteArray.empty) := by
    show makeP _ _ _ _ _ = _
    unfold makeP
    simp [h1]
  rw [HX.out]
  have kz : (n == 0) = true := by rw [beq_iff_eq]; exact h1
  clear h1
  clear h hkq
  go_enter Tryd.func23, Tryd.ntmps23
  go_wp2_with fail
  go_loopw [3, 11] (fun s3 s11 wr => ∃ i : Nat, s11 = .int .i64 i ∧ i ≤ l.length ∧ Hid (PatsOwn wr (w.heap.size + 2) (w.heap.size + 2) s3 ((l.map simple).take i) ∧ Grew ((w.alloc (.cells #[.int .i64 2, .string t, .int .i64 n, .string m, .slice a l.length c] 24)).alloc (.cells #[.int .i64 0, .string ⟨#[]⟩, .int .i64 0, .string ⟨#[]⟩, .slice none 0 0] 24)) wr)) (fun _ s11 _ => l.length - (intOf s11).toNat)
  case atStart => exact ⟨0, rfl, by omega, PatsOwn.nil _ _ _, Grew.refl _⟩
  case round =>
    obtain ⟨i, rfl, hi, HD⟩ := hrel
    by_cases hlt : i < l.length
    · have HGw := hidd (HW0.out.1.trans HD.out.2)
      obtain ⟨b, o, kk, rfl, hnd, hq⟩ := (HLq.out.kept HGw.out).at hlt
      obtain ⟨ka, kn, kc, rfl⟩ := hq.form
      have HS := hidd (simple_take hlt)
      have HC := hidd (HK.out i hlt (wr.alloc (.cells #[.int .i64 (l.getD i Pat.zero).kind, .string (l.getD i Pat.zero).text, .int .i64 (l.getD i Pat.zero).n, .string (l.getD i Pat.zero).name, .slice ka kn kc] 24)) (HGw.out.alloc _) (.slice ka kn kc) (hq.kept ((Grew.refl wr).alloc _)).patV)
      obtain ⟨r, hr⟩ : ∃ r, l.getD i Pat.zero = r := ⟨_, rfl⟩
      rw [hr] at hnd HS HC
      obtain ⟨q, hqs⟩ : ∃ q, simple r = q := ⟨_, rfl⟩
      rw [hqs] at HS HC
      obtain ⟨c0, c1, c2, c3, c4, _, _, _, _⟩ := hnd
      have kl : decide ((i : Int) < (l.length : Int)) = true := decide_eq_true (by omega)
      have hsz := HGw.out.size
      clear hr hq hqs HK
      go_wp2_with fail
      refine HC.out.mono ?_; rintro e w2 ⟨qa, qn, qc, rfl, hq2, g2⟩
      have HG3 := hidd (((Grew.refl wr).alloc (.cells #[.int .i64 r.kind, .string r.text, .int .i64 r.n, .string r.name, .slice ka kn kc] 24)).trans g2)
      have hs0 : w.heap.size + 2 ≤ wr.heap.size := by have := HD.out.2.size; simpa using this
      have hl2 : ((l.map simple).take i).length = i := by rw [List.length_take, List.length_map]; omega
      obtain ⟨v', w', hap, ho, hbel, hgr⟩ := pats_append_one (HD.out.1.kept HG3.out) (Nat.le_trans hs0 HG3.out.size) hq2 (fun b hb _ => ⟨by rw [World.size_alloc] at hb; omega, fun e => by have := HD.out.1.blocks b e; rw [World.size_alloc] at hb; omega⟩) (by rw [hl2]; omega) 22 24
      have ho2 := ho
      rw [← HS.out] at ho2
      have HE := hidd (And.intro ho2 ((HD.out.2.trans HG3.out).below hbel (by simp)))
      clear ho ho2 hbel hgr g2 hq2
      go_wp2_with (at_builtin; refine wpList_append_eq rfl rfl rfl rfl hap ?_)
      go_roundw
      case rel => exact ⟨i + 1, by go_num, by omega, HE⟩
      case measure => simp [intOf]; omega
    · have hie : i = l.length := by omega
      have kl : decide ((i : Int) < (l.length : Int)) = false := decide_eq_false (by omega)
      have HE := hidd HD.out.1
      rw [show (l.map simple).take i = l.map simple from by rw [hie, show l.length = (l.map simple).length from (List.length_map _).symm, List.take_length]] at HE
      have HGw := hidd (HW0.out.1.trans HD.out.2)
      have HB := hidd (heap_kept HD.out.2 HW0.out.2.1)
      have HZ := hidd (heap_kept HD.out.2 HW0.out.2.2)
      have hsz := HGw.out.size
      clear HD hie HK HW0 HLq
      obtain ⟨⟨b0, b1, b2, b3, b4⟩, bf⟩ := five_cells HB.out
      obtain ⟨⟨f0, f1, f2, f3, f4⟩, ff⟩ := five_cells (heap_more (o := (.cells #[.int .i64 2, .string ⟨#[]⟩, .int .i64 0, .string ⟨#[]⟩, .slice none 0 0] 24)) HB.out)
      obtain ⟨⟨z0, z1, z2, z3, z4⟩, zf⟩ := five_cells (heap_more (o := (.cells #[.int .i64 2, .string ⟨#[]⟩, .int .i64 0, .string ⟨#[]⟩, .slice none 0 0] 24)) HZ.out)
      obtain ⟨⟨o0, o1, o2, o3, o4⟩, of⟩ := five_cells (heap_alloc_new wr (.cells #[.int .i64 2, .string ⟨#[]⟩, .int .i64 0, .string ⟨#[]⟩, .slice none 0 0] 24))
      obtain ⟨⟨f'0, f'1, f'2, f'3, f'4⟩, f'f⟩ := five_cells (heap_more (o := (.cells #[.int .i64 2, .string ⟨#[]⟩, .int .i64 n, .string ⟨#[]⟩, .slice none 0 0] 24)) HB.out)
      obtain ⟨⟨z'0, z'1, z'2, z'3, z'4⟩, z'f⟩ := five_cells (heap_more (o := (.cells #[.int .i64 2, .string ⟨#[]⟩, .int .i64 n, .string ⟨#[]⟩, .slice none 0 0] 24)) HZ.out)
      obtain ⟨⟨o'0, o'1, o'2, o'3, o'4⟩, o'f⟩ := five_cells (heap_alloc_new wr (.cells #[.int .i64 2, .string ⟨#[]⟩, .int .i64 n, .string ⟨#[]⟩, .slice none 0 0] 24))
      go_wp2_with fail
      refine (lit_exact _ _).mono ?_; rintro e w9 ⟨rfl, hw9⟩
      have HG9 : Hid (Grew wr w9) := hidd (by rw [hw9]; exact ((Grew.refl wr).alloc _).alloc _)
      obtain ⟨⟨q0, q1, q2, q3, q4⟩, qf⟩ := five_cells (heap_kept HG9.out HZ.out)
      clear hw9
      go_wp2_with fail
      exact bodyPost_ret (results_pat (rb := w.heap.size + 1) rfl rfl (setPat_heap (heap_kept HG9.out HZ.out)) rfl) rfl (leaf_end (litP ByteArray.empty) (nums_leaf (by omega) zero_in none_size none_size) rfl (setPat_grew (HGw.out.trans HG9.out) (by omega) _ _ _ _ _))
def SimplifyEnd (p : Pat) (w : World) (e : Ending) (w' : World) : Prop :=
  (patErr p = 0 ∧ ∃ a n c, e = .returned (.tuple #[.agg #[.int .i64 (simple p).kind, .string (simple p).text, .int .i64 (simple p).n, .string (simple p).name, .slice a n c], .int .i64 0]) ∧ PQ w' (fun b => w.heap.size ≤ b) (.slice a n c) (simple p) ∧ Grew w w') ∨
  (patErr p ≠ 0 ∧ e = .returned (.tuple #[.agg #[.int .i64 0, .string ⟨#[]⟩, .int .i64 0, .string ⟨#[]⟩, .slice none 0 0], .int .i64 (patErr p)]) ∧ Grew w w')
set_option maxRecDepth 100000 in
set_option maxHeartbeats 1000000 in
theorem Simplify_by (p : Pat) (kv : Value) (w : World) (hv : PatV w kv p) (hT : TabZ w) (hsim : patErr p = 0 → ∀ w1, Grew w w1 → Calls Tryd.prog 23 #[.agg (p.cells kv)] w1 (SingleEnd w1.heap.size (simple p) w1)) :
    Calls Tryd.prog 10 #[.agg (p.cells kv)] w (SimplifyEnd p w) := by
  have HV := hidd (And.intro hv hT)
  have HW : Hid (∀ w1, Grew w w1 → Calls Tryd.prog 11 #[.agg (p.cells kv)] w1 fun e w' => e = .returned (.int .i64 (patErr p)) ∧ Grew w1 w') := fun w1 g => Wrong_any kv p w1 (hv.kept g)
  clear hv hT
  rw [cells_eq] at HW ⊢
  have HH0 : Hid (Grew w ((w.alloc (.cells #[.int .i64 p.kind, .string p.text, .int .i64 p.n, .string p.name, kv] 24)).alloc (.cells #[.int .i64 0, .string ⟨#[]⟩, .int .i64 0, .string ⟨#[]⟩, .slice none 0 0] 24)) ∧ ((w.alloc (.cells #[.int .i64 p.kind, .string p.text, .int .i64 p.n, .string p.name, kv] 24)).alloc (.cells #[.int .i64 0, .string ⟨#[]⟩, .int .i64 0, .string ⟨#[]⟩, .slice none 0 0] 24)).heap[w.heap.size]? = some (.cells #[.int .i64 p.kind, .string p.text, .int .i64 p.n, .string p.name, kv] 24 (0, 0)) ∧ ((w.alloc (.cells #[.int .i64 p.kind, .string p.text, .int .i64 p.n, .string p.name, kv] 24)).alloc (.cells #[.int .i64 0, .string ⟨#[]⟩, .int .i64 0, .string ⟨#[]⟩, .slice none 0 0] 24)).heap[w.heap.size + 1]? = some (.cells #[.int .i64 0, .string ⟨#[]⟩, .int .i64 0, .string ⟨#[]⟩, .slice none 0 0] 24 (0, 0))) :=
    ⟨((Grew.refl w).alloc _).alloc _, heap_more (heap_alloc_new w _), heap_second w _ _⟩
  by_cases h0 : patErr p = 0
  · have HE := hidd h0
    rw [h0] at HW
    have HS : Hid (∀ w1, Grew w w1 → Calls Tryd.prog 23 #[.agg (p.cells kv)] w1 (SingleEnd w1.heap.size (simple p) w1)) := hsim h0
    rw [cells_eq] at HS
    clear h0
    go_enter Tryd.func10, Tryd.ntmps10
    go_wp2_with fail
    refine (HW.out _ HH0.out.1).mono ?_; rintro e w1 ⟨rfl, g1⟩
    have HG1 := hidd (HH0.out.1.trans g1)
    have HB1 := hidd (heap_kept g1 HH0.out.2.1)
    have HZ1 := hidd (heap_kept g1 HH0.out.2.2)
    clear g1
    obtain ⟨⟨b0, b1, b2, b3, b4⟩, bf⟩ := five_cells HB1.out
    go_wp2_with fail
    refine (HS.out _ HG1.out).mono ?_; rintro e w2 ⟨kv2, rfl, hq, g2⟩
    obtain ⟨qa, qn, qc, rfl⟩ := hq.form
    have HG2 := hidd (HG1.out.trans g2)
    have HZ2 := hidd (heap_kept g2 HZ1.out)
    have HQ := hidd hq
    have hs : w.heap.size + 1 < w1.heap.size := (Array.getElem?_eq_some_iff.1 HZ1.out).1
    obtain ⟨⟨z0, z1, z2, z3, z4⟩, zf⟩ := five_cells HZ2.out
    rw [cells_eq]
    obtain ⟨X, hX⟩ : ∃ X, simple p = X := ⟨_, rfl⟩
    rw [hX] at HQ ⊢
    have HXX := hidd hX
    clear g2 hq hX b0 b1 b2 b3 b4 bf HB1 HZ1 HH0
    go_wp2_with fail
    refine bodyPost_ret (results_pat2 rfl rfl rfl (setPat_heap HZ2.out) rfl) rfl (Or.inl ⟨HE.out, ?_⟩)
    rw [HXX.out]
    obtain ⟨v, h1, h2, h3⟩ := own_end X (N0 := w.heap.size) (w0 := w) HQ.out hs (by omega) HG2.out (Nat.le_succ _) (.int .i64 X.kind) (.string X.text) (.int .i64 X.n) (.string X.name) (.slice qa qn qc)
    cases h1
    exact ⟨qa, qn, qc, rfl, h2, h3⟩
  · have HE := hidd h0
    obtain ⟨z, hz⟩ : ∃ z, patErr p = z := ⟨_, rfl⟩
    rw [hz] at HW
    have kz : (z == 0) = false := by rw [beq_eq_false_iff_ne, ← hz]; exact h0
    have HZZ := hidd hz
    clear h0 hz
    go_enter Tryd.func10, Tryd.ntmps10
    go_wp2_with fail
    refine (HW.out _ HH0.out.1).mono ?_; rintro e w1 ⟨rfl, g1⟩
    have HG1 := hidd (HH0.out.1.trans g1)
    have HZ1 := hidd (heap_kept g1 HH0.out.2.2)
    clear g1
    obtain ⟨⟨z0, z1, z2, z3, z4⟩, zf⟩ := five_cells HZ1.out
    go_wp2_with fail
    exact bodyPost_ret (results_pat2 rfl rfl rfl (setPat_heap HZ1.out) rfl) rfl (Or.inr ⟨HE.out, by rw [HZZ.out]; rfl, setPat_grew HG1.out (Nat.le_succ _) _ _ _ _ _⟩)
def lengthOf (p : Pat) : Int × Int × Int := if patErr p = 0 then (if (measureP p).never = true then (0, 0, 6) else ((measureP p).least, (measureP p).most, 0)) else (0, 0, patErr p)
set_option maxRecDepth 100000 in
set_option maxHeartbeats 1000000 in
theorem Length_by (p : Pat) (kv : Value) (w : World) (hv : PatV w kv p) (hmea : patErr p = 0 → ∀ w1, Grew (w.alloc (.cells #[.int .i64 p.kind, .string p.text, .int .i64 p.n, .string p.name, kv] 24)) w1 → Calls Tryd.prog 30 #[.pointer (some ⟨w.heap.size, 0, none⟩)] w1 (MeasEnd (measureP p) w1)) :
    Calls Tryd.prog 15 #[.agg (p.cells kv)] w fun e w' => e = .returned (.tuple #[.int .i64 (lengthOf p).1, .int .i64 (lengthOf p).2.1, .int .i64 (lengthOf p).2.2]) ∧ Grew w w' := by
  have HW : Hid (∀ w1, Grew w w1 → Calls Tryd.prog 11 #[.agg (p.cells kv)] w1 fun e w' => e = .returned (.int .i64 (patErr p)) ∧ Grew w1 w') := fun w1 g => Wrong_any kv p w1 (hv.kept g)
  have HB := hidd (hv.box 24)
  have HH0 : Hid ((w.alloc (.cells (p.cells kv) 24)).heap[w.heap.size]? = some (.cells (p.cells kv) 24 (0, 0))) := heap_alloc_new w _
  clear hv
  rw [cells_eq] at HW HB HH0 ⊢
  by_cases h0 : patErr p = 0
  · have HM : Hid (∀ w1, Grew (w.alloc (.cells #[.int .i64 p.kind, .string p.text, .int .i64 p.n, .string p.name, kv] 24)) w1 → Calls Tryd.prog 30 #[.pointer (some ⟨w.heap.size, 0, none⟩)] w1 (MeasEnd (measureP p) w1)) := hmea h0
    rw [h0] at HW
    have HL : Hid (lengthOf p = if (measureP p).never = true then (0, 0, 6) else ((measureP p).least, (measureP p).most, 0)) := if_pos h0
    rw [HL.out]
    obtain ⟨B, hB⟩ : ∃ B, measureP p = B := ⟨_, rfl⟩
    rw [hB] at HM ⊢
    obtain ⟨bl, bm, bn⟩ := B
    clear h0 hB HL HB
    unfold MeasEnd Bd.cells at HM
    cases bn
    all_goals
      go_enter Tryd.func15, Tryd.ntmps15
      go_wp2_with fail
      refine (HW.out _ ((Grew.refl w).alloc _)).mono ?_; rintro e w1 ⟨rfl, g1⟩
      have HG := hidd g1
      clear g1
      go_wp2_with fail
      refine (HM.out _ HG.out).mono ?_; rintro e w2 ⟨rfl, g2⟩
      have HG2 := hidd (((Grew.refl w).alloc _).trans (HG.out.trans g2))
      clear g2
      go_wp2_with fail
    · go_region_with fail
      all_goals
        go_wp2_with fail
        exact bodyPost_ret (by simp [results, Tryd.results15]) rfl ⟨rfl, (HG2.out.alloc _).drew⟩
    · exact bodyPost_ret (by simp [results, Tryd.results15]) rfl ⟨rfl, HG2.out.alloc _⟩
  · have HL : Hid (lengthOf p = (0, 0, patErr p)) := if_neg h0
    rw [HL.out]
    obtain ⟨z, hz⟩ : ∃ z, patErr p = z := ⟨_, rfl⟩
    rw [hz] at HW ⊢
    have kz : (z == 0) = false := by rw [beq_eq_false_iff_ne, ← hz]; exact h0
    clear h0 hz HL HB
    go_enter Tryd.func15, Tryd.ntmps15
    go_wp2_with fail
    refine (HW.out _ ((Grew.refl w).alloc _)).mono ?_; rintro e w1 ⟨rfl, g1⟩
    have HG := hidd (((Grew.refl w).alloc _).trans g1)
    clear g1
    go_wp2_with fail
    refine bodyPost_ret (by simp [results, Tryd.results15]) rfl ⟨rfl, HG.out⟩
theorem alive_len : patErr (numP 2 0) = 0 := by rfl
theorem alive_simple : simple (numP 2 0) = litP ByteArray.empty := by rfl
def abc : ByteArray := ⟨#[97, 98, 99]⟩
theorem alive_lit : lengthOf (litP abc) = (3, 3, 0) := by rfl
theorem pv_leaf (k : Int) (t : ByteArray) (n : Int) (w : World) (hk : -9223372036854775808 ≤ k ∧ k ≤ 9223372036854775807) (hn : -9223372036854775808 ≤ n ∧ n ≤ 9223372036854775807) (ht : t.size ≤ maxLen) : PatV w (.slice none 0 0) (.mk k t n ByteArray.empty []) := ⟨Or.inl ⟨none, 0, rfl, rfl⟩, hk, hn, ht, Nat.zero_le _⟩
theorem simple_leaf (w : World) (hT : TabZ w) (h0 : patErr (numP 2 0) = 0) (w1 : World) (g : Grew w w1) : Calls Tryd.prog 23 #[.agg ((numP 2 0).cells (.slice none 0 0))] w1 (SingleEnd w1.heap.size (simple (numP 2 0)) w1) := by
  obtain ⟨h1, h2, _⟩ := (patErr_iff _).1 h0
  exact simple_k2b ByteArray.empty 0 ByteArray.empty [] (.slice none 0 0) w1 ⟨pv_leaf 2 ByteArray.empty 0 w1 (by omega) (by omega) (Nat.zero_le _), h1, h2, hT.kept g, fun q hq => by cases hq⟩ rfl
theorem measure_leaf (w : World) (h0 : patErr (litP abc) = 0) (w1 : World) (g : Grew (w.alloc (.cells #[.int .i64 (litP abc).kind, .string (litP abc).text, .int .i64 (litP abc).n, .string (litP abc).name, .slice none 0 0] 24)) w1) : Calls Tryd.prog 30 #[.pointer (some ⟨w.heap.size, 0, none⟩)] w1 (MeasEnd (measureP (litP abc)) w1) := by
  obtain ⟨h1, _⟩ := (errW_iff _).1 ((patErr_iff _).1 h0).1
  have hb := (((pv_leaf 1 abc 0 w (by omega) (by omega) (by show 3 ≤ maxLen; unfold maxLen; omega)).box 24).kept g)
  obtain ⟨kv, hn, _⟩ := hb.open
  exact meas_k1 abc 0 ByteArray.empty [] w.heap.size 0 kv w1 ⟨hn, h1, fun h => absurd h (by decide), fun i hi => absurd hi (by show ¬ i < 0; omega)⟩
set_option maxRecDepth 100000 in
set_option maxHeartbeats 1000000 in
theorem alive_any (w : World) (hT : TabZ w) : Calls Tryd.prog 9 #[] w fun e w' => e = .returned (.bool true) ∧ Grew w w' := by
  have HS : Hid (∀ w1, Grew w w1 → Calls Tryd.prog 10 #[.agg #[.int .i64 2, .string ⟨#[]⟩, .int .i64 0, .string ⟨#[]⟩, .slice none 0 0]] w1 fun e w' => ∃ a n c, e = .returned (.tuple #[.agg #[.int .i64 1, .string ⟨#[]⟩, .int .i64 0, .string ⟨#[]⟩, .slice a n c], .int .i64 0]) ∧ Grew w1 w') := hidd fun w1 g =>
    (Simplify_by (numP 2 0) (.slice none 0 0) w1 (pv_leaf 2 ByteArray.empty 0 w1 (by omega) (by omega) (Nat.zero_le _)) (hT.kept g) (simple_leaf w1 (hT.kept g))).mono fun e w' h => by
      rcases h with ⟨_, a, n, c, h1, _, h3⟩ | ⟨h, _⟩
      · exact ⟨a, n, c, h1, h3⟩
      · exact absurd alive_len h
  have HL : Hid (∀ w1, Calls Tryd.prog 15 #[.agg #[.int .i64 1, .string ⟨#[97, 98, 99]⟩, .int .i64 0, .string ⟨#[]⟩, .slice none 0 0]] w1 fun e w' => e = .returned (.tuple #[.int .i64 3, .int .i64 3, .int .i64 0]) ∧ Grew w1 w') := hidd fun w1 =>
    (Length_by (litP abc) (.slice none 0 0) w1 (pv_leaf 1 abc 0 w1 (by omega) (by omega) (by show 3 ≤ maxLen; unfold maxLen; omega)) (measure_leaf w1)).mono fun e w' h => ⟨h.1.trans (by rw [alive_lit]), h.2⟩
  clear hT
  go_enter Tryd.func9, Tryd.ntmps9
  go_wp2_with fail
  refine (HS.out w (Grew.refl w)).mono ?_; rintro e w1 ⟨a, n, c, rfl, g1⟩
  have HG1 := hidd g1
  clear g1
  go_wp2_with fail
  refine (HL.out _).mono ?_; rintro e w2 ⟨rfl, g2⟩
  have HG2 := hidd ((HG1.out.alloc _).trans g2)
  obtain ⟨⟨p0, p1, p2, p3, p4⟩, pf⟩ := five_cells (heap_kept g2 (heap_alloc_new w1 _))
  clear g2
  go_wp2_with fail
  go_ret
  exact ⟨rfl, HG2.out⟩
end Go.Proofs.YtmcfoefhenmjeaaDoor
