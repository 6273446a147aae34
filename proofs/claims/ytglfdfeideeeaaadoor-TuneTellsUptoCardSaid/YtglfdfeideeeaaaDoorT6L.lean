/- The document's Simple at pieces and at alternatives. Printed. -/
import Derived.Test.YtglfdfeideeeaaaDoorT6N
import Derived.Test.YtglfdfeideeeaaaDoorT6Y
namespace Go.Proofs.YtglfdfeideeeaaaDoor
open Go.RowKit RR
set_option linter.unusedVariables false
theorem ListIn.lt2 {w : World} {Q : Nat → Prop} {v : Value} {l : List Pat} (h : ListIn w Q v l) : ListIn w (fun b => Q b ∧ b < w.heap.size) v l := h.mono fun b h1 h2 => ⟨h1, h2⟩
theorem single6_any (p : Pat) (kv : Value) (w : World) (ht : p.text.size ≤ maxLen) : Calls Tryd.prog 49 #[.agg #[.int .i64 p.kind, .string p.text, .int .i64 p.n, .string p.name, kv]] w fun e w' => e = .returned (.bool (oneB p)) ∧ Grew w w' := by
  have HE : Hid (oneB p = (p.kind == 3 || (p.kind == 1 && p.text.size == 1))) := rfl
  unfold maxLen at ht
  cases h3 : p.kind == 3 with
  | true =>
    rw [h3] at HE
    go_enter Tryd.func49, Tryd.ntmps49
    go_wp2_with fail
    go_ret
    exact ⟨by rw [HE.out]; rfl, (Grew.refl w).alloc _⟩
  | false =>
    cases h1 : p.kind == 1 with
    | false =>
      rw [h3, h1] at HE
      go_enter Tryd.func49, Tryd.ntmps49
      go_wp2_with fail
      go_ret
      exact ⟨by rw [HE.out]; rfl, (Grew.refl w).alloc _⟩
    | true =>
      cases hs : p.text.size == 1 with
      | true =>
        rw [h3, h1, hs] at HE
        have hs2 : (((p.text.size : Nat) : Int) == 1) = true := by rw [beq_iff_eq] at hs ⊢; omega
        go_enter Tryd.func49, Tryd.ntmps49
        go_wp2_with fail
        go_ret
        exact ⟨by rw [HE.out]; rfl, (Grew.refl w).alloc _⟩
      | false =>
        rw [h3, h1, hs] at HE
        have hs2 : (((p.text.size : Nat) : Int) == 1) = false := by rw [beq_eq_false_iff_ne] at hs ⊢; omega
        go_enter Tryd.func49, Tryd.ntmps49
        go_wp2_with fail
        go_ret
        exact ⟨by rw [HE.out]; rfl, (Grew.refl w).alloc _⟩
theorem nodes_simpleL : ∀ l : List Pat, nodesL (l.map simple) ≤ nodesL l
  | [] => Nat.le_refl _
  | p :: l => by
    rw [List.map_cons, nodesL, nodesL]
    have := simple_nodes p
    have := nodes_simpleL l
    omega
theorem kids6_right (k : Int) {l : List Pat} (h : ∀ p ∈ l, errW p = 0) : ∀ q ∈ kids6 k l, errW q = 0 := fun q hq => flatP_all right_kids h q ((List.mem_filter.1 (upToP_mem q hq)).1)
theorem upToP_len6 (f : Pat → Bool) : ∀ l : List Pat, (upToP f l).length ≤ l.length
  | [] => Nat.le_refl _
  | p :: l => by
    rw [upToP]
    split
    · simp
    · have := upToP_len6 f l; simp; omega
theorem kids6_len (k : Int) (l : List Pat) : (kids6 k l).length ≤ nodesL l := by
  have h1 := upToP_len6 endsB ((flatP k l).filter fun p => !skipK k p)
  have h2 : ((flatP k l).filter fun p => !skipK k p).length ≤ (flatP k l).length := List.length_filter_le ..
  have h3 := flat_len k l
  unfold kids6
  omega
theorem one_size {p : Pat} (h : errW p = 0) (h1 : oneB p = true) : p.text.size ≤ 65536 := by
  have hn := ((errW_iff p).1 h).1
  unfold oneB at h1
  rw [Bool.or_eq_true, Bool.and_eq_true, beq_iff_eq, beq_iff_eq] at h1
  rcases h1 with h1 | ⟨h1, _⟩
  · exact (hn.text (Or.inl h1)).2
  · exact hn.lit h1
theorem sub_int (i : Nat) {k : Nat} {x y : Operand} (w : World) (hk : k + 1 = i) (hi : i < 9223372036854775807) : (do eqGuard .sub 3 x y (.int .i64 (i : Int)) (.int .i64 1); binOp .sub 3 (.int .i64 (i : Int)) (.int .i64 1) : Sem Value).run Tryd.prog w = .ok (.int .i64 (k : Int)) w := by
  subst hk
  have := sub_one k (x := x) (y := y) w (by omega)
  rw [show ((k + 1 : Nat) : Int) = (k : Int) + 1 by omega]
  exact this
theorem add_int (i : Nat) {x y : Operand} (w : World) (hi : i < 9223372036854775806) : (do eqGuard .add 3 x y (.int .i64 (i : Int)) (.int .i64 1); binOp .add 3 (.int .i64 (i : Int)) (.int .i64 1) : Sem Value).run Tryd.prog w = .ok (.int .i64 ((i + 1 : Nat) : Int)) w := by
  have : IntKind.i64.wrap ((i : Int) + 1) = ((i + 1 : Nat) : Int) := by rw [IntKind.wrap_i64]; omega
  simp [eqGuard, binOp, Op.intArith, this]
set_option maxRecDepth 100000 in
set_option maxHeartbeats 4000000 in
theorem simR_kids (p : Pat) (kv : Value) (w : World) (h : SimKids p kv w) (hk0 : 0 < p.kids.length) {MM : ByteArray} (hMM : MM.size ≤ maxLen) (hbq : bareQ p = .mk p.kind ByteArray.empty 0 MM (p.kids.map bareQ)) {y X : Pat} (hy : (p.kids.map simple).getD 0 Pat.zero = y) (t3 : (p.kind == 3) = false) (t4 : (p.kind == 4) = false) (t5 : (p.kind == 5) = false) (t6 : (p.kind == 6) = false) (t7 : (p.kind == 7) = false) (t2 : (p.kind == 2) = false) (t9 : (p.kind == 9) = false)
    (hc : ((p.kind == 18) = true ∧ (p.kind == 19) = false ∧ (p.kind == 20) = false ∧ (p.kind == 21) = false ∧ (p.kind == 22) = false ∧ MM = ByteArray.empty ∧ X = singleP 18 (litP ByteArray.empty) (mergedP piecesP (kids6 18 (p.kids.map simple)))) ∨ ((p.kind == 18) = false ∧ (p.kind == 19) = true ∧ (p.kind == 20) = false ∧ (p.kind == 21) = false ∧ (p.kind == 22) = false ∧ MM = ByteArray.empty ∧ X = singleP 19 (bareP 15) (mergedP othersP (kids6 19 (p.kids.map simple)))) ∨ ((p.kind == 18) = false ∧ (p.kind == 19) = false ∧ (p.kind == 20) = true ∧ (p.kind == 21) = false ∧ (p.kind == 22) = false ∧ (y.kind == 15) = true ∧ X = litP ByteArray.empty) ∨ ((p.kind == 18) = false ∧ (p.kind == 19) = false ∧ (p.kind == 20) = true ∧ (p.kind == 21) = false ∧ (p.kind == 22) = false ∧ (y.kind == 15) = false ∧ (y.kind == 1) = true ∧ y.text.toList.isEmpty = true ∧ X = litP ByteArray.empty) ∨ ((p.kind == 18) = false ∧ (p.kind == 19) = false ∧ (p.kind == 20) = true ∧ (p.kind == 21) = false ∧ (p.kind == 22) = false ∧ (y.kind == 15) = false ∧ (y.kind == 1) = false ∧ (y.kind == 2) = true ∧ (y.n == 1) = true ∧ X = bareP 13) ∨ ((p.kind == 18) = false ∧ (p.kind == 19) = false ∧ (p.kind == 20) = true ∧ (p.kind == 21) = false ∧ (p.kind == 22) = false ∧ (y.kind == 15) = false ∧ (y.kind == 1) = true ∧ y.text.toList.isEmpty = false ∧ (y.kind == 2) = false ∧ X = .mk p.kind ByteArray.empty 0 MM (p.kids.map simple)) ∨ ((p.kind == 18) = false ∧ (p.kind == 19) = false ∧ (p.kind == 20) = true ∧ (p.kind == 21) = false ∧ (p.kind == 22) = false ∧ (y.kind == 15) = false ∧ (y.kind == 1) = false ∧ (y.kind == 2) = false ∧ X = .mk p.kind ByteArray.empty 0 MM (p.kids.map simple)) ∨ ((p.kind == 18) = false ∧ (p.kind == 19) = false ∧ (p.kind == 20) = true ∧ (p.kind == 21) = false ∧ (p.kind == 22) = false ∧ (y.kind == 15) = false ∧ (y.kind == 1) = false ∧ (y.kind == 2) = true ∧ (y.n == 1) = false ∧ X = .mk p.kind ByteArray.empty 0 MM (p.kids.map simple)) ∨ ((p.kind == 18) = false ∧ (p.kind == 19) = false ∧ (p.kind == 20) = false ∧ (p.kind == 21) = true ∧ (p.kind == 22) = false ∧ (y.kind == 15) = true ∧ X = y) ∨ ((p.kind == 18) = false ∧ (p.kind == 19) = false ∧ (p.kind == 20) = false ∧ (p.kind == 21) = true ∧ (p.kind == 22) = false ∧ (y.kind == 15) = false ∧ (y.kind == 17) = true ∧ X = y) ∨ ((p.kind == 18) = false ∧ (p.kind == 19) = false ∧ (p.kind == 20) = false ∧ (p.kind == 21) = true ∧ (p.kind == 22) = false ∧ (y.kind == 15) = false ∧ (y.kind == 17) = false ∧ X = .mk p.kind ByteArray.empty 0 MM (p.kids.map simple)) ∨ ((p.kind == 18) = false ∧ (p.kind == 19) = false ∧ (p.kind == 20) = false ∧ (p.kind == 21) = false ∧ (p.kind == 22) = true ∧ (y.kind == 15) = true ∧ X = y) ∨ ((p.kind == 18) = false ∧ (p.kind == 19) = false ∧ (p.kind == 20) = false ∧ (p.kind == 21) = false ∧ (p.kind == 22) = true ∧ (y.kind == 15) = false ∧ (y.kind == 17) = true ∧ X = y) ∨ ((p.kind == 18) = false ∧ (p.kind == 19) = false ∧ (p.kind == 20) = false ∧ (p.kind == 21) = false ∧ (p.kind == 22) = true ∧ (y.kind == 15) = false ∧ (y.kind == 17) = false ∧ X = .mk p.kind ByteArray.empty 0 MM (p.kids.map simple))) : Calls Tryd.prog 14 #[.agg (p.cells kv)] w (SingleEnd w.heap.size X w) := by
  have HB : Hid (Calls Tryd.prog 45 #[.agg (p.cells kv)] ((w.alloc (.cells #[.int .i64 p.kind, .string p.text, .int .i64 p.n, .string p.name, kv] 24)).alloc (.cells #[.int .i64 0, .string ⟨#[]⟩, .int .i64 0, .string ⟨#[]⟩, .slice none 0 0] 24)) fun e w' => ∃ a n c, e = .returned (.agg #[.int .i64 p.kind, .string ⟨#[]⟩, .int .i64 0, .string MM, .slice a n c]) ∧ PatsOwn w' (w.heap.size + 1 + 1) (w.heap.size + 1 + 1) (.slice a n c) (p.kids.map bareQ) ∧ Grew ((w.alloc (.cells #[.int .i64 p.kind, .string p.text, .int .i64 p.n, .string p.name, kv] 24)).alloc (.cells #[.int .i64 0, .string ⟨#[]⟩, .int .i64 0, .string ⟨#[]⟩, .slice none 0 0] 24)) w') := by
    have := Bare_any p kv ((w.alloc (.cells #[.int .i64 p.kind, .string p.text, .int .i64 p.n, .string p.name, kv] 24)).alloc (.cells #[.int .i64 0, .string ⟨#[]⟩, .int .i64 0, .string ⟨#[]⟩, .slice none 0 0] 24)) (h.pat.kept (((Grew.refl w).alloc _).alloc _)) h.nodes
    rw [hbq, World.size_alloc, World.size_alloc] at this
    refine this.mono ?_
    rintro e w' ⟨a, n, c, h1, h2, _, h3⟩
    exact ⟨a, n, c, h1, h2, h3⟩
  have HKs := hidd (fun i (hi : i < p.kids.length) kv' w' (g : Grew w w') (hv : PatV w' kv' (bareQ (p.kids.getD i Pat.zero))) => simR_kid (h.kids _ (kid_nodes hi) (kid_right h.right hi) kv' w' g hv))
  have hnl : p.kids.length ≤ 4095 := by
    have h1 := h.nodes
    obtain ⟨k, t, n, m, l⟩ := p
    rw [nodesP] at h1
    have := length_le_nodes l
    show l.length ≤ 4095
    omega
  have HPk := hidd (And.intro h.pat.hk (And.intro hMM (And.intro h.right h.nodes)))
  have HY := hidd hy
  have HCs := hidd hc
  have HLr : Hid (∀ q ∈ p.kids.map simple, errW q = 0) := fun q hq => by
    obtain ⟨r, hr, rfl⟩ := List.mem_map.1 hq
    refine simple_right r (((errW_iff p).1 h.right).2 r hr) ?_
    have h1 := h.nodes
    obtain ⟨k, t, n, m, l⟩ := p
    rw [nodesP] at h1
    have := nodes_mem6 (show r ∈ l from hr)
    omega
  have HLn : Hid (nodesL (p.kids.map simple) ≤ 4096) := by
    have h1 := h.nodes
    obtain ⟨k, t, n, m, l⟩ := p
    rw [nodesP] at h1
    have := nodes_simpleL l
    exact Nat.le_trans this (by omega)
  clear hy hc
  obtain ⟨B, hB⟩ : ∃ B, p.kids.map bareQ = B := ⟨_, rfl⟩
  have hBl : B.length = p.kids.length := by rw [← hB, List.length_map]
  have hB0 : 0 < B.length := by omega
  have hB2 : B.length ≤ 4095 := by omega
  have HBl := hidd hBl
  have HBg : Hid (∀ i, i < B.length → bareQ (p.kids.getD i Pat.zero) = B.getD i Pat.zero) := fun i hi => by
    rw [← hB, List.getD_eq_getElem?_getD, List.getD_eq_getElem?_getD, List.getElem?_map, List.getElem?_eq_getElem (by omega)]; rfl
  have HBe : Hid (mixL B B.length = p.kids.map simple) := by rw [← hB]; exact mix_end p.kids
  rw [hB] at HB
  obtain ⟨L, hL⟩ : ∃ L, p.kids.map simple = L := ⟨_, rfl⟩
  rw [hL] at HBe
  rw [cells_eq] at HB ⊢
  have HL := hidd hL
  clear h hbq hB hMM hBl hL
  go_enter Tryd.func14, Tryd.ntmps14
  go_wp2_with fail
  refine HB.out.mono ?_; rintro e w1 ⟨qa, qn, qc, rfl, ho, hg⟩
  obtain ⟨g, qc2, hv, hgB, hgl⟩ : ∃ g cap, Value.slice qa qn qc = .slice (some ⟨g, 0, none⟩) B.length cap ∧ w.heap.size + 1 + 1 ≤ g ∧ g < w1.heap.size := by
    obtain ⟨kvs, h1, h2, h3⟩ := ho.rep
    exact h2.form (by omega)
  obtain ⟨rfl, rfl, rfl⟩ : qa = some ⟨g, 0, none⟩ ∧ qn = B.length ∧ qc = qc2 := by cases hv; exact ⟨rfl, rfl, rfl⟩
  clear hv
  have S0 := hidd (SimSt.start (p := p) (kv := kv) (k := p.kind) (t := ⟨#[]⟩) (n := 0) (m := MM) (v := .slice (some ⟨g, 0, none⟩) B.length qc) hg)
  have O0 := hidd (ho.kept ((Grew.refl w1).alloc (.cells #[.int .i64 p.kind, .string ⟨#[]⟩, .int .i64 0, .string MM, .slice (some ⟨g, 0, none⟩) B.length qc] 24)))
  clear ho hg HB
  go_wp2_with fail
  generalize hqb0 : w1.heap.size = qb at S0 hgl ⊢
  generalize w1.alloc (.cells #[.int .i64 p.kind, .string ⟨#[]⟩, .int .i64 0, .string MM, .slice (some ⟨g, 0, none⟩) B.length qc] 24) = W1 at S0 O0 ⊢
  clear hqb0
  go_loopw [17] (fun s17 wr => ∃ i : Nat, s17 = .int .i64 i ∧ i ≤ B.length ∧ Hid (SimSt w p kv qb wr p.kind ⟨#[]⟩ 0 MM (.slice (some ⟨g, 0, none⟩) B.length qc) ∧ PatsOwn wr (w.heap.size + 1 + 1) (w.heap.size + 1 + 1) (.slice (some ⟨g, 0, none⟩) B.length qc) (mixL B i) ∧ HiAt wr g (qb + 1) B i)) (fun s17 _ => B.length - (intOf s17).toNat)
  case atStart => exact ⟨0, rfl, by omega, S0.out, O0.out, fun j hj => absurd hj (by omega)⟩
  case round =>
    obtain ⟨i, rfl, hi, HD⟩ := hrel
    clear S0 O0
    by_cases hlt : i < B.length
    · have kl : decide ((i : Int) < (B.length : Int)) = true := decide_eq_true (by omega)
      have HC := hidd (HKs.out i (by have := HBl.out; omega))
      rw [HBg.out i hlt] at HC
      obtain ⟨kx, hnx, hqx⟩ := HD.out.2.1.at (i := i) (by rw [mix_length]; exact hlt)
      rw [mix_at hlt] at hnx hqx
      have HMx := hidd (mix_next hlt)
      obtain ⟨x, hx⟩ : ∃ x, B.getD i Pat.zero = x := ⟨_, rfl⟩
      rw [hx] at HC hnx hqx HMx
      have HSx := hidd (show simple (B.getD i Pat.zero) = simple x from by rw [hx])
      obtain ⟨y, hy⟩ : ∃ y, simple x = y := ⟨_, rfl⟩
      rw [hy] at HC HMx HSx
      obtain ⟨xa, xn, xc, rfl⟩ := hqx.form
      have S1 := hidd HD.out.1
      have O1 := hidd HD.out.2.1
      have H1 := hidd HD.out.2.2
      obtain ⟨⟨c0, c1, c2, c3, c4⟩, ⟨z0, z1, z2, z3, z4⟩, ⟨o0, o1, o2, o3, o4⟩, zf, of⟩ := S1.out.cells
      clear HD hx hy
      go_wp2_with fail
      have hhi := S1.out.hi
      have hgwr : g < wr.heap.size := by omega
      have gd : Grew wr wr.drew := (Grew.refl wr).drew
      refine RR.region_frame (J := StJ wr.drew (fun w' => ∃ W1 a' n' c', Grew wr.drew W1 ∧ PQ W1 (fun b => wr.heap.size ≤ b) (.slice a' n' c') y ∧ w' = setPat W1 g (i * 5) y (.slice a' n' c')) [0, 1, 2, 3, 4, 5, 6, 7, 8, 9] 10) (Rl := NoRl g) [20, 21, 22, 23, 24, 25, 26, 27, 28, 29] mixedA (NoRl.drew _) NoRl.trans
        [.val (.pointer (some ⟨qb, 4, none⟩)), .val (.slice (some ⟨g, 0, none⟩) B.length qc), .val (.int .i64 i), .val (.pointer (some ⟨qb, 4, none⟩)), .val (.slice (some ⟨g, 0, none⟩) B.length qc), .val (.int .i64 i), .val (.pointer (some ⟨g, i * 5, none⟩)), .val (.agg #[.int .i64 x.kind, .string x.text, .int .i64 x.n, .string x.name, .slice xa xn xc]), simF wr.heap.size y, .val (.pointer (some ⟨g, i * 5, none⟩)), .fact fun _ _ => True]
        (st_start _ _) (no_mono ?_) rfl (by kernel_rfl)
        ⟨hj_field (field_pat4 _) (by decide) (by decide) (by kernel_rfl) rfl rfl,
         hj_load1 agg_pats (gd.keeps o4) (by decide) (by decide) (by kernel_rfl) rfl rfl,
         hj_move (by decide) (by decide) (by kernel_rfl) rfl rfl,
         hj_field (field_pat4 _) (by decide) (by decide) (by kernel_rfl) rfl rfl,
         hj_load1 agg_pats (gd.keeps o4) (by decide) (by decide) (by kernel_rfl) rfl rfl,
         hj_move (by decide) (by decide) (by kernel_rfl) rfl rfl,
         hj_index (index_pats hlt (by omega)) (by decide) (by decide) (by kernel_rfl) rfl rfl rfl,
         hj_load (p := ⟨g, i * 5, none⟩) (fun w' hR => load_node (hnx.kept (gd.trans hR))) (by decide) (by decide) (by kernel_rfl) rfl rfl,
         hj_call1 (by kernel_rfl) (by decide) (by decide) ?_ (by kernel_rfl),
         hj_index (index_pats hlt (by omega)) (by decide) (by decide) (by kernel_rfl) rfl rfl rfl,
         hj_store (by decide) (by decide) ?_ (by decide) (by kernel_rfl) rfl, trivial⟩ ?_
      · intro s hs
        simp only [List.mem_cons, List.not_mem_nil, or_false] at hs
        rcases hs with rfl | rfl | rfl | rfl | rfl | rfl | rfl | rfl | rfl | rfl | rfl
        iterate 8 exact Or.inl ⟨_, rfl⟩
        · exact fact_sim hgwr
        · exact Or.inl ⟨_, rfl⟩
        · exact fact_true2
      · intro a1 w1 hg E
        have hv : a1.eval (.tmp 27) = .agg #[.int .i64 x.kind, .string x.text, .int .i64 x.n, .string x.name, .slice xa xn xc] := E.opv rfl
        rw [hv]
        refine (HC.out (.slice xa xn xc) w1 ((S1.out.grew.trans gd).trans hg) ((hqx.kept (gd.trans hg)).patV)).mono ?_
        rintro e w' ⟨ya, yn, yc, rfl, hq, hg'⟩
        exact ⟨_, rfl, hg', ya, yn, yc, rfl, hq.mono fun b hb _ => Nat.le_trans hg.size hb⟩
      · intro a1 w1 hg E
        have hv : a1.eval (.tmp 29) = .pointer (some ⟨g, i * 5, none⟩) := E.opv rfl
        obtain ⟨ya, yn, yc, hz, hq⟩ : ∃ a n c, a1.eval (.tmp 28) = .agg #[.int .i64 y.kind, .string y.text, .int .i64 y.n, .string y.name, .slice a n c] ∧ PQ w1 (fun b => wr.heap.size ≤ b) (.slice a n c) y := E.op (.tmp 28)
        rw [hv, hz]
        have hN := hnx.kept (gd.trans hg)
        have hO := O1.out.kept (gd.trans hg)
        refine ⟨_, store_node hN hO.free y, NoRl.of_grown ?_, w1, ya, yn, yc, hg, hq, rfl⟩
        exact (hO.set i y (.slice ya yn yc) (hq.mono fun b hb _ => ⟨by omega, by omega⟩)).2
      intro xs listed a3 w3 hall hxs hJ hR ht
      obtain ⟨W1, ya, yn, yc, hg1, hq1, rfl⟩ := hJ.p1 (hall 10 (by decide))
      have HE : Hid (SimSt w p kv qb (setPat W1 g (i * 5) y (.slice ya yn yc)) p.kind ⟨#[]⟩ 0 MM (.slice (some ⟨g, 0, none⟩) B.length qc) ∧ PatsOwn (setPat W1 g (i * 5) y (.slice ya yn yc)) (w.heap.size + 1 + 1) (w.heap.size + 1 + 1) (.slice (some ⟨g, 0, none⟩) B.length qc) (mixL B (i + 1)) ∧ HiAt (setPat W1 g (i * 5) y (.slice ya yn yc)) g (qb + 1) B (i + 1)) := by
        obtain ⟨h1, h2⟩ := (O1.out.kept (gd.trans hg1)).set i y (.slice ya yn yc) (hq1.mono fun b hb _ => ⟨by omega, by omega⟩)
        rw [HMx.out] at h1
        exact ⟨(S1.out.kept (gd.trans hg1)).grown h2 (by omega) (by omega), h1, (H1.out.kept (gd.trans hg1)).set (by omega) HSx.out (hq1.mono fun b hb _ => by omega) h2 (by rw [(hnx.kept (gd.trans hg1)).c4]; rfl)⟩
      clear ht hJ hR hall hxs hg1 hq1 S1 O1 H1 hnx hqx HC HMx HSx gd c0 c1 c2 c3 c4 z0 z1 z2 z3 z4 o0 o1 o2 o3 o4 zf of
      simp only [List.foldl_cons, List.foldl_nil, List.setIfInBounds_toArray, List.set_cons_succ, List.set_cons_zero]
      generalize setPat W1 g (i * 5) y (.slice ya yn yc) = W3 at HE ⊢
      go_wp2_with fail
      go_roundw
      case rel => exact ⟨i + 1, by go_num, by omega, HE.out⟩
      case measure => simp [intOf]; omega
    · have hie : i = B.length := by omega
      subst hie
      have kl : decide ((B.length : Int) < (B.length : Int)) = false := decide_eq_false (by omega)
      have S1 := hidd HD.out.1
      have O1 := hidd HD.out.2.1
      rw [HBe.out] at O1
      have hLB : L.length = B.length := by rw [← HL.out, List.length_map]; exact HBl.out.symm
      have HHi : Hid (ListIn wr (fun b => qb + 1 ≤ b) (.slice (some ⟨g, 0, none⟩) B.length qc) L) := by
        have ho2 := O1.out
        rw [← hLB] at ho2
        obtain ⟨kvs, k1, k2, k3⟩ := HD.out.2.2.list ho2 hLB (fun j hj => by
          rw [← HL.out, ← HBg.out j hj, List.getD_eq_getElem?_getD, List.getElem?_map, List.getD_eq_getElem?_getD, List.getElem?_eq_getElem (by have := HBl.out; omega)]
          exact (simple_bare _).symm) (Or.inr trivial)
        have hcc : B.length ≤ qc ∧ qc ≤ maxLen := by
          rcases O1.out.list.rep with ⟨_, _, e, e2⟩ | ⟨_, _, _, _, e, _, h3, h4, _⟩
          · rw [e2] at hLB; simp at hLB; omega
          · rw [hLB] at e h3
            cases e; exact ⟨h3, h4⟩
        refine ⟨Or.inr ⟨g, 0, qc, kvs, by rw [hLB], by omega, by omega, hcc.2, k1, k2, k3⟩⟩
      have HLB := hidd hLB
      clear HD HKs HBg HBe hLB
      obtain ⟨⟨c0, c1, c2, c3, c4⟩, ⟨z0, z1, z2, z3, z4⟩, ⟨o0, o1, o2, o3, o4⟩, zf, of⟩ := S1.out.cells
      rcases HCs.out with ⟨t18, t19, t20, t21, t22, hMe, hX⟩ | ⟨t18, t19, t20, t21, t22, hMe, hX⟩ | ⟨t18, t19, t20, t21, t22, e15, hX⟩ | ⟨t18, t19, t20, t21, t22, e15, e1, et, hX⟩ | ⟨t18, t19, t20, t21, t22, e15, e1, e2, en, hX⟩ | ⟨t18, t19, t20, t21, t22, e15, e1, et, e2, hX⟩ | ⟨t18, t19, t20, t21, t22, e15, e1, e2, hX⟩ | ⟨t18, t19, t20, t21, t22, e15, e1, e2, en, hX⟩ | ⟨t18, t19, t20, t21, t22, e15, hX⟩ | ⟨t18, t19, t20, t21, t22, e15, e17, hX⟩ | ⟨t18, t19, t20, t21, t22, e15, e17, hX⟩ | ⟨t18, t19, t20, t21, t22, e15, hX⟩ | ⟨t18, t19, t20, t21, t22, e15, e17, hX⟩ | ⟨t18, t19, t20, t21, t22, e15, e17, hX⟩
      · have HX := hidd hX
        clear hX HCs
        have HMe := hidd hMe
        clear hMe
        have HKi : Hid (Calls Tryd.prog 48 #[.slice (some ⟨g, 0, none⟩) B.length qc, .int .i64 p.kind] wr fun e w' => ∃ v', e = .returned v' ∧ PatsOwn w' wr.heap.size (qb + 1) v' (kids6 18 L) ∧ Grew wr w') := by
          rw [show p.kind = 18 from by simpa using t18]
          exact Kids_18 L _ wr HHi.out (fun b hb => hb) (by rw [← HL.out]; exact HLn.out)
        have HLr2 : Hid (∀ q ∈ kids6 18 L, errW q = 0) := kids6_right 18 (by rw [← HL.out]; exact HLr.out)
        have HLl : Hid ((kids6 18 L).length ≤ 4096) := by have := kids6_len 18 L; have h2 := HLn.out; rw [HL.out] at h2; exact Nat.le_trans this h2
        rw [HL.out] at HX
        obtain ⟨l0, hl0⟩ : ∃ l0, kids6 18 L = l0 := ⟨_, rfl⟩
        rw [hl0] at HKi HLr2 HLl HX
        obtain ⟨R, hR0⟩ : ∃ R, mergedP piecesP l0 = R := ⟨_, rfl⟩
        rw [hR0] at HX
        have HM0 : Hid (l0 = [] ∧ R = [] ∨ 0 < l0.length ∧ 1 ≤ l0.length ∧ mrg piecesP l0 1 = R) := by
          rcases Nat.eq_zero_or_pos l0.length with h0 | h0
          · have e := List.eq_nil_of_length_eq_zero h0
            exact Or.inl ⟨e, by rw [← hR0, e]; rfl⟩
          · exact Or.inr ⟨h0, h0, by rw [mrg_start _ h0]; exact hR0⟩
        clear hl0 hR0
        go_wp2_with fail
        refine HKi.out.mono ?_; rintro e w2 ⟨v2, rfl, ho2, g2⟩
        have S2 := hidd (S1.out.kept g2)
        have O2 := hidd (ho2.mono (B' := qb + 1) (N' := qb + 1) (by have := S1.out.hi; have := S1.out.low; omega) (Nat.le_refl _))
        have hll := HLl.out
        obtain ⟨na, nc, hn⟩ := ho2.len
        clear ho2 g2 S1 O1 HKi HLl c0 c1 c2 c3 c4 z0 z1 z2 z3 z4 o0 o1 o2 o3 o4 zf of HL HHi HLB
        subst hn
        go_wp2_with fail
        go_loopw [6, 7] (fun s6 s7 wr => ∃ (cur : List Pat) (i : Nat), s7 = .int .i64 i ∧ 1 ≤ i ∧ cur.length ≤ 4096 ∧ Hid ((∃ a c, s6 = .slice a cur.length c) ∧ SimSt w p kv qb wr p.kind ⟨#[]⟩ 0 MM (.slice (some ⟨g, 0, none⟩) B.length qc) ∧ PatsOwn wr (qb + 1) (qb + 1) s6 cur ∧ (cur = [] ∧ R = [] ∨ 0 < cur.length ∧ i ≤ cur.length ∧ mrg piecesP cur i = R) ∧ ∀ q ∈ cur, errW q = 0)) (fun s6 s7 _ => 2 * slLen s6 - (intOf s7).toNat)
        case atStart => exact ⟨l0, 1, rfl, Nat.le_refl _, hll, ⟨na, nc, rfl⟩, S2.out, O2.out, HM0.out, HLr2.out⟩
        case round =>
          obtain ⟨cur, i, rfl, hi1, hcl4, HD⟩ := hrel
          clear S2 O2 HM0 HLr2 hll
          obtain ⟨⟨ca, cc, rfl⟩, hS, hO, hM, hE⟩ := HD.out
          have S3 := hidd hS
          have O3 := hidd hO
          have HErr := hidd hE
          by_cases hlt : i < cur.length
          · have HM : Hid (mrg piecesP cur i = R) := by
              rcases hM with ⟨e, _⟩ | ⟨_, _, e⟩
              · rw [e] at hlt; simp at hlt
              · exact e
            obtain ⟨g2, cc2, hv, hgB2, hgl2⟩ : ∃ g cap, Value.slice ca cur.length cc = .slice (some ⟨g, 0, none⟩) cur.length cap ∧ qb + 1 ≤ g ∧ g < wr.heap.size := by
              obtain ⟨kvs, h1, h2, h3⟩ := hO.rep
              exact h2.form (by omega)
            have hca : ca = some ⟨g2, 0, none⟩ := by injection hv
            subst hca
            clear hv cc2
            obtain ⟨kx, hnx, hqx⟩ := hO.at (i := i - 1) (by omega)
            obtain ⟨ky, hny, hqy⟩ := hO.at (i := i) hlt
            have HMs := hidd (fun q h => @mrg_some piecesP cur i hi1 hlt q h)
            have HMn := hidd (fun h => @mrg_none piecesP cur i hi1 hlt h)
            have hrx := hE (cur.getD (i - 1) Pat.zero) (by rw [List.getD_eq_getElem?_getD, List.getElem?_eq_getElem (show i - 1 < cur.length by omega)]; exact List.getElem_mem _)
            have hry := hE (cur.getD i Pat.zero) (by rw [List.getD_eq_getElem?_getD, List.getElem?_eq_getElem hlt]; exact List.getElem_mem _)
            obtain ⟨x, hx⟩ : ∃ x, cur.getD (i - 1) Pat.zero = x := ⟨_, rfl⟩
            obtain ⟨y, hy⟩ : ∃ y, cur.getD i Pat.zero = y := ⟨_, rfl⟩
            rw [hx] at hnx hqx HMs HMn hrx
            rw [hy] at hny hqy HMs HMn hry
            obtain ⟨xa, xn, xc, rfl⟩ := hqx.form
            obtain ⟨ya, yn, yc, rfl⟩ := hqy.form
            have HRx := hidd hrx
            have HRy := hidd hry
            have HXt := hidd hqx.nums.ht
            have HYt := hidd hqy.nums.ht
            have hhi := hS.hi
            have hlow := hS.low
            have kl : decide ((i : Int) < (cur.length : Int)) = true := decide_eq_true (by omega)
            obtain ⟨i1, hi2⟩ : ∃ i1, i1 + 1 = i := ⟨i - 1, by omega⟩
            have Hi2 := hidd hi2
            have hnx2 : NodeAt wr g2 (i1 * 5) x (.slice xa xn xc) := by rw [show i1 = i - 1 by omega]; exact hnx
            have hi1l : i1 < cur.length := by omega
            clear HD hS hO hM hE hx hy hqx hqy hrx hry hnx hi2
            go_wp2_with fail
            refine RR.region_frame (J := TwoJ wr.drew x y (.slice xa xn xc) (.slice ya yn yc)) (Rl := AnyRl) [129, 130, 131, 132, 133, 134, 135, 136, 137, 8, 9] mixedA (fun _ => trivial) (fun _ _ _ _ _ => trivial)
              [.val (.slice (some ⟨g2, 0, none⟩) cur.length cc), .val (.int .i64 (i : Int)), .val (.int .i64 (i1 : Int)), .val (.pointer (some ⟨g2, i1 * 5, none⟩)), .val (.agg #[.int .i64 x.kind, .string x.text, .int .i64 x.n, .string x.name, .slice xa xn xc]), .val (.slice (some ⟨g2, 0, none⟩) cur.length cc), .val (.int .i64 (i : Int)), .val (.pointer (some ⟨g2, i * 5, none⟩)), .val (.agg #[.int .i64 y.kind, .string y.text, .int .i64 y.n, .string y.name, .slice ya yn yc]), .fact fun _ _ => True, .fact fun _ _ => True, .fact fun _ _ => True, .fact fun _ _ => True]
              (two_start _ _) (any_mono ?_) rfl (by kernel_rfl)
              ⟨tj_move (by decide) (by kernel_rfl) rfl rfl,
               tj_move (by decide) (by kernel_rfl) rfl rfl,
               tj_num (fun w => sub_int i w Hi2.out (by omega)) (by decide) (by kernel_rfl) rfl rfl rfl,
               tj_index (index_pats hi1l (by omega)) (by decide) (by kernel_rfl) rfl rfl rfl,
               tj_load (fun w' hR => load_node (hnx2.kept ((Grew.refl wr).drew.trans hR))) (by decide) (by kernel_rfl) rfl rfl,
               tj_move (by decide) (by kernel_rfl) rfl rfl,
               tj_move (by decide) (by kernel_rfl) rfl rfl,
               tj_index (index_pats hlt (by omega)) (by decide) (by kernel_rfl) rfl rfl rfl,
               tj_load (fun w' hR => load_node (hny.kept ((Grew.refl wr).drew.trans hR))) (by decide) (by kernel_rfl) rfl rfl,
               tj_allocA (by simp) (by decide) (by kernel_rfl) rfl,
               tj_allocB (by simp) (by decide) (by kernel_rfl) rfl,
               tj_storeA rfl (by kernel_rfl) (by decide) (by kernel_rfl) rfl rfl,
               tj_storeB rfl (by kernel_rfl) (by decide) (by kernel_rfl) rfl rfl, trivial⟩ ?_
            · intro s hs
              simp only [List.mem_cons, List.not_mem_nil, or_false] at hs
              rcases hs with rfl | rfl | rfl | rfl | rfl | rfl | rfl | rfl | rfl | rfl | rfl | rfl | rfl <;> first | exact Or.inl ⟨_, rfl⟩ | exact Or.inr rfl
            intro xs listed a3 w3 hall hxs hJ hR ht
            obtain ⟨bA, _, _, _, _, _, eA, hA0, _, hA, _⟩ := hJ.bA (hall 9 (by decide))
            obtain ⟨bB, _, _, _, _, _, eB, hB1, _, hB⟩ := hJ.bB (hall 10 (by decide))
            have HA := hidd (hA (hall 11 (by decide)))
            have HB := hidd (hB (hall 12 (by decide)))
            have eA : xs 8 = .pointer (some ⟨bA, 0, none⟩) := by rw [← hxs]; exact eA
            have eB : xs 9 = .pointer (some ⟨bB, 0, none⟩) := by rw [← hxs]; exact eB
            have g3 := (Grew.refl wr).drew.trans hJ.grew
            have S4 := hidd (S3.out.kept g3)
            have O4 := hidd (O3.out.kept g3)
            have hg3 := g3.size
            have hbA : bA < w3.heap.size := (Array.getElem?_eq_some_iff.1 HA.out).1
            have hbB : bB < w3.heap.size := (Array.getElem?_eq_some_iff.1 HB.out).1
            have hA1 : wr.heap.size ≤ bA := hA0
            have hB2' : wr.heap.size ≤ bB := hB1
            simp only [List.foldl_cons, List.foldl_nil, List.setIfInBounds_toArray, List.set_cons_succ, List.set_cons_zero]
            rw [eA, eB]
            clear hall hxs hJ hR ht eA eB hA hB g3 S3 O3 hnx2 hny hA0 hB1
            obtain ⟨⟨c0, c1, c2, c3, c4⟩, _, _, _, _⟩ := S4.out.cells
            obtain ⟨⟨a0, a1, a2, a3, a4⟩, _⟩ := five_cells HA.out
            obtain ⟨⟨d0, d1, d2, d3, d4⟩, _⟩ := five_cells HB.out
            have hw0 : w.heap.size < w3.heap.size := by omega
            have GZ := hidd ((Grew.refl w3).alloc (.cells #[.int .i64 0, .string ⟨#[]⟩, .int .i64 0, .string ⟨#[]⟩, .slice none 0 0] 24))
            have nx := ((errW_iff x).1 HRx.out).1
            have ny := ((errW_iff y).1 HRy.out).1
            cases x1 : x.kind == 1 with
            | true =>
              have x2 : (x.kind == 2) = false := by rw [beq_iff_eq] at x1; rw [x1]; rfl
              cases y1 : y.kind == 1 with
              | true =>
                have y2 : (y.kind == 2) = false := by rw [beq_iff_eq] at y1; rw [y1]; rfl
                have hzx := nx.lit (by simpa using x1)
                have hzy := ny.lit (by simpa using y1)
                by_cases hs : x.text.size + y.text.size ≤ 65536
                · have HTW : Hid (piecesP x y = some (litP (x.text ++ y.text))) := hidd (by unfold piecesP; rw [if_pos ⟨by simpa using x1, by simpa using y1, hs⟩])
                  have HCr := hidd (pieces_right x y _ HRx.out HRy.out HTW.out)
                  have HCn : Hid (NumsOk (litP (x.text ++ y.text))) := nums_lit (by rw [ByteArray.size_append]; unfold maxLen; omega)
                  have q1 : decide ((x.text.size : Int) + (y.text.size : Int) ≤ 65536) = true := decide_eq_true (by omega)
                  have q2 : decide (x.text.size + y.text.size ≤ 65536) = true := decide_eq_true hs
                  have x2 : (x.kind == 2) = false := by rw [beq_iff_eq] at x1; rw [x1]; rfl
                  clear nx ny
                  go_wp2_with fail
                  refine (lit6_any _ _).mono ?_; rintro e w4 ⟨rfl, g4⟩
                  have G4 := hidd (GZ.out.trans g4)
                  have Z4 : Hid (Five w4 w3.heap.size (.int .i64 0) (.string ⟨#[]⟩) (.int .i64 0) (.string ⟨#[]⟩) (.slice none 0 0)) := heap_kept g4 (heap_alloc_new w3 _)
                  have S5 := hidd (S4.out.kept G4.out)
                  have A5 := hidd (heap_kept G4.out HA.out)
                  have B5 := hidd (heap_kept G4.out HB.out)
                  clear g4 a0 a1 a2 a3 a4 c0 c1 c2 c3 c4 d0 d1 d2 d3 d4
                  obtain ⟨⟨c0, c1, c2, c3, c4⟩, _, _, _, _⟩ := S5.out.cells
                  obtain ⟨⟨a0, a1, a2, a3, a4⟩, _⟩ := five_cells A5.out
                  obtain ⟨⟨d0, d1, d2, d3, d4⟩, _⟩ := five_cells B5.out
                  obtain ⟨⟨e0, e1, e2, e3, e4⟩, ef⟩ := five_cells Z4.out
                  have n1 : w3.heap.size ≠ bA := by omega
                  have n2 : w3.heap.size ≠ bB := by omega
                  have n3 : w3.heap.size ≠ w.heap.size := by omega
                  go_wp2_with fail
                  have G5 : Hid (Grew w3 (((((w4.setCell ⟨w3.heap.size, 0, none⟩ (.int .i64 1)).setCell ⟨w3.heap.size, 1, none⟩ (.string (x.text ++ y.text))).setCell ⟨w3.heap.size, 2, none⟩ (.int .i64 0)).setCell ⟨w3.heap.size, 3, none⟩ (.string ⟨#[]⟩)).setCell ⟨w3.heap.size, 4, none⟩ (.slice none 0 0))) := setPat_new G4.out (b := w3.heap.size) (Nat.le_refl _) 0 (litP (x.text ++ y.text)) (.slice none 0 0)
                  have F5 : Hid (Five (((((w4.setCell ⟨w3.heap.size, 0, none⟩ (.int .i64 1)).setCell ⟨w3.heap.size, 1, none⟩ (.string (x.text ++ y.text))).setCell ⟨w3.heap.size, 2, none⟩ (.int .i64 0)).setCell ⟨w3.heap.size, 3, none⟩ (.string ⟨#[]⟩)).setCell ⟨w3.heap.size, 4, none⟩ (.slice none 0 0)) w3.heap.size (.int .i64 1) (.string (x.text ++ y.text)) (.int .i64 0) (.string ⟨#[]⟩) (.slice none 0 0)) := setPat_five Z4.out (litP (x.text ++ y.text)) (.slice none 0 0)
                  clear S5 A5 B5 e0 e1 e2 e3 e4 ef Z4 G4
                  generalize (((((w4.setCell ⟨w3.heap.size, 0, none⟩ (.int .i64 1)).setCell ⟨w3.heap.size, 1, none⟩ (.string (x.text ++ y.text))).setCell ⟨w3.heap.size, 2, none⟩ (.int .i64 0)).setCell ⟨w3.heap.size, 3, none⟩ (.string ⟨#[]⟩)).setCell ⟨w3.heap.size, 4, none⟩ (.slice none 0 0)) = W5 at G5 F5 ⊢
                  have SC := hidd (S4.out.kept G5.out)
                  have OC := hidd (O4.out.kept G5.out)
                  have tbnode : NodeAt W5 w3.heap.size 0 (litP (x.text ++ y.text)) (.slice none 0 0) := by
                    obtain ⟨⟨f0, f1, f2, f3, f4⟩, _⟩ := five_cells F5.out
                    exact ⟨f0, f1, f2, f3, f4, HCn.out.hk, HCn.out.hn, HCn.out.ht, HCn.out.hm⟩
                  clear S4 O4 HA HB HMn GZ a0 a1 a2 a3 a4 c0 c1 c2 c3 c4 d0 d1 d2 d3 d4
                  obtain ⟨T, hT⟩ : ∃ T, cur.take (i - 1) = T := ⟨_, rfl⟩
                  obtain ⟨D, hD⟩ : ∃ D, cur.drop (i + 1) = D := ⟨_, rfl⟩
                  have hTl : T.length = i - 1 := by rw [← hT, List.length_take]; omega
                  have hDl : D.length = cur.length - (i + 1) := by rw [← hD, List.length_drop]
                  have HTl := hidd hTl
                  have HDl := hidd hDl
                  have hiT : T.length + 1 = i := by omega
                  have HiT := hidd hiT
                  have hpre : ListIn W5.drew (fun b => qb + 1 ≤ b ∧ b < W5.drew.heap.size) (.slice (some ⟨g2, 0, none⟩) T.length cc) T := by
                    have h := (OC.out.kept (Grew.refl W5).drew).pre (i - 1) (by omega)
                    rw [hT, ← hTl] at h
                    exact (h.lt2).mono fun b hb _ => ⟨hb.1.1, hb.2⟩
                  have hsuf : ListIn W5.drew (fun b => qb + 1 ≤ b ∧ b < W5.drew.heap.size) (.slice (if cc = i + 1 then some ⟨g2, 0, none⟩ else some ⟨g2, (i + 1) * 5, none⟩) D.length (cc - (i + 1))) D := by
                    have h := (OC.out.kept (Grew.refl W5).drew).suf (i + 1) (by omega)
                    rw [hD, ← hDl] at h
                    exact (h.lt2).mono fun b hb _ => ⟨hb.1.1, hb.2⟩
                  have hcc : cur.length ≤ cc := by
                    rcases OC.out.list.rep with ⟨_, _, e, e2⟩ | ⟨_, _, _, _, e, _, h3, _⟩
                    · rw [e2] at hlt; simp at hlt
                    · cases e; exact h3
                  have hT4 : T.length ≤ 4096 := by omega
                  have hD4 : D.length ≤ 4096 := by omega
                  have HPre := hidd hpre
                  have HSuf := hidd hsuf
                  have HMs2 : Hid (mrg piecesP (T ++ [(litP (x.text ++ y.text))] ++ D) i = R) := by rw [← hT, ← hD]; exact (HMs.out (litP (x.text ++ y.text)) HTW.out).symm.trans HM.out
                  have HEr2 : Hid (∀ q ∈ T ++ [(litP (x.text ++ y.text))] ++ D, errW q = 0) := fun q hq => by
                    rcases List.mem_append.1 hq with hq | hq
                    · rcases List.mem_append.1 hq with hq | hq
                      · exact HErr.out q (List.mem_of_mem_take (by rw [hT]; exact hq))
                      · rw [List.mem_singleton] at hq; rw [hq]; exact HCr.out
                    · exact HErr.out q (List.mem_of_mem_drop (by rw [hD]; exact hq))
                  have hcl : (T ++ [(litP (x.text ++ y.text))] ++ D).length = cur.length - 1 := by rw [List.length_append, List.length_append, List.length_singleton]; omega
                  have HCl := hidd hcl
                  have HHT := hidd hT
                  have HHD := hidd hD
                  clear hT hD hTl hDl hpre hsuf hcl hiT
                  refine RR.region_frame (J := PairJ W5.drew (qb + 1) T D (litP (x.text ++ y.text)) (.slice (some ⟨g2, 0, none⟩) cur.length cc)) (Rl := AnyRl) [227, 228, 229, 230, 231, 232, 233, 234, 235, 236, 237, 238, 239, 240, 6] mixedA (fun _ => trivial) (fun _ _ _ _ _ => trivial)
                    [.fact fun _ _ => True, .val (.slice (some ⟨g2, 0, none⟩) cur.length cc), .val (.int .i64 (i : Int)), .val (.int .i64 (T.length : Int)), .val (.slice (some ⟨g2, 0, none⟩) T.length cc), .fact fun _ _ => True, .val (.agg #[.int .i64 1, .string (x.text ++ y.text), .int .i64 0, .string ⟨#[]⟩, .slice none 0 0]), .fact fun _ _ => True, .fact fun _ _ => True, .val (.slice (some ⟨g2, 0, none⟩) cur.length cc), .val (.int .i64 (i : Int)), .val (.int .i64 ((i + 1 : Nat) : Int)), .val (.slice (if cc = i + 1 then some ⟨g2, 0, none⟩ else some ⟨g2, (i + 1) * 5, none⟩) D.length (cc - (i + 1))), .fact fun _ _ => True, .fact fun _ _ => True]
                    (pair_start _ _ rfl) (any_mono ?_) rfl (by kernel_rfl)
                    ⟨pj_empty (by simp) (by decide) (by kernel_rfl) rfl,
                     pj_name (by decide) (Or.inl rfl) (by kernel_rfl) rfl,
                     pj_move (by decide) (by kernel_rfl) rfl rfl,
                     pj_num (fun w => sub_int i w HiT.out (by omega)) (by decide) (by kernel_rfl) rfl rfl rfl,
                     pj_pre (n := cur.length) (by have := HTl.out; omega) (by decide) (by kernel_rfl) rfl rfl rfl,
                     pj_app1 (by kernel_rfl) (by simp) (by decide) HPre.out hT4 (by kernel_rfl) rfl rfl,
                     pj_load (fun w' hR => load_node (tbnode.kept ((Grew.refl W5).drew.trans hR))) (by decide) (by kernel_rfl) rfl rfl,
                     pj_one (by simp) (by decide) (by kernel_rfl) rfl rfl,
                     pj_app2 (by kernel_rfl) (by kernel_rfl) rfl HCn.out (by simp) (by decide) hT4 (by kernel_rfl) rfl,
                     pj_name (by decide) (Or.inr rfl) (by kernel_rfl) rfl,
                     pj_move (by decide) (by kernel_rfl) rfl rfl,
                     pj_num (fun w => add_int i w (by omega)) (by decide) (by kernel_rfl) rfl rfl rfl,
                     pj_suf (n := cur.length) (by omega) (by rw [HDl.out]) (by decide) (by kernel_rfl) rfl rfl rfl,
                     pj_app3 (by kernel_rfl) (by simp) (by decide) HSuf.out hT4 hD4 (by kernel_rfl) rfl rfl,
                     pj_last (by kernel_rfl) (by kernel_rfl) (by kernel_rfl) (by simp) (by decide) (by kernel_rfl) rfl, trivial⟩ ?_
                  · intro s hs
                    simp only [List.mem_cons, List.not_mem_nil, or_false] at hs
                    rcases hs with rfl | rfl | rfl | rfl | rfl | rfl | rfl | rfl | rfl | rfl | rfl | rfl | rfl | rfl | rfl <;> first | exact Or.inl ⟨_, rfl⟩ | exact Or.inr rfl
                  intro xs listed a3 w6 hall hxs hJ hR ht
                  have hx6 : xs 6 = xs 240 := by rw [← hxs, ← hxs]; exact hJ.p4 (hall 14 (by decide))
                  have hown := hJ.p3 (hall 13 (by decide))
                  rw [hxs] at hown
                  have S6 := hidd ((SC.out.kept (Grew.refl W5).drew).kept hJ.grew)
                  have O6 := hidd (hown.mono (B' := qb + 1) (N' := qb + 1) (by have := SC.out.hi; have := SC.out.low; have : W5.drew.heap.size = W5.heap.size := rfl; omega) (Nat.le_refl _))
                  obtain ⟨na, nc, hn⟩ := hown.len
                  clear hall hxs hJ hR ht hown
                  simp only [List.foldl_cons, List.foldl_nil, List.setIfInBounds_toArray, List.set_cons_succ, List.set_cons_zero]
                  rw [hx6, hn]
                  rw [hn] at O6
                  clear hx6 hn
                  rw [HCl.out] at O6 ⊢
                  go_wp2_with fail
                  go_roundw
                  case rel => exact ⟨T ++ [(litP (x.text ++ y.text))] ++ D, i, rfl, by omega, by rw [HCl.out]; omega, ⟨⟨na, nc, by rw [HCl.out]⟩, S6.out, O6.out, Or.inr ⟨by rw [HCl.out]; omega, by rw [HCl.out]; omega, HMs2.out⟩, HEr2.out⟩⟩
                  case measure => simp [intOf, slLen]; omega
                · have q1 : decide ((x.text.size : Int) + (y.text.size : Int) ≤ 65536) = false := decide_eq_false (by omega)
                  have q2 : decide (x.text.size + y.text.size ≤ 65536) = false := decide_eq_false hs
                  have HTW : Hid (piecesP x y = none) := hidd (by unfold piecesP; rw [if_neg (fun h => hs h.2.2), if_neg (fun h => by rw [h.1] at x2; cases x2)])
                  clear nx ny
                  have HN1 := hidd (HMn.out HTW.out)
                  clear HMs HMn HTW
                  go_wp2_with fail
                  go_roundw
                  case rel => exact ⟨cur, i + 1, by go_num, by omega, hcl4, ⟨⟨_, _, rfl⟩, S4.out.kept GZ.out, O4.out.kept GZ.out, Or.inr ⟨by omega, by omega, HN1.out.symm.trans HM.out⟩, HErr.out⟩⟩
                  case measure => simp [intOf, slLen]; omega
              | false =>
                have HTW : Hid (piecesP x y = none) := hidd (by unfold piecesP; rw [if_neg (fun h => by rw [h.2.1] at y1; cases y1), if_neg (fun h => by rw [h.1] at x2; cases x2)])
                clear nx ny
                have HN1 := hidd (HMn.out HTW.out)
                clear HMs HMn HTW
                go_wp2_with fail
                go_roundw
                case rel => exact ⟨cur, i + 1, by go_num, by omega, hcl4, ⟨⟨_, _, rfl⟩, S4.out.kept GZ.out, O4.out.kept GZ.out, Or.inr ⟨by omega, by omega, HN1.out.symm.trans HM.out⟩, HErr.out⟩⟩
                case measure => simp [intOf, slLen]; omega
            | false =>
              cases x2 : x.kind == 2 with
              | true =>
                cases y2 : y.kind == 2 with
                | true =>
                  have hzx := nx.num (Or.inl (by simpa using x2))
                  have hzy := ny.num (Or.inl (by simpa using y2))
                  by_cases hs : x.n + y.n ≤ 65536
                  · have HTW : Hid (piecesP x y = some (numP 2 (x.n + y.n))) := hidd (by unfold piecesP; rw [if_neg (fun h => by rw [h.1] at x1; cases x1), if_pos ⟨by simpa using x2, by simpa using y2, hs⟩])
                    have HCr := hidd (pieces_right x y _ HRx.out HRy.out HTW.out)
                    have HCn : Hid (NumsOk (numP 2 (x.n + y.n))) := nums_leaf (by omega) (by omega) none_size none_size
                    have q1 : decide (x.n + y.n ≤ 65536) = true := decide_eq_true hs
                    have q3 : IntKind.i64.wrap (x.n + y.n) = x.n + y.n := by rw [IntKind.wrap_i64]; omega
                    clear nx ny
                    go_wp2_with fail
                    have G5 : Hid (Grew w3 (w3.alloc (.cells #[.int .i64 2, .string ⟨#[]⟩, .int .i64 (x.n + y.n), .string ⟨#[]⟩, .slice none 0 0] 24))) := (Grew.refl w3).alloc _
                    have F5 : Hid (Five (w3.alloc (.cells #[.int .i64 2, .string ⟨#[]⟩, .int .i64 (x.n + y.n), .string ⟨#[]⟩, .slice none 0 0] 24)) w3.heap.size (.int .i64 2) (.string ⟨#[]⟩) (.int .i64 (x.n + y.n)) (.string ⟨#[]⟩) (.slice none 0 0)) := heap_alloc_new w3 _
                    generalize (w3.alloc (.cells #[.int .i64 2, .string ⟨#[]⟩, .int .i64 (x.n + y.n), .string ⟨#[]⟩, .slice none 0 0] 24)) = W5 at G5 F5 ⊢
                    have SC := hidd (S4.out.kept G5.out)
                    have OC := hidd (O4.out.kept G5.out)
                    have tbnode : NodeAt W5 w3.heap.size 0 (numP 2 (x.n + y.n)) (.slice none 0 0) := by
                      obtain ⟨⟨f0, f1, f2, f3, f4⟩, _⟩ := five_cells F5.out
                      exact ⟨f0, f1, f2, f3, f4, HCn.out.hk, HCn.out.hn, HCn.out.ht, HCn.out.hm⟩
                    clear S4 O4 HA HB HMn GZ a0 a1 a2 a3 a4 c0 c1 c2 c3 c4 d0 d1 d2 d3 d4
                    obtain ⟨T, hT⟩ : ∃ T, cur.take (i - 1) = T := ⟨_, rfl⟩
                    obtain ⟨D, hD⟩ : ∃ D, cur.drop (i + 1) = D := ⟨_, rfl⟩
                    have hTl : T.length = i - 1 := by rw [← hT, List.length_take]; omega
                    have hDl : D.length = cur.length - (i + 1) := by rw [← hD, List.length_drop]
                    have HTl := hidd hTl
                    have HDl := hidd hDl
                    have hiT : T.length + 1 = i := by omega
                    have HiT := hidd hiT
                    have hpre : ListIn W5.drew (fun b => qb + 1 ≤ b ∧ b < W5.drew.heap.size) (.slice (some ⟨g2, 0, none⟩) T.length cc) T := by
                      have h := (OC.out.kept (Grew.refl W5).drew).pre (i - 1) (by omega)
                      rw [hT, ← hTl] at h
                      exact (h.lt2).mono fun b hb _ => ⟨hb.1.1, hb.2⟩
                    have hsuf : ListIn W5.drew (fun b => qb + 1 ≤ b ∧ b < W5.drew.heap.size) (.slice (if cc = i + 1 then some ⟨g2, 0, none⟩ else some ⟨g2, (i + 1) * 5, none⟩) D.length (cc - (i + 1))) D := by
                      have h := (OC.out.kept (Grew.refl W5).drew).suf (i + 1) (by omega)
                      rw [hD, ← hDl] at h
                      exact (h.lt2).mono fun b hb _ => ⟨hb.1.1, hb.2⟩
                    have hcc : cur.length ≤ cc := by
                      rcases OC.out.list.rep with ⟨_, _, e, e2⟩ | ⟨_, _, _, _, e, _, h3, _⟩
                      · rw [e2] at hlt; simp at hlt
                      · cases e; exact h3
                    have hT4 : T.length ≤ 4096 := by omega
                    have hD4 : D.length ≤ 4096 := by omega
                    have HPre := hidd hpre
                    have HSuf := hidd hsuf
                    have HMs2 : Hid (mrg piecesP (T ++ [(numP 2 (x.n + y.n))] ++ D) i = R) := by rw [← hT, ← hD]; exact (HMs.out (numP 2 (x.n + y.n)) HTW.out).symm.trans HM.out
                    have HEr2 : Hid (∀ q ∈ T ++ [(numP 2 (x.n + y.n))] ++ D, errW q = 0) := fun q hq => by
                      rcases List.mem_append.1 hq with hq | hq
                      · rcases List.mem_append.1 hq with hq | hq
                        · exact HErr.out q (List.mem_of_mem_take (by rw [hT]; exact hq))
                        · rw [List.mem_singleton] at hq; rw [hq]; exact HCr.out
                      · exact HErr.out q (List.mem_of_mem_drop (by rw [hD]; exact hq))
                    have hcl : (T ++ [(numP 2 (x.n + y.n))] ++ D).length = cur.length - 1 := by rw [List.length_append, List.length_append, List.length_singleton]; omega
                    have HCl := hidd hcl
                    have HHT := hidd hT
                    have HHD := hidd hD
                    clear hT hD hTl hDl hpre hsuf hcl hiT
                    refine RR.region_frame (J := PairJ W5.drew (qb + 1) T D (numP 2 (x.n + y.n)) (.slice (some ⟨g2, 0, none⟩) cur.length cc)) (Rl := AnyRl) [227, 228, 229, 230, 231, 232, 233, 234, 235, 236, 237, 238, 239, 240, 6] mixedA (fun _ => trivial) (fun _ _ _ _ _ => trivial)
                      [.fact fun _ _ => True, .val (.slice (some ⟨g2, 0, none⟩) cur.length cc), .val (.int .i64 (i : Int)), .val (.int .i64 (T.length : Int)), .val (.slice (some ⟨g2, 0, none⟩) T.length cc), .fact fun _ _ => True, .val (.agg #[.int .i64 2, .string ⟨#[]⟩, .int .i64 (x.n + y.n), .string ⟨#[]⟩, .slice none 0 0]), .fact fun _ _ => True, .fact fun _ _ => True, .val (.slice (some ⟨g2, 0, none⟩) cur.length cc), .val (.int .i64 (i : Int)), .val (.int .i64 ((i + 1 : Nat) : Int)), .val (.slice (if cc = i + 1 then some ⟨g2, 0, none⟩ else some ⟨g2, (i + 1) * 5, none⟩) D.length (cc - (i + 1))), .fact fun _ _ => True, .fact fun _ _ => True]
                      (pair_start _ _ rfl) (any_mono ?_) rfl (by kernel_rfl)
                      ⟨pj_empty (by simp) (by decide) (by kernel_rfl) rfl,
                       pj_name (by decide) (Or.inl rfl) (by kernel_rfl) rfl,
                       pj_move (by decide) (by kernel_rfl) rfl rfl,
                       pj_num (fun w => sub_int i w HiT.out (by omega)) (by decide) (by kernel_rfl) rfl rfl rfl,
                       pj_pre (n := cur.length) (by have := HTl.out; omega) (by decide) (by kernel_rfl) rfl rfl rfl,
                       pj_app1 (by kernel_rfl) (by simp) (by decide) HPre.out hT4 (by kernel_rfl) rfl rfl,
                       pj_load (fun w' hR => load_node (tbnode.kept ((Grew.refl W5).drew.trans hR))) (by decide) (by kernel_rfl) rfl rfl,
                       pj_one (by simp) (by decide) (by kernel_rfl) rfl rfl,
                       pj_app2 (by kernel_rfl) (by kernel_rfl) rfl HCn.out (by simp) (by decide) hT4 (by kernel_rfl) rfl,
                       pj_name (by decide) (Or.inr rfl) (by kernel_rfl) rfl,
                       pj_move (by decide) (by kernel_rfl) rfl rfl,
                       pj_num (fun w => add_int i w (by omega)) (by decide) (by kernel_rfl) rfl rfl rfl,
                       pj_suf (n := cur.length) (by omega) (by rw [HDl.out]) (by decide) (by kernel_rfl) rfl rfl rfl,
                       pj_app3 (by kernel_rfl) (by simp) (by decide) HSuf.out hT4 hD4 (by kernel_rfl) rfl rfl,
                       pj_last (by kernel_rfl) (by kernel_rfl) (by kernel_rfl) (by simp) (by decide) (by kernel_rfl) rfl, trivial⟩ ?_
                    · intro s hs
                      simp only [List.mem_cons, List.not_mem_nil, or_false] at hs
                      rcases hs with rfl | rfl | rfl | rfl | rfl | rfl | rfl | rfl | rfl | rfl | rfl | rfl | rfl | rfl | rfl <;> first | exact Or.inl ⟨_, rfl⟩ | exact Or.inr rfl
                    intro xs listed a3 w6 hall hxs hJ hR ht
                    have hx6 : xs 6 = xs 240 := by rw [← hxs, ← hxs]; exact hJ.p4 (hall 14 (by decide))
                    have hown := hJ.p3 (hall 13 (by decide))
                    rw [hxs] at hown
                    have S6 := hidd ((SC.out.kept (Grew.refl W5).drew).kept hJ.grew)
                    have O6 := hidd (hown.mono (B' := qb + 1) (N' := qb + 1) (by have := SC.out.hi; have := SC.out.low; have : W5.drew.heap.size = W5.heap.size := rfl; omega) (Nat.le_refl _))
                    obtain ⟨na, nc, hn⟩ := hown.len
                    clear hall hxs hJ hR ht hown
                    simp only [List.foldl_cons, List.foldl_nil, List.setIfInBounds_toArray, List.set_cons_succ, List.set_cons_zero]
                    rw [hx6, hn]
                    rw [hn] at O6
                    clear hx6 hn
                    rw [HCl.out] at O6 ⊢
                    go_wp2_with fail
                    go_roundw
                    case rel => exact ⟨T ++ [(numP 2 (x.n + y.n))] ++ D, i, rfl, by omega, by rw [HCl.out]; omega, ⟨⟨na, nc, by rw [HCl.out]⟩, S6.out, O6.out, Or.inr ⟨by rw [HCl.out]; omega, by rw [HCl.out]; omega, HMs2.out⟩, HEr2.out⟩⟩
                    case measure => simp [intOf, slLen]; omega
                  · have q1 : decide (x.n + y.n ≤ 65536) = false := decide_eq_false hs
                    have q3 : IntKind.i64.wrap (x.n + y.n) = x.n + y.n := by rw [IntKind.wrap_i64]; omega
                    have HTW : Hid (piecesP x y = none) := hidd (by unfold piecesP; rw [if_neg (fun h => by rw [h.1] at x1; cases x1), if_neg (fun h => hs h.2.2)])
                    clear nx ny
                    have HN1 := hidd (HMn.out HTW.out)
                    clear HMs HMn HTW
                    go_wp2_with fail
                    go_roundw
                    case rel => exact ⟨cur, i + 1, by go_num, by omega, hcl4, ⟨⟨_, _, rfl⟩, S4.out.kept GZ.out, O4.out.kept GZ.out, Or.inr ⟨by omega, by omega, HN1.out.symm.trans HM.out⟩, HErr.out⟩⟩
                    case measure => simp [intOf, slLen]; omega
                | false =>
                  have HTW : Hid (piecesP x y = none) := hidd (by unfold piecesP; rw [if_neg (fun h => by rw [h.1] at x1; cases x1), if_neg (fun h => by rw [h.2.1] at y2; cases y2)])
                  clear nx ny
                  have HN1 := hidd (HMn.out HTW.out)
                  clear HMs HMn HTW
                  go_wp2_with fail
                  go_roundw
                  case rel => exact ⟨cur, i + 1, by go_num, by omega, hcl4, ⟨⟨_, _, rfl⟩, S4.out.kept GZ.out, O4.out.kept GZ.out, Or.inr ⟨by omega, by omega, HN1.out.symm.trans HM.out⟩, HErr.out⟩⟩
                  case measure => simp [intOf, slLen]; omega
              | false =>
                have HTW : Hid (piecesP x y = none) := hidd (by unfold piecesP; rw [if_neg (fun h => by rw [h.1] at x1; cases x1), if_neg (fun h => by rw [h.1] at x2; cases x2)])
                clear nx ny
                have HN1 := hidd (HMn.out HTW.out)
                clear HMs HMn HTW
                go_wp2_with fail
                go_roundw
                case rel => exact ⟨cur, i + 1, by go_num, by omega, hcl4, ⟨⟨_, _, rfl⟩, S4.out.kept GZ.out, O4.out.kept GZ.out, Or.inr ⟨by omega, by omega, HN1.out.symm.trans HM.out⟩, HErr.out⟩⟩
                case measure => simp [intOf, slLen]; omega
          · have kl : decide ((i : Int) < (cur.length : Int)) = false := decide_eq_false (by omega)
            have HRc : Hid (cur = R) := by
              rcases hM with ⟨e, e2⟩ | ⟨h1, h2, e⟩
              · exact hidd (e.trans e2.symm)
              · have : i = cur.length := by omega
                exact hidd (by rw [← e, this, mrg_done h1])
            have hlow := hS.low
            have hhi := hS.hi
            clear HD hO hM hE hS
            rw [← HRc.out] at HX
            obtain ⟨⟨c0, c1, c2, c3, c4⟩, ⟨z0, z1, z2, z3, z4⟩, ⟨o0, o1, o2, o3, o4⟩, zf, of⟩ := S3.out.cells
            have HK1 : Hid (Value.int .i64 p.kind = .int .i64 18) := hidd (by rw [show p.kind = 18 from by simpa using t18])
            have HMM : Hid (MM = ByteArray.empty) := HMe
            by_cases h0 : cur.length = 0
            · have l0 : ((cur.length : Int) == 0) = true := by rw [h0]; rfl
              have l1 : ((cur.length : Int) == 1) = false := by rw [h0]; rfl
              have l0' : (cur.length == 0) = true := by rw [h0]; rfl
              have l1' : (cur.length == 1) = false := by rw [h0]; rfl
              have HXe : Hid (X = litP ByteArray.empty) := hidd (by rw [HX.out, List.eq_nil_of_length_eq_zero h0]; rfl)
              clear h0
              go_wp2_with fail
              refine (lit6_any _ _).mono ?_; rintro e w4 ⟨rfl, g4⟩
              have S5 := hidd (S3.out.kept g4)
              clear g4 S3 O3 c0 c1 c2 c3 c4 z0 z1 z2 z3 z4 o0 o1 o2 o3 o4 zf of
              obtain ⟨⟨c0, c1, c2, c3, c4⟩, ⟨z0, z1, z2, z3, z4⟩, ⟨o0, o1, o2, o3, o4⟩, zf, of⟩ := S5.out.cells
              go_wp2_with fail
              exact bodyPost_ret (results_pat (rb := w.heap.size + 1) rfl rfl (setPat_heap S5.out.res) rfl) rfl (by rw [HXe.out]; exact leaf_end (litP ByteArray.empty) (nums_lit none_size) rfl (setPat_grew S5.out.grew (by omega) _ _ _ _ _))
            · by_cases h1 : cur.length = 1
              · obtain ⟨g2, cc2, hv, hgB2, hgl2⟩ : ∃ g cap, Value.slice ca cur.length cc = .slice (some ⟨g, 0, none⟩) cur.length cap ∧ qb + 1 ≤ g ∧ g < wr.heap.size := by
                  obtain ⟨kvs, h1, h2, h3⟩ := O3.out.rep
                  exact h2.form (by omega)
                have hca : ca = some ⟨g2, 0, none⟩ := by injection hv
                subst hca
                clear hv cc2
                obtain ⟨kx, hnx, hqx⟩ := O3.out.at (i := 0) (by omega)
                have HXe : Hid (X = cur.getD 0 Pat.zero) := hidd (by
                  rw [HX.out]
                  obtain ⟨z, hz⟩ : ∃ z, cur = [z] := by
                    cases cur with
                    | nil => simp at h1
                    | cons z l => cases l with
                      | nil => exact ⟨z, rfl⟩
                      | cons a l => simp at h1
                  rw [hz]; rfl)
                obtain ⟨y, hy⟩ : ∃ y, cur.getD 0 Pat.zero = y := ⟨_, rfl⟩
                rw [hy] at hnx hqx HXe
                obtain ⟨xa, xn, xc, rfl⟩ := hqx.form
                have HQx := hidd hqx
                obtain ⟨d0, d1, d2, d3, d4, _, _, _, _⟩ := hnx
                simp only [Nat.zero_mul, Nat.zero_add] at d0 d1 d2 d3 d4
                have l1i : ((cur.length : Int) == 1) = true := by rw [h1]; rfl
                have l1' : (cur.length == 1) = true := by rw [h1]; rfl
                have k0 : decide ((0 : Int) < (cur.length : Int)) = true := decide_eq_true (by omega)
                have hg3 : g2 ≠ w.heap.size + 1 := by omega
                clear hqx hy h1
                go_wp2_with fail
                exact bodyPost_ret (results_pat (rb := w.heap.size + 1) rfl rfl (setPat_heap S3.out.res) rfl) rfl (by rw [HXe.out]; exact own_end y (N := qb + 1) (HQx.out.mono fun b hb _ => hb.1) (by omega) (by omega) S3.out.grew (by omega) _ _ _ _ _)
              · have h2 : 2 ≤ cur.length := by omega
                have HXe : Hid (X = kidsP 18 cur) := hidd (by
                  rw [HX.out]
                  cases cur with
                  | nil => simp at h2
                  | cons z l => cases l with
                    | nil => simp at h2
                    | cons a l => rfl)
                have l1i : ((cur.length : Int) == 1) = false := beq_eq_false_iff_ne.2 (by omega)
                have l1' : (cur.length == 1) = false := beq_eq_false_iff_ne.2 (by omega)
                have l0 : ((cur.length : Int) == 0) = false := beq_eq_false_iff_ne.2 (by omega)
                have l0' : (cur.length == 0) = false := beq_eq_false_iff_ne.2 (by omega)
                have S5 := hidd (S3.out.setV (.slice ca cur.length cc))
                have O5 := hidd (O3.out.grownOther (r := some qb) (grown_cell wr qb 4 (.slice ca cur.length cc)) fun b e => by
                  cases e
                  exact ⟨by omega, fun e2 => by have := O3.out.blocks _ e2; omega⟩)
                have HQ := hidd (bare_pq O5.out (Nat.le_refl _) (p := kidsP 18 cur) (nums_kids (by omega)) rfl)
                have hne : qb ≠ w.heap.size + 1 := by omega
                have hne2 : w.heap.size + 1 ≠ qb := by omega
                obtain ⟨_, ⟨z0', z1', z2', z3', z4'⟩, ⟨o0', o1', o2', o3', o4'⟩, zf', of'⟩ := S5.out.cells
                clear h2 h1 h0
                go_wp2_with fail
                exact bodyPost_ret (results_pat (rb := w.heap.size + 1) rfl rfl (setPat_heap S5.out.res) rfl) rfl (by rw [HXe.out, HK1.out, HMM.out]; exact own_end (kidsP 18 cur) (N := qb + 1) HQ.out (by omega) (by omega) S5.out.grew (by omega) _ _ _ _ _)
      · have HX := hidd hX
        clear hX HCs
        have HMe := hidd hMe
        clear hMe
        have HKi : Hid (Calls Tryd.prog 48 #[.slice (some ⟨g, 0, none⟩) B.length qc, .int .i64 p.kind] wr fun e w' => ∃ v', e = .returned v' ∧ PatsOwn w' wr.heap.size (qb + 1) v' (kids6 19 L) ∧ Grew wr w') := by
          rw [show p.kind = 19 from by simpa using t19]
          exact Kids_19 L _ wr HHi.out (fun b hb => hb) (by rw [← HL.out]; exact HLn.out)
        have HLr2 : Hid (∀ q ∈ kids6 19 L, errW q = 0) := kids6_right 19 (by rw [← HL.out]; exact HLr.out)
        have HLl : Hid ((kids6 19 L).length ≤ 4096) := by have := kids6_len 19 L; have h2 := HLn.out; rw [HL.out] at h2; exact Nat.le_trans this h2
        rw [HL.out] at HX
        obtain ⟨l0, hl0⟩ : ∃ l0, kids6 19 L = l0 := ⟨_, rfl⟩
        rw [hl0] at HKi HLr2 HLl HX
        obtain ⟨R, hR0⟩ : ∃ R, mergedP othersP l0 = R := ⟨_, rfl⟩
        rw [hR0] at HX
        have HM0 : Hid (l0 = [] ∧ R = [] ∨ 0 < l0.length ∧ 1 ≤ l0.length ∧ mrg othersP l0 1 = R) := by
          rcases Nat.eq_zero_or_pos l0.length with h0 | h0
          · have e := List.eq_nil_of_length_eq_zero h0
            exact Or.inl ⟨e, by rw [← hR0, e]; rfl⟩
          · exact Or.inr ⟨h0, h0, by rw [mrg_start _ h0]; exact hR0⟩
        clear hl0 hR0
        go_wp2_with fail
        refine HKi.out.mono ?_; rintro e w2 ⟨v2, rfl, ho2, g2⟩
        have S2 := hidd (S1.out.kept g2)
        have O2 := hidd (ho2.mono (B' := qb + 1) (N' := qb + 1) (by have := S1.out.hi; have := S1.out.low; omega) (Nat.le_refl _))
        have hll := HLl.out
        obtain ⟨na, nc, hn⟩ := ho2.len
        clear ho2 g2 S1 O1 HKi HLl c0 c1 c2 c3 c4 z0 z1 z2 z3 z4 o0 o1 o2 o3 o4 zf of HL HHi HLB
        subst hn
        go_wp2_with fail
        go_loopw [6, 7] (fun s6 s7 wr => ∃ (cur : List Pat) (i : Nat), s7 = .int .i64 i ∧ 1 ≤ i ∧ cur.length ≤ 4096 ∧ Hid ((∃ a c, s6 = .slice a cur.length c) ∧ SimSt w p kv qb wr p.kind ⟨#[]⟩ 0 MM (.slice (some ⟨g, 0, none⟩) B.length qc) ∧ PatsOwn wr (qb + 1) (qb + 1) s6 cur ∧ (cur = [] ∧ R = [] ∨ 0 < cur.length ∧ i ≤ cur.length ∧ mrg othersP cur i = R) ∧ ∀ q ∈ cur, errW q = 0)) (fun s6 s7 _ => 2 * slLen s6 - (intOf s7).toNat)
        case atStart => exact ⟨l0, 1, rfl, Nat.le_refl _, hll, ⟨na, nc, rfl⟩, S2.out, O2.out, HM0.out, HLr2.out⟩
        case round =>
          obtain ⟨cur, i, rfl, hi1, hcl4, HD⟩ := hrel
          clear S2 O2 HM0 HLr2 hll
          obtain ⟨⟨ca, cc, rfl⟩, hS, hO, hM, hE⟩ := HD.out
          have S3 := hidd hS
          have O3 := hidd hO
          have HErr := hidd hE
          by_cases hlt : i < cur.length
          · have HM : Hid (mrg othersP cur i = R) := by
              rcases hM with ⟨e, _⟩ | ⟨_, _, e⟩
              · rw [e] at hlt; simp at hlt
              · exact e
            obtain ⟨g2, cc2, hv, hgB2, hgl2⟩ : ∃ g cap, Value.slice ca cur.length cc = .slice (some ⟨g, 0, none⟩) cur.length cap ∧ qb + 1 ≤ g ∧ g < wr.heap.size := by
              obtain ⟨kvs, h1, h2, h3⟩ := hO.rep
              exact h2.form (by omega)
            have hca : ca = some ⟨g2, 0, none⟩ := by injection hv
            subst hca
            clear hv cc2
            obtain ⟨kx, hnx, hqx⟩ := hO.at (i := i - 1) (by omega)
            obtain ⟨ky, hny, hqy⟩ := hO.at (i := i) hlt
            have HMs := hidd (fun q h => @mrg_some othersP cur i hi1 hlt q h)
            have HMn := hidd (fun h => @mrg_none othersP cur i hi1 hlt h)
            have hrx := hE (cur.getD (i - 1) Pat.zero) (by rw [List.getD_eq_getElem?_getD, List.getElem?_eq_getElem (show i - 1 < cur.length by omega)]; exact List.getElem_mem _)
            have hry := hE (cur.getD i Pat.zero) (by rw [List.getD_eq_getElem?_getD, List.getElem?_eq_getElem hlt]; exact List.getElem_mem _)
            obtain ⟨x, hx⟩ : ∃ x, cur.getD (i - 1) Pat.zero = x := ⟨_, rfl⟩
            obtain ⟨y, hy⟩ : ∃ y, cur.getD i Pat.zero = y := ⟨_, rfl⟩
            rw [hx] at hnx hqx HMs HMn hrx
            rw [hy] at hny hqy HMs HMn hry
            obtain ⟨xa, xn, xc, rfl⟩ := hqx.form
            obtain ⟨ya, yn, yc, rfl⟩ := hqy.form
            have HRx := hidd hrx
            have HRy := hidd hry
            have HXt := hidd hqx.nums.ht
            have HYt := hidd hqy.nums.ht
            have hhi := hS.hi
            have hlow := hS.low
            have kl : decide ((i : Int) < (cur.length : Int)) = true := decide_eq_true (by omega)
            obtain ⟨i1, hi2⟩ : ∃ i1, i1 + 1 = i := ⟨i - 1, by omega⟩
            have Hi2 := hidd hi2
            have hnx2 : NodeAt wr g2 (i1 * 5) x (.slice xa xn xc) := by rw [show i1 = i - 1 by omega]; exact hnx
            have hi1l : i1 < cur.length := by omega
            clear HD hS hO hM hE hx hy hqx hqy hrx hry hnx hi2
            go_wp2_with fail
            refine RR.region_frame (J := TwoJ wr.drew x y (.slice xa xn xc) (.slice ya yn yc)) (Rl := AnyRl) [129, 130, 131, 132, 133, 134, 135, 136, 137, 8, 9] mixedA (fun _ => trivial) (fun _ _ _ _ _ => trivial)
              [.val (.slice (some ⟨g2, 0, none⟩) cur.length cc), .val (.int .i64 (i : Int)), .val (.int .i64 (i1 : Int)), .val (.pointer (some ⟨g2, i1 * 5, none⟩)), .val (.agg #[.int .i64 x.kind, .string x.text, .int .i64 x.n, .string x.name, .slice xa xn xc]), .val (.slice (some ⟨g2, 0, none⟩) cur.length cc), .val (.int .i64 (i : Int)), .val (.pointer (some ⟨g2, i * 5, none⟩)), .val (.agg #[.int .i64 y.kind, .string y.text, .int .i64 y.n, .string y.name, .slice ya yn yc]), .fact fun _ _ => True, .fact fun _ _ => True, .fact fun _ _ => True, .fact fun _ _ => True]
              (two_start _ _) (any_mono ?_) rfl (by kernel_rfl)
              ⟨tj_move (by decide) (by kernel_rfl) rfl rfl,
               tj_move (by decide) (by kernel_rfl) rfl rfl,
               tj_num (fun w => sub_int i w Hi2.out (by omega)) (by decide) (by kernel_rfl) rfl rfl rfl,
               tj_index (index_pats hi1l (by omega)) (by decide) (by kernel_rfl) rfl rfl rfl,
               tj_load (fun w' hR => load_node (hnx2.kept ((Grew.refl wr).drew.trans hR))) (by decide) (by kernel_rfl) rfl rfl,
               tj_move (by decide) (by kernel_rfl) rfl rfl,
               tj_move (by decide) (by kernel_rfl) rfl rfl,
               tj_index (index_pats hlt (by omega)) (by decide) (by kernel_rfl) rfl rfl rfl,
               tj_load (fun w' hR => load_node (hny.kept ((Grew.refl wr).drew.trans hR))) (by decide) (by kernel_rfl) rfl rfl,
               tj_allocA (by simp) (by decide) (by kernel_rfl) rfl,
               tj_allocB (by simp) (by decide) (by kernel_rfl) rfl,
               tj_storeA rfl (by kernel_rfl) (by decide) (by kernel_rfl) rfl rfl,
               tj_storeB rfl (by kernel_rfl) (by decide) (by kernel_rfl) rfl rfl, trivial⟩ ?_
            · intro s hs
              simp only [List.mem_cons, List.not_mem_nil, or_false] at hs
              rcases hs with rfl | rfl | rfl | rfl | rfl | rfl | rfl | rfl | rfl | rfl | rfl | rfl | rfl <;> first | exact Or.inl ⟨_, rfl⟩ | exact Or.inr rfl
            intro xs listed a3 w3 hall hxs hJ hR ht
            obtain ⟨bA, _, _, _, _, _, eA, hA0, _, hA, _⟩ := hJ.bA (hall 9 (by decide))
            obtain ⟨bB, _, _, _, _, _, eB, hB1, _, hB⟩ := hJ.bB (hall 10 (by decide))
            have HA := hidd (hA (hall 11 (by decide)))
            have HB := hidd (hB (hall 12 (by decide)))
            have eA : xs 8 = .pointer (some ⟨bA, 0, none⟩) := by rw [← hxs]; exact eA
            have eB : xs 9 = .pointer (some ⟨bB, 0, none⟩) := by rw [← hxs]; exact eB
            have g3 := (Grew.refl wr).drew.trans hJ.grew
            have S4 := hidd (S3.out.kept g3)
            have O4 := hidd (O3.out.kept g3)
            have hg3 := g3.size
            have hbA : bA < w3.heap.size := (Array.getElem?_eq_some_iff.1 HA.out).1
            have hbB : bB < w3.heap.size := (Array.getElem?_eq_some_iff.1 HB.out).1
            have hA1 : wr.heap.size ≤ bA := hA0
            have hB2' : wr.heap.size ≤ bB := hB1
            simp only [List.foldl_cons, List.foldl_nil, List.setIfInBounds_toArray, List.set_cons_succ, List.set_cons_zero]
            rw [eA, eB]
            clear hall hxs hJ hR ht eA eB hA hB g3 S3 O3 hnx2 hny hA0 hB1
            obtain ⟨⟨c0, c1, c2, c3, c4⟩, _, _, _, _⟩ := S4.out.cells
            obtain ⟨⟨a0, a1, a2, a3, a4⟩, _⟩ := five_cells HA.out
            obtain ⟨⟨d0, d1, d2, d3, d4⟩, _⟩ := five_cells HB.out
            have hw0 : w.heap.size < w3.heap.size := by omega
            have GZ := hidd ((Grew.refl w3).alloc (.cells #[.int .i64 0, .string ⟨#[]⟩, .int .i64 0, .string ⟨#[]⟩, .slice none 0 0] 24))
            have HSx := hidd (fun w1 => single6_any x (.slice xa xn xc) w1 HXt.out)
            have HSy := hidd (fun w1 => single6_any y (.slice ya yn yc) w1 HYt.out)
            cases x1 : oneB x with
            | false =>
              rw [x1] at HSx
              have HTW : Hid (othersP x y = none) := hidd (by unfold othersP; rw [if_neg (fun h => by rw [h.1] at x1; cases x1)])
              have HN1 := hidd (HMn.out HTW.out)
              clear HMs HMn HTW
              go_wp2_with fail
              refine (HSx.out _).mono ?_; rintro e w4 ⟨rfl, g4⟩
              have G4 := hidd (GZ.out.trans g4)
              have Z4 : Hid (Five w4 w3.heap.size (.int .i64 0) (.string ⟨#[]⟩) (.int .i64 0) (.string ⟨#[]⟩) (.slice none 0 0)) := heap_kept g4 (heap_alloc_new w3 _)
              clear g4 a0 a1 a2 a3 a4 c0 c1 c2 c3 c4 d0 d1 d2 d3 d4
              have V4 := hidd (S4.out.kept G4.out)
              obtain ⟨⟨c0, c1, c2, c3, c4⟩, _, _, _, _⟩ := V4.out.cells
              obtain ⟨⟨a0, a1, a2, a3, a4⟩, _⟩ := five_cells (heap_kept G4.out HA.out)
              obtain ⟨⟨d0, d1, d2, d3, d4⟩, _⟩ := five_cells (heap_kept G4.out HB.out)
              obtain ⟨⟨e0, e1, e2, e3, e4⟩, ef⟩ := five_cells Z4.out
              go_wp2_with fail
              go_roundw
              case rel => exact ⟨cur, i + 1, by go_num, by omega, hcl4, ⟨⟨_, _, rfl⟩, S4.out.kept G4.out, O4.out.kept G4.out, Or.inr ⟨by omega, by omega, HN1.out.symm.trans HM.out⟩, HErr.out⟩⟩
              case measure => simp [intOf, slLen]; omega
            | true =>
              have x1' := x1
              rw [x1] at HSx
              cases y1 : oneB y with
              | false =>
                rw [y1] at HSy
                have HTW : Hid (othersP x y = none) := hidd (by unfold othersP; rw [if_neg (fun h => by rw [h.2.1] at y1; cases y1)])
                have HN1 := hidd (HMn.out HTW.out)
                clear HMs HMn HTW
                go_wp2_with fail
                refine (HSx.out _).mono ?_; rintro e w4 ⟨rfl, g4⟩
                have G4 := hidd (GZ.out.trans g4)
                have Z4 : Hid (Five w4 w3.heap.size (.int .i64 0) (.string ⟨#[]⟩) (.int .i64 0) (.string ⟨#[]⟩) (.slice none 0 0)) := heap_kept g4 (heap_alloc_new w3 _)
                clear g4 a0 a1 a2 a3 a4 c0 c1 c2 c3 c4 d0 d1 d2 d3 d4
                have V4 := hidd (S4.out.kept G4.out)
                obtain ⟨⟨c0, c1, c2, c3, c4⟩, _, _, _, _⟩ := V4.out.cells
                obtain ⟨⟨a0, a1, a2, a3, a4⟩, _⟩ := five_cells (heap_kept G4.out HA.out)
                obtain ⟨⟨d0, d1, d2, d3, d4⟩, _⟩ := five_cells (heap_kept G4.out HB.out)
                obtain ⟨⟨e0, e1, e2, e3, e4⟩, ef⟩ := five_cells Z4.out
                go_wp2_with fail
                refine (HSy.out _).mono ?_; rintro e w5 ⟨rfl, g5⟩
                have G5 := hidd (G4.out.trans g5)
                have Z5 : Hid (Five w5 w3.heap.size (.int .i64 0) (.string ⟨#[]⟩) (.int .i64 0) (.string ⟨#[]⟩) (.slice none 0 0)) := heap_kept g5 Z4.out
                clear g5 a0 a1 a2 a3 a4 c0 c1 c2 c3 c4 d0 d1 d2 d3 d4 e0 e1 e2 e3 e4 ef
                have V5 := hidd (S4.out.kept G5.out)
                obtain ⟨⟨c0, c1, c2, c3, c4⟩, _, _, _, _⟩ := V5.out.cells
                obtain ⟨⟨a0, a1, a2, a3, a4⟩, _⟩ := five_cells (heap_kept G5.out HA.out)
                obtain ⟨⟨d0, d1, d2, d3, d4⟩, _⟩ := five_cells (heap_kept G5.out HB.out)
                obtain ⟨⟨e0, e1, e2, e3, e4⟩, ef⟩ := five_cells Z5.out
                go_wp2_with fail
                go_roundw
                case rel => exact ⟨cur, i + 1, by go_num, by omega, hcl4, ⟨⟨_, _, rfl⟩, S4.out.kept G5.out, O4.out.kept G5.out, Or.inr ⟨by omega, by omega, HN1.out.symm.trans HM.out⟩, HErr.out⟩⟩
                case measure => simp [intOf, slLen]; omega
              | true =>
                have y1' := y1
                rw [y1] at HSy
                clear x1 y1
                cases ap : apartB x.text y.text with
                | false =>
                  have HMt := hidd (fun w1 => meets_any x.text y.text w1 HXt.out HYt.out)
                  rw [ap] at HMt
                  have HTW : Hid (othersP x y = none) := hidd (by unfold othersP; rw [if_neg (fun h => by rw [h.2.2] at ap; cases ap)])
                  have HN1 := hidd (HMn.out HTW.out)
                  clear HMs HMn HTW
                  go_wp2_with fail
                  refine (HSx.out _).mono ?_; rintro e w4 ⟨rfl, g4⟩
                  have G4 := hidd (GZ.out.trans g4)
                  have Z4 : Hid (Five w4 w3.heap.size (.int .i64 0) (.string ⟨#[]⟩) (.int .i64 0) (.string ⟨#[]⟩) (.slice none 0 0)) := heap_kept g4 (heap_alloc_new w3 _)
                  clear g4 a0 a1 a2 a3 a4 c0 c1 c2 c3 c4 d0 d1 d2 d3 d4
                  have V4 := hidd (S4.out.kept G4.out)
                  obtain ⟨⟨c0, c1, c2, c3, c4⟩, _, _, _, _⟩ := V4.out.cells
                  obtain ⟨⟨a0, a1, a2, a3, a4⟩, _⟩ := five_cells (heap_kept G4.out HA.out)
                  obtain ⟨⟨d0, d1, d2, d3, d4⟩, _⟩ := five_cells (heap_kept G4.out HB.out)
                  obtain ⟨⟨e0, e1, e2, e3, e4⟩, ef⟩ := five_cells Z4.out
                  go_wp2_with fail
                  refine (HSy.out _).mono ?_; rintro e w5 ⟨rfl, g5⟩
                  have G5 := hidd (G4.out.trans g5)
                  have Z5 : Hid (Five w5 w3.heap.size (.int .i64 0) (.string ⟨#[]⟩) (.int .i64 0) (.string ⟨#[]⟩) (.slice none 0 0)) := heap_kept g5 Z4.out
                  clear g5 a0 a1 a2 a3 a4 c0 c1 c2 c3 c4 d0 d1 d2 d3 d4 e0 e1 e2 e3 e4 ef
                  have V5 := hidd (S4.out.kept G5.out)
                  obtain ⟨⟨c0, c1, c2, c3, c4⟩, _, _, _, _⟩ := V5.out.cells
                  obtain ⟨⟨a0, a1, a2, a3, a4⟩, _⟩ := five_cells (heap_kept G5.out HA.out)
                  obtain ⟨⟨d0, d1, d2, d3, d4⟩, _⟩ := five_cells (heap_kept G5.out HB.out)
                  obtain ⟨⟨e0, e1, e2, e3, e4⟩, ef⟩ := five_cells Z5.out
                  go_wp2_with fail
                  refine (HMt.out _).mono ?_; rintro e w6 ⟨rfl, g6⟩
                  have G6 := hidd (G5.out.trans g6)
                  have Z6 : Hid (Five w6 w3.heap.size (.int .i64 0) (.string ⟨#[]⟩) (.int .i64 0) (.string ⟨#[]⟩) (.slice none 0 0)) := heap_kept g6 Z5.out
                  clear g6 a0 a1 a2 a3 a4 c0 c1 c2 c3 c4 d0 d1 d2 d3 d4 e0 e1 e2 e3 e4 ef
                  have V6 := hidd (S4.out.kept G6.out)
                  obtain ⟨⟨c0, c1, c2, c3, c4⟩, _, _, _, _⟩ := V6.out.cells
                  obtain ⟨⟨a0, a1, a2, a3, a4⟩, _⟩ := five_cells (heap_kept G6.out HA.out)
                  obtain ⟨⟨d0, d1, d2, d3, d4⟩, _⟩ := five_cells (heap_kept G6.out HB.out)
                  obtain ⟨⟨e0, e1, e2, e3, e4⟩, ef⟩ := five_cells Z6.out
                  go_wp2_with fail
                  go_roundw
                  case rel => exact ⟨cur, i + 1, by go_num, by omega, hcl4, ⟨⟨_, _, rfl⟩, S4.out.kept G6.out, O4.out.kept G6.out, Or.inr ⟨by omega, by omega, HN1.out.symm.trans HM.out⟩, HErr.out⟩⟩
                  case measure => simp [intOf, slLen]; omega
                | true =>
                  have HMt := hidd (fun w1 => meets_any x.text y.text w1 HXt.out HYt.out)
                  rw [ap] at HMt
                  have HTW : Hid (othersP x y = some (textP 3 (spell (x.text ++ y.text)))) := hidd (by unfold othersP; rw [if_pos ⟨x1', y1', ap⟩])
                  have HCr := hidd (others_right x y _ HRx.out HRy.out HTW.out)
                  have hxz := one_size HRx.out x1'
                  have hyz := one_size HRy.out y1'
                  have HBt := hidd (fun w1 => bytes6_any (x.text ++ y.text) w1 (by rw [ByteArray.size_append]; unfold maxLen; omega))
                  obtain ⟨sp, hsp⟩ : ∃ sp, spell (x.text ++ y.text) = sp := ⟨_, rfl⟩
                  have hsz := spell_max (x.text ++ y.text)
                  rw [hsp] at HTW HCr HBt hsz
                  have HCn : Hid (NumsOk (textP 3 sp)) := nums_leaf (by omega) zero_in hsz none_size
                  clear hsz hsp
                  go_wp2_with fail
                  refine (HSx.out _).mono ?_; rintro e w4 ⟨rfl, g4⟩
                  have G4 := hidd (GZ.out.trans g4)
                  have Z4 : Hid (Five w4 w3.heap.size (.int .i64 0) (.string ⟨#[]⟩) (.int .i64 0) (.string ⟨#[]⟩) (.slice none 0 0)) := heap_kept g4 (heap_alloc_new w3 _)
                  clear g4 a0 a1 a2 a3 a4 c0 c1 c2 c3 c4 d0 d1 d2 d3 d4
                  have V4 := hidd (S4.out.kept G4.out)
                  obtain ⟨⟨c0, c1, c2, c3, c4⟩, _, _, _, _⟩ := V4.out.cells
                  obtain ⟨⟨a0, a1, a2, a3, a4⟩, _⟩ := five_cells (heap_kept G4.out HA.out)
                  obtain ⟨⟨d0, d1, d2, d3, d4⟩, _⟩ := five_cells (heap_kept G4.out HB.out)
                  obtain ⟨⟨e0, e1, e2, e3, e4⟩, ef⟩ := five_cells Z4.out
                  go_wp2_with fail
                  refine (HSy.out _).mono ?_; rintro e w5 ⟨rfl, g5⟩
                  have G5 := hidd (G4.out.trans g5)
                  have Z5 : Hid (Five w5 w3.heap.size (.int .i64 0) (.string ⟨#[]⟩) (.int .i64 0) (.string ⟨#[]⟩) (.slice none 0 0)) := heap_kept g5 Z4.out
                  clear g5 a0 a1 a2 a3 a4 c0 c1 c2 c3 c4 d0 d1 d2 d3 d4 e0 e1 e2 e3 e4 ef
                  have V5 := hidd (S4.out.kept G5.out)
                  obtain ⟨⟨c0, c1, c2, c3, c4⟩, _, _, _, _⟩ := V5.out.cells
                  obtain ⟨⟨a0, a1, a2, a3, a4⟩, _⟩ := five_cells (heap_kept G5.out HA.out)
                  obtain ⟨⟨d0, d1, d2, d3, d4⟩, _⟩ := five_cells (heap_kept G5.out HB.out)
                  obtain ⟨⟨e0, e1, e2, e3, e4⟩, ef⟩ := five_cells Z5.out
                  go_wp2_with fail
                  refine (HMt.out _).mono ?_; rintro e w6 ⟨rfl, g6⟩
                  have G6 := hidd (G5.out.trans g6)
                  have Z6 : Hid (Five w6 w3.heap.size (.int .i64 0) (.string ⟨#[]⟩) (.int .i64 0) (.string ⟨#[]⟩) (.slice none 0 0)) := heap_kept g6 Z5.out
                  clear g6 a0 a1 a2 a3 a4 c0 c1 c2 c3 c4 d0 d1 d2 d3 d4 e0 e1 e2 e3 e4 ef
                  have V6 := hidd (S4.out.kept G6.out)
                  obtain ⟨⟨c0, c1, c2, c3, c4⟩, _, _, _, _⟩ := V6.out.cells
                  obtain ⟨⟨a0, a1, a2, a3, a4⟩, _⟩ := five_cells (heap_kept G6.out HA.out)
                  obtain ⟨⟨d0, d1, d2, d3, d4⟩, _⟩ := five_cells (heap_kept G6.out HB.out)
                  obtain ⟨⟨e0, e1, e2, e3, e4⟩, ef⟩ := five_cells Z6.out
                  go_wp2_with fail
                  refine (HBt.out _).mono ?_; rintro e w7 ⟨rfl, g7⟩
                  have G7 := hidd (G6.out.trans g7)
                  have Z7 : Hid (Five w7 w3.heap.size (.int .i64 0) (.string ⟨#[]⟩) (.int .i64 0) (.string ⟨#[]⟩) (.slice none 0 0)) := heap_kept g7 Z6.out
                  clear g7 a0 a1 a2 a3 a4 c0 c1 c2 c3 c4 d0 d1 d2 d3 d4 e0 e1 e2 e3 e4 ef
                  have V7 := hidd (S4.out.kept G7.out)
                  obtain ⟨⟨c0, c1, c2, c3, c4⟩, _, _, _, _⟩ := V7.out.cells
                  obtain ⟨⟨a0, a1, a2, a3, a4⟩, _⟩ := five_cells (heap_kept G7.out HA.out)
                  obtain ⟨⟨d0, d1, d2, d3, d4⟩, _⟩ := five_cells (heap_kept G7.out HB.out)
                  obtain ⟨⟨e0, e1, e2, e3, e4⟩, ef⟩ := five_cells Z7.out
                  have n1 : w3.heap.size ≠ bA := by omega
                  have n2 : w3.heap.size ≠ bB := by omega
                  have n3 : w3.heap.size ≠ w.heap.size := by omega
                  go_wp2_with fail
                  have G8 : Hid (Grew w3 (((((w7.setCell ⟨w3.heap.size, 0, none⟩ (.int .i64 3)).setCell ⟨w3.heap.size, 1, none⟩ (.string sp)).setCell ⟨w3.heap.size, 2, none⟩ (.int .i64 0)).setCell ⟨w3.heap.size, 3, none⟩ (.string ⟨#[]⟩)).setCell ⟨w3.heap.size, 4, none⟩ (.slice none 0 0))) := setPat_new G7.out (b := w3.heap.size) (Nat.le_refl _) 0 (textP 3 sp) (.slice none 0 0)
                  have F5 : Hid (Five (((((w7.setCell ⟨w3.heap.size, 0, none⟩ (.int .i64 3)).setCell ⟨w3.heap.size, 1, none⟩ (.string sp)).setCell ⟨w3.heap.size, 2, none⟩ (.int .i64 0)).setCell ⟨w3.heap.size, 3, none⟩ (.string ⟨#[]⟩)).setCell ⟨w3.heap.size, 4, none⟩ (.slice none 0 0)) w3.heap.size (.int .i64 3) (.string sp) (.int .i64 0) (.string ⟨#[]⟩) (.slice none 0 0)) := setPat_five Z7.out (textP 3 sp) (.slice none 0 0)
                  clear V4 V5 V6 V7 e0 e1 e2 e3 e4 ef Z4 Z5 Z6 Z7 G4 G5 G6 G7
                  generalize (((((w7.setCell ⟨w3.heap.size, 0, none⟩ (.int .i64 3)).setCell ⟨w3.heap.size, 1, none⟩ (.string sp)).setCell ⟨w3.heap.size, 2, none⟩ (.int .i64 0)).setCell ⟨w3.heap.size, 3, none⟩ (.string ⟨#[]⟩)).setCell ⟨w3.heap.size, 4, none⟩ (.slice none 0 0)) = W5 at G8 F5 ⊢
                  have G5 := G8
                  have SC := hidd (S4.out.kept G5.out)
                  have OC := hidd (O4.out.kept G5.out)
                  have tbnode : NodeAt W5 w3.heap.size 0 (textP 3 sp) (.slice none 0 0) := by
                    obtain ⟨⟨f0, f1, f2, f3, f4⟩, _⟩ := five_cells F5.out
                    exact ⟨f0, f1, f2, f3, f4, HCn.out.hk, HCn.out.hn, HCn.out.ht, HCn.out.hm⟩
                  clear S4 O4 HA HB HMn GZ a0 a1 a2 a3 a4 c0 c1 c2 c3 c4 d0 d1 d2 d3 d4
                  obtain ⟨T, hT⟩ : ∃ T, cur.take (i - 1) = T := ⟨_, rfl⟩
                  obtain ⟨D, hD⟩ : ∃ D, cur.drop (i + 1) = D := ⟨_, rfl⟩
                  have hTl : T.length = i - 1 := by rw [← hT, List.length_take]; omega
                  have hDl : D.length = cur.length - (i + 1) := by rw [← hD, List.length_drop]
                  have HTl := hidd hTl
                  have HDl := hidd hDl
                  have hiT : T.length + 1 = i := by omega
                  have HiT := hidd hiT
                  have hpre : ListIn W5.drew (fun b => qb + 1 ≤ b ∧ b < W5.drew.heap.size) (.slice (some ⟨g2, 0, none⟩) T.length cc) T := by
                    have h := (OC.out.kept (Grew.refl W5).drew).pre (i - 1) (by omega)
                    rw [hT, ← hTl] at h
                    exact (h.lt2).mono fun b hb _ => ⟨hb.1.1, hb.2⟩
                  have hsuf : ListIn W5.drew (fun b => qb + 1 ≤ b ∧ b < W5.drew.heap.size) (.slice (if cc = i + 1 then some ⟨g2, 0, none⟩ else some ⟨g2, (i + 1) * 5, none⟩) D.length (cc - (i + 1))) D := by
                    have h := (OC.out.kept (Grew.refl W5).drew).suf (i + 1) (by omega)
                    rw [hD, ← hDl] at h
                    exact (h.lt2).mono fun b hb _ => ⟨hb.1.1, hb.2⟩
                  have hcc : cur.length ≤ cc := by
                    rcases OC.out.list.rep with ⟨_, _, e, e2⟩ | ⟨_, _, _, _, e, _, h3, _⟩
                    · rw [e2] at hlt; simp at hlt
                    · cases e; exact h3
                  have hT4 : T.length ≤ 4096 := by omega
                  have hD4 : D.length ≤ 4096 := by omega
                  have HPre := hidd hpre
                  have HSuf := hidd hsuf
                  have HMs2 : Hid (mrg othersP (T ++ [(textP 3 sp)] ++ D) i = R) := by rw [← hT, ← hD]; exact (HMs.out (textP 3 sp) HTW.out).symm.trans HM.out
                  have HEr2 : Hid (∀ q ∈ T ++ [(textP 3 sp)] ++ D, errW q = 0) := fun q hq => by
                    rcases List.mem_append.1 hq with hq | hq
                    · rcases List.mem_append.1 hq with hq | hq
                      · exact HErr.out q (List.mem_of_mem_take (by rw [hT]; exact hq))
                      · rw [List.mem_singleton] at hq; rw [hq]; exact HCr.out
                    · exact HErr.out q (List.mem_of_mem_drop (by rw [hD]; exact hq))
                  have hcl : (T ++ [(textP 3 sp)] ++ D).length = cur.length - 1 := by rw [List.length_append, List.length_append, List.length_singleton]; omega
                  have HCl := hidd hcl
                  have HHT := hidd hT
                  have HHD := hidd hD
                  clear hT hD hTl hDl hpre hsuf hcl hiT
                  refine RR.region_frame (J := PairJ W5.drew (qb + 1) T D (textP 3 sp) (.slice (some ⟨g2, 0, none⟩) cur.length cc)) (Rl := AnyRl) [227, 228, 229, 230, 231, 232, 233, 234, 235, 236, 237, 238, 239, 240, 6] mixedA (fun _ => trivial) (fun _ _ _ _ _ => trivial)
                    [.fact fun _ _ => True, .val (.slice (some ⟨g2, 0, none⟩) cur.length cc), .val (.int .i64 (i : Int)), .val (.int .i64 (T.length : Int)), .val (.slice (some ⟨g2, 0, none⟩) T.length cc), .fact fun _ _ => True, .val (.agg #[.int .i64 3, .string sp, .int .i64 0, .string ⟨#[]⟩, .slice none 0 0]), .fact fun _ _ => True, .fact fun _ _ => True, .val (.slice (some ⟨g2, 0, none⟩) cur.length cc), .val (.int .i64 (i : Int)), .val (.int .i64 ((i + 1 : Nat) : Int)), .val (.slice (if cc = i + 1 then some ⟨g2, 0, none⟩ else some ⟨g2, (i + 1) * 5, none⟩) D.length (cc - (i + 1))), .fact fun _ _ => True, .fact fun _ _ => True]
                    (pair_start _ _ rfl) (any_mono ?_) rfl (by kernel_rfl)
                    ⟨pj_empty (by simp) (by decide) (by kernel_rfl) rfl,
                     pj_name (by decide) (Or.inl rfl) (by kernel_rfl) rfl,
                     pj_move (by decide) (by kernel_rfl) rfl rfl,
                     pj_num (fun w => sub_int i w HiT.out (by omega)) (by decide) (by kernel_rfl) rfl rfl rfl,
                     pj_pre (n := cur.length) (by have := HTl.out; omega) (by decide) (by kernel_rfl) rfl rfl rfl,
                     pj_app1 (by kernel_rfl) (by simp) (by decide) HPre.out hT4 (by kernel_rfl) rfl rfl,
                     pj_load (fun w' hR => load_node (tbnode.kept ((Grew.refl W5).drew.trans hR))) (by decide) (by kernel_rfl) rfl rfl,
                     pj_one (by simp) (by decide) (by kernel_rfl) rfl rfl,
                     pj_app2 (by kernel_rfl) (by kernel_rfl) rfl HCn.out (by simp) (by decide) hT4 (by kernel_rfl) rfl,
                     pj_name (by decide) (Or.inr rfl) (by kernel_rfl) rfl,
                     pj_move (by decide) (by kernel_rfl) rfl rfl,
                     pj_num (fun w => add_int i w (by omega)) (by decide) (by kernel_rfl) rfl rfl rfl,
                     pj_suf (n := cur.length) (by omega) (by rw [HDl.out]) (by decide) (by kernel_rfl) rfl rfl rfl,
                     pj_app3 (by kernel_rfl) (by simp) (by decide) HSuf.out hT4 hD4 (by kernel_rfl) rfl rfl,
                     pj_last (by kernel_rfl) (by kernel_rfl) (by kernel_rfl) (by simp) (by decide) (by kernel_rfl) rfl, trivial⟩ ?_
                  · intro s hs
                    simp only [List.mem_cons, List.not_mem_nil, or_false] at hs
                    rcases hs with rfl | rfl | rfl | rfl | rfl | rfl | rfl | rfl | rfl | rfl | rfl | rfl | rfl | rfl | rfl <;> first | exact Or.inl ⟨_, rfl⟩ | exact Or.inr rfl
                  intro xs listed a3 w6 hall hxs hJ hR ht
                  have hx6 : xs 6 = xs 240 := by rw [← hxs, ← hxs]; exact hJ.p4 (hall 14 (by decide))
                  have hown := hJ.p3 (hall 13 (by decide))
                  rw [hxs] at hown
                  have S6 := hidd ((SC.out.kept (Grew.refl W5).drew).kept hJ.grew)
                  have O6 := hidd (hown.mono (B' := qb + 1) (N' := qb + 1) (by have := SC.out.hi; have := SC.out.low; have : W5.drew.heap.size = W5.heap.size := rfl; omega) (Nat.le_refl _))
                  obtain ⟨na, nc, hn⟩ := hown.len
                  clear hall hxs hJ hR ht hown
                  simp only [List.foldl_cons, List.foldl_nil, List.setIfInBounds_toArray, List.set_cons_succ, List.set_cons_zero]
                  rw [hx6, hn]
                  rw [hn] at O6
                  clear hx6 hn
                  rw [HCl.out] at O6 ⊢
                  go_wp2_with fail
                  go_roundw
                  case rel => exact ⟨T ++ [(textP 3 sp)] ++ D, i, rfl, by omega, by rw [HCl.out]; omega, ⟨⟨na, nc, by rw [HCl.out]⟩, S6.out, O6.out, Or.inr ⟨by rw [HCl.out]; omega, by rw [HCl.out]; omega, HMs2.out⟩, HEr2.out⟩⟩
                  case measure => simp [intOf, slLen]; omega
          · have kl : decide ((i : Int) < (cur.length : Int)) = false := decide_eq_false (by omega)
            have HRc : Hid (cur = R) := by
              rcases hM with ⟨e, e2⟩ | ⟨h1, h2, e⟩
              · exact hidd (e.trans e2.symm)
              · have : i = cur.length := by omega
                exact hidd (by rw [← e, this, mrg_done h1])
            have hlow := hS.low
            have hhi := hS.hi
            clear HD hO hM hE hS
            rw [← HRc.out] at HX
            obtain ⟨⟨c0, c1, c2, c3, c4⟩, ⟨z0, z1, z2, z3, z4⟩, ⟨o0, o1, o2, o3, o4⟩, zf, of⟩ := S3.out.cells
            have HK1 : Hid (Value.int .i64 p.kind = .int .i64 19) := hidd (by rw [show p.kind = 19 from by simpa using t19])
            have HMM : Hid (MM = ByteArray.empty) := HMe
            by_cases h0 : cur.length = 0
            · have l0 : ((cur.length : Int) == 0) = true := by rw [h0]; rfl
              have l1 : ((cur.length : Int) == 1) = false := by rw [h0]; rfl
              have l0' : (cur.length == 0) = true := by rw [h0]; rfl
              have l1' : (cur.length == 1) = false := by rw [h0]; rfl
              have HXe : Hid (X = bareP 15) := hidd (by rw [HX.out, List.eq_nil_of_length_eq_zero h0]; rfl)
              clear h0
              go_wp2_with fail
              exact bodyPost_ret (results_pat (rb := w.heap.size + 1) rfl rfl (setPat_heap S3.out.res) rfl) rfl (by rw [HXe.out]; exact leaf_end (bareP 15) (nums_leaf (by omega) zero_in none_size none_size) rfl (setPat_grew S3.out.grew (by omega) _ _ _ _ _))
            · by_cases h1 : cur.length = 1
              · obtain ⟨g2, cc2, hv, hgB2, hgl2⟩ : ∃ g cap, Value.slice ca cur.length cc = .slice (some ⟨g, 0, none⟩) cur.length cap ∧ qb + 1 ≤ g ∧ g < wr.heap.size := by
                  obtain ⟨kvs, h1, h2, h3⟩ := O3.out.rep
                  exact h2.form (by omega)
                have hca : ca = some ⟨g2, 0, none⟩ := by injection hv
                subst hca
                clear hv cc2
                obtain ⟨kx, hnx, hqx⟩ := O3.out.at (i := 0) (by omega)
                have HXe : Hid (X = cur.getD 0 Pat.zero) := hidd (by
                  rw [HX.out]
                  obtain ⟨z, hz⟩ : ∃ z, cur = [z] := by
                    cases cur with
                    | nil => simp at h1
                    | cons z l => cases l with
                      | nil => exact ⟨z, rfl⟩
                      | cons a l => simp at h1
                  rw [hz]; rfl)
                obtain ⟨y, hy⟩ : ∃ y, cur.getD 0 Pat.zero = y := ⟨_, rfl⟩
                rw [hy] at hnx hqx HXe
                obtain ⟨xa, xn, xc, rfl⟩ := hqx.form
                have HQx := hidd hqx
                obtain ⟨d0, d1, d2, d3, d4, _, _, _, _⟩ := hnx
                simp only [Nat.zero_mul, Nat.zero_add] at d0 d1 d2 d3 d4
                have l1i : ((cur.length : Int) == 1) = true := by rw [h1]; rfl
                have l1' : (cur.length == 1) = true := by rw [h1]; rfl
                have k0 : decide ((0 : Int) < (cur.length : Int)) = true := decide_eq_true (by omega)
                have hg3 : g2 ≠ w.heap.size + 1 := by omega
                clear hqx hy h1
                go_wp2_with fail
                exact bodyPost_ret (results_pat (rb := w.heap.size + 1) rfl rfl (setPat_heap S3.out.res) rfl) rfl (by rw [HXe.out]; exact own_end y (N := qb + 1) (HQx.out.mono fun b hb _ => hb.1) (by omega) (by omega) S3.out.grew (by omega) _ _ _ _ _)
              · have h2 : 2 ≤ cur.length := by omega
                have HXe : Hid (X = kidsP 19 cur) := hidd (by
                  rw [HX.out]
                  cases cur with
                  | nil => simp at h2
                  | cons z l => cases l with
                    | nil => simp at h2
                    | cons a l => rfl)
                have l1i : ((cur.length : Int) == 1) = false := beq_eq_false_iff_ne.2 (by omega)
                have l1' : (cur.length == 1) = false := beq_eq_false_iff_ne.2 (by omega)
                have l0 : ((cur.length : Int) == 0) = false := beq_eq_false_iff_ne.2 (by omega)
                have l0' : (cur.length == 0) = false := beq_eq_false_iff_ne.2 (by omega)
                have S5 := hidd (S3.out.setV (.slice ca cur.length cc))
                have O5 := hidd (O3.out.grownOther (r := some qb) (grown_cell wr qb 4 (.slice ca cur.length cc)) fun b e => by
                  cases e
                  exact ⟨by omega, fun e2 => by have := O3.out.blocks _ e2; omega⟩)
                have HQ := hidd (bare_pq O5.out (Nat.le_refl _) (p := kidsP 19 cur) (nums_kids (by omega)) rfl)
                have hne : qb ≠ w.heap.size + 1 := by omega
                have hne2 : w.heap.size + 1 ≠ qb := by omega
                obtain ⟨_, ⟨z0', z1', z2', z3', z4'⟩, ⟨o0', o1', o2', o3', o4'⟩, zf', of'⟩ := S5.out.cells
                clear h2 h1 h0
                go_wp2_with fail
                exact bodyPost_ret (results_pat (rb := w.heap.size + 1) rfl rfl (setPat_heap S5.out.res) rfl) rfl (by rw [HXe.out, HK1.out, HMM.out]; exact own_end (kidsP 19 cur) (N := qb + 1) HQ.out (by omega) (by omega) S5.out.grew (by omega) _ _ _ _ _)
      · have HX := hidd hX
        clear hX HCs
        have hL1 : 0 < L.length := by rw [← HL.out, List.length_map]; exact hk0
        obtain ⟨kx, hnx, hqx⟩ := O1.out.at (i := 0) (by omega)
        rw [show L.getD 0 Pat.zero = y from by rw [← HL.out]; exact HY.out] at hnx hqx
        obtain ⟨xa, xn, xc, rfl⟩ := hqx.form
        have HQx := hidd hqx
        obtain ⟨d0, d1, d2, d3, d4, _, _, _, _⟩ := hnx
        simp only [Nat.zero_mul, Nat.zero_add] at d0 d1 d2 d3 d4
        have k0 : decide ((0 : Int) < (B.length : Int)) = true := decide_eq_true (by omega)
        have hlow := S1.out.low
        have hgl2 : g ≠ w.heap.size + 1 := by omega
        clear hqx
        have S2 := hidd (S1.out.kept ((Grew.refl wr).alloc (.cells #[.int .i64 y.kind, .string y.text, .int .i64 y.n, .string y.name, .slice xa xn xc] 24)))
        have O2 := hidd (O1.out.kept ((Grew.refl wr).alloc (.cells #[.int .i64 y.kind, .string y.text, .int .i64 y.n, .string y.name, .slice xa xn xc] 24)))
        go_wp2_with fail
        refine (lit6_any _ _).mono ?_; rintro e w2 ⟨rfl, g2⟩
        have S3 := hidd (S2.out.kept g2)
        clear g2 S2 S1 O1 O2 c0 c1 c2 c3 c4 z0 z1 z2 z3 z4 o0 o1 o2 o3 o4 zf of d0 d1 d2 d3 d4
        obtain ⟨⟨c0, c1, c2, c3, c4⟩, ⟨z0, z1, z2, z3, z4⟩, ⟨o0, o1, o2, o3, o4⟩, zf, of⟩ := S3.out.cells
        go_wp2_with fail
        exact bodyPost_ret (results_pat (rb := w.heap.size + 1) rfl rfl (setPat_heap S3.out.res) rfl) rfl (by rw [HX.out]; exact leaf_end (litP ByteArray.empty) (nums_lit none_size) rfl (setPat_grew S3.out.grew (by omega) _ _ _ _ _))
      · have HX := hidd hX
        clear hX HCs
        have hL1 : 0 < L.length := by rw [← HL.out, List.length_map]; exact hk0
        obtain ⟨kx, hnx, hqx⟩ := O1.out.at (i := 0) (by omega)
        rw [show L.getD 0 Pat.zero = y from by rw [← HL.out]; exact HY.out] at hnx hqx
        obtain ⟨xa, xn, xc, rfl⟩ := hqx.form
        have HQx := hidd hqx
        obtain ⟨d0, d1, d2, d3, d4, _, _, _, _⟩ := hnx
        simp only [Nat.zero_mul, Nat.zero_add] at d0 d1 d2 d3 d4
        have k0 : decide ((0 : Int) < (B.length : Int)) = true := decide_eq_true (by omega)
        have hlow := S1.out.low
        have hgl2 : g ≠ w.heap.size + 1 := by omega
        clear hqx
        have S2 := hidd (S1.out.kept ((Grew.refl wr).alloc (.cells #[.int .i64 y.kind, .string y.text, .int .i64 y.n, .string y.name, .slice xa xn xc] 24)))
        have O2 := hidd (O1.out.kept ((Grew.refl wr).alloc (.cells #[.int .i64 y.kind, .string y.text, .int .i64 y.n, .string y.name, .slice xa xn xc] 24)))
        go_wp2_with fail
        refine (lit6_any _ _).mono ?_; rintro e w2 ⟨rfl, g2⟩
        have S3 := hidd (S2.out.kept g2)
        clear g2 S2 S1 O1 O2 c0 c1 c2 c3 c4 z0 z1 z2 z3 z4 o0 o1 o2 o3 o4 zf of d0 d1 d2 d3 d4
        obtain ⟨⟨c0, c1, c2, c3, c4⟩, ⟨z0, z1, z2, z3, z4⟩, ⟨o0, o1, o2, o3, o4⟩, zf, of⟩ := S3.out.cells
        go_wp2_with fail
        exact bodyPost_ret (results_pat (rb := w.heap.size + 1) rfl rfl (setPat_heap S3.out.res) rfl) rfl (by rw [HX.out]; exact leaf_end (litP ByteArray.empty) (nums_lit none_size) rfl (setPat_grew S3.out.grew (by omega) _ _ _ _ _))
      · have HX := hidd hX
        clear hX HCs
        have hL1 : 0 < L.length := by rw [← HL.out, List.length_map]; exact hk0
        obtain ⟨kx, hnx, hqx⟩ := O1.out.at (i := 0) (by omega)
        rw [show L.getD 0 Pat.zero = y from by rw [← HL.out]; exact HY.out] at hnx hqx
        obtain ⟨xa, xn, xc, rfl⟩ := hqx.form
        have HQx := hidd hqx
        obtain ⟨d0, d1, d2, d3, d4, _, _, _, _⟩ := hnx
        simp only [Nat.zero_mul, Nat.zero_add] at d0 d1 d2 d3 d4
        have k0 : decide ((0 : Int) < (B.length : Int)) = true := decide_eq_true (by omega)
        have hlow := S1.out.low
        have hgl2 : g ≠ w.heap.size + 1 := by omega
        clear hqx
        have S2 := hidd (S1.out.kept ((Grew.refl wr).alloc (.cells #[.int .i64 y.kind, .string y.text, .int .i64 y.n, .string y.name, .slice xa xn xc] 24)))
        have O2 := hidd (O1.out.kept ((Grew.refl wr).alloc (.cells #[.int .i64 y.kind, .string y.text, .int .i64 y.n, .string y.name, .slice xa xn xc] 24)))
        have hsw := S1.out.hi
        obtain ⟨⟨c0', c1', c2', c3', c4'⟩, ⟨z0', z1', z2', z3', z4'⟩, ⟨o0', o1', o2', o3', o4'⟩, zf', of'⟩ := S2.out.cells
        go_wp2_with fail
        exact bodyPost_ret (results_pat (rb := w.heap.size + 1) rfl rfl (setPat_heap S2.out.res) rfl) rfl (by rw [HX.out]; exact leaf_end (bareP 13) (nums_leaf (by omega) zero_in none_size none_size) rfl (setPat_grew S2.out.grew (by omega) _ _ _ _ _))
      · have HX := hidd hX
        clear hX HCs
        have hL1 : 0 < L.length := by rw [← HL.out, List.length_map]; exact hk0
        obtain ⟨kx, hnx, hqx⟩ := O1.out.at (i := 0) (by omega)
        rw [show L.getD 0 Pat.zero = y from by rw [← HL.out]; exact HY.out] at hnx hqx
        obtain ⟨xa, xn, xc, rfl⟩ := hqx.form
        have HQx := hidd hqx
        obtain ⟨d0, d1, d2, d3, d4, _, _, _, _⟩ := hnx
        simp only [Nat.zero_mul, Nat.zero_add] at d0 d1 d2 d3 d4
        have k0 : decide ((0 : Int) < (B.length : Int)) = true := decide_eq_true (by omega)
        have hlow := S1.out.low
        have hgl2 : g ≠ w.heap.size + 1 := by omega
        clear hqx
        have S2 := hidd (S1.out.kept ((Grew.refl wr).alloc (.cells #[.int .i64 y.kind, .string y.text, .int .i64 y.n, .string y.name, .slice xa xn xc] 24)))
        have O2 := hidd (O1.out.kept ((Grew.refl wr).alloc (.cells #[.int .i64 y.kind, .string y.text, .int .i64 y.n, .string y.name, .slice xa xn xc] 24)))
        have hsw := S1.out.hi
        obtain ⟨⟨c0', c1', c2', c3', c4'⟩, ⟨z0', z1', z2', z3', z4'⟩, ⟨o0', o1', o2', o3', o4'⟩, zf', of'⟩ := S2.out.cells
        go_wp2_with fail
        exact bodyPost_ret (results_pat (rb := w.heap.size + 1) rfl rfl (setPat_heap S2.out.res) rfl) rfl (by rw [HX.out, HL.out]; exact own_end (.mk p.kind ByteArray.empty 0 MM L) (bare_pq (O2.out) (Nat.le_refl _) ⟨HPk.out.1, zero_in, none_size, HPk.out.2.1⟩ rfl) (by omega) (by omega) S2.out.grew (by omega) _ _ _ _ _)
      · have HX := hidd hX
        clear hX HCs
        have hL1 : 0 < L.length := by rw [← HL.out, List.length_map]; exact hk0
        obtain ⟨kx, hnx, hqx⟩ := O1.out.at (i := 0) (by omega)
        rw [show L.getD 0 Pat.zero = y from by rw [← HL.out]; exact HY.out] at hnx hqx
        obtain ⟨xa, xn, xc, rfl⟩ := hqx.form
        have HQx := hidd hqx
        obtain ⟨d0, d1, d2, d3, d4, _, _, _, _⟩ := hnx
        simp only [Nat.zero_mul, Nat.zero_add] at d0 d1 d2 d3 d4
        have k0 : decide ((0 : Int) < (B.length : Int)) = true := decide_eq_true (by omega)
        have hlow := S1.out.low
        have hgl2 : g ≠ w.heap.size + 1 := by omega
        clear hqx
        have S2 := hidd (S1.out.kept ((Grew.refl wr).alloc (.cells #[.int .i64 y.kind, .string y.text, .int .i64 y.n, .string y.name, .slice xa xn xc] 24)))
        have O2 := hidd (O1.out.kept ((Grew.refl wr).alloc (.cells #[.int .i64 y.kind, .string y.text, .int .i64 y.n, .string y.name, .slice xa xn xc] 24)))
        have hsw := S1.out.hi
        obtain ⟨⟨c0', c1', c2', c3', c4'⟩, ⟨z0', z1', z2', z3', z4'⟩, ⟨o0', o1', o2', o3', o4'⟩, zf', of'⟩ := S2.out.cells
        go_wp2_with fail
        exact bodyPost_ret (results_pat (rb := w.heap.size + 1) rfl rfl (setPat_heap S2.out.res) rfl) rfl (by rw [HX.out, HL.out]; exact own_end (.mk p.kind ByteArray.empty 0 MM L) (bare_pq (O2.out) (Nat.le_refl _) ⟨HPk.out.1, zero_in, none_size, HPk.out.2.1⟩ rfl) (by omega) (by omega) S2.out.grew (by omega) _ _ _ _ _)
      · have HX := hidd hX
        clear hX HCs
        have hL1 : 0 < L.length := by rw [← HL.out, List.length_map]; exact hk0
        obtain ⟨kx, hnx, hqx⟩ := O1.out.at (i := 0) (by omega)
        rw [show L.getD 0 Pat.zero = y from by rw [← HL.out]; exact HY.out] at hnx hqx
        obtain ⟨xa, xn, xc, rfl⟩ := hqx.form
        have HQx := hidd hqx
        obtain ⟨d0, d1, d2, d3, d4, _, _, _, _⟩ := hnx
        simp only [Nat.zero_mul, Nat.zero_add] at d0 d1 d2 d3 d4
        have k0 : decide ((0 : Int) < (B.length : Int)) = true := decide_eq_true (by omega)
        have hlow := S1.out.low
        have hgl2 : g ≠ w.heap.size + 1 := by omega
        clear hqx
        have S2 := hidd (S1.out.kept ((Grew.refl wr).alloc (.cells #[.int .i64 y.kind, .string y.text, .int .i64 y.n, .string y.name, .slice xa xn xc] 24)))
        have O2 := hidd (O1.out.kept ((Grew.refl wr).alloc (.cells #[.int .i64 y.kind, .string y.text, .int .i64 y.n, .string y.name, .slice xa xn xc] 24)))
        have hsw := S1.out.hi
        obtain ⟨⟨c0', c1', c2', c3', c4'⟩, ⟨z0', z1', z2', z3', z4'⟩, ⟨o0', o1', o2', o3', o4'⟩, zf', of'⟩ := S2.out.cells
        go_wp2_with fail
        exact bodyPost_ret (results_pat (rb := w.heap.size + 1) rfl rfl (setPat_heap S2.out.res) rfl) rfl (by rw [HX.out, HL.out]; exact own_end (.mk p.kind ByteArray.empty 0 MM L) (bare_pq (O2.out) (Nat.le_refl _) ⟨HPk.out.1, zero_in, none_size, HPk.out.2.1⟩ rfl) (by omega) (by omega) S2.out.grew (by omega) _ _ _ _ _)
      · have HX := hidd hX
        clear hX HCs
        have hL1 : 0 < L.length := by rw [← HL.out, List.length_map]; exact hk0
        obtain ⟨kx, hnx, hqx⟩ := O1.out.at (i := 0) (by omega)
        rw [show L.getD 0 Pat.zero = y from by rw [← HL.out]; exact HY.out] at hnx hqx
        obtain ⟨xa, xn, xc, rfl⟩ := hqx.form
        have HQx := hidd hqx
        obtain ⟨d0, d1, d2, d3, d4, _, _, _, _⟩ := hnx
        simp only [Nat.zero_mul, Nat.zero_add] at d0 d1 d2 d3 d4
        have k0 : decide ((0 : Int) < (B.length : Int)) = true := decide_eq_true (by omega)
        have hlow := S1.out.low
        have hgl2 : g ≠ w.heap.size + 1 := by omega
        clear hqx
        go_wp2_with fail
        exact bodyPost_ret (results_pat (rb := w.heap.size + 1) rfl rfl (setPat_heap S1.out.res) rfl) rfl (by rw [HX.out]; exact own_end y (HQx.out.mono fun b hb _ => hb.1) (by omega) (by omega) S1.out.grew (by omega) _ _ _ _ _)
      · have HX := hidd hX
        clear hX HCs
        have hL1 : 0 < L.length := by rw [← HL.out, List.length_map]; exact hk0
        obtain ⟨kx, hnx, hqx⟩ := O1.out.at (i := 0) (by omega)
        rw [show L.getD 0 Pat.zero = y from by rw [← HL.out]; exact HY.out] at hnx hqx
        obtain ⟨xa, xn, xc, rfl⟩ := hqx.form
        have HQx := hidd hqx
        obtain ⟨d0, d1, d2, d3, d4, _, _, _, _⟩ := hnx
        simp only [Nat.zero_mul, Nat.zero_add] at d0 d1 d2 d3 d4
        have k0 : decide ((0 : Int) < (B.length : Int)) = true := decide_eq_true (by omega)
        have hlow := S1.out.low
        have hgl2 : g ≠ w.heap.size + 1 := by omega
        clear hqx
        go_wp2_with fail
        exact bodyPost_ret (results_pat (rb := w.heap.size + 1) rfl rfl (setPat_heap S1.out.res) rfl) rfl (by rw [HX.out]; exact own_end y (HQx.out.mono fun b hb _ => hb.1) (by omega) (by omega) S1.out.grew (by omega) _ _ _ _ _)
      · have HX := hidd hX
        clear hX HCs
        have hL1 : 0 < L.length := by rw [← HL.out, List.length_map]; exact hk0
        obtain ⟨kx, hnx, hqx⟩ := O1.out.at (i := 0) (by omega)
        rw [show L.getD 0 Pat.zero = y from by rw [← HL.out]; exact HY.out] at hnx hqx
        obtain ⟨xa, xn, xc, rfl⟩ := hqx.form
        have HQx := hidd hqx
        obtain ⟨d0, d1, d2, d3, d4, _, _, _, _⟩ := hnx
        simp only [Nat.zero_mul, Nat.zero_add] at d0 d1 d2 d3 d4
        have k0 : decide ((0 : Int) < (B.length : Int)) = true := decide_eq_true (by omega)
        have hlow := S1.out.low
        have hgl2 : g ≠ w.heap.size + 1 := by omega
        clear hqx
        go_wp2_with fail
        exact bodyPost_ret (results_pat (rb := w.heap.size + 1) rfl rfl (setPat_heap S1.out.res) rfl) rfl (by rw [HX.out, HL.out]; exact own_end (.mk p.kind ByteArray.empty 0 MM L) (bare_pq (O1.out) (Nat.le_refl _) ⟨HPk.out.1, zero_in, none_size, HPk.out.2.1⟩ rfl) (by omega) (by omega) S1.out.grew (by omega) _ _ _ _ _)
      · have HX := hidd hX
        clear hX HCs
        have hL1 : 0 < L.length := by rw [← HL.out, List.length_map]; exact hk0
        obtain ⟨kx, hnx, hqx⟩ := O1.out.at (i := 0) (by omega)
        rw [show L.getD 0 Pat.zero = y from by rw [← HL.out]; exact HY.out] at hnx hqx
        obtain ⟨xa, xn, xc, rfl⟩ := hqx.form
        have HQx := hidd hqx
        obtain ⟨d0, d1, d2, d3, d4, _, _, _, _⟩ := hnx
        simp only [Nat.zero_mul, Nat.zero_add] at d0 d1 d2 d3 d4
        have k0 : decide ((0 : Int) < (B.length : Int)) = true := decide_eq_true (by omega)
        have hlow := S1.out.low
        have hgl2 : g ≠ w.heap.size + 1 := by omega
        clear hqx
        go_wp2_with fail
        exact bodyPost_ret (results_pat (rb := w.heap.size + 1) rfl rfl (setPat_heap S1.out.res) rfl) rfl (by rw [HX.out]; exact own_end y (HQx.out.mono fun b hb _ => hb.1) (by omega) (by omega) S1.out.grew (by omega) _ _ _ _ _)
      · have HX := hidd hX
        clear hX HCs
        have hL1 : 0 < L.length := by rw [← HL.out, List.length_map]; exact hk0
        obtain ⟨kx, hnx, hqx⟩ := O1.out.at (i := 0) (by omega)
        rw [show L.getD 0 Pat.zero = y from by rw [← HL.out]; exact HY.out] at hnx hqx
        obtain ⟨xa, xn, xc, rfl⟩ := hqx.form
        have HQx := hidd hqx
        obtain ⟨d0, d1, d2, d3, d4, _, _, _, _⟩ := hnx
        simp only [Nat.zero_mul, Nat.zero_add] at d0 d1 d2 d3 d4
        have k0 : decide ((0 : Int) < (B.length : Int)) = true := decide_eq_true (by omega)
        have hlow := S1.out.low
        have hgl2 : g ≠ w.heap.size + 1 := by omega
        clear hqx
        go_wp2_with fail
        exact bodyPost_ret (results_pat (rb := w.heap.size + 1) rfl rfl (setPat_heap S1.out.res) rfl) rfl (by rw [HX.out]; exact own_end y (HQx.out.mono fun b hb _ => hb.1) (by omega) (by omega) S1.out.grew (by omega) _ _ _ _ _)
      · have HX := hidd hX
        clear hX HCs
        have hL1 : 0 < L.length := by rw [← HL.out, List.length_map]; exact hk0
        obtain ⟨kx, hnx, hqx⟩ := O1.out.at (i := 0) (by omega)
        rw [show L.getD 0 Pat.zero = y from by rw [← HL.out]; exact HY.out] at hnx hqx
        obtain ⟨xa, xn, xc, rfl⟩ := hqx.form
        have HQx := hidd hqx
        obtain ⟨d0, d1, d2, d3, d4, _, _, _, _⟩ := hnx
        simp only [Nat.zero_mul, Nat.zero_add] at d0 d1 d2 d3 d4
        have k0 : decide ((0 : Int) < (B.length : Int)) = true := decide_eq_true (by omega)
        have hlow := S1.out.low
        have hgl2 : g ≠ w.heap.size + 1 := by omega
        clear hqx
        go_wp2_with fail
        exact bodyPost_ret (results_pat (rb := w.heap.size + 1) rfl rfl (setPat_heap S1.out.res) rfl) rfl (by rw [HX.out, HL.out]; exact own_end (.mk p.kind ByteArray.empty 0 MM L) (bare_pq (O1.out) (Nat.le_refl _) ⟨HPk.out.1, zero_in, none_size, HPk.out.2.1⟩ rfl) (by omega) (by omega) S1.out.grew (by omega) _ _ _ _ _)
end Go.Proofs.YtglfdfeideeeaaaDoor
