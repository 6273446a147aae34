/- The document's All: the nodes of a pattern, each ahead of its kids. -/
import Derived.Test.YtkkdpafkafjfgaaDoorMkScWS
import Derived.Test.YtkkdpafkafjfgaaDoorMkPAuR
import Derived.Test.YtkkdpafkafjfgaaDoorMkPAuK
namespace Go.Proofs.YtkkdpafkafjfgaaDoor
open Go.RowKit
set_option linter.unusedVariables false
mutual
def allP : Pat → List Pat
  | .mk k t n m l => .mk k t n m l :: allL l
def allL : List Pat → List Pat
  | [] => []
  | p :: l => allP p ++ allL l
end
theorem allP_eq (p : Pat) : allP p = p :: allL p.kids := by cases p; rfl
theorem allL_snoc (l : List Pat) (p : Pat) : allL (l ++ [p]) = allL l ++ allP p := by
  induction l with
  | nil => rw [List.nil_append, allL, allL, allL]; simp
  | cons x l ih => rw [List.cons_append, allL, allL, ih, List.append_assoc]
mutual
theorem allP_len : ∀ p : Pat, (allP p).length = nodesP p
  | .mk k t n m l => by rw [allP, nodesP, List.length_cons, allL_len l]; omega
theorem allL_len : ∀ l : List Pat, (allL l).length = nodesL l
  | [] => rfl
  | p :: l => by rw [allL, nodesL, List.length_append, allP_len p, allL_len l]
end
mutual
theorem allP_mem : ∀ (p x : Pat), x ∈ allP p → nodesP x ≤ nodesP p
  | .mk k t n m l, x, h => by
    rw [allP] at h
    rcases List.mem_cons.1 h with rfl | h
    · exact Nat.le_refl _
    · have := allL_mem l x h; rw [nodesP]; omega
theorem allL_mem : ∀ (l : List Pat) (x : Pat), x ∈ allL l → nodesP x ≤ nodesL l
  | [], x, h => by rw [allL] at h; cases h
  | p :: l, x, h => by
    rw [allL] at h
    rw [nodesL]
    rcases List.mem_append.1 h with h | h
    · have := allP_mem p x h; omega
    · have := allL_mem l x h; omega
end
def firstErr : List Pat → Int
  | [] => 0
  | x :: l => if nodeErr x = 0 then firstErr l else nodeErr x
theorem firstErr_append (a b : List Pat) : firstErr (a ++ b) = if firstErr a = 0 then firstErr b else firstErr a := by
  induction a with
  | nil => rfl
  | cons x a ih =>
    rw [List.cons_append, firstErr, firstErr]
    by_cases h : nodeErr x = 0
    · rw [if_pos h, if_pos h, ih]
    · rw [if_neg h, if_neg h, if_neg h]
mutual
theorem errW_first : ∀ p : Pat, errW p = firstErr (allP p)
  | .mk k t n m l => by rw [errW, allP, firstErr, errL_first l]
theorem errL_first : ∀ l : List Pat, errL l = firstErr (allL l)
  | [] => rfl
  | p :: l => by rw [errL, allL, firstErr_append, errW_first p, errL_first l]
end
abbrev PEnt := Pat × Value
def peCells (l : List PEnt) : List Value := l.flatMap fun x => [.int .i64 x.1.kind, .string x.1.text, .int .i64 x.1.n, .string x.1.name, x.2]
theorem peCells_append (a b : List PEnt) : peCells (a ++ b) = peCells a ++ peCells b := by unfold peCells; rw [List.flatMap_append]
theorem peCells_at : ∀ (l : List PEnt) (i : Nat) (x : PEnt) (j : Nat), l[i]? = some x → j < 5 → (peCells l)[i * 5 + j]? = [Value.int .i64 x.1.kind, .string x.1.text, .int .i64 x.1.n, .string x.1.name, x.2][j]?
  | [], i, x, j, h, hj => by simp at h
  | y :: l, 0, x, j, h, hj => by
    simp at h
    subst h
    show ([Value.int .i64 y.1.kind, .string y.1.text, .int .i64 y.1.n, .string y.1.name, y.2] ++ peCells l)[0 * 5 + j]? = _
    rw [List.getElem?_append_left (by simp; omega), Nat.zero_mul, Nat.zero_add]
  | y :: l, i + 1, x, j, h, hj => by
    have ih := peCells_at l i x j (by simpa using h) hj
    show ([Value.int .i64 y.1.kind, .string y.1.text, .int .i64 y.1.n, .string y.1.name, y.2] ++ peCells l)[(i + 1) * 5 + j]? = _
    rw [List.getElem?_append_right (by simp; omega)]
    rw [← ih]
    congr 1
    simp; omega
structure PRow (w0 wr : World) (base : Nat) (v : Value) (l : List PEnt) : Prop where
  row : wr.ownsRow base 24 5 v l.length (peCells l)
  pats : ∀ x ∈ l, PatV w0 x.2 x.1
theorem PRow.kept {w0 wr w2 : World} {base : Nat} {v : Value} {l : List PEnt} (h : PRow w0 wr base v l) (g : Grew wr w2) : PRow w0 w2 base v l :=
  ⟨World.ownsRow.kept h.row ⟨g.os, g.tape, g.output, g.size, fun k hk _ => g.block k hk⟩ (row := none) (by cases v.ownBlock <;> simp), h.pats⟩
theorem PRow.form {w0 wr : World} {base : Nat} {v : Value} {l : List PEnt} (h : PRow w0 wr base v l) (h0 : 0 < l.length) : ∃ g c, v = .slice (some ⟨g, 0, none⟩) l.length c ∧ base ≤ g ∧ l.length ≤ c ∧ c ≤ maxLen ∧ ∀ j u, (peCells l)[j]? = some u → wr.cell? ⟨g, j, none⟩ = some u := by
  have h1 := h.row
  rcases h1.2 with ⟨_, h2⟩ | ⟨g, cap, cur, h2, h3, h4, h5, h6, h7, h8⟩
  · omega
  · refine ⟨g, cap, h2, h3, h5, h6, fun j u hu => ?_⟩
    subst h2
    have hj : j < l.length * 5 := by
      have := (List.getElem?_eq_some_iff.1 hu).1
      have h9 := h1.1
      omega
    rw [World.ownsRow.cellAt h1 j hj, hu]
theorem info_pat : (Tryd.prog.info? 24).map (fun i => (i.zero, i.size, i.bytes)) = some (some (.agg #[.int .i64 0, .string ByteArray.empty, .int .i64 0, .string ByteArray.empty, .slice none 0 0]), 5, 72) := by kernel_rfl
theorem peCells_one {w0 wr : World} {base : Nat} {v : Value} {l : List PEnt} (h : PRow w0 wr base v l) : ∀ u ∈ peCells l, u.oneCell' = true := fun u hu => by
  obtain ⟨x, hx, hu⟩ := List.mem_flatMap.1 hu
  obtain ⟨ka, kc, hkv, _⟩ := (h.pats x hx).kids.len
  simp only [List.mem_cons, List.not_mem_nil, or_false] at hu
  rcases hu with rfl | rfl | rfl | rfl | rfl <;> first | rfl | (rw [hkv]; rfl)
theorem PRow.join {w0 wr : World} {base b2 : Nat} {v : Value} {l l2 : List PEnt} (h : PRow w0 wr base v l) (h0 : 0 < l.length) {g2 c2 : Nat} (h2 : PRow w0 wr b2 (.slice (some ⟨g2, 0, none⟩) l2.length c2) l2) (hl2 : 0 < l2.length) (hb : base ≤ wr.heap.size) (hl : l.length + l2.length ≤ 4000000) (ty : TypeId) :
    ∃ g c w', (Builtin.append_ #[22, 22] ty #[v, .slice (some ⟨g2, 0, none⟩) l2.length c2]).run Tryd.prog wr = .ok (.slice (some ⟨g, 0, none⟩) (l.length + l2.length) c) w' ∧ PRow w0 w' base (.slice (some ⟨g, 0, none⟩) (l.length + l2.length) c) (l ++ l2) ∧ wr.grownBy w' v.ownBlock := by
  obtain ⟨i0, hi0, hz0, hz1, hz2⟩ := info_parts info_pat
  obtain ⟨g, c, hf, _, _, _, hcs⟩ := h2.form hl2
  cases hf
  obtain ⟨v', w', hr, ho, hg, _⟩ := run_append_own (P := Tryd.prog) wr base 22 ty 24 i0 _ 5 72 Tryd.underlying22 hi0 hz0 hz1 hz2 rfl (by omega) v l.length (peCells l) h.row ⟨g2, 0, none⟩ l2.length c2 (peCells l2) h2.row.1 (fun j u hu => by
    rw [Addr.add_lit, Nat.zero_add]; exact hcs j u hu) (peCells_one h2) (by unfold maxLen; omega) (by omega) hb
  have hn : PRow w0 w' base v' (l ++ l2) := ⟨by rw [List.length_append, peCells_append]; exact ho, fun x hx => by
    rcases List.mem_append.1 hx with hx | hx
    · exact h.pats x hx
    · exact h2.pats x hx⟩
  obtain ⟨g, c, hf, _⟩ := hn.form (by rw [List.length_append]; omega)
  subst hf
  rw [List.length_append] at hr hn
  exact ⟨g, c, w', hr, hn, hg⟩
set_option maxRecDepth 100000 in
set_option maxHeartbeats 8000000 in
theorem AllR_any : ∀ (N : Nat) (kv : Value) (p : Pat) (w0 w : World), Grew w0 w → PatV w0 kv p → nodesP p ≤ N → nodesP p ≤ 2000000 →
    Calls Tryd.prog 64 #[.agg (p.cells kv)] w fun e w' => ∃ (g c : Nat) (l : List PEnt), e = .returned (.slice (some ⟨g, 0, none⟩) l.length c) ∧ 0 < l.length ∧ PRow w0 w' w.heap.size (.slice (some ⟨g, 0, none⟩) l.length c) l ∧ l.map (·.1) = allP p ∧ Grew w w'
  | 0 => fun kv p w0 w hg hp hN hB => by have := nodesP_pos p; omega
  | N + 1 => fun kv p w0 w hg hp hN hB => by
    have IH := hidd (AllR_any N)
    have hne := nodesP_eq p
    obtain ⟨ka, kc, ekv, hkl⟩ := hp.kids.len
    subst ekv
    obtain ⟨W, hW⟩ : ∃ W, (w.alloc (.cells (p.cells (.slice ka p.kids.length kc)) 24)).alloc (.cells #[.int .i64 p.kind, .string p.text, .int .i64 p.n, .string p.name, .slice ka p.kids.length kc] 24) = W := ⟨_, rfl⟩
    have hg1 : Grew w (w.alloc (.cells (p.cells (.slice ka p.kids.length kc)) 24)) := (Grew.refl w).alloc _
    have hs1 : (w.alloc (.cells (p.cells (.slice ka p.kids.length kc)) 24)).heap.size = w.heap.size + 1 := by simp
    have HQ0 : Hid (PRow w0 W w.heap.size (.slice (some ⟨w.heap.size + 1, 0, none⟩) 1 1) [(p, .slice ka p.kids.length kc)] ∧ Grew w W) := by
      refine ⟨⟨⟨rfl, .inr ⟨w.heap.size + 1, 1, #[.int .i64 p.kind, .string p.text, .int .i64 p.n, .string p.name, .slice ka p.kids.length kc], rfl, Nat.le_succ _, ?_, Nat.le_refl _, by decide, rfl, rfl⟩⟩, fun x hx => by rw [List.mem_singleton] at hx; rw [hx]; exact hp⟩, hW ▸ hg1.alloc _⟩
      rw [← hW, ← hs1]; exact heap_alloc_new _ _
    have HKids : Hid (p.kids.length = 0 ∨ ∃ b' o', ka = some ⟨b', o', none⟩ ∧ 0 < p.kids.length ∧ p.kids.length ≤ kc ∧ kc ≤ maxLen ∧ ∀ i, i < p.kids.length → PatAt w0 b' (o' + i * 5) (p.kids.getD i Pat.zero)) := by
      rcases hp.kids with ⟨x, y, e1, e2⟩ | ⟨b', o', c2, e1, h1, h2, h3, h4⟩
      · exact Or.inl (by rw [e2]; rfl)
      · cases e1; exact Or.inr ⟨b', o', rfl, h1, h2, h3, h4⟩
    have HB4 : Hid (W.cell? ⟨w.heap.size, 4, none⟩ = some (.slice ka p.kids.length kc)) := by
      rw [Hid, ← hW]
      exact ((Grew.refl _).alloc _).keeps (by rw [World.cell?_alloc_mark]; rfl)
    have HAll : Hid (allP p = p :: allL p.kids) := allP_eq p
    have HNd : Hid (1 + nodesL p.kids = nodesP p ∧ nodesP p ≤ N + 1 ∧ nodesP p ≤ 2000000) := ⟨hne.symm, hN, hB⟩
    have HG0 := hidd hg
    obtain ⟨kl, hkl2⟩ : ∃ kl, p.kids.length = kl := ⟨_, rfl⟩
    rw [hkl2] at hkl HKids HB4 hW ⊢
    have HKL := hidd hkl2
    have HTk : Hid (p.kids.take kl = p.kids) := by rw [Hid, ← hkl2]; exact List.take_length
    have HQ1 := hidd HQ0.out
    rw [hkl2] at HQ1
    clear HQ0 hne hp hN hB hg hg1 hs1 hkl2
    obtain ⟨wo, rfl⟩ : ∃ wo, wo = w := ⟨_, rfl⟩
    have b4 := HB4.out
    unfold Pat.cells at hW ⊢
    rcases HKids.out with hk0 | ⟨b', o', rfl, hk0, hk1, hk2, hks⟩
    · have HK0 := hidd hk0
      clear hk0
      go_enter Tryd.func64, Tryd.ntmps64
      go_wp2_with fail
      clear hW b4 HB4
      go_loopw [3, 5, 11] (fun u3 _ u11 wr => ∃ (i : Nat) (l : List PEnt) (g c : Nat), u11 = .int .i64 i ∧ i ≤ kl ∧ u3 = .slice (some ⟨g, 0, none⟩) l.length c ∧ Hid (0 < l.length ∧ PRow w0 wr wo.heap.size (.slice (some ⟨g, 0, none⟩) l.length c) l) ∧ Hid (l.map (·.1) = p :: allL (p.kids.take i)) ∧ Hid (Grew wo wr)) (fun _ _ u11 _ => kl - (intOf u11).toNat)
      case atStart => exact ⟨0, [(p, .slice ka kl kc)], _, _, rfl, Nat.zero_le _, rfl, ⟨Nat.succ_pos _, HQ1.out.1⟩, by rw [Hid, List.take_zero, allL]; rfl, HQ1.out.2⟩
      case round =>
        obtain ⟨i, l, g, c, rfl, hi, rfl, HP, HM, HG⟩ := hrel
        clear HQ1
        by_cases hlt : i < kl
        · exact absurd HK0.out (by omega)
        · obtain rfl : i = kl := by omega
          have s1 : decide ((i : Int) < (i : Int)) = false := decide_eq_false (by omega)
          have s2 : decide (i < i) = false := decide_eq_false (by omega)
          go_wp2_with fail
          go_ret
          exact ⟨g, c, l, rfl, HP.out.1, HP.out.2, by rw [HM.out, HAll.out, HTk.out], HG.out⟩
    · have HKs := hidd hks
      clear hks
      unfold maxLen at hk2
      go_enter Tryd.func64, Tryd.ntmps64
      go_wp2_with fail
      clear hW b4 HB4
      go_loopw [3, 5, 11] (fun u3 _ u11 wr => ∃ (i : Nat) (l : List PEnt) (g c : Nat), u11 = .int .i64 i ∧ i ≤ kl ∧ u3 = .slice (some ⟨g, 0, none⟩) l.length c ∧ Hid (0 < l.length ∧ PRow w0 wr wo.heap.size (.slice (some ⟨g, 0, none⟩) l.length c) l) ∧ Hid (l.map (·.1) = p :: allL (p.kids.take i)) ∧ Hid (Grew wo wr)) (fun _ _ u11 _ => kl - (intOf u11).toNat)
      case atStart => exact ⟨0, [(p, .slice (some ⟨b', o', none⟩) kl kc)], _, _, rfl, Nat.zero_le _, rfl, ⟨Nat.succ_pos _, HQ1.out.1⟩, by rw [Hid, List.take_zero, allL]; rfl, HQ1.out.2⟩
      case round =>
        obtain ⟨i, l, g, c, rfl, hi, rfl, HP, HM, HG⟩ := hrel
        clear HQ1
        by_cases hlt : i < kl
        · have hil : i < p.kids.length := by rw [HKL.out]; exact hlt
          have s1 : decide ((i : Int) < (kl : Int)) = true := decide_eq_true (by omega)
          have s2 : decide (i < kl) = true := decide_eq_true hlt
          obtain ⟨kq, hnq, hvq⟩ := (HKs.out i hlt).value
          have hqk : p.kids.getD i Pat.zero = p.kids[i] := by rw [List.getD_eq_getElem?_getD, List.getElem?_eq_getElem hil]; rfl
          have HTake : Hid (p.kids.take (i + 1) = p.kids.take i ++ [p.kids.getD i Pat.zero]) := by rw [Hid, hqk, List.take_succ_eq_append_getElem hil]
          have hmem : p.kids.getD i Pat.zero ∈ p.kids := by rw [hqk]; exact List.getElem_mem hil
          have hnod := nodesL_mem hmem
          have htn : nodesL (p.kids.take i) + nodesP (p.kids.getD i Pat.zero) ≤ nodesL p.kids := by
            have h1 : nodesL (p.kids.take (i + 1)) ≤ nodesL p.kids := by
              have := nodesL_append (p.kids.take (i + 1)) (p.kids.drop (i + 1))
              rw [List.take_append_drop] at this
              omega
            rw [HTake.out, nodesL_append, nodesL, nodesL] at h1
            omega
          obtain ⟨r, hr⟩ : ∃ r, p.kids.getD i Pat.zero = r := ⟨_, rfl⟩
          rw [hr] at hnq hvq HTake hnod htn
          clear hqk hr hil hmem
          obtain ⟨ra, rc, ekq, _⟩ := hvq.kids.len
          subst ekq
          have hg3 : Grew wr (wr.alloc (.cells (r.cells (.slice ra r.kids.length rc)) 24)) := (Grew.refl wr).alloc _
          have hlen : l.length = 1 + nodesL (p.kids.take i) := by
            have h1 := congrArg List.length HM.out
            rw [List.length_map, List.length_cons, allL_len] at h1
            omega
          have HC : Hid (Calls Tryd.prog 64 #[.agg (r.cells (.slice ra r.kids.length rc))] (wr.alloc (.cells (r.cells (.slice ra r.kids.length rc)) 24)) fun e w' => ∃ (g2 c2 m2 g3 c3 : Nat) (w3 : World) (l3 : List PEnt), e = .returned (.slice (some ⟨g2, 0, none⟩) m2 c2) ∧ (Builtin.append_ #[22, 22] 22 #[.slice (some ⟨g, 0, none⟩) l.length c, .slice (some ⟨g2, 0, none⟩) m2 c2]).run Tryd.prog w' = .ok (.slice (some ⟨g3, 0, none⟩) l3.length c3) w3 ∧ Hid ((0 < l3.length ∧ PRow w0 w3 wo.heap.size (.slice (some ⟨g3, 0, none⟩) l3.length c3) l3) ∧ l3.map (·.1) = p :: allL (p.kids.take (i + 1)) ∧ Grew wo w3)) := by
            refine (IH.out _ r w0 _ (HG0.out.trans (HG.out.trans hg3)) hvq (by have := HNd.out; omega) (by have := HNd.out; omega)).mono ?_
            rintro e w' ⟨g2, c2, l2, rfl, h20, hp2, hm2, hg2⟩
            have hl2 : l2.length = nodesP r := by
              have h1 := congrArg List.length hm2
              rw [List.length_map, allP_len] at h1
              exact h1
            have hgw := HG.out.trans (hg3.trans hg2)
            obtain ⟨g3, c3, w3, hap, hp3, hgb⟩ := (HP.out.2.kept (hg3.trans hg2)).join HP.out.1 hp2 h20 hgw.size (by have := HNd.out; omega) 22
            have hgl : wo.heap.size ≤ g := by
              obtain ⟨g', c', e, h, _⟩ := HP.out.2.form HP.out.1
              cases e; exact h
            refine ⟨g2, c2, l2.length, g3, c3, w3, l ++ l2, rfl, by rw [List.length_append]; exact hap, ⟨by rw [List.length_append]; omega, by rw [List.length_append]; exact hp3⟩, ?_, hgw.grown hgb (fun b hb => by cases hb; exact hgl)⟩
            rw [List.map_append, HM.out, hm2, HTake.out, allL_snoc]; rfl
          unfold Pat.cells at HC
          obtain ⟨k0, k1, k2, k3, k4, _, _, _, _⟩ := hnq.kept (HG0.out.trans HG.out)
          obtain ⟨rk, hrk⟩ : ∃ rk, r.kids.length = rk := ⟨_, rfl⟩
          rw [hrk] at HC k4
          obtain ⟨n, hn⟩ : ∃ n, l.length = n := ⟨_, rfl⟩
          rw [hn] at HC ⊢
          clear hlen hg3 hnq hvq hnod htn hrk hn
          go_wp2_with (first
            | (go_at_call 64; refine HC.out.mono ?_; rintro e w2 ⟨g2, c2, m2, g3, c3, w3, l3, rfl, hap, HX⟩)
            | (at_builtin; refine wpList_append_eq rfl rfl rfl rfl hap ?_))
          go_roundw
          case rel => exact ⟨i + 1, l3, g3, c3, by go_num, by omega, rfl, HX.out.1, HX.out.2.1, HX.out.2.2⟩
          case measure => simp [intOf]; omega
        · obtain rfl : i = kl := by omega
          have s1 : decide ((i : Int) < (i : Int)) = false := decide_eq_false (by omega)
          have s2 : decide (i < i) = false := decide_eq_false (by omega)
          go_wp2_with fail
          go_ret
          exact ⟨g, c, l, rfl, HP.out.1, HP.out.2, by rw [HM.out, HAll.out, HTk.out], HG.out⟩
end Go.Proofs.YtkkdpafkafjfgaaDoor
namespace Go.Proofs.YtkkdpafkafjfgaaDoor
open Go.RowKit
set_option linter.unusedVariables false
theorem firstErr_take {l : List Pat} {i : Nat} (h : i < l.length) (h0 : firstErr (l.take i) = 0) : firstErr (l.take (i + 1)) = nodeErr (l[i]'h) := by
  rw [List.take_succ_eq_append_getElem h, firstErr_append, if_pos h0, firstErr, firstErr]
  split
  · rename_i e; exact e.symm
  · rfl
theorem firstErr_hit {l : List Pat} {i : Nat} (h : i < l.length) (h0 : firstErr (l.take i) = 0) (h1 : nodeErr (l[i]'h) ≠ 0) : firstErr l = nodeErr (l[i]'h) := by
  conv => lhs; rw [← List.take_append_drop (i + 1) l]
  rw [firstErr_append, firstErr_take h h0, if_neg h1]
set_option maxRecDepth 100000 in
set_option maxHeartbeats 4000000 in
theorem PWrongR_any (kv : Value) (p : Pat) (w : World) (hp : PatV w kv p) (hB : nodesP p ≤ 2000000) :
    Calls Tryd.prog 33 #[.agg (p.cells kv)] w fun e w' => e = .returned (.int .i64 (patErr p)) ∧ Grew w w' := by
  have hg1 : Grew w (w.alloc (.cells (p.cells kv) 24)) := (Grew.refl w).alloc _
  have HBx := hidd (pat_box w p kv)
  have HSz : Hid (Calls Tryd.prog 24 #[.agg (p.cells kv)] (w.alloc (.cells (p.cells kv) 24)) fun e w' => e = .returned (sizeR p) ∧ Grew (w.alloc (.cells (p.cells kv) 24)) w') := SizeR_any kv p _ (hp.kept hg1) hB
  have HAl : Hid (∀ w1, Grew (w.alloc (.cells (p.cells kv) 24)) w1 → Calls Tryd.prog 64 #[.agg (p.cells kv)] w1 fun e w' => ∃ (g c : Nat) (l : List PEnt), e = .returned (.slice (some ⟨g, 0, none⟩) l.length c) ∧ 0 < l.length ∧ PRow w w' w1.heap.size (.slice (some ⟨g, 0, none⟩) l.length c) l ∧ l.map (·.1) = allP p ∧ Grew w w') := fun w1 g =>
    (AllR_any (nodesP p) kv p w w1 (hg1.trans g) hp (Nat.le_refl _) hB).mono fun e w' ⟨g2, c, l, h1, h2, h3, h4, h5⟩ => ⟨g2, c, l, h1, h2, h3, h4, hg1.trans (g.trans h5)⟩
  have HG1 := hidd hg1
  obtain ⟨ka, kc, ekv, hkl⟩ := hp.kids.len
  subst ekv
  by_cases hok : nodesP p ≤ 4096 ∧ depthP p ≤ 200
  · have hsz : sizeR p = .tuple #[.int .i64 (nodesP p : Nat), .int .i64 (depthP p : Nat), .bool true] := by unfold sizeR; rw [if_pos hok]
    rw [hsz] at HSz
    have HE : Hid (patErr p = firstErr (allP p)) := by rw [Hid, ← errW_first]; unfold patErr; rw [if_pos ((size_iff p).2 hok)]
    have HLen : Hid ((allP p).length = nodesP p ∧ nodesP p ≤ 4096) := ⟨allP_len p, hok.1⟩
    have HMem := hidd (allP_mem p)
    obtain ⟨np, hnp⟩ : ∃ np, nodesP p = np := ⟨_, rfl⟩
    obtain ⟨dp, hdp⟩ : ∃ dp, depthP p = dp := ⟨_, rfl⟩
    rw [hnp, hdp] at HSz
    rw [hnp] at HLen HMem
    obtain ⟨A, hA⟩ : ∃ A, allP p = A := ⟨_, rfl⟩
    rw [hA] at HAl HE HLen HMem
    obtain ⟨kl, hkl2⟩ : ∃ kl, p.kids.length = kl := ⟨_, rfl⟩
    unfold Pat.cells at HBx HSz HAl HG1 ⊢
    rw [hkl2] at HBx HSz HAl HG1 ⊢
    obtain ⟨c0, c1, c2, c3, c4⟩ := HBx.out _ (Grew.refl _)
    clear hok hsz hp hg1 hnp hdp hA hkl2 hkl hB
    go_enter Tryd.func33, Tryd.ntmps33
    go_wp2_with fail
    refine HSz.out.mono ?_; rintro e w2 ⟨rfl, hg2⟩
    have HC2 := hidd (HBx.out w2 hg2)
    have HA2 := hidd (HAl.out w2 hg2)
    obtain ⟨d0, d1, d2, d3, d4⟩ := HC2.out
    clear hg2 c0 c1 c2 c3 c4
    go_wp2_with fail
    refine HA2.out.mono ?_; rintro e w3 ⟨g, c, l, rfl, hl0, hpr, hm, hg3⟩
    have HP := hidd hpr
    have HM := hidd hm
    have HG3 := hidd hg3
    have hll : l.length = A.length := by rw [← hm, List.length_map]
    obtain ⟨n, hn⟩ : ∃ n, l.length = n := ⟨_, rfl⟩
    have HN : Hid (l.length = n ∧ A.length = n ∧ n ≤ 4096) := ⟨hn, hll ▸ hn, by rw [← hn, hll]; have := HLen.out; omega⟩
    rw [hn]
    have hn4 : n ≤ 4096 := HN.out.2.2
    clear hl0 hpr hm hg3 hll hn
    go_wp2_with fail
    clear d0 d1 d2 d3 d4
    go_loopw [7, 8, 20] (fun _ _ u20 wr => ∃ i : Nat, u20 = .int .i64 i ∧ i ≤ n ∧ Hid (firstErr (A.take i) = 0) ∧ Hid (Grew w wr ∧ Grew w3 wr)) (fun _ _ u20 _ => n - (intOf u20).toNat)
    case atStart => exact ⟨0, rfl, Nat.zero_le _, rfl, HG3.out, Grew.refl _⟩
    case round =>
      obtain ⟨i, rfl, hi, HF, HG⟩ := hrel
      by_cases hlt : i < n
      · have s1 : decide ((i : Int) < (n : Int)) = true := decide_eq_true (by omega)
        have s2 : decide (i < n) = true := decide_eq_true hlt
        have hil : i < l.length := by rw [HN.out.1]; exact hlt
        have hiA : i < A.length := by rw [HN.out.2.1]; exact hlt
        have hqA : (l[i]'hil).1 = A[i]'hiA := by
          have h1 : (l.map (·.1))[i]? = A[i]? := by rw [HM.out]
          rw [List.getElem?_map, List.getElem?_eq_getElem hil, List.getElem?_eq_getElem hiA] at h1
          exact Option.some.inj h1
        have hpq := HP.out.pats _ (List.getElem_mem hil)
        have hp3 := HP.out.kept HG.out.2
        obtain ⟨g', c', e', _, _, _, hcs⟩ := hp3.form (by omega)
        cases e'
        have hat := fun j hj => peCells_at l i (l[i]'hil) j (List.getElem?_eq_getElem hil) hj
        have z0 := hcs (i * 5) _ (hat 0 (by omega))
        have z1 := hcs (i * 5 + 1) _ (hat 1 (by omega))
        have z2 := hcs (i * 5 + 2) _ (hat 2 (by omega))
        have z3 := hcs (i * 5 + 3) _ (hat 3 (by omega))
        have z4 := hcs (i * 5 + 4) _ (hat 4 (by omega))
        have hhit := fun h => firstErr_hit hiA HF.out h
        have htk := firstErr_take hiA HF.out
        have hnd := HMem.out _ (List.getElem_mem hiA)
        rw [← hqA] at hhit htk hnd
        obtain ⟨x, hx⟩ : ∃ x, l[i]'hil = x := ⟨_, rfl⟩
        rw [hx] at hpq z0 z1 z2 z3 z4 hhit htk hnd
        obtain ⟨q, qv⟩ := x
        dsimp only at hpq z0 z1 z2 z3 z4 hhit htk hnd
        have hkq : q.kids.length ≤ 4096 := by
          have := length_le_nodes q.kids
          have := nodesP_eq q
          have := HLen.out.2
          omega
        have HC : Hid (∀ w4, Grew wr w4 → Calls Tryd.prog 65 #[.agg (q.cells qv)] w4 fun e w' => e = .returned (.int .i64 (nodeErr q)) ∧ (Grew w w' ∧ Grew w3 w')) := fun w4 g4 =>
          (Node_any (hpq.kept (HG.out.1.trans g4)) hkq).mono fun e w' ⟨h1, h2⟩ => ⟨h1, HG.out.1.trans (g4.trans h2), HG.out.2.trans (g4.trans h2)⟩
        have HHit := hidd hhit
        have HTk := hidd htk
        obtain ⟨qa, qc, eqv, _⟩ := hpq.kids.len
        subst eqv
        unfold Pat.cells at HC
        obtain ⟨ql, hql⟩ : ∃ ql, q.kids.length = ql := ⟨_, rfl⟩
        rw [hql] at HC z4
        obtain ⟨v, hv⟩ : ∃ v, nodeErr q = v := ⟨_, rfl⟩
        rw [hv] at HC HHit HTk
        have HGA := hidd ((Grew.refl wr).alloc (.cells #[.int .i64 q.kind, .string q.text, .int .i64 q.n, .string q.name, .slice qa ql qc] 24))
        have HCd := hidd (HC.out _ HGA.out)
        clear hhit htk hnd hx hat hcs hp3 hpq hqA hql hv hkq HC
        by_cases h0 : v = 0
        · subst h0
          go_wp2_with (go_at_call 65; refine HCd.out.mono ?_; rintro e w5 ⟨rfl, hg5⟩; have HG5 := hidd hg5; clear hg5)
          go_roundw
          case rel => exact ⟨i + 1, by go_num, by omega, HTk.out, HG5.out⟩
          case measure => simp [intOf]; omega
        · have e0 : (v == 0) = false := beq_eq_false_iff_ne.2 h0
          have HV := hidd (HHit.out h0)
          clear h0
          go_wp2_with (go_at_call 65; refine HCd.out.mono ?_; rintro e w5 ⟨rfl, hg5⟩; have HG5 := hidd hg5; clear hg5)
          go_ret
          exact ⟨by rw [HE.out, HV.out]; rfl, HG5.out.1⟩
      · obtain rfl : i = n := by omega
        have s1 : decide ((i : Int) < (i : Int)) = false := decide_eq_false (by omega)
        have s2 : decide (i < i) = false := decide_eq_false (by omega)
        have HT : Hid (firstErr A = 0) := by
          have := HF.out
          rw [List.take_of_length_le (by have := HN.out; omega)] at this
          exact this
        go_wp2_with fail
        go_ret
        exact ⟨by rw [HE.out, HT.out]; rfl, HG.out.1⟩
  · have hsz : sizeR p = .tuple #[.int .i64 0, .int .i64 0, .bool false] := by unfold sizeR; rw [if_neg hok]
    rw [hsz] at HSz
    have HE : Hid (patErr p = 4) := by rw [Hid]; unfold patErr; rw [if_neg (fun h => hok ((size_iff p).1 h))]
    obtain ⟨kl, hkl2⟩ : ∃ kl, p.kids.length = kl := ⟨_, rfl⟩
    unfold Pat.cells at HBx HSz HG1 ⊢
    rw [hkl2] at HBx HSz HG1 ⊢
    obtain ⟨c0, c1, c2, c3, c4⟩ := HBx.out _ (Grew.refl _)
    clear hok hsz hp hg1 hkl2 hkl hB HAl
    go_enter Tryd.func33, Tryd.ntmps33
    go_wp2_with fail
    refine HSz.out.mono ?_; rintro e w2 ⟨rfl, hg2⟩
    have HG2 := hidd (HG1.out.trans hg2)
    clear hg2 c0 c1 c2 c3 c4
    go_wp2_with fail
    go_ret
    exact ⟨by rw [HE.out]; rfl, HG2.out⟩
end Go.Proofs.YtkkdpafkafjfgaaDoor
namespace Go.Proofs.YtkkdpafkafjfgaaDoor
open Go.RowKit
set_option linter.unusedVariables false
end Go.Proofs.YtkkdpafkafjfgaaDoor
