/- ScanMoved: the walks. Conditions: what the arguments are read as; the library's table of powers of ten. -/
import Derived.Test.YtmkldfjcpmoajabDoorScShape
import Derived.Test.YtmkldfjcpmoajabDoorScPlain
import Derived.Test.YtmkldfjcpmoajabDoorScMovedP
namespace Go.Proofs.YtmkldfjcpmoajabDoor
open Go.RowKit
set_option linter.unusedVariables false
theorem placedL_drop (l : List Pat) (k : Nat) (h : k < l.length) : placedL (l.drop k) = (placedB (l.getD k Pat.zero) || placedL (l.drop (k + 1))) := by
  rw [List.drop_eq_getElem_cons h, placedL, List.getD_eq_getElem?_getD, List.getElem?_eq_getElem h]; rfl
theorem kid_small {p q : Pat} (h : q ∈ p.kids) : SizeOf.sizeOf q < SizeOf.sizeOf p := by
  obtain ⟨k, t, n, m, l⟩ := p
  have := List.sizeOf_lt_of_mem (show q ∈ l from h)
  simp only [Pat.mk.sizeOf_spec]
  omega
theorem placedB_eq (p : Pat) : placedB p = (placeKind p.kind || placedL p.kids) := by
  obtain ⟨k, t, n, m, l⟩ := p
  rw [placedB]; rfl
set_option maxRecDepth 100000 in
set_option maxHeartbeats 4000000 in
theorem placed_any : ∀ (N : Nat) (p : Pat), SizeOf.sizeOf p ≤ N → ∀ (kv : Value) (w : World), PatV w kv p → Calls Tryd.prog 18 #[.agg (p.cells kv)] w fun e w' => e = .returned (.bool (placedB p)) ∧ Grew w w'
  | 0, p, h, _, _, _ => by obtain ⟨k, t, n, m, l⟩ := p; simp only [Pat.mk.sizeOf_spec] at h; omega
  | N + 1, p, h, kv, w, hp => by
    have IH : Hid (∀ i, i < p.kids.length → ∀ (kv : Value) (w : World), PatV w kv (p.kids.getD i Pat.zero) → Calls Tryd.prog 18 #[.agg ((p.kids.getD i Pat.zero).cells kv)] w fun e w' => e = .returned (.bool (placedB (p.kids.getD i Pat.zero))) ∧ Grew w w') := fun i hi => by
      have hm : p.kids.getD i Pat.zero ∈ p.kids := by rw [List.getD_eq_getElem?_getD, List.getElem?_eq_getElem hi]; exact List.getElem_mem hi
      exact placed_any N _ (by have := kid_small hm; omega)
    have HB := hidd (placedB_eq p)
    obtain ⟨ka, kc, rfl, hkl⟩ := hp.kids.len
    have HP := hidd hp
    clear hp h
    unfold Pat.cells at IH ⊢
    by_cases hk : placeKind p.kind = true
    · have HT : Hid (placedB p = true) := by rw [Hid, HB.out, hk]; rfl
      unfold placeKind at hk
      simp only [Bool.or_eq_true, decide_eq_true_eq] at hk
      clear IH HP HB
      rcases hk with e | e | e | e | e | e | e
      all_goals
        go_enter Tryd.func18, Tryd.ntmps18
        go_wp2_with fail
        go_ret
        exact ⟨ret_bool HT.out.symm, (Grew.refl w).alloc _⟩
    · have HT : Hid (placedB p = placedL p.kids) := by rw [Hid, HB.out, show placeKind p.kind = false by simpa using hk]; rfl
      unfold placeKind at hk
      simp only [Bool.or_eq_true, decide_eq_true_eq, not_or] at hk
      obtain ⟨h8, h9, h10, h11, h12, h23, h24⟩ := hk
      clear HB
      go_enter Tryd.func18, Tryd.ntmps18
      go_wp2_with fail
      rw [show (p.kind == 8) = false from beq_eq_false_iff_ne.2 h8, show (p.kind == 9) = false from beq_eq_false_iff_ne.2 h9, show (p.kind == 10) = false from beq_eq_false_iff_ne.2 h10, show (p.kind == 11) = false from beq_eq_false_iff_ne.2 h11, show (p.kind == 12) = false from beq_eq_false_iff_ne.2 h12, show (p.kind == 23) = false from beq_eq_false_iff_ne.2 h23, show (p.kind == 24) = false from beq_eq_false_iff_ne.2 h24]
      obtain ⟨L, hL⟩ : ∃ L, p.kids.length = L := ⟨_, rfl⟩
      have HL := hidd hL
      rw [hL] at IH HP hkl ⊢
      have hcl : L ≤ kc := by
        rcases HP.out.kids with ⟨_, _, e, e2⟩ | ⟨b, o, c, e, _, h2, _, _⟩
        · cases e; omega
        · rw [hL] at e h2; cases e; exact h2
      clear hL h8 h9 h10 h11 h12 h23 h24
      go_loopg [4, 18] (L + 1) (fun kk _ s18 wr => ∃ k : Nat, s18 = .int .i64 k ∧ Hid (Grew w wr ∧ placedL (p.kids.drop k) = placedB p) ∧ L + 1 ≤ kk + k ∧ k ≤ L)
      case atStart => exact ⟨0, rfl, ⟨(Grew.refl w).alloc _, HT.out.symm⟩, by omega, by omega⟩
      case round =>
        obtain ⟨k, rfl, HJ, hkk, hkl2⟩ := hrel
        by_cases hlt : k < L
        · have hst := placedL_drop p.kids k (by rw [HL.out]; exact hlt)
          rw [HJ.out.2] at hst
          obtain ⟨b, o, rfl, hat⟩ : ∃ b o : Nat, ka = some ⟨b, o, none⟩ ∧ PatAt w b (o + k * 5) (p.kids.getD k Pat.zero) := by
            rcases HP.out.kids with ⟨_, _, e, e2⟩ | ⟨b, o, c, e, _, _, _, h⟩
            · have := HL.out; rw [e2] at this; simp at this; omega
            · rw [HL.out] at e h; cases e; exact ⟨b, o, rfl, h k hlt⟩
          obtain ⟨kv, hn, hv⟩ := (hat.kept HJ.out.1).value
          have HC := hidd (fun w1 g => IH.out k hlt kv w1 (hv.kept g))
          obtain ⟨xa, xc, rfl, _⟩ := hv.kids.len
          have a0 := hn.c0
          have a1 := hn.c1
          have a2 := hn.c2
          have a3 := hn.c3
          have a4 := hn.c4
          have HST := hidd hst
          have HG := hidd HJ.out.1
          clear hn hv hat hst HJ
          generalize p.kids.getD k Pat.zero = q at *
          go_wp2_with fail
          refine (HC.out _ ((Grew.refl wr).alloc _)).mono ?_; rintro e w5 ⟨rfl, g5⟩
          have G5 := hidd (HG.out.trans (((Grew.refl wr).alloc _).trans g5))
          clear g5 HC a0 a1 a2 a3 a4
          cases hq : placedB q
          · have HS : Hid (placedL (List.drop (k + 1) p.kids) = placedB p) := by have := HST.out; rw [hq] at this; exact this.symm
            clear HST hq
            go_wp2_with fail
            go_roundg (L + 1 - (k + 1))
            case rel => exact ⟨k + 1, by go_num, ⟨G5.out, HS.out⟩, by omega, by omega⟩
            case measure => omega
          · have HS : Hid (placedB p = true) := by have := HST.out; rw [hq] at this; exact this
            clear HST hq
            go_wp2_with fail
            go_ret
            exact ⟨ret_bool HS.out.symm, G5.out⟩
        · have HE : Hid (placedB p = false) := by
            have := HJ.out.2
            rw [List.drop_of_length_le (by rw [HL.out]; omega)] at this
            exact this.symm
          have HG := hidd HJ.out.1
          clear HJ
          go_wp2_with fail
          go_ret
          exact ⟨ret_bool HE.out.symm, HG.out⟩
section
variable {w : World} {ka : Value} {a : Pat} {s m : ByteArray}
set_option maxRecDepth 100000 in
set_option maxHeartbeats 4000000 in
theorem ScanMoved_walk (ha : PatV w ka a) (hs : s.size ≤ 140737488355328) (hm : m.size ≤ 140737488355328) (hT : TabP w) :
    Calls Tryd.prog 7 #[.agg (a.cells ka), .string s, .string m] w fun e w' => e = .returned (.bool true) ∧ Grew w w' := by
  have HAl : Hid (∀ w1, Grew w w1 → Calls Tryd.prog 9 #[] w1 fun e w' => e = .returned (.bool true) ∧ Grew w1 w') := fun w1 g => alive_any w1 (hT.kept g)
  have hmv := fun h1 h2 => moved_all (p := a) (s := s) (m := m) h1 h2
  have hsm : (m ++ s).size = m.size + s.size := ByteArray.size_append
  obtain ⟨⟨la, ca, ea⟩, hA⟩ : ∃ r, allT [] s a 0 = r := ⟨_, rfl⟩
  obtain ⟨⟨lc, cc, ec⟩, hC⟩ : ∃ r, allT [] (m ++ s) a m.size = r := ⟨_, rfl⟩
  rw [hA, hC] at hmv
  obtain ⟨oa, hoa⟩ : ∃ o, allOk (la, ca, ea) = o := ⟨_, rfl⟩
  obtain ⟨oc, hoc⟩ : ∃ o, allOk (lc, cc, ec) = o := ⟨_, rfl⟩
  have hbig : 65536 < m.size + s.size → oc = false := fun h => by
    cases hx : oc with
    | false => rfl
    | true =>
      exfalso
      rw [hx, ← hC] at hoc
      obtain ⟨_, _, _, h3, _⟩ := allOk_some [] (m ++ s) hoc
      unfold askErr at h3
      split at h3
      · split at h3
        · rw [if_pos (by omega)] at h3; cases h3
        · rename_i hx; exact hx h3
      · rename_i hx; exact hx h3
  have hplc : allOk (la, ca, ea) = true → ∀ x ∈ la, x.1 ≤ s.size := fun h x hx => by
    have := all_places (R := []) (s := s) (p := a) (n := 0) (by rw [show ((0 : Nat) : Int) = 0 from rfl, hA]; exact h) x (by rw [show ((0 : Nat) : Int) = 0 from rfl, hA]; exact hx)
    exact this.2
  rw [hoa] at hmv hplc
  have HAA : Hid (∀ w1, Grew w w1 → Calls Tryd.prog 10 #[.slice none 0 0, .agg #[.int .i64 a.kind, .string a.text, .int .i64 a.n, .string a.name, ka], .string s, .int .i64 0] w1 fun e w' => Grew w1 w' ∧ ∃ x c, e = .returned (.tuple #[.slice x la.length c, .bool ca, .bool oa]) ∧ WaysV w' (.slice x la.length c) la) := fun w1 g => (all_any 0 (rules_none w1) (ha.kept g) (by unfold maxLen; omega) (hT.kept g)).mono fun e w' ⟨h1, x, c, h2, h3⟩ => by
    rw [hA] at h2 h3
    rw [hoa] at h2
    exact ⟨h1, x, c, h2, h3⟩
  have HAC : Hid (∀ w1, Grew w w1 → Calls Tryd.prog 10 #[.slice none 0 0, .agg #[.int .i64 a.kind, .string a.text, .int .i64 a.n, .string a.name, ka], .string (m ++ s), .int .i64 m.size] w1 fun e w' => Grew w1 w' ∧ ∃ x c, e = .returned (.tuple #[.slice x lc.length c, .bool cc, .bool oc]) ∧ WaysV w' (.slice x lc.length c) lc) := fun w1 g => (all_any m.size (rules_none w1) (ha.kept g) (by unfold maxLen; omega) (hT.kept g)).mono fun e w' ⟨h1, x, c, h2, h3⟩ => by
    rw [hC] at h2 h3
    rw [hoc] at h2
    exact ⟨h1, x, c, h2, h3⟩
  have HPl : Hid (∀ w1, Grew w w1 → Calls Tryd.prog 18 #[.agg #[.int .i64 a.kind, .string a.text, .int .i64 a.n, .string a.name, ka]] w1 fun e w' => e = .returned (.bool (placedB a)) ∧ Grew w1 w') := fun w1 g => placed_any _ a (Nat.le_refl _) ka w1 (ha.kept g)
  have HMV := hidd (And.intro hmv (And.intro hbig (And.intro hoa (And.intro hoc hplc))))
  clear ha hT hA hC hoa hoc hmv hbig hplc
  obtain ⟨pb, hpb⟩ : ∃ b, placedB a = b := ⟨_, rfl⟩
  rw [hpb] at HPl HMV
  clear hpb
  unfold Pat.cells
  go_enter Tryd.func7, Tryd.ntmps7
  go_wp2_with fail
  refine (HAl.out _ ((Grew.refl w).alloc _)).mono ?_; rintro e w1 ⟨rfl, g1⟩
  have G1 := hidd (((Grew.refl w).alloc _).trans g1)
  have BX : Hid (w1.heap[w.heap.size]? = some (.cells #[.int .i64 a.kind, .string a.text, .int .i64 a.n, .string a.name, ka] 28 (0, 0))) := by show w1.heap[w.heap.size]? = _; rw [g1.block _ (by simp)]; exact heap_alloc_new w _
  obtain ⟨k0, k1, k2, k3, k4⟩ := box_five BX.out
  clear g1 HAl
  go_wp2_with fail
  refine (HAA.out _ G1.out).mono ?_; rintro e w2 ⟨g2, xa, xc, rfl, hv⟩
  have G2 := hidd (And.intro (G1.out.trans g2) hv)
  have BY : Hid (w2.heap[w.heap.size]? = some (.cells #[.int .i64 a.kind, .string a.text, .int .i64 a.n, .string a.name, ka] 28 (0, 0))) := by show w2.heap[w.heap.size]? = _; rw [g2.block _ (lt_of_block BX.out)]; exact BX.out
  clear g2 hv HAA G1 k0 k1 k2 k3 k4 BX
  obtain ⟨k0, k1, k2, k3, k4⟩ := box_five BY.out
  cases oa
  · go_wp2_with fail
    go_ret
    exact ⟨rfl, G2.out.1⟩
  · go_wp2_with fail
    refine (HPl.out _ G2.out.1).mono ?_; rintro e w3 ⟨rfl, g3⟩
    have G3 := hidd (And.intro (G2.out.1.trans g3) (G2.out.2.kept g3))
    have BZ : Hid (w3.heap[w.heap.size]? = some (.cells #[.int .i64 a.kind, .string a.text, .int .i64 a.n, .string a.name, ka] 28 (0, 0))) := by show w3.heap[w.heap.size]? = _; rw [g3.block _ (lt_of_block BY.out)]; exact BY.out
    clear g3 HPl G2 k0 k1 k2 k3 k4 BY
    obtain ⟨k0, k1, k2, k3, k4⟩ := box_five BZ.out
    cases pb
    · go_wp2_with fail
      refine (HAC.out _ G3.out.1).mono ?_; rintro e w4 ⟨g4, ya, yc, rfl, hv⟩
      have G4 := hidd (And.intro (G3.out.1.trans g4) (And.intro (G3.out.2.kept g4) hv))
      clear g4 hv HAC G3 k0 k1 k2 k3 k4 BZ
      by_cases hbg : 65536 < m.size + s.size
      · obtain rfl := HMV.out.2.1 hbg
        have f1 : 65536 < (m.size : Int) + (s.size : Int) := by omega
        clear hbg
        go_wp2_with fail
        go_ret
        exact ⟨rfl, G4.out.1⟩
      · obtain ⟨h1, _, hoa, hoc, hpl⟩ := HMV.out
        have e := h1 (by simp) (by simp) (by omega)
        have e1 : lc = la.map (moved m.size) := congrArg (·.1) e
        have e2 : cc = ca := congrArg (·.2.1) e
        have e3 : ec = ea := congrArg (·.2.2) e
        subst e1
        obtain rfl : ca = cc := e2.symm
        obtain rfl : ea = ec := e3.symm
        obtain rfl : oc = true := by
          rw [← hoc]
          have := allOk_parts hoa
          unfold allOk
          rw [decide_eq_true this.1, decide_eq_true (by dsimp only; rw [List.length_map]; exact this.2)]; rfl
        have HPL := hidd (hpl (by simp))
        clear HMV hpl hoc hoa h1 e e2 e3
        have hle : (la.length : Int) ≤ 9223372036854775807 := by
          obtain ⟨_, _, _, _, h⟩ := G4.out.2.1.len; omega
        have hlx : la.length ≤ xc := by
          obtain ⟨_, _, e, h, _⟩ := G4.out.2.1.len; cases e; exact h
        have hly : la.length ≤ yc := by
          obtain ⟨_, _, e, h, _⟩ := G4.out.2.2.len
          rw [List.length_map] at e h; cases e; exact h
        have HLA : Hid (∀ k, k < la.length → ∃ b o b2 o2 : Nat, xa = some ⟨b, o, none⟩ ∧ ya = some ⟨b2, o2, none⟩ ∧ w4.cell? ⟨b, o + k * 2, none⟩ = some (.int .i64 (la.getD k way0).1) ∧ w4.cell? ⟨b2, o2 + k * 2, none⟩ = some (.int .i64 (((la.getD k way0).1 : Int) + (m.size : Int))) ∧
            (∃ gv, w4.cell? ⟨b, o + k * 2 + 1, none⟩ = some gv ∧ GiftsV w4 gv (la.getD k way0).2) ∧ (∃ gv, w4.cell? ⟨b2, o2 + k * 2 + 1, none⟩ = some gv ∧ GiftsV w4 gv (la.getD k way0).2) ∧ (la.getD k way0).1 ≤ s.size) := fun k hk => by
          rcases G4.out.2.1 with ⟨_, _, _, e⟩ | ⟨b, o, c, e, _, _, _, h⟩
          · rw [e] at hk; simp at hk
          · rcases G4.out.2.2 with ⟨_, _, _, e'⟩ | ⟨b2, o2, c2, e', _, _, _, h'⟩
            · have := congrArg List.length e'; rw [List.length_map] at this; simp at this; rw [this] at hk; simp at hk
            · cases e; cases e'
              have hd : (la.map (moved m.size)).getD k way0 = moved m.size (la.getD k way0) := by
                rw [List.getD_eq_getElem?_getD, List.getElem?_map, List.getD_eq_getElem?_getD, List.getElem?_eq_getElem hk]; rfl
              have h2 := h' k (by rw [List.length_map]; exact hk)
              rw [hd] at h2
              have h3 := HPL.out (la.getD k way0) (by rw [List.getD_eq_getElem?_getD, List.getElem?_eq_getElem hk]; exact List.getElem_mem hk)
              exact ⟨b, o, b2, o2, rfl, rfl, (h k hk).1, h2.1.trans (by unfold moved; rw [Int.natCast_add]), (h k hk).2, h2.2, h3⟩
        have G5 := hidd G4.out.1
        clear HPL G4
        rw [List.length_map]
        obtain ⟨L, hL⟩ : ∃ L, la.length = L := ⟨_, rfl⟩
        rw [hL] at hle hlx hly HLA ⊢
        clear hL
        cases ca
        all_goals
          go_wp2_with fail
          go_loopg [13, 60] (L + 1) (fun kk _ s60 wr => ∃ k : Nat, s60 = .int .i64 k ∧ Hid (Grew w wr ∧ Grew w4 wr) ∧ L + 1 ≤ kk + k ∧ k ≤ L)
          case atStart => exact ⟨0, rfl, ⟨G5.out, Grew.refl w4⟩, by omega, by omega⟩
          case round =>
            obtain ⟨k, rfl, HJ, hkk, hkl⟩ := hrel
            by_cases hk2 : k < L
            · obtain ⟨b, o, b2, o2, rfl, rfl, h1, h2, ⟨gv, h3, h4⟩, ⟨gw, h5, h6⟩, hp1⟩ := HLA.out k hk2
              obtain ⟨⟨x1, x2⟩, hx⟩ : ∃ x, la.getD k way0 = x := ⟨_, rfl⟩
              rw [hx] at h1 h2 h4 h6 hp1
              dsimp only at h1 h2 h4 h6 hp1
              have a0 := HJ.out.2.keeps h1
              have a1 := HJ.out.2.keeps h3
              have b0 := HJ.out.2.keeps h2
              have b1 := HJ.out.2.keeps h5
              have q4 := h4.kept HJ.out.2
              have q6 := h6.kept HJ.out.2
              obtain ⟨ga, gc, rfl, hgc, hgl⟩ := q4.len
              obtain ⟨gb, gd, rfl, hgd, hgm⟩ := q6.len
              have HC : Hid (∀ nn, Calls Tryd.prog 14 #[.slice ga x2.length gc, .slice gb x2.length gd] (wr.drewN nn) fun e w' => e = .returned (.bool true) ∧ ∃ m, w' = (wr.drewN nn).drewN m) :=
                fun nn => (SameGifts_any (q4.kept ((Grew.refl wr).drewN nn)) (q6.kept ((Grew.refl wr).drewN nn))).mono fun e w' h => ⟨by rw [h.1]; simp, h.2⟩
              have HG7 := hidd HJ.out
              have f2 : (((x1 : Int) + (m.size : Int)) != ((x1 : Int) + (m.size : Int))) = false := by simp
              clear h1 h2 h3 h4 h5 h6 q4 q6 hx HJ
              go_wp2_with fail
              go_quiet ((go_at_call 14; exact Calls.quiet_of (HC.out _)))
              go_wp2_with fail
              go_roundg (L + 1 - (k + 1))
              case rel => exact ⟨k + 1, by go_num, ⟨HG7.out.1.drewN _, HG7.out.2.drewN _⟩, by omega, by omega⟩
              case measure => omega
            · have G7 := hidd HJ.out.1
              clear HJ
              go_wp2_with fail
              go_ret
              exact ⟨rfl, G7.out⟩
    · go_wp2_with fail
      go_ret
      exact ⟨rfl, G3.out.1⟩
end
end Go.Proofs.YtmkldfjcpmoajabDoor
