/- ScanGifts: the walk. Conditions: what the arguments are read as; the library's table of powers of ten. -/
import Derived.Test.YtmkldfjcpmoajabDoorScShape
import Derived.Test.YtmkldfjcpmoajabDoorScPlain
import Derived.Laws.StructEq
namespace Go.Proofs.YtmkldfjcpmoajabDoor
open Go.RowKit
set_option linter.unusedVariables false
section
variable {R : List Rule} {w : World} {rv ka : Value} {a : Pat} {s : ByteArray}
/-- All but the last of what is given; the last. -/
theorem gifts_init {b o c : Nat} {l : List Gift} {x : Gift} (h : GiftsV w (.slice (some ⟨b, o, none⟩) (l.length + 1) c) (l ++ [x])) : GiftsV w (.slice (some ⟨b, o, none⟩) l.length c) l := by
  rcases h with ⟨_, _, e, _⟩ | ⟨b', o', c', e, h1, h2, h3, h4⟩
  · cases e
  · rw [List.length_append, List.length_cons, List.length_nil] at e h2 h4
    cases e
    by_cases hl : l = []
    · subst hl; exact Or.inl ⟨_, _, rfl, rfl⟩
    · refine Or.inr ⟨b, o, c, rfl, List.length_pos_iff.2 hl, by omega, h3, fun i hi => ?_⟩
      have := h4 i (by omega)
      rw [List.getD_eq_getElem?_getD, List.getElem?_append_left hi, ← List.getD_eq_getElem?_getD] at this
      exact this
theorem gifts_last {v : Value} {l : List Gift} {x : Gift} (h : GiftsV w v (l ++ [x])) : ∃ b o c : Nat, v = .slice (some ⟨b, o, none⟩) (l.length + 1) c ∧ l.length + 1 ≤ c ∧ c ≤ maxLen ∧ w.cell? ⟨b, o + l.length * 2, none⟩ = some (.string x.1) ∧ w.cell? ⟨b, o + l.length * 2 + 1, none⟩ = some (.string x.2) := by
  rcases h with ⟨_, _, _, e⟩ | ⟨b', o', c', e, h1, h2, h3, h4⟩
  · simp at e
  · rw [List.length_append, List.length_cons, List.length_nil] at e h2 h4
    have := h4 l.length (by omega)
    rw [List.getD_eq_getElem?_getD, List.getElem?_concat_length] at this
    exact ⟨b', o', c', e, h2, h3, this.1, this.2⟩
def wName : ByteArray := ⟨#[87]⟩
def given (n : Nat) (x : Way) : Way := (x.1, x.2 ++ [(wName, s.extract n x.1)])
theorem gifts_int (at_ : Int) (h1 : allOk (allT R s a at_) = true) (h2 : allOk (allT R s (condP wName a) at_) = true) (h3 : allOk (allT R s (immP wName a) at_) = true) :
    ∃ n : Nat, at_ = n ∧ (allT R s (condP wName a) at_).1 = (allT R s a at_).1.map (given (s := s) n) ∧ (allT R s (condP wName a) at_).2.1 = (allT R s a at_).2.1 ∧ (allT R s (immP wName a) at_).1 = (allT R s a at_).1 ∧ (allT R s (immP wName a) at_).2.1 = (allT R s a at_).2.1 ∧ ∀ x ∈ (allT R s a at_).1, n ≤ x.1 ∧ x.1 ≤ s.size := by
  obtain ⟨n, rfl, _⟩ := allOk_some R s h1
  exact ⟨n, rfl, (cond_all h1 h2).1, (cond_all h1 h2).2, (imm_all h1 h3).1, (imm_all h1 h3).2, all_places h1⟩
/-- One kid, in a block of its own. -/
theorem one_kid {w1 : World} {b : Nat} {k : Int} {m : ByteArray} (g : Grew w w1) (ha : PatV w ka a) (hk : -9223372036854775808 ≤ k ∧ k ≤ 9223372036854775807) (hm : m.size ≤ maxLen) (hb : w1.heap[b]? = some (.cells #[.int .i64 a.kind, .string a.text, .int .i64 a.n, .string a.name, ka] 28 (0, 0))) :
    PatV w1 (.slice (some ⟨b, 0, none⟩) 1 1) (.mk k ByteArray.empty 0 m [a]) := by
  obtain ⟨k0, k1, k2, k3, k4⟩ := box_five hb
  exact ⟨Or.inr ⟨b, 0, 1, rfl, Nat.one_pos, Nat.le_refl _, by unfold maxLen; omega, fun j hj => by
    obtain rfl : j = 0 := by have : j < 1 := hj; omega
    exact pat_in ha g k0 k1 k2 k3 k4⟩, hk, ⟨by show (-9223372036854775808 : Int) ≤ 0; omega, by show (0 : Int) ≤ 9223372036854775807; omega⟩, Nat.zero_le _, hm⟩
set_option maxRecDepth 100000 in
set_option maxHeartbeats 4000000 in
theorem ScanGifts_walk (at_ : Int) (hR : RulesAt w rv R) (ha : PatV w ka a) (hs : s.size ≤ maxLen) (hat : -9223372036854775808 ≤ at_ ∧ at_ ≤ 9223372036854775807) (hT : TabP w) :
    Calls Tryd.prog 5 #[rv, .agg (a.cells ka), .string s, .int .i64 at_] w fun e w' => e = .returned (.bool true) ∧ Grew w w' := by
  obtain ⟨ra, rc, rfl, _⟩ := hR.len
  have HAl : Hid (∀ w1, Grew w w1 → Calls Tryd.prog 9 #[] w1 fun e w' => e = .returned (.bool true) ∧ Grew w1 w') := fun w1 g => alive_any w1 (hT.kept g)
  have hGI := gifts_int (R := R) (a := a) (s := s) at_
  obtain ⟨⟨la, ca, ea⟩, hA⟩ : ∃ r, allT R s a at_ = r := ⟨_, rfl⟩
  obtain ⟨⟨lc, cc, ec⟩, hC⟩ : ∃ r, allT R s (condP wName a) at_ = r := ⟨_, rfl⟩
  obtain ⟨⟨ln, cn, en⟩, hN⟩ : ∃ r, allT R s (immP wName a) at_ = r := ⟨_, rfl⟩
  rw [hA, hC, hN] at hGI
  dsimp only at hGI
  obtain ⟨oa, hoa⟩ : ∃ o, allOk (la, ca, ea) = o := ⟨_, rfl⟩
  obtain ⟨oc, hoc⟩ : ∃ o, allOk (lc, cc, ec) = o := ⟨_, rfl⟩
  obtain ⟨on, hon⟩ : ∃ o, allOk (ln, cn, en) = o := ⟨_, rfl⟩
  rw [hoa, hoc, hon] at hGI
  have HAA : Hid (∀ w1, Grew w w1 → Calls Tryd.prog 10 #[.slice ra R.length rc, .agg #[.int .i64 a.kind, .string a.text, .int .i64 a.n, .string a.name, ka], .string s, .int .i64 at_] w1 fun e w' => Grew w1 w' ∧ ∃ x c, e = .returned (.tuple #[.slice x la.length c, .bool ca, .bool oa]) ∧ WaysV w' (.slice x la.length c) la) := fun w1 g => (all_any at_ (hR.kept g) (ha.kept g) hs (hT.kept g)).mono fun e w' ⟨h1, x, c, h2, h3⟩ => by
    rw [hA] at h2 h3
    rw [hoa] at h2
    exact ⟨h1, x, c, h2, h3⟩
  have HAC : Hid (∀ b w1, Grew w w1 → w1.heap[b]? = some (.cells #[.int .i64 a.kind, .string a.text, .int .i64 a.n, .string a.name, ka] 28 (0, 0)) → Calls Tryd.prog 10 #[.slice ra R.length rc, .agg #[.int .i64 21, .string ByteArray.empty, .int .i64 0, .string wName, .slice (some ⟨b, 0, none⟩) 1 1], .string s, .int .i64 at_] w1 fun e w' => Grew w1 w' ∧ ∃ x c, e = .returned (.tuple #[.slice x lc.length c, .bool cc, .bool oc]) ∧ WaysV w' (.slice x lc.length c) lc) := fun b w1 g hb => (all_any (p := condP wName a) at_ (hR.kept g) (one_kid g ha (by omega) (by show 1 ≤ maxLen; unfold maxLen; omega) hb) hs (hT.kept g)).mono fun e w' ⟨h1, x, c, h2, h3⟩ => by
    rw [hC] at h2 h3
    rw [hoc] at h2
    exact ⟨h1, x, c, h2, h3⟩
  have HAN : Hid (∀ b w1, Grew w w1 → w1.heap[b]? = some (.cells #[.int .i64 a.kind, .string a.text, .int .i64 a.n, .string a.name, ka] 28 (0, 0)) → Calls Tryd.prog 10 #[.slice ra R.length rc, .agg #[.int .i64 22, .string ByteArray.empty, .int .i64 0, .string wName, .slice (some ⟨b, 0, none⟩) 1 1], .string s, .int .i64 at_] w1 fun e w' => Grew w1 w' ∧ ∃ x c, e = .returned (.tuple #[.slice x ln.length c, .bool cn, .bool on]) ∧ WaysV w' (.slice x ln.length c) ln) := fun b w1 g hb => (all_any (p := immP wName a) at_ (hR.kept g) (one_kid g ha (by omega) (by show 1 ≤ maxLen; unfold maxLen; omega) hb) hs (hT.kept g)).mono fun e w' ⟨h1, x, c, h2, h3⟩ => by
    rw [hN] at h2 h3
    rw [hon] at h2
    exact ⟨h1, x, c, h2, h3⟩
  have HGI := hidd hGI
  have HSZ := hidd hs
  clear hR ha hs hT hat hA hC hN hoc hon hoa hGI
  unfold wName at HAC HAN
  unfold Pat.cells
  go_enter Tryd.func5, Tryd.ntmps5
  go_wp2_with fail
  refine (HAl.out _ ((Grew.refl w).alloc _)).mono ?_; rintro e w1 ⟨rfl, g1⟩
  have G1 := hidd (((Grew.refl w).alloc _).trans g1)
  have BX : Hid (w1.heap[w.heap.size]? = some (.cells #[.int .i64 a.kind, .string a.text, .int .i64 a.n, .string a.name, ka] 28 (0, 0))) := by show w1.heap[w.heap.size]? = _; rw [g1.block _ (by simp)]; exact heap_alloc_new w _
  obtain ⟨k0, k1, k2, k3, k4⟩ := box_five BX.out
  clear g1 HAl
  go_wp2_with fail
  refine (HAA.out _ G1.out).mono ?_; rintro e w2 ⟨g2, xa, xc, rfl, hv⟩
  have G2 := hidd (And.intro (G1.out.trans g2) hv)
  have BY : Hid (w2.heap[w.heap.size]? = some (.cells #[.int .i64 a.kind, .string a.text, .int .i64 a.n, .string a.name, ka] 28 (0, 0))) := by show w2.heap[w.heap.size]? = _; rw [g2.block _ (lt_of_block BX.out)]; exact BX.out
  clear g2 hv HAA G1 k0 k1 k2 k3 k4 BX
  obtain ⟨k0, k1, k2, k3, k4⟩ := box_five BY.out
  go_wp2_with fail
  refine (HAC.out w2.heap.size _ (G2.out.1.alloc _) (heap_alloc_new w2 _)).mono ?_; rintro e w3 ⟨g3, ya, yc, rfl, hv⟩
  have G3 := hidd (And.intro ((G2.out.1.alloc _).trans g3) (And.intro ((G2.out.2.kept ((Grew.refl w2).alloc _)).kept g3) hv))
  have BZ : Hid (w3.heap[w.heap.size]? = some (.cells #[.int .i64 a.kind, .string a.text, .int .i64 a.n, .string a.name, ka] 28 (0, 0))) := by show w3.heap[w.heap.size]? = _; rw [(((Grew.refl w2).alloc _).trans g3).block _ (lt_of_block BY.out)]; exact BY.out
  clear g3 hv HAC G2 k0 k1 k2 k3 k4 BY
  obtain ⟨k0, k1, k2, k3, k4⟩ := box_five BZ.out
  go_wp2_with fail
  refine (HAN.out w3.heap.size _ (G3.out.1.alloc _) (heap_alloc_new w3 _)).mono ?_; rintro e w4 ⟨g4, za, zc, rfl, hv⟩
  have G4 := hidd (And.intro ((G3.out.1.alloc _).trans g4) (And.intro ((G3.out.2.1.kept ((Grew.refl w3).alloc _)).kept g4) (And.intro ((G3.out.2.2.kept ((Grew.refl w3).alloc _)).kept g4) hv)))
  clear g4 hv HAN G3 k0 k1 k2 k3 k4 BZ
  have h4 : oa = false ∨ (oa = true ∧ oc = false) ∨ (oa = true ∧ oc = true ∧ on = false) ∨ (oa = true ∧ oc = true ∧ on = true) := by
    cases oa <;> cases oc <;> cases on <;> simp
  rcases h4 with rfl | ⟨rfl, rfl⟩ | ⟨rfl, rfl, rfl⟩ | ⟨rfl, rfl, rfl⟩
  · go_wp2_with fail
    go_ret
    exact ⟨rfl, G4.out.1⟩
  · go_wp2_with fail
    go_ret
    exact ⟨rfl, G4.out.1⟩
  · go_wp2_with fail
    go_ret
    exact ⟨rfl, G4.out.1⟩
  · obtain ⟨n, rfl, e1, e2, e3, e4, hpl⟩ := HGI.out rfl rfl rfl
    subst e1
    obtain rfl : ca = cc := e2.symm
    obtain rfl : la = ln := e3.symm
    obtain rfl : ca = cn := e4.symm
    clear e2 e3 e4
    have HPL := hidd hpl
    clear HGI hpl
    have HSW := hidd (SameWays_any G4.out.2.1 G4.out.2.2.2)
    have hle : (la.length : Int) ≤ 9223372036854775807 := by
      obtain ⟨_, _, _, _, h⟩ := G4.out.2.1.len; omega
    have hlx : la.length ≤ xc := by
      obtain ⟨_, _, e, h, _⟩ := G4.out.2.1.len; cases e; exact h
    have hly : la.length ≤ yc := by
      obtain ⟨_, _, e, h, _⟩ := G4.out.2.2.1.len
      rw [List.length_map] at e h; cases e; exact h
    have HLA : Hid (∀ k, k < la.length → ∃ b o b2 o2 : Nat, xa = some ⟨b, o, none⟩ ∧ ya = some ⟨b2, o2, none⟩ ∧ w4.cell? ⟨b, o + k * 2, none⟩ = some (.int .i64 (la.getD k way0).1) ∧ w4.cell? ⟨b2, o2 + k * 2, none⟩ = some (.int .i64 (la.getD k way0).1) ∧
        (∃ gv, w4.cell? ⟨b, o + k * 2 + 1, none⟩ = some gv ∧ GiftsV w4 gv (la.getD k way0).2) ∧ (∃ gv, w4.cell? ⟨b2, o2 + k * 2 + 1, none⟩ = some gv ∧ GiftsV w4 gv ((la.getD k way0).2 ++ [(wName, s.extract n (la.getD k way0).1)])) ∧ n ≤ (la.getD k way0).1 ∧ (la.getD k way0).1 ≤ s.size) := fun k hk => by
      rcases G4.out.2.1 with ⟨_, _, _, e⟩ | ⟨b, o, c, e, _, _, _, h⟩
      · rw [e] at hk; simp at hk
      · rcases G4.out.2.2.1 with ⟨_, _, _, e'⟩ | ⟨b2, o2, c2, e', _, _, _, h'⟩
        · have := congrArg List.length e'; rw [List.length_map] at this; simp at this; rw [this] at hk; simp at hk
        · cases e; cases e'
          have hd : (la.map (given (s := s) n)).getD k way0 = given (s := s) n (la.getD k way0) := by
            rw [List.getD_eq_getElem?_getD, List.getElem?_map, List.getD_eq_getElem?_getD, List.getElem?_eq_getElem hk]; rfl
          have h2 := h' k (by rw [List.length_map]; exact hk)
          rw [hd] at h2
          have h3 := HPL.out (la.getD k way0) (by rw [List.getD_eq_getElem?_getD, List.getElem?_eq_getElem hk]; exact List.getElem_mem hk)
          exact ⟨b, o, b2, o2, rfl, rfl, (h k hk).1, h2.1, (h k hk).2, h2.2, h3.1, h3.2⟩
    have G5 := hidd G4.out.1
    have hSW := HSW.out
    rw [decide_eq_true rfl] at hSW
    have HSW2 := hidd hSW
    clear hSW HSW HPL G4
    rw [List.length_map]
    obtain ⟨L, hL⟩ : ∃ L, la.length = L := ⟨_, rfl⟩
    rw [hL] at hle hlx hly HLA HSW2 ⊢
    clear hL
    unfold maxLen at HSZ
    have hsz := HSZ.out
    cases ca
    all_goals
      go_wp2_with fail
      refine HSW2.out.mono ?_; rintro e w5 ⟨rfl, n5, rfl⟩
      have G6 := hidd (G5.out.drewN n5)
      have HLB := hidd (fun k hk => HLA.out k hk)
      clear HSW2 G5
      go_wp2_with fail
      go_loopg [18, 19, 86] (L + 1) (fun kk _ _ s86 wr => ∃ k : Nat, s86 = .int .i64 k ∧ Hid (Grew w wr ∧ Grew w4 wr) ∧ L + 1 ≤ kk + k ∧ k ≤ L)
      case atStart => exact ⟨0, rfl, ⟨G6.out, (Grew.refl w4).drewN n5⟩, by omega, by omega⟩
      case round =>
        obtain ⟨k, rfl, HJ, hkk, hkl⟩ := hrel
        by_cases hk2 : k < L
        · obtain ⟨b, o, b2, o2, rfl, rfl, h1, h2, ⟨gv, h3, h4⟩, ⟨gw, h5, h6⟩, hp1, hp2⟩ := HLA.out k hk2
          obtain ⟨⟨x1, x2⟩, hx⟩ : ∃ x, la.getD k way0 = x := ⟨_, rfl⟩
          rw [hx] at h1 h2 h4 h6 hp1 hp2
          dsimp only at h1 h2 h4 h6 hp1 hp2
          have a0 := HJ.out.2.keeps h1
          have a1 := HJ.out.2.keeps h3
          have b0 := HJ.out.2.keeps h2
          have b1 := HJ.out.2.keeps h5
          have q4 := h4.kept HJ.out.2
          have q6 := h6.kept HJ.out.2
          obtain ⟨b3, o3, c3, rfl, hc3, hm3, l0, l1⟩ := gifts_last q6
          have q7 := gifts_init q6
          obtain ⟨ga, gc, rfl, hgc, hgl⟩ := q4.len
          have HC : Hid (∀ nn, Calls Tryd.prog 14 #[.slice (some ⟨b3, o3, none⟩) x2.length c3, .slice ga x2.length gc] (wr.drewN nn) fun e w' => e = .returned (.bool true) ∧ ∃ m, w' = (wr.drewN nn).drewN m) :=
            fun nn => (SameGifts_any (q7.kept ((Grew.refl wr).drewN nn)) (q4.kept ((Grew.refl wr).drewN nn))).mono fun e w' h => ⟨by rw [h.1]; simp, h.2⟩
          have HG7 := hidd HJ.out
          have p1 := text_eq (rfl : wName = wName)
          have p2 := text_eq (rfl : s.extract n x1 = s.extract n x1)
          have hs := gift_held
          have hg := gift_guard
          have f2 : ((x1 : Int) != (x1 : Int)) = false := by simp
          have f3 : (((x2.length : Int) + 1) != ((x2.length : Int) + 1)) = false := by simp
          dsimp only at l0 l1
          unfold wName at l0 p1
          unfold maxLen at hm3
          clear h1 h2 h3 h4 h5 h6 q4 q6 q7 hx HJ
          go_wp2_with fail
          go_quiet ((go_at_call 14; exact Calls.quiet_of (HC.out _)))
          go_wp2_with fail
          go_roundg (L + 1 - (k + 1))
          case rel => exact ⟨k + 1, by go_num, ⟨HG7.out.1.drewN _, HG7.out.2.drewN _⟩, by omega, by omega⟩
          case measure => omega
        · have G7 := hidd HJ.out.1
          clear HJ
          go_wp2_with fail
          go_ret
          exact ⟨rfl, G7.out⟩
end
end Go.Proofs.YtmkldfjcpmoajabDoor
