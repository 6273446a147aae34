/- pats.Size: at every pattern. -/
import Derived.Test.YtmkldfjcpmoajabDoorScPat
import Derived.RegionTactic
import Derived.ChangeAlike
namespace Go.Proofs.YtmkldfjcpmoajabDoor
open Go.RowKit
set_option linter.unusedVariables false

set_option maxRecDepth 100000 in
theorem size_visit (b : Option Addr) (d N D bn bd : Nat) (w : World) (t : TypeId) (hd : d ≤ 1000) (hN : N ≤ 4096) (hD : D ≤ 1000) (h1 : w.heap[bn]? = some (.cells #[.int .i64 N] t (0, 0))) (h2 : w.heap[bd]? = some (.cells #[.int .i64 D] t (0, 0))) (hne : bn ≠ bd) :
    Calls Tryd.prog 47 #[.pointer b, .int .i64 d, .pointer (some ⟨bn, 0, none⟩), .pointer (some ⟨bd, 0, none⟩)] w fun e w' =>
      e = .returned (.bool (decide (N + 1 ≤ 4096 ∧ d ≤ 200))) ∧ w' = (w.setCell ⟨bn, 0, none⟩ (.int .i64 (N + 1 : Nat))).setCell ⟨bd, 0, none⟩ (.int .i64 (max D d : Nat)) := by
  have c1 := cell_of_one h1
  have c2 := cell_of_one h2
  have f1 := free_of_one h1
  have f2 := free_of_one h2
  have c2' : ∀ u, (w.setCell ⟨bn, 0, none⟩ u).cell? ⟨bd, 0, none⟩ = some (.int .i64 D) := fun u => by rw [setCell_cell_other _ _ _ _ (.inl hne)]; exact c2
  have c1' : ∀ u, (w.setCell ⟨bn, 0, none⟩ u).cell? ⟨bn, 0, none⟩ = some u := fun u => setCell_cell_same rfl c1
  have c1'' : ∀ u v, ((w.setCell ⟨bn, 0, none⟩ u).setCell ⟨bd, 0, none⟩ v).cell? ⟨bn, 0, none⟩ = some u := fun u v => by rw [setCell_cell_other _ _ _ _ (.inl (Ne.symm hne))]; exact c1' u
  have H1 := hidd h1
  have H2 := hidd h2
  have HN := hidd hne
  clear h1 h2 hne
  by_cases hm : D < d
  all_goals
    by_cases g1 : N + 1 ≤ 4096
    all_goals
      by_cases g2 : d ≤ 200
      all_goals
        have G1 := hidd g1
        have G2 := hidd g2
        have k1 : decide ((N : Int) + 1 ≤ 4096) = decide (N + 1 ≤ 4096) := by rw [decide_eq_decide]; omega
        have k2 : decide ((d : Int) ≤ 200) = decide (d ≤ 200) := by rw [decide_eq_decide]; omega
        simp only [g1, g2, decide_true, decide_false] at k1 k2
        clear g1 g2
        go_enter Tryd.func47, Tryd.ntmps47
        go_wp2_with fail
        go_ret
        refine ⟨ret_bool (by have := G1.out; have := G2.out; simp; omega), ?_⟩
        first | rw [Nat.max_eq_right (by omega)] | rw [Nat.max_eq_left (by omega)]
        rfl

mutual
theorem sizeW_true : ∀ (p : Pat) (d N D N' D' : Nat), sizeW p d N D = (true, N', D') → N' ≤ 4096 ∧ D' ≤ max D 200
  | .mk _ _ _ _ l, d, N, D, N', D', h => by
    unfold sizeW at h
    split at h
    · rename_i hc
      have := sizeL_true l (d + 1) (N + 1) (max D d) N' D' h hc.1
      omega
    · cases h
theorem sizeL_true : ∀ (l : List Pat) (d N D N' D' : Nat), sizeL l d N D = (true, N', D') → N ≤ 4096 → N' ≤ 4096 ∧ D' ≤ max D 200
  | [], d, N, D, N', D', h, hN => by
    unfold sizeL at h
    simp only [Prod.mk.injEq, true_and] at h
    omega
  | p :: l, d, N, D, N', D', h, hN => by
    unfold sizeL at h
    obtain ⟨r, N1, D1, he⟩ : ∃ r N1 D1, sizeW p d N D = (r, N1, D1) := ⟨_, _, _, rfl⟩
    rw [he] at h
    cases r with
    | false => cases h
    | true =>
      have h1 := sizeW_true p d N D N1 D1 he
      have h2 := sizeL_true l d N1 D1 N' D' h h1.1
      omega
end
theorem sizeL_step (l : List Pat) (k d N D : Nat) (h : k < l.length) : sizeL (l.drop k) d N D = (match sizeW (l.getD k Pat.zero) d N D with | (true, N', D') => sizeL (l.drop (k + 1)) d N' D' | r => r) := by
  rw [List.drop_eq_getElem_cons h]
  rw [show l.getD k Pat.zero = l[k] by rw [List.getD_eq_getElem?_getD, List.getElem?_eq_getElem h]; rfl]
  rfl

theorem setCell_heap_other {w : World} {b b' : Nat} (o : Nat) (sp : Option Nat) (u : Value) (h : b ≠ b') : (w.setCell ⟨b, o, sp⟩ u).heap[b']? = w.heap[b']? := by
  simp [World.setCell, Array.getElem?_modify, h]
/-- What the counters are behind a walk. -/
structure SizeEnd (w0 : World) (bn bd : Nat) (t : TypeId) (r : Bool × Nat × Nat) (w' : World) : Prop where
  n : w'.heap[bn]? = some (.cells #[.int .i64 r.2.1] t (0, 0))
  d : w'.heap[bd]? = some (.cells #[.int .i64 r.2.2] t (0, 0))
  grew : Grew w0 w'

theorem size_after {w0 w : World} {bn bd : Nat} {t : TypeId} (hne : bn ≠ bd) (hbn : w0.heap.size ≤ bn) (hbd : w0.heap.size ≤ bd) {r : Bool × Nat × Nat} (h : SizeEnd w0 bn bd t r w) {x : Bool} {N D : Nat} :
    SizeEnd w0 bn bd t (x, N, D) ((w.setCell ⟨bn, 0, none⟩ (.int .i64 N)).setCell ⟨bd, 0, none⟩ (.int .i64 D)) :=
  ⟨by rw [setCell_heap_other _ _ _ (Ne.symm hne)]; exact one_setCell h.n, one_setCell (by rw [setCell_heap_other _ _ _ hne]; exact h.d), (h.grew.setCell hbn _).setCell hbd _⟩

set_option maxRecDepth 100000 in
theorem walk_size (w0 : World) (bn bd : Nat) (t : TypeId) (hne : bn ≠ bd) (hbn : w0.heap.size ≤ bn) (hbd : w0.heap.size ≤ bd) {b o : Nat} {p : Pat} (hp : PatAt w0 b o p) :
    ∀ (d N D : Nat) (w : World), d ≤ 201 → N ≤ 4096 → D ≤ 201 → SizeEnd w0 bn bd t (true, N, D) w →
    Calls Tryd.prog 32 #[.pointer (some ⟨b, o, none⟩), .int .i64 d, .func (.func 47) #[] #[.pointer (some ⟨bn, 0, none⟩), .pointer (some ⟨bd, 0, none⟩)]] w fun e w' =>
      e = .returned (.bool (sizeW p d N D).1) ∧ SizeEnd w0 bn bd t (sizeW p d N D) w' := by
  induction hp with
  | leaf b o k tx n m a c c0 c1 c2 c3 c4 hk hn ht hm =>
    intro d N D w hd hN hD hw
    have g4 := hw.grew.keeps c4
    have HV := hidd (size_visit (some ⟨b, o, none⟩) d N D bn bd w t (by omega) hN (by omega) hw.n hw.d hne)
    have hW : Hid (SizeEnd w0 bn bd t (true, N + 1, max D d) ((w.setCell ⟨bn, 0, none⟩ (.int .i64 (N + 1 : Nat))).setCell ⟨bd, 0, none⟩ (.int .i64 (max D d : Nat)))) := size_after hne hbn hbd hw
    have g5 : ((w.setCell ⟨bn, 0, none⟩ (.int .i64 (N + 1 : Nat))).setCell ⟨bd, 0, none⟩ (.int .i64 (max D d : Nat))).cell? ⟨b, o + 4, none⟩ = some (.slice a 0 c) := hW.out.grew.keeps c4
    obtain ⟨w1, hw1⟩ : ∃ w1, (w.setCell ⟨bn, 0, none⟩ (.int .i64 (N + 1 : Nat))).setCell ⟨bd, 0, none⟩ (.int .i64 (max D d : Nat)) = w1 := ⟨_, rfl⟩
    rw [hw1] at HV hW g5
    clear hw1
    by_cases g : N + 1 ≤ 4096 ∧ d ≤ 200
    · have e : sizeW (.mk k tx n m []) d N D = (true, N + 1, max D d) := by
        unfold sizeW; rw [if_pos g]; rfl
      have g' : decide (N + 1 ≤ 4096 ∧ d ≤ 200) = true := by simpa using g
      rw [g'] at HV
      have E := hidd e
      clear e g g' c0 c1 c2 c3 c4 g4 hw
      go_enter Tryd.func32, Tryd.ntmps32
      go_wp2_with fail
      refine HV.out.mono ?_; rintro e w2 ⟨rfl, rfl⟩
      go_wp2_with fail
      go_loop [18] (fun u => u = .int .i64 0) (fun _ => 0)
      case atStart => rfl
      case round =>
        obtain rfl := hrel
        go_wp2_with fail
        go_ret
        rw [E.out]
        exact ⟨rfl, hW.out⟩
    · have e : sizeW (.mk k tx n m []) d N D = (false, N + 1, max D d) := by
        unfold sizeW; rw [if_neg g]
      have g' : decide (N + 1 ≤ 4096 ∧ d ≤ 200) = false := by simpa using g
      rw [g'] at HV
      have E := hidd e
      clear e g g' c0 c1 c2 c3 c4 g4 hw
      go_enter Tryd.func32, Tryd.ntmps32
      go_wp2_with fail
      refine HV.out.mono ?_; rintro e w2 ⟨rfl, rfl⟩
      go_wp2_with fail
      go_ret
      rw [E.out]
      exact ⟨rfl, hW.out.n, hW.out.d, hW.out.grew⟩
  | node b o k tx n m l b' o' c c0 c1 c2 c3 c4 hk hn ht hm h0 hc hc' hl ih =>
    intro d N D w hd hN hD hw
    have HV := hidd (size_visit (some ⟨b, o, none⟩) d N D bn bd w t (by omega) hN (by omega) hw.n hw.d hne)
    have hW : Hid (SizeEnd w0 bn bd t (true, N + 1, max D d) ((w.setCell ⟨bn, 0, none⟩ (.int .i64 (N + 1 : Nat))).setCell ⟨bd, 0, none⟩ (.int .i64 (max D d : Nat)))) := size_after hne hbn hbd hw
    have g5 : ((w.setCell ⟨bn, 0, none⟩ (.int .i64 (N + 1 : Nat))).setCell ⟨bd, 0, none⟩ (.int .i64 (max D d : Nat))).cell? ⟨b, o + 4, none⟩ = some (.slice (some ⟨b', o', none⟩) l.length c) := hW.out.grew.keeps c4
    obtain ⟨w1, hw1⟩ : ∃ w1, (w.setCell ⟨bn, 0, none⟩ (.int .i64 (N + 1 : Nat))).setCell ⟨bd, 0, none⟩ (.int .i64 (max D d : Nat)) = w1 := ⟨_, rfl⟩
    rw [hw1] at HV hW g5
    have HC4 := hidd c4
    have IH := hidd ih
    unfold maxLen at hc'
    clear hw1 ih hl c0 c1 c2 c3 c4 hw ht hm
    by_cases g : N + 1 ≤ 4096 ∧ d ≤ 200
    · have e : sizeW (.mk k tx n m l) d N D = sizeL l (d + 1) (N + 1) (max D d) := by
        rw [sizeW]; rw [if_pos g]
      have g' : decide (N + 1 ≤ 4096 ∧ d ≤ 200) = true := by simpa using g
      have hd200 : d ≤ 200 := g.2
      have G1 := hidd g.1
      rw [g'] at HV
      have E := hidd e
      clear e g g'
      go_enter Tryd.func32, Tryd.ntmps32
      go_wp2_with fail
      refine HV.out.mono ?_; rintro e w2 ⟨rfl, rfl⟩
      go_wp2_with fail
      go_loopw [18] (fun u wr => ∃ i N' D' : Nat, i ≤ l.length ∧ u = .int .i64 i ∧ Hid (SizeEnd w0 bn bd t (true, N', D') wr) ∧ N' ≤ 4096 ∧ D' ≤ 201 ∧ Hid (sizeL l (d + 1) (N + 1) (max D d) = sizeL (l.drop i) (d + 1) N' D')) (fun u _ => l.length - (intOf u).toNat)
      case atStart => exact ⟨0, N + 1, max D d, by omega, rfl, hW, G1.out, by omega, rfl⟩
      case round =>
        obtain ⟨i, N', D', hi, rfl, hR, hN', hD', HS⟩ := hrel
        clear g5
        have g6 := hR.out.grew.keeps HC4.out
        by_cases hlt : i < l.length
        · have hs := sizeL_step l i (d + 1) N' D' hlt
          have HK := hidd (IH.out i hlt (d + 1) N' D' wr (by omega) hN' hD' hR.out)
          obtain ⟨r, N1, D1, hr⟩ : ∃ r N1 D1, sizeW (l.getD i Pat.zero) (d + 1) N' D' = (r, N1, D1) := ⟨_, _, _, rfl⟩
          rw [hr] at HK hs
          have HT : Hid (r = true → N1 ≤ 4096 ∧ D1 ≤ max D' 200) := fun hh => sizeW_true (l.getD i Pat.zero) (d + 1) N' D' N1 D1 (by rw [hr, hh])
          have HSS := hidd (HS.out.trans hs)
          clear hr hs
          cases r with
          | true =>
            go_wp2_with fail
            refine HK.out.mono ?_; rintro e w2 ⟨rfl, hE⟩
            go_wp2_with fail
            have hE' := hidd hE
            have := HT.out (by first | rfl | trivial)
            clear hE
            go_roundw
            case rel => exact ⟨i + 1, N1, D1, by omega, by go_num, hE', by omega, by omega, HSS.out⟩
            case measure => simp [intOf]; omega
          | false =>
            go_wp2_with fail
            refine HK.out.mono ?_; rintro e w2 ⟨rfl, hE⟩
            have hE' := hidd hE
            clear hE
            go_wp2_with fail
            go_ret
            rw [E.out, HSS.out]
            exact ⟨rfl, hE'.out⟩
        · obtain rfl : i = l.length := by omega
          have HE2 := hidd (HS.out.trans (show sizeL (l.drop l.length) (d + 1) N' D' = (true, N', D') by rw [List.drop_length]; rfl))
          go_wp2_with fail
          go_ret
          rw [E.out, HE2.out]
          exact ⟨rfl, hR.out⟩
    · have e : sizeW (.mk k tx n m l) d N D = (false, N + 1, max D d) := by
        rw [sizeW]; rw [if_neg g]
      have g' : decide (N + 1 ≤ 4096 ∧ d ≤ 200) = false := by simpa using g
      rw [g'] at HV
      have E := hidd e
      clear e g g'
      go_enter Tryd.func32, Tryd.ntmps32
      go_wp2_with fail
      refine HV.out.mono ?_; rintro e w2 ⟨rfl, rfl⟩
      go_wp2_with fail
      go_ret
      rw [E.out]
      exact ⟨rfl, hW.out.n, hW.out.d, hW.out.grew⟩

theorem size_start (w : World) (cs : Array Value) (t0 t : TypeId) : SizeEnd (w.alloc (.cells cs t0)) (w.heap.size + 1) (w.heap.size + 2) t (true, 0, 0) (((w.alloc (.cells cs t0)).alloc (.cells #[.int .i64 0] t)).alloc (.cells #[.int .i64 0] t)) :=
  ⟨(((Grew.refl ((w.alloc (.cells cs t0)).alloc (.cells #[.int .i64 0] t))).alloc (.cells #[.int .i64 0] t)).block (w.heap.size + 1) (by simp)).trans (by rw [show w.heap.size + 1 = (w.alloc (.cells cs t0)).heap.size by simp]; exact heap_alloc_new _ _),
    by rw [show w.heap.size + 2 = ((w.alloc (.cells cs t0)).alloc (.cells #[.int .i64 0] t)).heap.size by simp]; exact heap_alloc_new _ _, ((Grew.refl _).alloc _).alloc _⟩

set_option maxRecDepth 100000 in
theorem Size_any (kv : Value) (p : Pat) (w : World) (hp : PatV w kv p) :
    Calls Tryd.prog 31 #[.agg (p.cells kv)] w fun e w' => e = .returned (.tuple (match sizeW p 1 0 0 with | (true, N, D) => #[.int .i64 N, .int .i64 D, .int .i64 0] | _ => #[.int .i64 0, .int .i64 0, .int .i64 4])) ∧ Grew w w' := by
  have hb := hp.box 28
  have HK := hidd (walk_size (w.alloc (.cells (p.cells kv) 28)) (w.heap.size + 1) (w.heap.size + 2) 3 (by omega) (by simp) (by simp) hb 1 0 0 _ (by omega) (by omega) (by omega) (size_start w (p.cells kv) 28 3))
  obtain ⟨r, N, D, hr⟩ : ∃ r N D, sizeW p 1 0 0 = (r, N, D) := ⟨_, _, _, rfl⟩
  rw [hr] at HK ⊢
  clear hr hb hp
  cases r with
  | true =>
    go_enter Tryd.func31, Tryd.ntmps31
    go_wp2_with fail
    refine HK.out.mono ?_; rintro e w2 ⟨rfl, hE⟩
    have c1 := cell_of_one hE.n
    have c2 := cell_of_one hE.d
    have f1 := free_of_one hE.n
    have f2 := free_of_one hE.d
    have d1 : ∀ u, (w2.setCell ⟨w.heap.size + 1, 0, none⟩ u).cell? ⟨w.heap.size + 2, 0, none⟩ = some (.int .i64 D) := fun u => by rw [setCell_cell_other _ _ _ _ (.inl (by simp))]; exact c2
    have d2 : ∀ u, (w2.setCell ⟨w.heap.size + 2, 0, none⟩ u).cell? ⟨w.heap.size + 1, 0, none⟩ = some (.int .i64 N) := fun u => by rw [setCell_cell_other _ _ _ _ (.inl (by simp))]; exact c1
    have d3 : ∀ u v, ((w2.setCell ⟨w.heap.size + 1, 0, none⟩ u).setCell ⟨w.heap.size + 2, 0, none⟩ v).cell? ⟨w.heap.size + 1, 0, none⟩ = some u := fun u v => by rw [setCell_cell_other _ _ _ _ (.inl (by simp)), setCell_cell_same rfl c1]
    have d4 : ∀ u v, ((w2.setCell ⟨w.heap.size + 1, 0, none⟩ u).setCell ⟨w.heap.size + 2, 0, none⟩ v).cell? ⟨w.heap.size + 2, 0, none⟩ = some v := fun u v => by rw [setCell_cell_same rfl (d1 u)]
    have hE' := hidd hE
    clear hE
    go_wp2_with fail
    go_region
    go_wp2_with fail
    refine bodyPost_ret (v := .tuple #[.int .i64 N, .int .i64 D, .int .i64 0]) ?_ rfl ⟨rfl, ?_⟩
    · simp [results, Tryd.results31, go_sem, d3, d4]
    · exact ((((Grew.refl w).alloc _).trans hE'.out.grew |>.setCell (by simp) _).setCell (by simp; omega) _).drew
  | false =>
    go_enter Tryd.func31, Tryd.ntmps31
    go_wp2_with fail
    refine HK.out.mono ?_; rintro e w2 ⟨rfl, hE⟩
    have c1 := cell_of_one hE.n
    have c2 := cell_of_one hE.d
    have f1 := free_of_one hE.n
    have f2 := free_of_one hE.d
    have hE' := hidd hE
    have d1 : ∀ u, (w2.setCell ⟨w.heap.size + 1, 0, none⟩ u).cell? ⟨w.heap.size + 2, 0, none⟩ = some (.int .i64 D) := fun u => by rw [setCell_cell_other _ _ _ _ (.inl (by simp))]; exact c2
    have d3 : ∀ u v, ((w2.setCell ⟨w.heap.size + 1, 0, none⟩ u).setCell ⟨w.heap.size + 2, 0, none⟩ v).cell? ⟨w.heap.size + 1, 0, none⟩ = some u := fun u v => by rw [setCell_cell_other _ _ _ _ (.inl (by simp)), setCell_cell_same rfl c1]
    have d4 : ∀ u v, ((w2.setCell ⟨w.heap.size + 1, 0, none⟩ u).setCell ⟨w.heap.size + 2, 0, none⟩ v).cell? ⟨w.heap.size + 2, 0, none⟩ = some v := fun u v => by rw [setCell_cell_same rfl (d1 u)]
    clear hE
    go_wp2_with fail
    refine bodyPost_ret (v := .tuple #[.int .i64 0, .int .i64 0, .int .i64 4]) (by simp [results, Tryd.results31, go_sem, d3, d4]) rfl ⟨rfl, ?_⟩
    exact (((Grew.refl w).alloc _).trans hE'.out.grew |>.setCell (by simp) _).setCell (by simp; omega) _
end Go.Proofs.YtmkldfjcpmoajabDoor
