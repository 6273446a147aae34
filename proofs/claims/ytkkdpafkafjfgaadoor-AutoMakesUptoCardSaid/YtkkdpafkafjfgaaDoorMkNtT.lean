/- (*Net).Sets. -/
import Derived.Test.YtkkdpafkafjfgaaDoorMkPNtV
import Derived.BigQuiet
import Derived.Deep.DeepCutAuto
namespace Go.Proofs.YtkkdpafkafjfgaaDoor
open Go.RowKit RR
set_option linter.unusedVariables false
set_option linter.unusedSimpArgs false
set_option maxRecDepth 100000
theorem make_bools (n : Nat) (hn : n ≤ 100000) (w : World) :
    ∃ w', (Instr.makeSlice 28 (.int .i64 (n : Int)) (.int .i64 (n : Int))).run Tryd.prog w = .ok (.slice (some ⟨w.heap.size, 0, none⟩) n n) w' ∧ ArrAt w' w.heap.size 0 n (fun _ => .bool false) ∧ Grew w w' := by
  obtain ⟨i0, hi, hz0, hz1, hz2⟩ := info_boolx
  exact make_row 28 4 i0 (.bool false) Tryd.underlying28 hi hz0 hz1 rfl n (by rw [hz2]; omega) (by unfold maxLen; omega) w
def SetsEnd (N : NetP) (w : World) : Ending → World → Prop := fun e w' => ∃ kS rows v, e = .returned v ∧ Exp (firstN N) (stN N) (· ∈ allN N) kS rows kS.length 0 (fun _ => 0) ∧ TabIn w' (expA (fun S => inB S 1) (firstN N) kS rows) v ∧ Grew w w'
theorem zero_tabv (w : World) : (zeroValue 92).run Tryd.prog w = .ok (.agg #[.slice none 0 0, .slice none 0 0]) w := run_zero (by kernel_rfl) w
theorem closeB_len' {N : NetP} : (firstN N).length = N.places := closeB_len _ _
set_option maxHeartbeats 8000000 in
theorem Sets_any {w0 w : World} {nb : Nat} {N : NetP} {F : Nat → Prop} (hN : NtAt w0 w nb N F) (ok : N.Ok) (hm : N.places ≤ 100000) (hna : N.arrows.length ≤ 100000) (h2 : 1 < N.places) (hall : (allN N).length ≤ 8192) :
    Calls Tryd.prog 37 #[.pointer (some ⟨nb, 0, none⟩)] w (SetsEnd N w) := by
  have hzt := zero_tabv
  have gT := (Grew.refl w).alloc (.cells #[.slice none 0 0, .slice none 0 0] 92)
  have hr := heap_alloc_new w (.cells #[.slice none 0 0, .slice none 0 0] 92)
  obtain ⟨rs, hrs⟩ : ∃ rs, w.heap.size = rs := ⟨_, rfl⟩
  rw [hrs] at hr
  obtain ⟨m, hm2⟩ : ∃ m, N.places = m := ⟨_, rfl⟩
  have HN := hidd hN
  have HOk := hidd ok
  have HM := hidd hm2
  have HNa := hidd hna
  have HAl := hidd hall
  have HRs := hidd hrs
  obtain ⟨ys, ya, yc, hR⟩ := hN.read
  have hRT := hR.kept gT
  have cp := cell_of hRT.blk 0
  have hnb := (Array.getElem?_eq_some_iff.1 hRT.blk).1
  have HR := hidd hR
  rw [hm2] at hm h2
  obtain ⟨W1, hW1⟩ : ∃ W1, w.alloc (.cells #[.slice none 0 0, .slice none 0 0] 92) = W1 := ⟨_, rfl⟩
  rw [hW1] at gT hr hRT cp hnb
  have hs1 : W1.heap.size = rs + 1 := by rw [← hW1, World.size_alloc, hrs]
  obtain ⟨W2, hmk, hA2, hg2⟩ := make_bools m hm W1
  rw [hs1] at hmk hA2
  have c0 := hA2.at0 0 (by omega)
  have f0 := hA2.free0 0 (by omega)
  have hl0 := hA2.lt (by omega)
  have HB2 : Hid (BoolsAt (W2.setCell ⟨rs + 1, 0, none⟩ (.bool true)) (rs + 1) (onB N.places fun q => q == 0)) := by
    unfold Hid BoolsAt
    rw [onB_len, hm2]
    exact (hA2.set0 0 (by omega) _).congr fun j hj => by
      rw [onB_in hj]
      by_cases e : j = 0
      · rw [if_pos e, e]; rfl
      · rw [if_neg e]; simp [e]
  have hg3 : Grew W1 (W2.setCell ⟨rs + 1, 0, none⟩ (.bool true)) := hg2.setCell (p := ⟨rs + 1, 0, none⟩) (by rw [hs1]; exact Nat.le_refl _) _
  have HG3 := hidd hg3
  have HGT : Hid (Grew w W1 ∧ W1.heap[rs]? = some (.cells #[.slice none 0 0, .slice none 0 0] 92 (0, 0)) ∧ W1.heap.size = rs + 1) := ⟨gT, hr, hs1⟩
  have kl0 : decide (0 < m) = true := decide_eq_true (by omega)
  have cp' : W1.cell? ⟨nb, 0, none⟩ = some (.int .i64 (m : Nat)) := by rw [cp, ← hm2]; rfl
  have h0m : 0 < m := by omega
  clear hN ok hna hall hR hRT gT hr hg2 hg3 hA2 cp hrs hm2
  have hrs := HRs.out
  go_enter Tryd.func37, Tryd.ntmps37
  go_wp2_with fail
  clear hmk cp' c0 f0 hl0 hW1 hs1 hnb hrs kl0
  generalize W2.setCell ⟨rs + 1, 0, none⟩ (.bool true) = W3 at HB2 HG3 ⊢
  have HC := hidd (Closed_any (c := m) (HN.out.kept (HGT.out.1.trans HG3.out)) HOk.out (by rw [HM.out]; exact hm) HNa.out (onB_len _ _) (by rw [HM.out]; exact h0m) HB2.out)
  have ef : closeB N (onB N.places fun q => q == 0) = firstN N := rfl
  rw [ef, HM.out] at HC
  clear ef HB2
  have hmm := fun W => run_makeMap (P := Tryd.prog) 164 W
  refine HC.out.mono ?_; rintro e w4 ⟨b1, c1, rfl, g4, h41, h42⟩
  have HB4 := hidd h42
  have HG4 := hidd (HG3.out.trans g4)
  have HLo : Hid (rs < b1 ∧ b1 < w4.heap.size) := ⟨by have h1 := HG3.out.size; have h2 := HGT.out.2.2; omega, ArrAt.lt h42 (by rw [closeB_len', HM.out]; exact h0m)⟩
  clear HC HG3 g4 h41 h42
  have hbs : ∀ w, (Instr.buildSlice 167 1 #[(0, .slice (some ⟨b1, 0, none⟩) m c1)]).run Tryd.prog w = .ok (.slice (some ⟨w.heap.size, 0, none⟩) 1 1) (w.alloc (.cells #[.slice (some ⟨b1, 0, none⟩) m c1] 28)) := fun w => by kernel_rfl
  go_wp2_with fail
  obtain ⟨lb, hlb⟩ : ∃ lb, w4.heap.size = lb := ⟨_, rfl⟩
  have hq5 := QRow.made (base := W1.heap.size) (e := 28) (size := 1) w4 #[.slice (some ⟨b1, 0, none⟩) m c1] 1 (by have := HG4.out.size; omega) (by unfold maxLen; omega) rfl
  rw [hlb] at hq5
  have gx := ((Grew.refl w4).alloc (.cells #[.slice (some ⟨b1, 0, none⟩) m c1] 28)).alloc (.map #[] 0)
  have gy := (Grew.refl (w4.alloc (.cells #[.slice (some ⟨b1, 0, none⟩) m c1] 28))).alloc (.map #[] 0)
  have hM6 := KMap.made encB' (w4.alloc (.cells #[.slice (some ⟨b1, 0, none⟩) m c1] 28))
  have hs5 : (w4.alloc (.cells #[.slice (some ⟨b1, 0, none⟩) m c1] 28)).heap.size = lb + 1 := by rw [World.size_alloc, hlb]
  have hs6 : ((w4.alloc (.cells #[.slice (some ⟨b1, 0, none⟩) m c1] 28)).alloc (.map #[] 0)).heap.size = lb + 2 := by rw [World.size_alloc, hs5]
  rw [hs5] at hM6
  have hB6 := ArrAt.kept HB4.out gx
  have HKy := hidd (Key_any (firstN N) b1 c1 _ hB6 (by rw [closeB_len', HM.out]; exact hm))
  rw [closeB_len', HM.out] at HKy
  have HQ6 := hidd (hq5.grew gy)
  have HM6 := hidd hM6
  have HG6 := hidd (HG4.out.trans gx)
  have HB6 := hidd hB6
  have HLo6 : Hid (rs < b1 ∧ b1 < lb ∧ W1.heap.size = rs + 1) := ⟨HLo.out.1, by have := HLo.out.2; omega, HGT.out.2.2⟩
  rw [hlb]
  clear hq5 gx gy hM6 hs5 hB6 HB4 HG4 HLo hlb hbs
  generalize (w4.alloc (.cells #[.slice (some ⟨b1, 0, none⟩) m c1] 28)).alloc (.map #[] 0) = W6 at *
  refine HKy.out.mono ?_; rintro e w7 ⟨rfl, g7⟩
  obtain ⟨w8, hput, hK8, hg8, hs8⟩ := (HM6.out.kept g7).put keyB' (t := 164) Tryd.underlying164 (x := firstN N) (by show (firstN N).length ≤ 100000; rw [closeB_len', HM.out]; exact hm) (by simp) (.int .i64 (0 : Nat))
  have hput2 : (Instr.mapUpdate 164 (.map (some (lb + 1))) (.string (keyB (firstN N))) (.int .i64 0)).run Tryd.prog w7 = .ok () w8 := hput
  have hl7 : lb + 2 ≤ w7.heap.size := by have := g7.size; omega
  have gA := (Grew.refl w8).alloc (.cells #[.slice none 0 0, .slice none 0 0] 92)
  have hraw := heap_alloc_new w8 (.cells #[.slice none 0 0, .slice none 0 0] 92)
  obtain ⟨rb, hrb⟩ : ∃ rb, w8.heap.size = rb := ⟨_, rfl⟩
  have hrb2 : lb + 2 ≤ rb := by omega
  have hk8 : ∀ k, k < w7.heap.size → k ≠ lb + 1 → w8.heap[k]? = w7.heap[k]? := fun k hk hm => hg8.block k hk (fun e => by injection e with e; exact hm e)
  have HS0 : Hid (SetSo m W1 (w8.alloc (.cells #[.slice none 0 0, .slice none 0 0] 92)) (lb + 1) rb [(firstN N, b1, c1)] [] 0 (.slice (some ⟨lb, 0, none⟩) 1 1) (.slice none 0 0) (.slice none 0 0) (.cells #[.slice none 0 0, .slice none 0 0] 92 (0, 0)) ∧ Lens W1 (w8.alloc (.cells #[.slice none 0 0, .slice none 0 0] 92)) m [(firstN N, b1, c1)] (Foot (lb + 1) rb (.slice (some ⟨lb, 0, none⟩) 1 1) (.slice none 0 0) (.slice none 0 0))) := by
    obtain ⟨l1, l2, l3⟩ := HLo6.out
    have gr8 : Grew W1 w8 := grew_grown (HG6.out.trans g7) hg8 fun b e => by injection e with e; omega
    have hQ8 : QRow w8 W1.heap.size 28 1 (.slice (some ⟨lb, 0, none⟩) 1 1) 1 [.slice (some ⟨b1, 0, none⟩) m c1] := (HQ6.out.grew g7).kept fun k hk hlt => by cases hk; exact hk8 lb (by omega) (by omega)
    refine ⟨⟨gr8.trans gA, hK8.kept gA, hQ8.grew gA, by rw [← hrb]; exact hraw, ⟨rfl, none, 0, rfl, Nat.le_refl _, Nat.zero_le _, fun h => absurd h (by omega)⟩, ⟨rfl, none, 0, rfl, Nat.le_refl _, Nat.zero_le _, fun h => absurd h (by omega)⟩, ⟨by omega, by omega, by omega⟩, fun k hk => ?_, fun k hk => (by cases hk), fun k hk => (by cases hk), fun k hk => ⟨by simp [Value.ownBlock], by simp [Value.ownBlock]⟩, fun k hk => (by cases hk)⟩, fun x hx => ?_⟩
    · cases hk
      rw [World.size_alloc, hrb]
      exact ⟨by show lb ≠ _; omega, by show lb ≠ _; omega, by show _ ≤ lb; omega, by show lb < _; omega⟩
    · rw [List.mem_singleton] at hx; subst hx
      refine ⟨closeB_len'.trans HM.out, ?_, by show W1.heap.size ≤ b1; omega, by show b1 < _; rw [World.size_alloc]; omega, ?_⟩
      · exact ArrAt.kept (arr_block (ArrAt.kept HB6.out g7) (hk8 b1 (by omega) (by omega))) gA
      · rintro (e | e | e | e | e)
        · have : b1 = lb + 1 := e; omega
        · have : b1 = rb := e; omega
        · have : lb = b1 := by simpa [Value.ownBlock] using e
          omega
        · cases e
        · cases e
  have HE0 : Hid (Exp (firstN N) (stN N) (· ∈ allN N) [firstN N] [] 0 0 (fun _ => 0)) := Exp.start (first_allN N)
  clear hput hK8 hg8 hs8 hk8 gA hraw HKy HQ6 HM6 HG6 HB6 g7 hl7
  have hzt := zero_tabv
  go_wp2_with fail
  clear hput2 hmm hzt
  generalize w8.alloc (.cells #[.slice none 0 0, .slice none 0 0] 92) = W9 at HS0 ⊢
  clear hrb
  obtain ⟨mb, hmb⟩ : ∃ mb, lb + 1 = mb := ⟨_, rfl⟩
  rw [hmb] at HS0 ⊢
  clear hmb hrb2 hs6
  have HAl2 : Hid (∀ ks : List (List Bool), ks.Nodup → (∀ x ∈ ks, x ∈ allN N) → ks.length ≤ 8192) := fun ks h1 h2 => Nat.le_trans (nodup_len ks _ h1 h2) HAl.out
  have HYn : Hid (ys.length = N.arrows.length) := by unfold Hid; rw [← HR.out.arr, List.length_map]
  obtain ⟨n, hn⟩ : ∃ n, ys.length = n := ⟨_, rfl⟩
  have HYl := hidd hn
  have hn6 : n ≤ 100000 := by rw [← hn, HYn.out]; exact HNa.out
  clear hn
  go_loopw [4, 7] (fun s4 s7 wr => ∃ i l la lc, s7 = .int .i64 (i : Nat) ∧ i ≤ l ∧ s4 = .slice la l lc ∧ l ≤ 8192 ∧ Hid (∃ ks rows nv ev, Exp (firstN N) (stN N) (· ∈ allN N) (ks.map (·.1)) rows i 0 (fun _ => 0) ∧ ks.length = l ∧ SetSo m W1 wr mb rb ks rows i (.slice la l lc) nv ev (.cells #[nv, ev] 92 (0, 0)) ∧ Lens W1 wr m ks (Foot mb rb (.slice la l lc) nv ev))) (fun _ s7 _ => 8192 - (intOf s7).toNat)
  case atStart => exact ⟨0, 1, _, _, rfl, by omega, rfl, by omega, [(firstN N, b1, c1)], [], _, _, HE0.out, rfl, HS0.out.1, HS0.out.2⟩
  case round =>
    obtain ⟨i, l, la, lc, rfl, hil, rfl, hl8, KS⟩ := hrel
    clear HE0
    obtain ⟨ks, rows, nv, ev, hX, hks, hS, hLe⟩ := KS.out
    by_cases hlt : i < l
    · have kl : decide ((i : Int) < (l : Int)) = true := decide_eq_true (by omega)
      have hz := run_zero_rowI
      have hmm := fun W => run_makeMap (P := Tryd.prog) 164 W
      have gx := ((Grew.refl wr).alloc (.cells (rowI fun _ => 0) 26)).alloc (.map #[] 0)
      have gy := (Grew.refl (wr.alloc (.cells (rowI fun _ => 0) 26))).alloc (.map #[] 0)
      obtain ⟨g0, hg0⟩ : ∃ g0, wr.heap.size = g0 := ⟨_, rfl⟩
      have hs1 : (wr.alloc (.cells (rowI fun _ => 0) 26)).heap.size = g0 + 1 := by rw [World.size_alloc, hg0]
      have hkm := KMap.made encB' (wr.alloc (.cells (rowI fun _ => 0) 26))
      rw [hs1] at hkm
      have HI0 : Hid (SetMem m W1 ((wr.alloc (.cells (rowI fun _ => 0) 26)).alloc (.map #[] 0)) mb rb g0 (g0 + 1) 0 ks rows i (fun _ => 0) [] (.slice la l lc) nv ev (.cells #[nv, ev] 92 (0, 0))) := by
        have hgs := hS.grew.size
        have ra := (rowI_at wr (fun _ => 0) 26).kept gy
        rw [hg0] at ra
        refine ⟨hS.kept gx, ra.congr fun j _ => by rw [if_neg (Nat.not_lt_zero j)]; rfl, fun hf => by have := hS.foot_lt hf; omega, hkm, fun hf => by have := hS.foot_lt hf; omega, by omega, ⟨by omega, by omega⟩, fun x hx => ?_⟩
        obtain ⟨p1, p2, p3, p4, p5⟩ := hLe x hx
        refine ⟨p1, ArrAt.kept p2 gx, p3, Nat.lt_of_lt_of_le p4 gx.size, fun hf => ?_⟩
        rcases hf with hf | hf | hf
        · exact p5 hf
        · omega
        · omega
      have HX0 := hidd hX
      have HKs := hidd hks
      clear KS hS hX hks hLe gx gy hkm hs1
      go_wp2_with fail
      clear hz hmm
      generalize (wr.alloc (.cells (rowI fun _ => 0) 26)).alloc (.map #[] 0) = Wi at HI0 ⊢
      obtain ⟨db, hdb⟩ : ∃ db, g0 + 1 = db := ⟨_, rfl⟩
      rw [hdb] at HI0 ⊢
      clear hg0 hdb
      go_loopw [4, 10] (fun s4 s10 wr => ∃ c l la lc, s10 = .int .i64 (c : Nat) ∧ c ≤ 256 ∧ s4 = .slice la l lc ∧ l ≤ 8192 ∧ i < l ∧ Hid (∃ ks row dl, Exp (firstN N) (stN N) (· ∈ allN N) (ks.map (·.1)) rows i c row ∧ ks.length = l ∧ SetMem m W1 wr mb rb g0 db c ks rows i row dl (.slice la l lc) nv ev (.cells #[nv, ev] 92 (0, 0)) ∧ DoneI N (ks.map (·.1)) dl)) (fun _ s10 _ => 256 - (intOf s10).toNat)
      case atStart => exact ⟨0, l, _, _, rfl, by omega, rfl, hl8, hlt, ks, _, [], HX0.out, HKs.out, HI0.out, fun x hx => by cases hx⟩
      case round =>
        obtain ⟨c, l2, la2, lc2, rfl, hc, rfl, hl2, hil2, JS⟩ := hrel
        clear HI0 HX0 HKs
        obtain ⟨ks2, row, dl, hX, hks, hS, hDo⟩ := JS.out
        clear JS
        by_cases hcl : c < 256
        · have kc : decide ((c : Int) < 256) = true := decide_eq_true (by omega)
          have HNr := hidd (HR.out.kept (HGT.out.1.trans hS.so.grew))
          have hbk := HNr.out.blk
          rw [HYl.out, HM.out] at hbk
          have cn0 : wr.cell? ⟨nb, 0, none⟩ = some (.int .i64 (m : Nat)) := cell_of hbk 0
          have hnb := (Array.getElem?_eq_some_iff.1 hbk).1
          obtain ⟨W10, hmk, hA10, g10⟩ := make_bools m hm wr
          have cn1 : W10.cell? ⟨nb, 1, none⟩ = some (.slice ya n yc) := g10.keeps (cell_of hbk 1)
          have hnb2 : nb < W10.heap.size := Nat.lt_of_lt_of_le hnb g10.size
          obtain ⟨x, hx⟩ : ∃ x, ks2[i]? = some x := ⟨_, List.getElem?_eq_getElem (by rw [hks]; exact hil2)⟩
          obtain ⟨S, ib, ic⟩ := x
          have HSx := hidd hx
          have HI1 : Hid (NxtSt m W1 W10 mb rb g0 db c ks2 rows i row dl (.slice la2 l2 lc2) nv ev (.cells #[nv, ev] 92 (0, 0)) wr.heap.size (nextJ N S c 0)) := by
            refine NxtSt.start hS hS.g0_lt g10 (hA10.lt (by omega)) ?_
            rw [nextJ_zero]
            unfold BoolsAt
            rw [onB_len, HM.out]
            exact hA10.congr fun j hj => by rw [onB_in hj]
          obtain ⟨nx, hnx⟩ : ∃ nx, wr.heap.size = nx := ⟨_, rfl⟩
          rw [hnx] at hmk HI1
          have HX := hidd hX
          have HKs := hidd hks
          have HDo := hidd hDo
          clear hS hX hks hDo HNr hbk hA10 g10 hx hnx
          go_wp2_with fail
          clear hmk cn0 cn1 hnb hnb2
          go_loopw [56] (fun s56 wr => ∃ j, s56 = .int .i64 (j : Nat) ∧ j ≤ n ∧ Hid (NxtSt m W1 wr mb rb g0 db c ks2 rows i row dl (.slice la2 l2 lc2) nv ev (.cells #[nv, ev] 92 (0, 0)) nx (nextJ N S c j))) (fun s56 _ => n - (intOf s56).toNat)
          case atStart => exact ⟨0, rfl, by omega, HI1.out⟩
          case round =>
            obtain ⟨j, rfl, hj, KJ⟩ := hrel
            clear HI1
            have hJ := KJ.out
            by_cases hlt : j < n
            · have kl : decide ((j : Int) < (n : Int)) = true := decide_eq_true (by omega)
              have kl2 : decide (j < n) = true := decide_eq_true hlt
              have hjl : j < ys.length := by rw [HYl.out]; exact hlt
              have HNj := hidd (HR.out.kept (HGT.out.1.trans hJ.mem.so.grew))
              obtain ⟨ab, ao, y, hya, hy, k0, k1, k2⟩ := HNj.out.cell j hjl
              subst hya
              have hym : y ∈ ys := List.mem_of_getElem? hy
              have hyA : y.1 ∈ N.arrows := by rw [← HNj.out.arr]; exact List.mem_map.2 ⟨y, hym, rfl⟩
              have hyG : N.arrows[j]? = some y.1 := by rw [← HNj.out.arr, List.getElem?_map, hy]; rfl
              have hfr : y.1.fr < m := by rw [← HM.out]; exact (HOk.out _ hyA).1
              have hto : y.1.to < m := by rw [← HM.out]; exact (HOk.out _ hyA).2
              have gx : Grew wr (wr.alloc (.cells #[.int .i64 (y.1.fr : Nat), .int .i64 (y.1.to : Nat), byV y.2] 170)) := (Grew.refl wr).alloc _
              have hls := hJ.mem.so.list
              rw [HKs.out] at hls
              obtain ⟨lb2, lo2, lc3, e, _, hlbl, _, _, hcell⟩ := hls.at (by omega)
              cases e
              have hce := hcell i (.slice (some ⟨ib, 0, none⟩) m ic) (by omega) (by rw [lentC_flat, List.getElem?_map, HSx.out]; rfl)
              obtain ⟨x1, x2, x3, x4, x5⟩ := hJ.mem.lens _ (List.mem_of_getElem? HSx.out)
              dsimp only at x1 x2 x4
              have c5 := x2.at0 y.1.fr (by rw [x1]; exact hfr)
              have hTl : (nextJ N S c j).length = m := (nextJ_len N S c j).trans HM.out
              have c6 := hJ.own.at0 y.1.to (by rw [hTl]; exact hto)
              have f6 := hJ.own.free0 y.1.to (by rw [hTl]; exact hto)
              have hnl := hJ.lt
              have kf : decide (y.1.fr < m) = true := decide_eq_true hfr
              have kt : decide (y.1.to < m) = true := decide_eq_true hto
              have ki : decide (i < l2) = true := decide_eq_true hil2
              have HSt : Hid ((y.1.has c && inB S y.1.fr) = false → ∀ nq, NxtSt m W1 ((wr.alloc (.cells #[.int .i64 (y.1.fr : Nat), .int .i64 (y.1.to : Nat), byV y.2] 170)).drewN nq) mb rb g0 db c ks2 rows i row dl (.slice (some ⟨lb2, lo2, none⟩) l2 lc2) nv ev (.cells #[nv, ev] 92 (0, 0)) nx (nextJ N S c (j + 1))) := fun h nq => by
                rw [nextJ_not hyG h]; exact hJ.kept (gx.drewN nq)
              have HPu : Hid ((y.1.has c && inB S y.1.fr) = true → ∀ nq, NxtSt m W1 (((wr.alloc (.cells #[.int .i64 (y.1.fr : Nat), .int .i64 (y.1.to : Nat), byV y.2] 170)).drewN nq).setCell ⟨nx, y.1.to, none⟩ (.bool true)) mb rb g0 db c ks2 rows i row dl (.slice (some ⟨lb2, lo2, none⟩) l2 lc2) nv ev (.cells #[nv, ev] 92 (0, 0)) nx (nextJ N S c (j + 1))) := fun h nq => by
                rw [nextJ_put HOk.out hyG h]; exact (hJ.kept (gx.drewN nq)).put (by rw [hTl]; exact hto)
              have hcs := bys_eps HNj.out hym
              have hby := HNj.out.bys y hym
              unfold NArr.has at HSt HPu
              clear KJ hJ hym hyA hyG hTl gx hy hls hcell x2 x3 x5 HNj
              generalize y.1.bs = bs at hcs HSt HPu hby
              generalize y.2 = ob at hcs HSt HPu k2 hby
              generalize y.1.fr = ff at *
              generalize y.1.to = tt at *
              rcases hcs with ⟨rfl, rfl⟩ | ⟨s1, b1, rfl, rfl⟩
              · unfold byV at k2 HSt HPu
                dsimp only at k2 HSt HPu
                have HN1 := hidd (HSt.out rfl)
                clear HSt HPu c5 c6 f6 hby
                go_wp2_with fail
                go_quiet (fail)
                go_wp2_with fail
                exact ⟨⟨j + 1, by simp, by omega, HN1.out _⟩, by simp [intOf]; omega⟩
              · unfold byV at k2 HSt HPu
                dsimp only at k2 HSt HPu hby
                have c7 := hby.at0 c hcl
                have hb1l := hby.lt (by omega)
                have hc0 : (0 : Int) ≤ (c : Int) := by omega
                have hc1 : (c : Int) < 256 := by omega
                clear hby
                cases hs : s1 c with
                | false =>
                  rw [hs] at c7
                  have HN1 := hidd (HSt.out (by rw [hs]; rfl))
                  clear HSt HPu c5 c6 f6 hs
                  go_wp2_with fail
                  go_quiet (fail)
                  go_wp2_with fail
                  exact ⟨⟨j + 1, by simp, by omega, HN1.out _⟩, by simp [intOf]; omega⟩
                | true =>
                  rw [hs] at c7
                  cases hf : inB S ff with
                  | false =>
                    rw [hf] at c5
                    have HN1 := hidd (HSt.out (by rw [hf, hs]; rfl))
                    clear HSt HPu c6 f6 hs hf
                    go_wp2_with fail
                    go_quiet (fail)
                    go_wp2_with fail
                    exact ⟨⟨j + 1, by simp, by omega, HN1.out _⟩, by simp [intOf]; omega⟩
                  | true =>
                    rw [hf] at c5
                    have HN1 := hidd (HPu.out (by rw [hf, hs]; rfl))
                    clear HSt HPu hs hf
                    go_wp2_with fail
                    go_quiet (fail)
                    go_wp2_with fail
                    exact ⟨⟨j + 1, by simp, by omega, HN1.out _⟩, by simp [intOf]; omega⟩
            · have hje : j = n := by omega
              have kl : decide ((j : Int) < (n : Int)) = false := decide_eq_false (by omega)
              have eQ : nextJ N S c j = stepB N S c := by rw [hje, ← HYl.out, HYn.out]; exact nextJ_done N S c
              rw [eQ] at hJ
              have hql : (stepB N S c).length = m := (stepB_len N S c).trans HM.out
              have HKy := hidd (Key_any (stepB N S c) nx m wr hJ.own (by rw [hql]; exact hm))
              rw [hql] at HKy
              have HJ := hidd hJ
              have HQl := hidd hql
              clear KJ hJ eQ hql
              go_wp2_with fail
              refine HKy.out.mono ?_; rintro e w2 ⟨rfl, g2⟩
              have hJ2 := HJ.out.kept g2
              have hgS : (ks2.map (·.1)).getD i (firstN N) = S := by
                rw [List.getD_eq_getElem?_getD, List.getElem?_map, HSx.out]; rfl
              have HGs := hidd hgS
              obtain ⟨Q, hQ⟩ : ∃ Q, stepB N S c = Q := ⟨_, rfl⟩
              have hcQ : closeB N Q = stN N S c := by rw [← hQ]; rfl
              have HCq := hidd hcQ
              rw [hQ] at hJ2 HQl HKy ⊢
              clear HKy HJ g2 hgS hcQ hQ kl
              by_cases hin : Q ∈ dl.map (·.1)
              · obtain ⟨hm1, hm2⟩ := HDo.out.val hin
                have hlk : (Instr.lookup 164 (.map (some db)) (.string (keyB Q)) true).run Tryd.prog w2 = .ok (.tuple #[.int .i64 (ixOf (ks2.map (·.1)) (closeB N Q) : Nat), .bool true]) w2 := hJ2.mem.dm.lookS keyB' (t := 164) Tryd.underlying164 hm2 true
                obtain ⟨q, hq⟩ : ∃ q, ixOf (ks2.map (·.1)) (closeB N Q) = q := ⟨_, rfl⟩
                rw [hq] at hlk
                rw [HCq.out] at hm1 hq
                have HNw := hidd (hJ2.mem.rowPut hcl q)
                have HXn : Hid (Exp (firstN N) (stN N) (· ∈ allN N) (ks2.map (·.1)) rows i (c + 1) (fun d => if d = c then q else row d)) := by
                  have := HX.out.seen (by rw [HGs.out]; exact hm1)
                  rw [HGs.out] at this
                  rw [← hq]; exact this
                have c0 := hJ2.mem.arr.at0 c hcl
                have f0 := hJ2.mem.arr.free0 c hcl
                have hgl := hJ2.mem.g0_lt
                clear hJ2 hm1 hm2 hq hin
                go_wp2_with fail
                exact ⟨⟨c + 1, l2, _, _, by simp, by omega, rfl, hl2, hil2, ks2, _, dl, HXn.out, HKs.out, HNw.out, HDo.out⟩, by simp [intOf]; omega⟩
              · have hQD : Q.length ≤ 100000 := by rw [HQl.out]; exact hm
                have HQd := hidd hQD
                have hlk : (Instr.lookup 164 (.map (some db)) (.string (keyB Q)) true).run Tryd.prog w2 = .ok (.tuple #[.int .i64 0, .bool false]) w2 := hJ2.mem.dm.lookN keyB' (t := 164) Tryd.underlying164 (run_zero (t := 3) (z := .int .i64 0) (by kernel_rfl) w2) (x := Q) hQD hin true
                have HCl := hidd (Closed_any (c := m) (HN.out.kept (HGT.out.1.trans hJ2.mem.so.grew)) HOk.out (by rw [HM.out]; exact hm) HNa.out (S := Q) (HQl.out.trans HM.out.symm) (by rw [HM.out]; omega) hJ2.own)
                rw [HCq.out, HM.out] at HCl
                have HJ2 := hidd hJ2
                have HIn := hidd hin
                clear hJ2 hQD hin
                go_wp2_with fail
                clear hlk
                refine HCl.out.mono ?_; rintro e w3 ⟨b2, c2, rfl, g3, hb3, hB3⟩
                have hTl : (stN N S c).length = m := (closeB_len N _).trans HM.out
                have hB3l := ArrAt.lt hB3 (by rw [hTl]; omega)
                have HB2 : Hid (W1.heap.size ≤ b2 ∧ ¬ (Foot mb rb (.slice la2 l2 lc2) nv ev b2 ∨ b2 = g0 ∨ b2 = db)) := by
                  have h2s := HJ2.out.mem.so.grew.size
                  refine ⟨by omega, fun hf => ?_⟩
                  rcases hf with hf | hf | hf
                  · have := HJ2.out.mem.so.foot_lt hf; omega
                  · have := HJ2.out.mem.g0_lt; omega
                  · have := HJ2.out.mem.dm.lt; omega
                have HJ3 := hidd (HJ2.out.mem.kept g3)
                have HTa : Hid (stN N S c ∈ allN N) := step_allN N S c
                obtain ⟨T, hT⟩ : ∃ T, stN N S c = T := ⟨_, rfl⟩
                rw [hT] at hTl hB3 HCq HTa
                have HT := hidd hT
                have HTl := hidd hTl
                have HKy := hidd (Key_any T b2 c2 w3 hB3 (by rw [hTl]; exact hm))
                rw [hTl] at HKy
                have HB3 := hidd (And.intro hB3 hB3l)
                clear HCl HJ2 g3 hb3 hB3 hB3l hTl hT
                go_wp2_with fail
                refine HKy.out.mono ?_; rintro e w4 ⟨rfl, g4⟩
                have HJ4 := hidd (HJ3.out.kept g4)
                have HB4 : Hid (BoolsAt w4 b2 T ∧ b2 < w4.heap.size) := ⟨ArrAt.kept HB3.out.1 g4, Nat.lt_of_lt_of_le HB3.out.2 g4.size⟩
                clear HKy HJ3 HB3 g4
                by_cases hin : T ∈ ks2.map (·.1)
                · have hlk : (Instr.lookup 164 (.map (some mb)) (.string (keyB T)) true).run Tryd.prog w4 = .ok (.tuple #[.int .i64 (ixOf (ks2.map (·.1)) T : Nat), .bool true]) w4 := HJ4.out.so.map.lookS keyB' (t := 164) Tryd.underlying164 (numL_mem hin) true
                  have hXn : Exp (firstN N) (stN N) (· ∈ allN N) (ks2.map (·.1)) rows i (c + 1) (fun d => if d = c then ixOf (ks2.map (·.1)) T else row d) := by
                    have := HX.out.seen (by rw [HGs.out, HT.out]; exact hin)
                    rw [HGs.out, HT.out] at this
                    exact this
                  have hDn := HDo.out.put (Q := Q) (by rw [HCq.out]; exact hin)
                  rw [HCq.out] at hDn
                  obtain ⟨q, hq⟩ : ∃ q, ixOf (ks2.map (·.1)) T = q := ⟨_, rfl⟩
                  rw [hq] at hlk hXn hDn
                  have HXn := hidd hXn
                  have HDn := hidd hDn
                  have hR := HJ4.out.rowPut hcl q
                  obtain ⟨w6, hput0, hS6, _⟩ := hR.donePut (Q := Q) HQd.out HIn.out q
                  have hput : (Instr.mapUpdate 164 (.map (some db)) (.string (keyB Q)) (.int .i64 (q : Nat))).run Tryd.prog (w4.setCell ⟨g0, c, none⟩ (.int .i64 (q : Nat))) = .ok () w6 := hput0
                  have HNw := hidd hS6
                  have c0 := HJ4.out.arr.at0 c hcl
                  have f0 := HJ4.out.arr.free0 c hcl
                  have hgl := HJ4.out.g0_lt
                  clear hXn hDn hR hput0 hS6 hq hin HJ4
                  go_wp2_with fail
                  exact ⟨⟨c + 1, l2, _, _, by simp, by omega, rfl, hl2, hil2, ks2, _, _, HXn.out, HKs.out, HNw.out, HDn.out⟩, by simp [intOf]; omega⟩
                · have hlk : (Instr.lookup 164 (.map (some mb)) (.string (keyB T)) true).run Tryd.prog w4 = .ok (.tuple #[.int .i64 0, .bool false]) w4 := HJ4.out.so.map.lookN keyB' (t := 164) Tryd.underlying164 (run_zero (t := 3) (z := .int .i64 0) (by kernel_rfl) w4) (x := T) (by show T.length ≤ 100000; rw [HTl.out]; exact hm) (by rw [numL_fst]; exact hin) true
                  have HKy := hidd (Key_any T b2 c2 w4 HB4.out.1 (by rw [HTl.out]; exact hm))
                  rw [HTl.out] at HKy
                  have HTn := hidd hin
                  clear hin
                  go_wp2_with fail
                  clear hlk
                  refine HKy.out.mono ?_; rintro e w5 ⟨rfl, g5⟩
                  have HJ5 := hidd (HJ4.out.kept g5)
                  have HB5 : Hid (BoolsAt w5 b2 T ∧ b2 < w5.heap.size) := ⟨ArrAt.kept HB4.out.1 g5, Nat.lt_of_lt_of_le HB4.out.2 g5.size⟩
                  clear HKy HJ4 HB4 g5
                  obtain ⟨w6, hput0, hs6, va, vc, w7, hap, hS7⟩ := HJ5.out.push (S := T) (b := b2) (cp := c2) HTl.out hm HTn.out HB5.out.1 HB2.out.1 HB5.out.2 HB2.out.2 (by rw [HKs.out]; omega) (by rw [HKs.out]; omega) 167
                  rw [HKs.out] at hput0 hap hS7
                  have hput : (Instr.mapUpdate 164 (.map (some mb)) (.string (keyB T)) (.int .i64 (l2 : Nat))).run Tryd.prog w5 = .ok () w6 := hput0
                  have hbs : ∀ w, (Instr.buildSlice 167 1 #[(0, .slice (some ⟨b2, 0, none⟩) m c2)]).run Tryd.prog w = .ok (.slice (some ⟨w.heap.size, 0, none⟩) 1 1) (w.alloc (.cells #[.slice (some ⟨b2, 0, none⟩) m c2] 28)) := fun w => by kernel_rfl
                  have hXn := HX.out.fresh (by rw [List.length_map, HKs.out]; exact hil2) (by rw [HGs.out, HT.out]; exact HTa.out) (by rw [HGs.out, HT.out]; exact HTn.out)
                  rw [HGs.out, HT.out, List.length_map, HKs.out] at hXn
                  have hDn := (HDo.out.more T).put (Q := Q) (by rw [HCq.out]; simp)
                  rw [HCq.out] at hDn
                  unfold ixOf at hDn
                  rw [idx_new HTn.out, List.length_map, HKs.out] at hDn
                  have hmp : (ks2 ++ [(T, b2, c2)]).map (·.1) = ks2.map (·.1) ++ [T] := by rw [List.map_append]; rfl
                  rw [← hmp] at hXn hDn
                  have hl9 : l2 + 1 ≤ 8192 := by
                    have := HAl2.out _ hXn.dis hXn.dom
                    rw [List.length_map, List.length_append, HKs.out] at this; exact this
                  have HXn := hidd hXn
                  have HDn := hidd hDn
                  have HKn : Hid ((ks2 ++ [(T, b2, c2)]).length = l2 + 1) := by rw [Hid, List.length_append, HKs.out]; rfl
                  have hR := hS7.rowPut hcl l2
                  obtain ⟨w9, hput20, hS9, _⟩ := hR.donePut (Q := Q) HQd.out HIn.out l2
                  have hput2 : (Instr.mapUpdate 164 (.map (some db)) (.string (keyB Q)) (.int .i64 (l2 : Nat))).run Tryd.prog (w7.setCell ⟨g0, c, none⟩ (.int .i64 (l2 : Nat))) = .ok () w9 := hput20
                  have HNw := hidd hS9
                  have c0 := hS7.arr.at0 c hcl
                  have f0 := hS7.arr.free0 c hcl
                  have hgl := hS7.g0_lt
                  clear hXn hDn hmp hR hput0 hput20 hS7 hS9 HJ5 hs6
                  go_wp2_with (first | (at_builtin; refine wpList_append_eq rfl rfl rfl rfl hap ?_))
                  exact ⟨⟨c + 1, l2 + 1, _, _, by simp, by omega, rfl, hl9, by omega, _, _, _, HXn.out, HKn.out, HNw.out, HDn.out⟩, by simp [intOf]; omega⟩
        · obtain rfl : c = 256 := by omega
          have kc : decide ((256 : Int) < 256) = false := rfl
          have HAr : Hid (ArrAt wr g0 0 256 fun j => .int .i64 (row j : Nat)) := hS.arr.congr fun j hj => by rw [if_pos hj]
          have hli := hX.len
          have HXr := hidd (hX.rowed (by rw [List.length_map, hks]; exact hil2))
          have ho0 := (two_cells hS.so.raw).1.1
          obtain ⟨rv', w7, hap, ⟨va, vc, rfl⟩, hS7, hall⟩ := hS.so.pushRow (row := row) (by rw [hli]; omega) 90
          have hown := hS.so.pushOwn (row := row) (by rw [hli]; omega) hap
          rw [hli] at hap hS7 hown
          obtain ⟨⟨ho7, _⟩, hf7⟩ := two_cells hS7.raw
          have hof7 := hf7 0
          have hL7 : Lens W1 w7 m ks2 (Foot mb rb (.slice la2 l2 lc2) (.slice va (i + 1) vc) ev) := (hS.lens.less (Ft' := Foot mb rb (.slice la2 l2 lc2) nv ev) fun k h => Or.inl h).move fun k hk hf => ⟨hall k hk hf, fun h => by
            rcases h with h | h | h | h | h
            · exact hf (Or.inl h)
            · exact hf (Or.inr (Or.inl h))
            · exact hf (Or.inr (Or.inr (Or.inl h)))
            · exact (hown k h).elim (fun h => hf (Or.inr (Or.inr (Or.inr (Or.inl h))))) (by omega)
            · exact hf (Or.inr (Or.inr (Or.inr (Or.inr h))))⟩
          have HS8 : Hid (SetSo m W1 (w7.setCell ⟨rb, 0, none⟩ (.slice va (i + 1) vc)) mb rb ks2 (rows ++ [row]) i (.slice la2 l2 lc2) (.slice va (i + 1) vc) ev (.cells #[.slice va (i + 1) vc, ev] 92 (0, 0)) ∧ Lens W1 (w7.setCell ⟨rb, 0, none⟩ (.slice va (i + 1) vc)) m ks2 (Foot mb rb (.slice la2 l2 lc2) (.slice va (i + 1) vc) ev)) :=
            ⟨SetSo.setRaw hS7 0 _, hL7.move fun k hk hf => ⟨q_set_other _ _ (fun e => hf (Or.inr (Or.inl e.symm))), hf⟩⟩
          have HKs := hidd hks
          have HNv : Hid (∃ nv0, nv = nv0) := ⟨_, rfl⟩
          clear hS7 hall hS hf7 hX hDo hks hL7 hown hli
          go_wp2_with (first | (refine wpList_load_row rfl rfl rfl HAr.out ?_) | (refine wpList_build_row rfl rfl rfl ?_) | (at_builtin; refine wpList_append_eq rfl rfl rfl rfl hap ?_))
          clear hap HAr ho0 ho7 hof7
          generalize w7.setCell ⟨rb, 0, none⟩ (.slice va (i + 1) vc) = w8 at HS8 ⊢
          have hSd := HS8.out.1.kept (drew_grew w8)
          have hLd := HS8.out.2.kept (drew_grew w8)
          obtain ⟨x, hx⟩ : ∃ x, ks2[i]? = some x := ⟨_, List.getElem?_eq_getElem (by rw [HKs.out]; exact hil2)⟩
          obtain ⟨x1, x2, x3, x4, x5⟩ := hLd x (List.mem_of_getElem? hx)
          obtain ⟨S, ib, ic⟩ := x
          dsimp only at x1 x2 x3 x4 x5
          have hls := hSd.list
          rw [HKs.out] at hls
          obtain ⟨lb2, lo2, lc3, e, _, hlbl, _, _, hcell⟩ := hls.at (by omega)
          cases e
          have hce := hcell i (.slice (some ⟨ib, 0, none⟩) m ic) (by omega) (by
            rw [lentC_flat, List.getElem?_map, hx]; rfl)
          have hc1 := x2.at0 1 (by rw [x1]; exact h2)
          obtain ⟨y, hy⟩ : ∃ y, inB S 1 = y := ⟨_, rfl⟩
          rw [hy] at hc1
          have hSx : ks2[i]? = some (S, ib, ic) := hx
          have hen : enL (S, ib, ic) = y := hy
          have hr := hSd.raw
          have hobl := (Array.getElem?_eq_some_iff.1 hr).1
          obtain ⟨⟨_, hcq⟩, hfqa⟩ := two_cells hr
          have hfq := hfqa 1
          obtain ⟨ow, how⟩ : ∃ ow, ev.ownBlock = ow := ⟨_, rfl⟩
          have hoq : ow ≠ some rb := by rw [← how]; exact fun e => (hSd.owne _ e).2.1 rfl
          have hol3 : ∀ k, ow = some k → k < w8.drew.heap.size := by rw [← how]; exact fun k e => (hSd.owne k e).2.2.2
          have hol2 : ow ≠ some lb2 := by rw [← how]; exact (hSd.ln lb2 rfl).2
          have hlr : lb2 ≠ rb := (hSd.ownl lb2 rfl).2.1
          have hoi : ow ≠ some ib := by rw [← how]; exact fun e => x5 (Or.inr (Or.inr (Or.inr (Or.inr e))))
          have hir : ib ≠ rb := fun e => x5 (Or.inr (Or.inl e))
          refine RR.region_frame (J := ApJ w8.drew ⟨rb, 1, none⟩ ow (EndApp W1 w8.drew ev (i + 1) (((ks2.take i).map fun x => Value.bool (enL x)) ++ [.bool y])) [8] 1 9 11 141) (Rl := ApRl ⟨rb, 1, none⟩ ow) [132, 133, 134, 135, 136, 137, 138, 139, 140, 141, 142] mixed (ApRl.drew _ _) ApRl.trans
            [.val (.pointer (some ⟨rb, 1, none⟩)), .val ev, .val (.slice (some ⟨lb2, lo2, none⟩) l2 lc2), .val (.int .i64 (i : Nat)), .val (.pointer (some ⟨lb2, lo2 + i, none⟩)), .val (.slice (some ⟨ib, 0, none⟩) m ic), .val (.pointer (some ⟨ib, 0 + 1, none⟩)), .val (.bool y), .fact (OneNew w8.drew (.bool y)), .fact fun _ _ => True, .val (.pointer (some ⟨rb, 1, none⟩)), .fact fun _ _ => True]
            (ap_start _ _) (ap_mono ?_) (by kernel_rfl) (by kernel_rfl)
            ⟨gj_field (field_tab1 rb) (by decide) (by decide) (by decide) (by kernel_rfl) rfl rfl,
             gj_row (wb := w8.drew) agg_boolsl hcq hoq (by decide) (by decide) (by decide) (by kernel_rfl) rfl rfl,
             gj_move (by decide) (by decide) (by decide) (by kernel_rfl) rfl rfl,
             gj_move (by decide) (by decide) (by decide) (by kernel_rfl) rfl rfl,
             gj_index ?i2 (by decide) (by decide) (by decide) (by kernel_rfl) rfl rfl rfl,
             gj_load (p := ⟨lb2, lo2 + i, none⟩) ?l1 (by decide) (by decide) (by decide) (by kernel_rfl) rfl rfl,
             gj_index ?i4 (by decide) (by decide) (by decide) (by kernel_rfl) rfl rfl rfl,
             gj_load (p := ⟨ib, 0 + 1, none⟩) ?l3 (by decide) (by decide) (by decide) (by kernel_rfl) rfl rfl,
             gj_one (fun w => build_bool y w) (by decide) (by decide) (by decide) (by decide) (by kernel_rfl) rfl rfl,
             gj_append (by decide) (by decide) (by exact (show (141 : Nat) < 144 by decide)) (by exact (show (9 : Nat) < 12 by decide)) ?ap (by kernel_rfl) rfl,
             gj_field (field_tab1 rb) (by decide) (by decide) (by decide) (by kernel_rfl) rfl rfl,
             gj_store (wb := w8.drew) (by kernel_rfl) (by kernel_rfl) (by decide) hoq rfl ⟨_, hcq⟩ hfq (by exact (show (11 : Nat) < 12 by decide)) ?one (by kernel_rfl) rfl rfl (fun w => size_of (by kernel_rfl) w), trivial⟩ ?_
          case l1 =>
            intro wx g
            exact load_one agg_boolsl (by rw [g.2 ⟨lb2, lo2 + i, none⟩ hlbl hol2 (fun e => hlr (congrArg Addr.block e))]; exact hce)
          case l3 =>
            intro wx g
            exact load_one agg_bool (by rw [g.2 ⟨ib, 0 + 1, none⟩ x4 hoi (fun e => hir (congrArg Addr.block e))]; rw [Nat.zero_add]; exact hc1)
          case i2 =>
            intro wx
            have := index_sl (sz := 1) Tryd.underlying167 (by kernel_rfl) (fun w => size_of (by kernel_rfl) w) (b := lb2) (o := lo2) (c := lc2) hil2 wx
            rwa [Nat.mul_one] at this
          case i4 =>
            intro wx
            have := index_sl (sz := 1) Tryd.underlying28 (by kernel_rfl) (fun w => size_of (by kernel_rfl) w) (b := ib) (o := 0) (c := ic) h2 wx
            rwa [Nat.mul_one] at this
          case ap =>
            intro a1 wx hg E
            have hv : a1.eval (.tmp 133) = ev := E.opv rfl
            obtain ⟨kk, hk1, hk2, hk3⟩ : OneNew w8.drew (.bool y) (a1.eval (.tmp 140)) wx := E.op (.tmp 140)
            rw [hv, hk1, ← how, ← hen]
            exact hSd.endRun hg (by omega) (by rw [hen]; exact hk3) 1 _
          case one =>
            intro v wx hA
            obtain ⟨⟨_, va, vc, e, _⟩, _⟩ := hA
            rw [e]; exact ⟨rfl, rfl⟩
          · intro sx hs
            simp only [List.mem_cons, List.not_mem_nil, or_false] at hs
            rcases hs with rfl | rfl | rfl | rfl | rfl | rfl | rfl | rfl | rfl | rfl | rfl | rfl <;> first | exact Or.inl ⟨_, rfl⟩ | exact Or.inr ⟨_, rfl, OneNew.mono hobl hol3⟩ | exact Or.inr ⟨_, rfl, fun _ _ _ _ _ => trivial⟩
          · intro xs listed a1 w10 hall hxs hJ hR _
            obtain ⟨v, w9, hA, hg, rfl⟩ := hJ.p2 (hall 11 (by exact (show (11 : Nat) < 12 by decide)))
            rw [← how] at hg
            rw [← hen] at hA
            have HEn2 : Hid (SetSo m W1 (w9.setCell ⟨rb, 1, none⟩ v) mb rb ks2 (rows ++ [row]) (i + 1) (.slice (some ⟨lb2, lo2, none⟩) l2 lc2) (.slice va (i + 1) vc) v (.cells #[.slice va (i + 1) vc, v] 92 (0, 0)) ∧ Lens W1 (w9.setCell ⟨rb, 1, none⟩ v) m ks2 (Foot mb rb (.slice (some ⟨lb2, lo2, none⟩) l2 lc2) (.slice va (i + 1) vc) v)) := by
              refine ⟨hSd.pushEnd hSx hA hg rfl (o := 1), hLd.move fun k hk hf => ⟨?_, fun h => ?_⟩⟩
              · rw [q_set_other _ _ (fun e => hf (Or.inr (Or.inl e.symm)))]
                exact hg.block k hk (fun e => hf (Or.inr (Or.inr (Or.inr (Or.inr e.symm)))))
              · rcases h with h | h | h | h | h
                · exact hf (Or.inl h)
                · exact hf (Or.inr (Or.inl h))
                · exact hf (Or.inr (Or.inr (Or.inl h)))
                · exact hf (Or.inr (Or.inr (Or.inr (Or.inl h))))
                · exact (hA.2 k h).elim (fun h => hf (Or.inr (Or.inr (Or.inr (Or.inr h))))) (by omega)
            simp only [List.foldl_cons, List.foldl_nil, List.setIfInBounds_toArray, List.set_cons_succ, List.set_cons_zero]
            clear hall hxs hJ hR hA hg hSd hce hr hobl hcq hfqa hfq how hoq hol3 hol2 hlr hoi hir hLd x1 x2 x3 x4 x5 hx hSx hen hy hls hcell hlbl hc1
            go_wp2_with fail
            exact ⟨⟨i + 1, l2, _, _, by simp, by omega, rfl, hl2, ks2, rows ++ [row], _, v, HXr.out, HKs.out, HEn2.out.1, HEn2.out.2⟩, by simp [intOf]; omega⟩
    · obtain rfl : i = l := by omega
      have kl : decide ((i : Int) < (i : Int)) = false := decide_eq_false (by omega)
      have HR9 := hidd (heap_kept hS.grew HGT.out.2.1)
      have HO9 := hidd hS.raw
      have HS := hidd hS
      have HX := hidd hX
      have HKs := hidd hks
      have hv1 : nv.oneCell' = true := by obtain ⟨_, a, cp, e, _⟩ := hS.next; rw [e]; rfl
      have hv2 : ev.oneCell' = true := by obtain ⟨_, a, cp, e, _⟩ := hS.ends; rw [e]; rfl
      have HOn : Hid ((#[nv, ev] : Array Value).all (·.oneCell') = true) := by show (#[nv, ev] : Array Value).all _ = true; simp [hv1, hv2]
      clear hS KS hv1 hv2 hX hks hLe
      go_wp2_with (first | (refine wpList_load_tab (b := rb) rfl rfl rfl HO9.out rfl ?_) | (refine wpList_store_tab (b := rs) rfl rfl rfl rfl HR9.out rfl rfl HOn.out ?_))
      have hX := HX.out
      have hSl := HS.out
      rw [← HKs.out] at hX hSl
      have hX2 : Exp (firstN N) (stN N) (· ∈ allN N) (ks.map (·.1)) rows (ks.map (·.1)).length 0 (fun _ => 0) := by rw [List.length_map]; exact hX
      refine bodyPost_ret (results_cell_row (p := 2) rfl _ _ _ _ _ _ _ rfl (setRow_heap wr rs _ #[nv, ev] _ _ HR9.out) Tryd.underlying92 rfl info_tab) rfl ⟨ks.map (·.1), rows, .agg #[nv, ev], rfl, hX2, SetSo.table hSl hX fun k hk => setRow_other _ _ _ _ (by have := HGT.out.2.2; omega), setRow_grew (HGT.out.1.trans HS.out.grew) (by have := HRs.out; omega) _⟩
end Go.Proofs.YtkkdpafkafjfgaaDoor
