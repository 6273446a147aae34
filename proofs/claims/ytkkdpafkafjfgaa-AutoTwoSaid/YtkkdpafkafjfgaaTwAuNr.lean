/- The document's Not, over whatever Smallest does. -/
import Derived.Test.YtkkdpafkafjfgaaTwAuRe
namespace Go.Proofs.Ytkkdpafkafjfgaa
open Go.RowKit RR
set_option linter.unusedVariables false
set_option linter.unusedSimpArgs false
def SmallC : Prop := ∀ (R : RA) (v : Value) (w : World), R.Ok → R.n ≤ 8192 → TabIn w R v → Calls Try.prog 26 #[v] w (AutEnd R w)
theorem tab_rows {w : World} {base : Nat} {A : Aut} {qv : Value} (hq : QRow w base 22 256 qv A.next.length (tabC A A.next.length)) (hr : RightA A) (hc : A.cls.length = 256) : ∃ b o c, qv = .slice (some ⟨b, o, none⟩) A.next.length c ∧ b < w.heap.size ∧ ∀ s d, s < A.next.length → d < 256 → w.cell? ⟨b, o + s * 256 + d, none⟩ = some (.int .i64 (stepA A s d : Nat)) := by
  obtain ⟨b, o, c, e, _, hl, _, _, hcell⟩ := hq.at hr.n0
  refine ⟨b, o, c, e, hl, fun s d hs hd => ?_⟩
  rw [Nat.add_assoc, ← (stepI_nat hr hc hs hd).1]
  exact hcell (s * 256 + d) _ (by have : (s + 1) * 256 ≤ A.next.length * 256 := Nat.mul_le_mul_right _ hs; omega) (tabC_get A hd hs)
theorem bools_append {W w : World} {B j : Nat} {v : Value} {xs : List Value} (h : QRow w B 4 1 v j xs) (hB : B ≤ w.heap.size) (hj : j ≤ 9000) (b : Bool) (ty : TypeId) (hg : Grew W w) (hW : W.heap.size ≤ B) (ho : ∀ k, v.ownBlock = some k → B ≤ k) :
    ∃ v' w2, (Builtin.append_ #[24, 24] ty #[v, .slice (some ⟨w.heap.size, 0, none⟩) 1 1]).run Try.prog (w.alloc (.cells #[.bool b] 4)) = .ok v' w2 ∧ (∃ a cp, v' = .slice a (j + 1) cp) ∧ QRow w2 B 4 1 v' (j + 1) (xs ++ [.bool b]) ∧ Grew W w2 ∧ ∀ k, v'.ownBlock = some k → B ≤ k := by
  obtain ⟨j0, hj0, jz0, jz1, jz2⟩ := info_boolx
  have g := (Grew.refl w).alloc (.cells #[.bool b] 4)
  obtain ⟨v', w2, a1, a2, a3, a4⟩ := QRow.append (P := Try.prog) (t := 24) Try.underlying24 hj0 jz0 jz1 jz2 rfl (h.grew g) (Nat.le_trans hB g.size) w.heap.size 1 [.bool b] rfl (fun i u hu => by
    unfold World.cell?
    dsimp only
    rw [heap_alloc_new w _]
    cases i with
    | zero => simpa using hu
    | succ i => simp at hu) (fun u hu => by rw [List.mem_singleton] at hu; rw [hu]; rfl) (by unfold maxLen; omega) (by omega) ty
  refine ⟨v', w2, a1, ?_, a2, grew_grown (hg.trans g) a3 fun k hk => Nat.le_trans hW (ho k hk), fun k hk => ?_⟩
  · obtain ⟨_, a, cp, e, _⟩ := a2; exact ⟨a, cp, e⟩
  · obtain ⟨b', _, _, e2, hb, _⟩ := a2.at (by omega)
    rw [e2] at hk
    cases hk
    exact hb
set_option maxRecDepth 100000 in
theorem NotR_any (HSm : SmallC) (A : Aut) (na ea : Option Addr) (nc ec : Nat) (w : World) (h : AutAt w A na ea) : Calls Try.prog 18 #[.agg (autB A na nc ea ec)] w (TwoEnd w (wrongA A) fun l => !(raA A).tak 0 l) := by
  have hb0 := heap_alloc_new w (.cells (autB A na nc ea ec) 26)
  have hG0 := (Grew.refl w).alloc (.cells (autB A na nc ea ec) 26)
  have hG1 := (Grew.refl (w.alloc (.cells (autB A na nc ea ec) 26))).alloc (.cells zAut 26)
  have hr0 := heap_alloc2_new w (.cells (autB A na nc ea ec) 26) (.cells zAut 26)
  have HH := hidd (heap_kept hG1 hb0)
  have HSz := hidd (autB_size A na nc ea ec)
  have HG := hidd (hG0.trans hG1)
  have HA := hidd (h.kept (hG0.trans hG1))
  have HR0 := hidd hr0
  have HWr := hidd (WrongR_any A na ea nc ec _ HA.out)
  have hz := zero_aut
  obtain ⟨W, hW⟩ : ∃ W, (w.alloc (.cells (autB A na nc ea ec) 26)).alloc (.cells zAut 26) = W := ⟨_, rfl⟩
  rw [hW] at HH HG HA HR0 HWr
  have HOf : Hid (∀ w1, Grew W w1 → RightA A → Calls Try.prog 19 #[.agg (autB A na nc ea ec)] w1 _) := fun w1 g hr => AOf_any A na ea nc ec w1 (HA.out.kept g) hr
  have HC := hidd h.c256
  have HSm := hidd HSm
  obtain ⟨err, herr⟩ : ∃ err, wrongA A = err := ⟨_, rfl⟩
  have HE := hidd herr
  rw [herr] at HWr ⊢
  generalize hav : autB A na nc ea ec = av at *
  clear hG0 hG1 hb0 hr0 h herr
  go_enter Try.func18, Try.ntmps18
  go_wp2_with (refine wpList_load_aut (b := w.heap.size) rfl rfl rfl HH.out HSz.out ?_)
  refine HWr.out.mono ?_; rintro e w1 ⟨rfl, g1⟩
  obtain ⟨rs, hrs⟩ : ∃ rs, w.heap.size + 1 = rs := ⟨_, rfl⟩
  rw [hrs] at HR0 ⊢
  have HG1 := hidd (HG.out.trans g1)
  have HR1 := hidd (heap_kept g1 HR0.out)
  have HH1 := hidd (heap_kept g1 HH.out)
  have HA1 := hidd (HA.out.kept g1)
  have HRs := hidd (show w.heap.size ≤ rs by omega)
  have HW1 := hidd g1
  clear HWr HH HG HR0 HA g1 hW hrs
  by_cases h0 : err = 0
  · subst h0
    have HR := hidd (wrongA_zero.1 HE.out)
    go_wp2_with (refine wpList_load_aut (b := w.heap.size) rfl rfl rfl HH1.out HSz.out ?_)
    refine (HOf.out w1 HW1.out HR.out).mono ?_; rintro e w2 ⟨qv, rfl, hq, g2⟩
    have HG2 := hidd (HG1.out.trans g2)
    have HR2 := hidd (heap_kept g2 HR1.out)
    have HA2 := hidd (HA1.out.kept g2)
    obtain ⟨qb, qo, qc, rfl, hql, hqr⟩ := tab_rows hq HR.out HC.out
    have HQr := hidd hqr
    have HQl := hidd hql
    have hen := HR.out.ne
    obtain ⟨n, hn⟩ : ∃ n, A.next.length = n := ⟨_, rfl⟩
    have HN := hidd hn
    have h9 : n ≤ 8192 := by rw [← hn]; exact HR.out.n1
    have hp : 0 < n := by rw [← hn]; exact HR.out.n0
    rw [hn] at hen
    rw [hen, hn]
    clear hq hqr hql g2 HOf HW1 HR1 HA1 HH1 HG1 hn
    obtain ⟨eb, eo, hea, hec⟩ := HA2.out.ends.get (by rw [hen]; exact hp)
    rw [hea]
    have HEc : Hid (∀ s, s < n → w2.cell? ⟨eb, eo + s, none⟩ = some (.bool (A.ends.getD s false))) := fun s hs => hec s (by rw [hen]; exact hs)
    clear hec hen
    go_wp2_with fail
    have hb5 := heap_alloc_new w2 (.cells #[.slice (some ⟨qb, qo, none⟩) n qc, .slice (some ⟨eb, eo, none⟩) n ec] 44)
    have g5 := (Grew.refl w2).alloc (.cells #[.slice (some ⟨qb, qo, none⟩) n qc, .slice (some ⟨eb, eo, none⟩) n ec] 44)
    have hs5 : (w2.alloc (.cells #[.slice (some ⟨qb, qo, none⟩) n qc, .slice (some ⟨eb, eo, none⟩) n ec] 44)).heap.size = w2.heap.size + 1 := World.size_alloc _ _
    generalize w2.alloc (.cells #[.slice (some ⟨qb, qo, none⟩) n qc, .slice (some ⟨eb, eo, none⟩) n ec] 44) = W5 at hb5 g5 hs5 ⊢
    obtain ⟨tb, htb⟩ : ∃ tb, w2.heap.size = tb := ⟨_, rfl⟩
    have HQb : Hid (qb < tb) := by rw [← htb]; exact HQl.out
    rw [htb] at hb5 hs5 ⊢
    have H5 := hidd (And.intro hb5 (And.intro g5 hs5))
    clear hb5 g5 hs5 htb hea
    go_loopw [6, 20] (fun s6 s20 wr => ∃ j va vc, s20 = .int .i64 (j : Nat) ∧ j ≤ n ∧ s6 = .slice va j vc ∧ Hid (Grew W5 wr ∧ QRow wr W5.heap.size 4 1 (.slice va j vc) j ((List.range j).map fun s => Value.bool (!A.ends.getD s false)) ∧ ∀ k, (Value.slice va j vc).ownBlock = some k → W5.heap.size ≤ k)) (fun _ s20 _ => n - (intOf s20).toNat)
    case atStart => exact ⟨0, none, 0, rfl, by omega, rfl, Grew.refl _, ⟨rfl, none, 0, rfl, Nat.le_refl _, Nat.zero_le _, fun h => absurd h (by omega)⟩, fun k hk => by cases hk⟩
    case round =>
      obtain ⟨j, va, vc, rfl, hj, rfl, KS⟩ := hrel
      by_cases hjn : j < n
      · have kj : decide ((j : Int) < (n : Int)) = true := decide_eq_true (by omega)
        have ce := KS.out.1.keeps (H5.out.2.1.keeps (HEc.out j hjn))
        obtain ⟨x, hx⟩ : ∃ x, A.ends.getD j false = x := ⟨_, rfl⟩
        rw [hx] at ce
        obtain ⟨v', w6, hap, ⟨va', vc', rfl⟩, hq6, hg6, ho6⟩ := bools_append KS.out.2.1 KS.out.1.size (by omega) (!x) 24 KS.out.1 (Nat.le_refl _) KS.out.2.2
        have HN6 : Hid (Grew W5 w6 ∧ QRow w6 W5.heap.size 4 1 (.slice va' (j + 1) vc') (j + 1) ((List.range (j + 1)).map fun s => Value.bool (!A.ends.getD s false)) ∧ ∀ k, (Value.slice va' (j + 1) vc').ownBlock = some k → W5.heap.size ≤ k) := by
          refine ⟨hg6, ?_, ho6⟩
          rw [List.range_succ, List.map_append, List.map_singleton, hx]; exact hq6
        clear hq6 hg6 ho6 hx KS
        go_wp2_with (first | (at_builtin; refine wpList_append_eq rfl rfl rfl rfl hap ?_))
        exact ⟨⟨j + 1, _, _, by simp, by omega, rfl, HN6.out⟩, by simp [intOf]; omega⟩
      · have hje : j = n := by omega
        subst hje
        have kj : decide ((j : Int) < (j : Int)) = false := decide_eq_false (by omega)
        have hg5 := KS.out.1
        have hb5 := heap_kept hg5 H5.out.1
        obtain ⟨⟨u0, u1⟩, hfz⟩ := two_cells hb5
        have hf1 := hfz 1
        obtain ⟨vb, vo, vc2, e, hv1, hv2, _, _, hvc⟩ := KS.out.2.1.at hp
        cases e
        have htl : tb < W5.heap.size := by have := H5.out.2.2; omega
        have hb6 := q_set_same hb5 1 (.slice (some ⟨vb, vo, none⟩) j vc)
        have hne : ∀ k, k ≠ tb → (wr.setCell ⟨tb, 1, none⟩ (.slice (some ⟨vb, vo, none⟩) j vc)).heap[k]? = wr.heap[k]? := fun k hk => q_set_other _ _ (Ne.symm hk)
        have hg2r : Grew w2 wr := H5.out.2.1.trans hg5
        have HT6 : Hid (TabIn (wr.setCell ⟨tb, 1, none⟩ (.slice (some ⟨vb, vo, none⟩) j vc)) ⟨j, stepA A, fun s => !A.ends.getD s false⟩ (.agg #[.slice (some ⟨qb, qo, none⟩) j qc, .slice (some ⟨vb, vo, none⟩) j vc])) := by
          refine ⟨qb, qo, qc, vb, vo, vc, rfl, fun s c hs hc => ?_, fun s hs => ?_⟩
          · have hqb := HQb.out
            rw [World.cell?_of_block (a := ⟨qb, qo + s * 256 + c, none⟩) (hne qb (by omega))]
            exact hg2r.keeps (HQr.out s c (by rw [HN.out]; exact hs) hc)
          · have hs : s < j := hs
            rw [World.cell?_of_block (a := ⟨vb, vo + s, none⟩) (hne vb (by omega))]
            exact hvc s _ (by omega) (by rw [List.getElem?_map, List.getElem?_range hs]; rfl)
        have hw2s := HG2.out.size
        have htb2 : w.heap.size ≤ tb := by have := H5.out.2.2; have := H5.out.2.1.size; have := HQl.out; have h3 := HRs.out; have h4 := lt_of_block HR2.out; omega
        have HG6 : Hid (Grew w (wr.setCell ⟨tb, 1, none⟩ (.slice (some ⟨vb, vo, none⟩) j vc))) := (HG2.out.trans hg2r).setCell (p := ⟨tb, 1, none⟩) htb2 _
        have HR6 : Hid ((wr.setCell ⟨tb, 1, none⟩ (.slice (some ⟨vb, vo, none⟩) j vc)).heap[rs]? = some (.cells zAut 26 (0, 0))) := by
          have hr := heap_kept hg2r HR2.out
          rw [hne rs (fun e => by rw [e, hb5] at hr; cases hr)]; exact hr
        have HB6 := hidd hb6
        have HOk : Hid ((⟨j, stepA A, fun s => !A.ends.getD s false⟩ : RA).Ok) := ⟨hp, fun s c hs hc => by rw [← HN.out]; exact stepA_lt HR.out HC.out (by rw [HN.out]; exact hs) hc⟩
        clear hb6 hne hg2r hw2s htb2 hvc hv1 hv2 hg5 KS hfz
        go_wp2_with (refine wpList_load_tab (b := tb) rfl rfl rfl HB6.out rfl ?_)
        refine (Reached_any ⟨j, stepA A, fun s => !A.ends.getD s false⟩ _ _ HOk.out h9 HT6.out).mono ?_
        rintro e w7 ⟨S, v7, rfl, sOk, sN, sE, sT, g7⟩
        have HSk := hidd (And.intro sOk (And.intro (Nat.le_trans sN h9) (And.intro sE sT)))
        have HG7 := hidd (HG6.out.trans g7)
        have HR7 := hidd (heap_kept g7 HR6.out)
        clear sOk sN sE sT g7 HG6 HR6 HT6 HB6 hb5 u0 u1 hf1
        go_wp2_with fail
        refine (HSm.out S v7 w7 HSk.out.1 HSk.out.2.1 HSk.out.2.2.2).mono ?_
        rintro e w8 ⟨B, nb, nbc, eb2, ebc, rfl, hL8, hA8, g8⟩
        have HG8 := hidd (HG7.out.trans g8)
        have HR8 := hidd (heap_kept g8 HR7.out)
        have HA8 := hidd (And.intro hL8 hA8)
        have HRl := hidd (lt_of_block HR7.out)
        clear hL8 hA8 g8 HG7 HR7
        have HB8 := hidd (And.intro (autB_size B nb nbc eb2 ebc) (autB_one B nb nbc eb2 ebc))
        obtain ⟨bv, hbv⟩ : ∃ bv, autB B nb nbc eb2 ebc = bv := ⟨_, rfl⟩
        have HBv := hidd hbv
        rw [hbv] at HB8
        simp only [hbv]
        clear hbv
        go_wp2_with (refine wpList_store_aut (b := rs) rfl rfl rfl rfl HR8.out zAut_size HB8.out.1 HB8.out.2 ?_)
        refine bodyPost_ret (results_aut2 (p := 2) (q := 3) rfl rfl rfl (setRow_heap w8 rs _ bv _ _ HR8.out) HB8.out.1) rfl ⟨B, nb, nbc, eb2, ebc, by rw [HBv.out]; rfl, ?_, setRow_grew HG8.out HRs.out _, fun h => absurd rfl h, fun _ => ⟨S, HSk.out.2.1, fun l => ?_, HA8.out.1⟩⟩
        · have hrl := HRl.out
          have hrs := HRs.out
          exact HA8.out.2.set (by omega) hrl _
        · rw [HSk.out.2.2.1 l]
          have hgo : ∀ (l : List UInt8) (s : Nat), RA.go ⟨j, stepA A, fun s => !A.ends.getD s false⟩ s l = (raA A).go s l := fun l => by
            induction l with
            | nil => intro s; rfl
            | cons c l ih => intro s; exact ih _
          unfold RA.tak
          rw [hgo]; rfl
  · have k1 : (err != 0) = true := by simpa using h0
    have HE0 := hidd h0
    clear h0
    go_wp2_with (first | (refine wpList_build_aut rfl rfl ?_) | (refine wpList_store_aut (b := rs) rfl rfl rfl rfl HR1.out zAut_size zAut_size zAut_one ?_))
    exact bodyPost_ret (results_aut2 (p := 2) (q := 3) rfl rfl rfl (setRow_heap w1 rs _ zAut _ _ HR1.out) zAut_size) rfl ⟨zeroA, none, 0, none, 0, by rw [zeroA_B]; rfl, fun w'' _ _ => zeroA_at w'', setRow_grew HG1.out HRs.out _, fun _ => rfl, fun h => absurd h HE0.out⟩
end Go.Proofs.Ytkkdpafkafjfgaa
