/- The set that is being made, beside what the loop over sets holds. -/
import Derived.Test.YtkkdpafkafjfgaaDoorMkPSlG
import Derived.Test.YtkkdpafkafjfgaaDoorMkPScNo
import Derived.Test.YtkkdpafkafjfgaaDoorMkPScInv
namespace Go.Proofs.YtkkdpafkafjfgaaDoor
open Go.RowKit RR
set_option linter.unusedVariables false
set_option linter.unusedSimpArgs false
set_option maxRecDepth 100000
structure NxtSt (m : Nat) (w wr : World) (mb rb g0 db : Nat) (c : Nat) (ks : List LEnt) (rows : List (Nat → Nat)) (me : Nat) (row : Nat → Nat) (dl : List (List Bool × Value)) (lv nv ev : Value) (O : Obj) (nx : Nat) (T : List Bool) : Prop where
  mem : SetMem m w wr mb rb g0 db c ks rows me row dl lv nv ev O
  own : BoolsAt wr nx T
  lo : w.heap.size ≤ nx
  lt : nx < wr.heap.size
  nf : ¬ (Foot mb rb lv nv ev nx ∨ nx = g0 ∨ nx = db)
  ent : ∀ x ∈ ks, x.2.1 ≠ nx
section
variable {m : Nat} {w wr w' : World} {mb rb g0 db c : Nat} {ks : List LEnt} {rows : List (Nat → Nat)} {me : Nat} {row : Nat → Nat} {dl : List (List Bool × Value)} {lv nv ev : Value} {O : Obj} {nx : Nat} {T : List Bool}
theorem NxtSt.kept (h : NxtSt m w wr mb rb g0 db c ks rows me row dl lv nv ev O nx T) (g : Grew wr w') : NxtSt m w w' mb rb g0 db c ks rows me row dl lv nv ev O nx T :=
  ⟨h.mem.kept g, ArrAt.kept h.own g, h.lo, Nat.lt_of_lt_of_le h.lt g.size, h.nf, h.ent⟩
theorem NxtSt.start (h : SetMem m w wr mb rb g0 db c ks rows me row dl lv nv ev O) (hg0 : g0 < wr.heap.size) (g : Grew wr w') (hlt : wr.heap.size < w'.heap.size) (hB : BoolsAt w' wr.heap.size T) : NxtSt m w w' mb rb g0 db c ks rows me row dl lv nv ev O wr.heap.size T :=
  ⟨h.kept g, hB, h.so.grew.size, hlt, fun hf => by
    rcases hf with hf | hf | hf
    · have := h.so.foot_lt hf; omega
    · omega
    · have := h.dm.lt; omega, fun x hx => by have := (h.lens x hx).2.2.2.1; omega⟩
theorem NxtSt.put (h : NxtSt m w wr mb rb g0 db c ks rows me row dl lv nv ev O nx T) {q : Nat} (hq : q < T.length) : NxtSt m w (wr.setCell ⟨nx, q, none⟩ (.bool true)) mb rb g0 db c ks rows me row dl lv nv ev O nx (putB T q) := by
  have hs : (wr.setCell ⟨nx, q, none⟩ (.bool true)).heap.size = wr.heap.size := by simp [World.setCell]
  have hk : ∀ k, k ≠ nx → (wr.setCell ⟨nx, q, none⟩ (.bool true)).heap[k]? = wr.heap[k]? := fun k hk => q_set_other _ _ (Ne.symm hk)
  have hm := h.mem
  refine ⟨⟨hm.so.same (hm.so.grew.setCell (p := ⟨nx, q, none⟩) h.lo _) (Nat.le_of_eq hs.symm) fun k hf => hk k fun e => h.nf (Or.inl (e ▸ hf)), arr_block hm.arr (hk _ fun e => h.nf (Or.inr (Or.inl e.symm))), hm.fg, hm.dm.block (hk _ fun e => h.nf (Or.inr (Or.inr e.symm))), hm.fd, hm.ne, hm.lo, fun x hx => ?_⟩, h.own.put hq, h.lo, by rw [hs]; exact h.lt, h.nf, h.ent⟩
  obtain ⟨h1, h2, h3, h4, h5⟩ := hm.lens x hx
  exact ⟨h1, arr_block h2 (hk _ (h.ent x hx)), h3, by rw [hs]; exact h4, h5⟩
end
theorem SetMem.g0_lt {m : Nat} {w wr : World} {mb rb g0 db c : Nat} {ks : List LEnt} {rows : List (Nat → Nat)} {me : Nat} {row : Nat → Nat} {dl : List (List Bool × Value)} {lv nv ev : Value} {O : Obj} (h : SetMem m w wr mb rb g0 db c ks rows me row dl lv nv ev O) : g0 < wr.heap.size := h.arr.lt (by omega)
theorem DoneI.val {N : NetP} {kS : List (List Bool)} {dl : List (List Bool × Value)} (h : DoneI N kS dl) {Q : List Bool} (hQ : Q ∈ dl.map (·.1)) : closeB N Q ∈ kS ∧ (Q, Value.int .i64 (ixOf kS (closeB N Q) : Nat)) ∈ dl := by
  obtain ⟨x, hx, rfl⟩ := List.mem_map.1 hQ
  obtain ⟨h1, h2⟩ := h x hx
  exact ⟨h1, by rw [← h2]; exact hx⟩
end Go.Proofs.YtkkdpafkafjfgaaDoor

namespace Go.Proofs.YtkkdpafkafjfgaaDoor
open Go.RowKit RR
set_option linter.unusedVariables false
set_option linter.unusedSimpArgs false
set_option maxRecDepth 100000
set_option maxHeartbeats 4000000 in
theorem Make_any (p : Pat) (kv : Value) (w : World) (hp : PatV w kv p) (hT : TabZ32 w) : Calls Tryd.prog 10 #[.agg (p.cells kv)] w (TwoEnd w (makeErr p) (autL p)) := by
  have hz := zero_aut
  have hz2 := zero_part
  have hG0 := (Grew.refl w).alloc (.cells (p.cells kv) 24)
  have hG1 := (Grew.refl (w.alloc (.cells (p.cells kv) 24))).alloc (.cells zAut 30)
  have HR0 := hidd (heap_alloc2_new w (.cells (p.cells kv) 24) (.cells zAut 30))
  have HPb := hidd ((hp.box 24).kept hG1)
  have HG := hidd (hG0.trans hG1)
  have HTw := hidd hT
  have hb0 := heap_kept hG1 (heap_alloc_new w (.cells (p.cells kv) 24))
  obtain ⟨W, hW⟩ : ∃ W, (w.alloc (.cells (p.cells kv) 24)).alloc (.cells zAut 30) = W := ⟨_, rfl⟩
  rw [hW] at HR0 HPb HG hb0
  have HWr := hidd (Wrong_any kv p W (hp.kept HG.out))
  have b0 : W.cell? ⟨w.heap.size, 0, none⟩ = some (.int .i64 p.kind) := cell_of hb0 0
  have b1 : W.cell? ⟨w.heap.size, 1, none⟩ = some (.string p.text) := cell_of hb0 1
  have b2 : W.cell? ⟨w.heap.size, 2, none⟩ = some (.int .i64 p.n) := cell_of hb0 2
  have b3 : W.cell? ⟨w.heap.size, 3, none⟩ = some (.string p.name) := cell_of hb0 3
  have b4 : W.cell? ⟨w.heap.size, 4, none⟩ = some kv := cell_of hb0 4
  obtain ⟨err, herr⟩ : ∃ err, makeErr p = err := ⟨_, rfl⟩
  have HE := hidd herr
  rw [herr]
  obtain ⟨perr, hperr⟩ : ∃ perr, patErr p = perr := ⟨_, rfl⟩
  have HPe := hidd hperr
  rw [hperr] at HWr
  obtain ⟨LL, hLL⟩ : ∃ LL, autL p = LL := ⟨_, rfl⟩
  have HLL := hidd hLL
  rw [hLL]
  unfold Pat.cells at hW HWr ⊢
  clear hG0 hG1 hp hT herr hperr hb0 hLL
  go_enter Tryd.func10, Tryd.ntmps10
  go_wp2_with (rw [hW])
  refine HWr.out.mono ?_; rintro e w2 ⟨rfl, g2⟩
  obtain ⟨rs, hrs⟩ : ∃ rs, w.heap.size + 1 = rs := ⟨_, rfl⟩
  rw [hrs] at HR0 ⊢
  have HRs := hidd (show w.heap.size ≤ rs by omega)
  have HG2 := hidd (HG.out.trans g2)
  have HR2 := hidd (heap_kept g2 HR0.out)
  have HP2 := hidd (HPb.out.kept g2)
  obtain ⟨pb, hpb⟩ : ∃ pb, w.heap.size = pb := ⟨_, rfl⟩
  rw [hpb] at HP2 ⊢
  clear HWr HG HR0 HPb g2 hW hrs b0 b1 b2 b3 b4
  by_cases h0 : perr = 0
  · subst h0
    have HFit := hidd (patErr_fit HPe.out)
    obtain ⟨ob, hob⟩ : ∃ ob, w2.heap.size = ob := ⟨_, rfl⟩
    obtain ⟨W4, hW4⟩ : ∃ W4, (w2.alloc (.cells #[.slice none 0 0, .slice none 0 0, .bool false] 66)).alloc (.cells #[.pointer (some ⟨ob, 0, none⟩)] 62) = W4 := ⟨_, rfl⟩
    have ga := (Grew.refl w2).alloc (.cells #[.slice none 0 0, .slice none 0 0, .bool false] 66)
    have gb := ga.alloc (.cells #[.pointer (some ⟨ob, 0, none⟩)] 62)
    have hbo := heap_kept ((Grew.refl _).alloc (.cells #[.pointer (some ⟨ob, 0, none⟩)] 62)) (heap_alloc_new w2 (.cells #[.slice none 0 0, .slice none 0 0, .bool false] 66))
    have hbp := heap_alloc2_new w2 (.cells #[.slice none 0 0, .slice none 0 0, .bool false] 66) (.cells #[.pointer (some ⟨ob, 0, none⟩)] 62)
    rw [hW4] at gb hbo hbp
    rw [hob] at hbo hbp
    have HGl : Hid (GlAt w2 W4 ob gl0 (fun k => k = ob)) := gl_start gb (by omega) hbo
    have HB := hidd (Build_any (HTw.out.kept HG2.out) HP2.out HFit.out W4 ob gl0 _ HGl.out)
    have HPt := hidd hbp
    have HG4 := hidd gb
    have cp0 : W4.cell? ⟨ob + 1, 0, none⟩ = some (.pointer (some ⟨ob, 0, none⟩)) := cell_of hbp 0
    clear ga gb hbo hbp
    go_wp2_with (rw [hW4])
    refine HB.out.mono ?_; rintro e w5 ⟨o, ok, F', rfl, hR1, hG5, hT5⟩
    obtain ⟨rb, hrb⟩ : ∃ rb, w5.heap.size = rb := ⟨_, rfl⟩
    have HZ : Hid ((w5.alloc (.cells #[.int .u32 0, .int .u32 0, .bool false] 69)).heap[rb]? = some (.cells (partC part0) 69 (0, 0))) := by rw [← hrb]; exact heap_alloc_new w5 _
    obtain ⟨W6, hW6⟩ : ∃ W6, (w5.alloc (.cells #[.int .u32 0, .int .u32 0, .bool false] 69)).setRow rb (partC o) = W6 := ⟨_, rfl⟩
    have hrl : rs < w2.heap.size := lt_of_block HR2.out
    have HX : Hid (GlAt w2 W6 ob (buildP p gl0).2 F' ∧ W6.heap[rs]? = some (.cells zAut 30 (0, 0)) ∧ W6.heap[rb]? = some (.cells (partC o) 69 (0, 0)) ∧ W6.cell? ⟨ob + 1, 0, none⟩ = some (.pointer (some ⟨ob, 0, none⟩)) ∧ rs < rb) := by
      have ga := (Grew.refl w5).alloc (.cells #[.int .u32 0, .int .u32 0, .bool false] 69)
      have h25 := hG5.grew
      have hle := h25.size
      have hnf : ¬ F' rb := fun hf => by have := hG5.lt hf; omega
      have hpl : ob + 1 < W4.heap.size := lt_of_block HPt.out
      have hpn : ¬ (fun k => k = ob) (ob + 1) := fun (e : ob + 1 = ob) => by omega
      have h5 := (hT5.out (ob + 1) hpl hpn).trans HPt.out
      have h1 := (hG5.kept ga).setRow hnf (by omega) (partC o)
      have h2 : ((w5.alloc (.cells #[.int .u32 0, .int .u32 0, .bool false] 69)).setRow rb (partC o)).heap[rs]? = some (.cells zAut 30 (0, 0)) := by
        rw [setRow_other _ _ _ _ (by omega)]; exact heap_kept (h25.trans ga) HR2.out
      have h3 := setRow_heap _ rb _ (partC o) _ _ HZ.out
      have h4 : ((w5.alloc (.cells #[.int .u32 0, .int .u32 0, .bool false] 69)).setRow rb (partC o)).heap[ob + 1]? = some (.cells #[.pointer (some ⟨ob, 0, none⟩)] 62 (0, 0)) := by
        rw [setRow_other _ _ _ _ (by have := hT5.size; omega)]; exact heap_kept ga h5
      rw [hW6] at h1 h2 h3 h4
      exact ⟨h1, h2, h3, cell_of h4 0, by omega⟩
    have HG6 : Hid (Grew w W6) := HG2.out.trans HX.out.1.grew
    have HR1 := hidd hR1
    clear hR1 hG5 hT5 hrl HB hob hW4
    have HFull := hidd (fit_full p HFit.out)
    cases ok
    · have HErr : Hid (err = 1) := by
        rw [Hid, ← HE.out]; unfold makeErr; rw [if_pos HPe.out]
        have : placesP p = none := ((build_ok p HFull.out).none_iff gl0).1 HR1.out
        rw [this]
      go_wp2_with (first | (rw [hW6]) | (refine wpList_store_part (b := rb) rfl rfl rfl rfl HZ.out rfl rfl (part_one _) ?_) | (refine wpList_build_aut rfl rfl ?_) | (refine wpList_store_aut (b := rs) rfl rfl rfl rfl HX.out.2.1 zAut_size zAut_size zAut_one ?_))
      exact bodyPost_ret (results_aut2 (p := 2) (q := 3) rfl rfl rfl (setRow_heap W6 rs _ zAut _ _ HX.out.2.1) zAut_size) rfl ⟨zeroA, none, 0, none, 0, by rw [zeroA_B, HErr.out]; rfl, fun w'' _ _ => zeroA_at w'', setRow_grew HG6.out HRs.out _, fun _ => rfl, fun h => absurd (HErr.out.symm.trans h) (by decide)⟩
    · have HSo : Hid ((buildP p gl0).1 = some o) := HR1.out
      obtain ⟨npl, hnpl⟩ : ∃ npl, placesP p = some npl := by
        cases e : placesP p with
        | none => have := ((build_ok p HFull.out).none_iff gl0).2 e; rw [HSo.out] at this; cases this
        | some n => exact ⟨n, rfl⟩
      have HNp := hidd hnpl
      have hmu := glu_much HFull.out hnpl
      have cm : W6.cell? ⟨ob, 2, none⟩ = some (.bool (buildP p gl0).2.much) := by
        obtain ⟨bv, fv, hG, _⟩ := HX.out.1
        exact cell_of hG.blk 2
      obtain ⟨mu, hmu2⟩ : ∃ mu, (buildP p gl0).2.much = mu := ⟨_, rfl⟩
      rw [hmu2] at hmu cm
      have HMu := hidd hmu2
      have HMp := hidd hmu
      have cg := HX.out.2.2.2.1
      clear hmu hmu2 hnpl
      cases mu
      · have HErr : Hid (err = 0) := by
          rw [Hid, ← HE.out]; unfold makeErr; rw [if_pos HPe.out, HNp.out]
          dsimp only
          have : ¬ 12 < npl := by simpa using HMp.out.symm
          rw [if_neg this]
        have hin := (build_in p gl0 fits0).2.2 o HSo.out
        have hinf := build_inF p gl0 fits0 inF0
        have HSI := hidd (step_in HX.out.1 HX.out.2.2.1 HX.out.2.2.2.1 hin hinf (HTw.out.kept HG2.out))
        have HO : Hid (gluO p = o) := by unfold Hid gluO; rw [HSo.out]; rfl
        obtain ⟨g, hg⟩ : ∃ g, (buildP p gl0).2 = g := ⟨_, rfl⟩
        have HGg : Hid (gluG p = g) := hg
        rw [hg] at HSI HX
        have h12 : 2 ^ g.sets.length ≤ 4096 := pow_le12 HSI.out.fits.le
        have HD : Hid (∀ s, (s < 2 ^ g.sets.length ∨ s = begin_) → s < 4096 ∨ s = begin_) := fun s h => h.elim (fun h => Or.inl (by omega)) Or.inr
        have HEx := Explore_u32 begin_ 27 31 #[.pointer (some ⟨rb, 0, none⟩), .pointer (some ⟨ob + 1, 0, none⟩)] #[.pointer (some ⟨rb, 0, none⟩)] (stG g o) (enG o) (fun s => s < 2 ^ g.sets.length ∨ s = begin_) 4097 W6 (by kernel_rfl) (by kernel_rfl)
          (fun w1 x c gr hx hc => StepG_any (HSI.out.kept gr) x c hx hc) (fun w1 x gr hx => EndG_any (HSI.out.kept gr) x (HD.out x hx)) (Or.inr rfl) (fun x c hx hc => Or.inl (st_lt2 HSI.out.inf HSI.out.inn x c)) (fun ks h1 h2 => states_le h1 fun x hx => HD.out x (h2 x hx)) (by decide) (fun x hx => (HD.out x hx).elim (fun h => by omega) (fun h => by rw [h]; decide))
        rw [show ((begin_ : Nat) : Int) = 2147483648 from rfl] at HEx
        have HExx := hidd HEx
        clear HEx hin hinf h12 hg
        go_wp2_with (first | (rw [hW6]) | (refine wpList_store_part (b := rb) rfl rfl rfl rfl HZ.out rfl rfl (part_one _) ?_))
        refine HExx.out.mono ?_; rintro e w7 ⟨b, ks, rows, rfl, hE, hl, hR, g7⟩
        have HEx2 := hidd hE
        have HLe := hidd (Least_any (expA (enG o) begin_ ks rows) b w7 (hE.ok _) (Nat.le_trans hl (by decide)) hR)
        have HG7 := hidd (HG6.out.trans g7)
        have HR7 := hidd (heap_kept g7 HX.out.2.1)
        have HLn : Hid ((expA (enG o) begin_ ks rows).n ≤ 8192) := Nat.le_trans hl (by decide)
        clear hE hl hR g7 HExx
        go_wp2_with fail
        refine HLe.out.mono ?_; rintro e w8 ⟨B, nb, nbc, eb, ebc, rfl, hL3, hA3, g3⟩
        have HG8 := hidd (HG7.out.trans g3)
        have HR8 := hidd (heap_kept g3 HR7.out)
        have HA3 := hidd (And.intro hL3 hA3)
        have HRl := hidd (lt_of_block HR7.out)
        clear hL3 hA3 g3 HLe
        have HB3 := hidd (And.intro (autB_size B nb nbc eb ebc) (autB_one B nb nbc eb ebc))
        obtain ⟨bv, hbv⟩ : ∃ bv, autB B nb nbc eb ebc = bv := ⟨_, rfl⟩
        have HBv := hidd hbv
        rw [hbv] at HB3
        simp only [hbv]
        clear hbv
        go_wp2_with (refine wpList_store_aut (b := rs) rfl rfl rfl rfl HR8.out zAut_size HB3.out.1 HB3.out.2 ?_)
        refine bodyPost_ret (results_aut2 (p := 2) (q := 3) rfl rfl rfl (setRow_heap w8 rs _ bv _ _ HR8.out) HB3.out.1) rfl ⟨B, nb, nbc, eb, ebc, by rw [HBv.out, HErr.out]; rfl, ?_, setRow_grew HG8.out HRs.out _, fun h => absurd HErr.out h, fun _ => ⟨_, HLn.out, fun l => ?_, HA3.out.1⟩⟩
        · have hrl := HRl.out
          have hrs := HRs.out
          exact HA3.out.2.set (by omega) hrl _
        · rw [HEx2.out.lang, goS_goG, ← HLL.out]
          unfold autL
          rw [HO.out, HGg.out]
      · have HErr : Hid (err = 4) := by
          rw [Hid, ← HE.out]; unfold makeErr; rw [if_pos HPe.out, HNp.out]
          dsimp only
          have : 12 < npl := by simpa using HMp.out.symm
          rw [if_pos this]
        go_wp2_with (first | (rw [hW6]) | (refine wpList_store_part (b := rb) rfl rfl rfl rfl HZ.out rfl rfl (part_one _) ?_) | (refine wpList_build_aut rfl rfl ?_) | (refine wpList_store_aut (b := rs) rfl rfl rfl rfl HX.out.2.1 zAut_size zAut_size zAut_one ?_))
        exact bodyPost_ret (results_aut2 (p := 2) (q := 3) rfl rfl rfl (setRow_heap W6 rs _ zAut _ _ HX.out.2.1) zAut_size) rfl ⟨zeroA, none, 0, none, 0, by rw [zeroA_B, HErr.out]; rfl, fun w'' _ _ => zeroA_at w'', setRow_grew HG6.out HRs.out _, fun _ => rfl, fun h => absurd (HErr.out.symm.trans h) (by decide)⟩
  · have k1 : (perr != 0) = true := by simpa using h0
    have HErr : Hid (err = perr) := by rw [Hid, ← HE.out]; unfold makeErr; rw [if_neg (by rw [HPe.out]; exact h0)]; exact HPe.out
    have HE0 := hidd h0
    clear h0
    go_wp2_with (first | (refine wpList_build_aut rfl rfl ?_) | (refine wpList_store_aut (b := rs) rfl rfl rfl rfl HR2.out zAut_size zAut_size zAut_one ?_))
    exact bodyPost_ret (results_aut2 (p := 2) (q := 3) rfl rfl rfl (setRow_heap w2 rs _ zAut _ _ HR2.out) zAut_size) rfl ⟨zeroA, none, 0, none, 0, by rw [zeroA_B, HErr.out]; rfl, fun w'' _ _ => zeroA_at w'', setRow_grew HG2.out HRs.out _, fun _ => rfl, fun h => absurd (HErr.out.symm.trans h) HE0.out⟩
end Go.Proofs.YtkkdpafkafjfgaaDoor
