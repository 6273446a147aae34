/- What Make answers, in plain words. -/
import Derived.Test.YtkkdpafkafjfgaaDoorWwGlY
import Derived.Test.YtkkdpafkafjfgaaDoorWwGlE
import Derived.Test.YtkkdpafkafjfgaaDoorWwPGlX
namespace Go.Proofs.YtkkdpafkafjfgaaDoor
open Go.RowKit RR
set_option linter.unusedVariables false
set_option linter.unusedSimpArgs false
theorem nodeErr_fit {p : Pat} (h : nodeErr p = 0) : (p.kind = 1 → p.text.size ≤ 65536) ∧ (p.kind = 2 → 0 ≤ p.n ∧ p.n ≤ 65536) ∧ ((p.kind = 18 ∨ p.kind = 19 ∨ p.kind = 20) → 0 < p.kids.length) ∧ p.kids.length ≤ 4096 := by
  unfold nodeErr manyErr at h
  repeat' split at h
  all_goals first | omega | (exact absurd h (by decide)) | (refine ⟨fun e => ?_, fun e => ?_, fun e => ?_, ?_⟩ <;> omega)
mutual
theorem err_fit : ∀ p : Pat, errW p = 0 → fitP p
  | .mk k t n m l, h => by
    rw [errW] at h
    by_cases h0 : nodeErr (.mk k t n m l) = 0
    · rw [if_pos h0] at h
      obtain ⟨a, b, c, d⟩ := nodeErr_fit h0
      rw [fitP]; exact ⟨a, b, c, d, errL_fit l h⟩
    · rw [if_neg h0] at h; exact absurd h h0
theorem errL_fit : ∀ l : List Pat, errL l = 0 → fitL l
  | [], _ => by rw [fitL]; trivial
  | p :: l, h => by
    rw [errL] at h
    by_cases h0 : errW p = 0
    · rw [if_pos h0] at h
      rw [fitL]; exact ⟨err_fit p h0, errL_fit l h⟩
    · rw [if_neg h0] at h; exact absurd h h0
end
theorem patErr_fit {p : Pat} (h : patErr p = 0) : fitP p := by
  unfold patErr at h
  split at h
  · exact err_fit p h
  · exact absurd h (by decide)
def makeErr (p : Pat) : Int := if patErr p = 0 then (match placesP p with | none => 1 | some n => if 12 < n then 4 else 0) else patErr p
def gluO (p : Pat) : Part := (buildP p gl0).1.getD part0
def gluG (p : Pat) : Gl := (buildP p gl0).2
def autL (p : Pat) (l : List UInt8) : Bool := enG (gluO p) (goG (gluG p) (gluO p) begin_ l)
theorem makeErr_zero {p : Pat} (h : makeErr p = 0) : patErr p = 0 ∧ ∃ n, placesP p = some n ∧ n ≤ 12 := by
  unfold makeErr at h
  by_cases h0 : patErr p = 0
  · rw [if_pos h0] at h
    refine ⟨h0, ?_⟩
    cases e : placesP p with
    | none => rw [e] at h; cases h
    | some n =>
      rw [e] at h
      dsimp only at h
      split at h
      · cases h
      · exact ⟨n, rfl, by omega⟩
  · rw [if_neg h0] at h; exact absurd h h0
theorem glu_some {p : Pat} (hf : fullP p) {n : Nat} (h : placesP p = some n) : (buildP p gl0).1 = some (gluO p) := by
  cases e : (buildP p gl0).1 with
  | none => rw [(build_ok p hf).none_iff gl0 |>.1 e] at h; cases h
  | some o => unfold gluO; rw [e]; rfl
theorem autL_lang {p : Pat} (h : makeErr p = 0) (l : List UInt8) : autL p l = true ↔ langP p l := by
  obtain ⟨h1, n, h2, h3⟩ := makeErr_zero h
  have hf := fit_full p (patErr_fit h1)
  exact glu_lang hf (glu_some hf h2) (by rw [glu_much hf h2]; simpa using h3) l
theorem goS_goG (g : Gl) (o : Part) : ∀ (l : List UInt8) (s : Nat), goS (stG g o) s l = goG g o s l
  | [], s => rfl
  | c :: l, s => goS_goG g o l _
theorem nodup_map_on {α β : Type} (f : α → β) : ∀ {l : List α}, l.Nodup → (∀ x ∈ l, ∀ y ∈ l, f x = f y → x = y) → (l.map f).Nodup
  | [], _, _ => List.nodup_nil
  | a :: l, h, hf => by
    rw [List.nodup_cons] at h
    rw [List.map_cons, List.nodup_cons]
    refine ⟨fun hm => ?_, nodup_map_on f h.2 fun x hx y hy => hf x (List.mem_cons_of_mem _ hx) y (List.mem_cons_of_mem _ hy)⟩
    obtain ⟨y, hy, e⟩ := List.mem_map.1 hm
    have := hf y (List.mem_cons_of_mem _ hy) a (List.mem_cons_self ..) e
    rw [this] at hy; exact h.1 hy
theorem states_le {ks : List Nat} (h : ks.Nodup) (hd : ∀ x ∈ ks, x < 4096 ∨ x = begin_) : ks.length ≤ 4097 := by
  have hm : (ks.map fun x => if x = begin_ then 4096 else x).Nodup := by
    refine nodup_map_on _ h fun x hx y hy e => ?_
    rcases hd x hx with h1 | h1 <;> rcases hd y hy with h2 | h2
    · rw [if_neg (by unfold begin_; omega), if_neg (by unfold begin_; omega)] at e; exact e
    · rw [if_neg (by unfold begin_; omega), if_pos h2] at e; omega
    · rw [if_pos h1, if_neg (by unfold begin_; omega)] at e; omega
    · rw [h1, h2]
  have := nodup_lt 4097 hm (fun x hx => by
    obtain ⟨y, hy, rfl⟩ := List.mem_map.1 hx
    rcases hd y hy with h1 | h1
    · rw [if_neg (by unfold begin_; omega)]; omega
    · rw [if_pos h1]; omega)
  rwa [List.length_map] at this
theorem gl_start {w : World} {wr : World} {ob : Nat} (g : Grew w wr) (hob : w.heap.size ≤ ob) (h : wr.heap[ob]? = some (.cells #[.slice none 0 0, .slice none 0 0, .bool false] 66 (0, 0))) : GlAt w wr ob gl0 (fun k => k = ob) :=
  ⟨_, _, ⟨g, h, ⟨rfl, none, 0, rfl, Nat.le_refl _, Nat.zero_le _, fun h => absurd h (by omega)⟩, ⟨rfl, none, 0, rfl, Nat.le_refl _, Nat.zero_le _, fun h => absurd h (by omega)⟩, hob, fun k hk => (by cases hk), fun k hk => (by cases hk), fun k hk => (by cases hk), fits0⟩, fun k => ⟨fun h => h.elim id (fun h => h.elim (fun h => by cases h) (fun h => by cases h)), Or.inl⟩⟩
theorem step_in {w wr : World} {rb gb ob : Nat} {g : Gl} {o : Part} {F : Nat → Prop} (h : GlAt w wr ob g F) (hr : wr.heap[rb]? = some (.cells (partC o) 69 (0, 0))) (hp : wr.cell? ⟨gb, 0, none⟩ = some (.pointer (some ⟨ob, 0, none⟩))) (hi : InG g o) (hf : InF g) (hT : TabZ32 w) : StepIn wr rb gb ob g o := by
  obtain ⟨bv, fv, hG, _⟩ := h
  obtain ⟨l1, a, c, rfl, _⟩ := id hG.sets
  obtain ⟨l2, fa, fc, rfl, _⟩ := id hG.fo
  have hset : ∀ (l : List (Nat → Bool)) (q j : Nat), q < l.length → j < 4 → (l.flatMap setC)[q * 4 + j]? = some (.int .u64 (word (l.getD q fun _ => false) (64 * j) 64)) := by
    intro l
    induction l with
    | nil => intro q j h; exact absurd h (Nat.not_lt_zero _)
    | cons s l ih =>
      intro q j hq hj
      have hl : (setC s).length = 4 := rfl
      rw [List.flatMap_cons]
      cases q with
      | zero =>
        rw [Nat.zero_mul, Nat.zero_add, List.getElem?_append_left (by omega)]
        rcases (by omega : j = 0 ∨ j = 1 ∨ j = 2 ∨ j = 3) with rfl | rfl | rfl | rfl <;> rfl
      | succ q =>
        rw [List.getElem?_append_right (by omega), hl, show (q + 1) * 4 + j - 4 = q * 4 + j by omega]
        exact ih q j (by simpa using hq) hj
  refine ⟨hr, hp, ⟨a, c, fa, fc, hG.blk, fun q hq => ?_, fun q hq => ?_⟩, hG.fits, hi, hf, hT.kept hG.grew⟩
  · obtain ⟨b, off, cap, e, _, _, _, _, hc⟩ := hG.sets.at (by omega)
    cases e
    refine ⟨b, off, rfl, fun j hj => ?_⟩
    rw [Nat.add_assoc]
    exact hc (q * 4 + j) _ (by omega) (hset g.sets q j hq hj)
  · obtain ⟨b, off, cap, e, _, _, _, _, hc⟩ := hG.fo.at (by omega)
    cases e
    refine ⟨b, off, rfl, ?_⟩
    refine hc q _ (by omega) ?_
    rw [List.getElem?_map, List.getD_eq_getElem?_getD, List.getElem?_eq_getElem hq]; rfl
end Go.Proofs.YtkkdpafkafjfgaaDoor

namespace Go.Proofs.YtkkdpafkafjfgaaDoor
open Go.RowKit RR
set_option linter.unusedVariables false
set_option linter.unusedSimpArgs false
set_option maxRecDepth 100000
set_option maxHeartbeats 4000000 in
theorem Make_any (p : Pat) (kv : Value) (w : World) (hp : PatV w kv p) (hT : TabZ32 w) : Calls Tryd.prog 10 #[.agg (p.cells kv)] w (TwoEnd w (makeErr p) (autL p)) := by
  have hz := zero_aut
  have hz2 := zero_part
  have hG0 := (Grew.refl w).alloc (.cells (p.cells kv) 24)
  have hG1 := (Grew.refl (w.alloc (.cells (p.cells kv) 24))).alloc (.cells zAut 30)
  have HR0 := hidd (heap_alloc2_new w (.cells (p.cells kv) 24) (.cells zAut 30))
  have HPb := hidd ((hp.box 24).kept hG1)
  have HG := hidd (hG0.trans hG1)
  have HTw := hidd hT
  have hb0 := heap_kept hG1 (heap_alloc_new w (.cells (p.cells kv) 24))
  obtain ⟨W, hW⟩ : ∃ W, (w.alloc (.cells (p.cells kv) 24)).alloc (.cells zAut 30) = W := ⟨_, rfl⟩
  rw [hW] at HR0 HPb HG hb0
  have HWr := hidd (Wrong_any kv p W (hp.kept HG.out))
  have b0 : W.cell? ⟨w.heap.size, 0, none⟩ = some (.int .i64 p.kind) := cell_of hb0 0
  have b1 : W.cell? ⟨w.heap.size, 1, none⟩ = some (.string p.text) := cell_of hb0 1
  have b2 : W.cell? ⟨w.heap.size, 2, none⟩ = some (.int .i64 p.n) := cell_of hb0 2
  have b3 : W.cell? ⟨w.heap.size, 3, none⟩ = some (.string p.name) := cell_of hb0 3
  have b4 : W.cell? ⟨w.heap.size, 4, none⟩ = some kv := cell_of hb0 4
  obtain ⟨err, herr⟩ : ∃ err, makeErr p = err := ⟨_, rfl⟩
  have HE := hidd herr
  rw [herr]
  obtain ⟨perr, hperr⟩ : ∃ perr, patErr p = perr := ⟨_, rfl⟩
  have HPe := hidd hperr
  rw [hperr] at HWr
  obtain ⟨LL, hLL⟩ : ∃ LL, autL p = LL := ⟨_, rfl⟩
  have HLL := hidd hLL
  rw [hLL]
  unfold Pat.cells at hW HWr ⊢
  clear hG0 hG1 hp hT herr hperr hb0 hLL
  go_enter Tryd.func10, Tryd.ntmps10
  go_wp2_with (rw [hW])
  refine HWr.out.mono ?_; rintro e w2 ⟨rfl, g2⟩
  obtain ⟨rs, hrs⟩ : ∃ rs, w.heap.size + 1 = rs := ⟨_, rfl⟩
  rw [hrs] at HR0 ⊢
  have HRs := hidd (show w.heap.size ≤ rs by omega)
  have HG2 := hidd (HG.out.trans g2)
  have HR2 := hidd (heap_kept g2 HR0.out)
  have HP2 := hidd (HPb.out.kept g2)
  obtain ⟨pb, hpb⟩ : ∃ pb, w.heap.size = pb := ⟨_, rfl⟩
  rw [hpb] at HP2 ⊢
  clear HWr HG HR0 HPb g2 hW hrs b0 b1 b2 b3 b4
  by_cases h0 : perr = 0
  · subst h0
    have HFit := hidd (patErr_fit HPe.out)
    obtain ⟨ob, hob⟩ : ∃ ob, w2.heap.size = ob := ⟨_, rfl⟩
    obtain ⟨W4, hW4⟩ : ∃ W4, (w2.alloc (.cells #[.slice none 0 0, .slice none 0 0, .bool false] 66)).alloc (.cells #[.pointer (some ⟨ob, 0, none⟩)] 62) = W4 := ⟨_, rfl⟩
    have ga := (Grew.refl w2).alloc (.cells #[.slice none 0 0, .slice none 0 0, .bool false] 66)
    have gb := ga.alloc (.cells #[.pointer (some ⟨ob, 0, none⟩)] 62)
    have hbo := heap_kept ((Grew.refl _).alloc (.cells #[.pointer (some ⟨ob, 0, none⟩)] 62)) (heap_alloc_new w2 (.cells #[.slice none 0 0, .slice none 0 0, .bool false] 66))
    have hbp := heap_alloc2_new w2 (.cells #[.slice none 0 0, .slice none 0 0, .bool false] 66) (.cells #[.pointer (some ⟨ob, 0, none⟩)] 62)
    rw [hW4] at gb hbo hbp
    rw [hob] at hbo hbp
    have HGl : Hid (GlAt w2 W4 ob gl0 (fun k => k = ob)) := gl_start gb (by omega) hbo
    have HB := hidd (Build_any (HTw.out.kept HG2.out) HP2.out HFit.out W4 ob gl0 _ HGl.out)
    have HPt := hidd hbp
    have HG4 := hidd gb
    have cp0 : W4.cell? ⟨ob + 1, 0, none⟩ = some (.pointer (some ⟨ob, 0, none⟩)) := cell_of hbp 0
    clear ga gb hbo hbp
    go_wp2_with (rw [hW4])
    refine HB.out.mono ?_; rintro e w5 ⟨o, ok, F', rfl, hR1, hG5, hT5⟩
    obtain ⟨rb, hrb⟩ : ∃ rb, w5.heap.size = rb := ⟨_, rfl⟩
    have HZ : Hid ((w5.alloc (.cells #[.int .u32 0, .int .u32 0, .bool false] 69)).heap[rb]? = some (.cells (partC part0) 69 (0, 0))) := by rw [← hrb]; exact heap_alloc_new w5 _
    obtain ⟨W6, hW6⟩ : ∃ W6, (w5.alloc (.cells #[.int .u32 0, .int .u32 0, .bool false] 69)).setRow rb (partC o) = W6 := ⟨_, rfl⟩
    have hrl : rs < w2.heap.size := lt_of_block HR2.out
    have HX : Hid (GlAt w2 W6 ob (buildP p gl0).2 F' ∧ W6.heap[rs]? = some (.cells zAut 30 (0, 0)) ∧ W6.heap[rb]? = some (.cells (partC o) 69 (0, 0)) ∧ W6.cell? ⟨ob + 1, 0, none⟩ = some (.pointer (some ⟨ob, 0, none⟩)) ∧ rs < rb) := by
      have ga := (Grew.refl w5).alloc (.cells #[.int .u32 0, .int .u32 0, .bool false] 69)
      have h25 := hG5.grew
      have hle := h25.size
      have hnf : ¬ F' rb := fun hf => by have := hG5.lt hf; omega
      have hpl : ob + 1 < W4.heap.size := lt_of_block HPt.out
      have hpn : ¬ (fun k => k = ob) (ob + 1) := fun (e : ob + 1 = ob) => by omega
      have h5 := (hT5.out (ob + 1) hpl hpn).trans HPt.out
      have h1 := (hG5.kept ga).setRow hnf (by omega) (partC o)
      have h2 : ((w5.alloc (.cells #[.int .u32 0, .int .u32 0, .bool false] 69)).setRow rb (partC o)).heap[rs]? = some (.cells zAut 30 (0, 0)) := by
        rw [setRow_other _ _ _ _ (by omega)]; exact heap_kept (h25.trans ga) HR2.out
      have h3 := setRow_heap _ rb _ (partC o) _ _ HZ.out
      have h4 : ((w5.alloc (.cells #[.int .u32 0, .int .u32 0, .bool false] 69)).setRow rb (partC o)).heap[ob + 1]? = some (.cells #[.pointer (some ⟨ob, 0, none⟩)] 62 (0, 0)) := by
        rw [setRow_other _ _ _ _ (by have := hT5.size; omega)]; exact heap_kept ga h5
      rw [hW6] at h1 h2 h3 h4
      exact ⟨h1, h2, h3, cell_of h4 0, by omega⟩
    have HG6 : Hid (Grew w W6) := HG2.out.trans HX.out.1.grew
    have HR1 := hidd hR1
    clear hR1 hG5 hT5 hrl HB hob hW4
    have HFull := hidd (fit_full p HFit.out)
    cases ok
    · have HErr : Hid (err = 1) := by
        rw [Hid, ← HE.out]; unfold makeErr; rw [if_pos HPe.out]
        have : placesP p = none := ((build_ok p HFull.out).none_iff gl0).1 HR1.out
        rw [this]
      go_wp2_with (first | (rw [hW6]) | (refine wpList_store_part (b := rb) rfl rfl rfl rfl HZ.out rfl rfl (part_one _) ?_) | (refine wpList_build_aut rfl rfl ?_) | (refine wpList_store_aut (b := rs) rfl rfl rfl rfl HX.out.2.1 zAut_size zAut_size zAut_one ?_))
      exact bodyPost_ret (results_aut2 (p := 2) (q := 3) rfl rfl rfl (setRow_heap W6 rs _ zAut _ _ HX.out.2.1) zAut_size) rfl ⟨zeroA, none, 0, none, 0, by rw [zeroA_B, HErr.out]; rfl, fun w'' _ _ => zeroA_at w'', setRow_grew HG6.out HRs.out _, fun _ => rfl, fun h => absurd (HErr.out.symm.trans h) (by decide)⟩
    · have HSo : Hid ((buildP p gl0).1 = some o) := HR1.out
      obtain ⟨npl, hnpl⟩ : ∃ npl, placesP p = some npl := by
        cases e : placesP p with
        | none => have := ((build_ok p HFull.out).none_iff gl0).2 e; rw [HSo.out] at this; cases this
        | some n => exact ⟨n, rfl⟩
      have HNp := hidd hnpl
      have hmu := glu_much HFull.out hnpl
      have cm : W6.cell? ⟨ob, 2, none⟩ = some (.bool (buildP p gl0).2.much) := by
        obtain ⟨bv, fv, hG, _⟩ := HX.out.1
        exact cell_of hG.blk 2
      obtain ⟨mu, hmu2⟩ : ∃ mu, (buildP p gl0).2.much = mu := ⟨_, rfl⟩
      rw [hmu2] at hmu cm
      have HMu := hidd hmu2
      have HMp := hidd hmu
      have cg := HX.out.2.2.2.1
      clear hmu hmu2 hnpl
      cases mu
      · have HErr : Hid (err = 0) := by
          rw [Hid, ← HE.out]; unfold makeErr; rw [if_pos HPe.out, HNp.out]
          dsimp only
          have : ¬ 12 < npl := by simpa using HMp.out.symm
          rw [if_neg this]
        have hin := (build_in p gl0 fits0).2.2 o HSo.out
        have hinf := build_inF p gl0 fits0 inF0
        have HSI := hidd (step_in HX.out.1 HX.out.2.2.1 HX.out.2.2.2.1 hin hinf (HTw.out.kept HG2.out))
        have HO : Hid (gluO p = o) := by unfold Hid gluO; rw [HSo.out]; rfl
        obtain ⟨g, hg⟩ : ∃ g, (buildP p gl0).2 = g := ⟨_, rfl⟩
        have HGg : Hid (gluG p = g) := hg
        rw [hg] at HSI HX
        have h12 : 2 ^ g.sets.length ≤ 4096 := pow_le12 HSI.out.fits.le
        have HD : Hid (∀ s, (s < 2 ^ g.sets.length ∨ s = begin_) → s < 4096 ∨ s = begin_) := fun s h => h.elim (fun h => Or.inl (by omega)) Or.inr
        have HEx := Explore_u32 begin_ 27 31 #[.pointer (some ⟨rb, 0, none⟩), .pointer (some ⟨ob + 1, 0, none⟩)] #[.pointer (some ⟨rb, 0, none⟩)] (stG g o) (enG o) (fun s => s < 2 ^ g.sets.length ∨ s = begin_) 4097 W6 (by kernel_rfl) (by kernel_rfl)
          (fun w1 x c gr hx hc => StepG_any (HSI.out.kept gr) x c hx hc) (fun w1 x gr hx => EndG_any (HSI.out.kept gr) x (HD.out x hx)) (Or.inr rfl) (fun x c hx hc => Or.inl (st_lt2 HSI.out.inf HSI.out.inn x c)) (fun ks h1 h2 => states_le h1 fun x hx => HD.out x (h2 x hx)) (by decide) (fun x hx => (HD.out x hx).elim (fun h => by omega) (fun h => by rw [h]; decide))
        rw [show ((begin_ : Nat) : Int) = 2147483648 from rfl] at HEx
        have HExx := hidd HEx
        clear HEx hin hinf h12 hg
        go_wp2_with (first | (rw [hW6]) | (refine wpList_store_part (b := rb) rfl rfl rfl rfl HZ.out rfl rfl (part_one _) ?_))
        refine HExx.out.mono ?_; rintro e w7 ⟨b, ks, rows, rfl, hE, hl, hR, g7⟩
        have HEx2 := hidd hE
        have HLe := hidd (Least_any (expA (enG o) begin_ ks rows) b w7 (hE.ok _) (Nat.le_trans hl (by decide)) hR)
        have HG7 := hidd (HG6.out.trans g7)
        have HR7 := hidd (heap_kept g7 HX.out.2.1)
        have HLn : Hid ((expA (enG o) begin_ ks rows).n ≤ 8192) := Nat.le_trans hl (by decide)
        clear hE hl hR g7 HExx
        go_wp2_with fail
        refine HLe.out.mono ?_; rintro e w8 ⟨B, nb, nbc, eb, ebc, rfl, hL3, hA3, g3⟩
        have HG8 := hidd (HG7.out.trans g3)
        have HR8 := hidd (heap_kept g3 HR7.out)
        have HA3 := hidd (And.intro hL3 hA3)
        have HRl := hidd (lt_of_block HR7.out)
        clear hL3 hA3 g3 HLe
        have HB3 := hidd (And.intro (autB_size B nb nbc eb ebc) (autB_one B nb nbc eb ebc))
        obtain ⟨bv, hbv⟩ : ∃ bv, autB B nb nbc eb ebc = bv := ⟨_, rfl⟩
        have HBv := hidd hbv
        rw [hbv] at HB3
        simp only [hbv]
        clear hbv
        go_wp2_with (refine wpList_store_aut (b := rs) rfl rfl rfl rfl HR8.out zAut_size HB3.out.1 HB3.out.2 ?_)
        refine bodyPost_ret (results_aut2 (p := 2) (q := 3) rfl rfl rfl (setRow_heap w8 rs _ bv _ _ HR8.out) HB3.out.1) rfl ⟨B, nb, nbc, eb, ebc, by rw [HBv.out, HErr.out]; rfl, ?_, setRow_grew HG8.out HRs.out _, fun h => absurd HErr.out h, fun _ => ⟨_, HLn.out, fun l => ?_, HA3.out.1⟩⟩
        · have hrl := HRl.out
          have hrs := HRs.out
          exact HA3.out.2.set (by omega) hrl _
        · rw [HEx2.out.lang, goS_goG, ← HLL.out]
          unfold autL
          rw [HO.out, HGg.out]
      · have HErr : Hid (err = 4) := by
          rw [Hid, ← HE.out]; unfold makeErr; rw [if_pos HPe.out, HNp.out]
          dsimp only
          have : 12 < npl := by simpa using HMp.out.symm
          rw [if_pos this]
        go_wp2_with (first | (rw [hW6]) | (refine wpList_store_part (b := rb) rfl rfl rfl rfl HZ.out rfl rfl (part_one _) ?_) | (refine wpList_build_aut rfl rfl ?_) | (refine wpList_store_aut (b := rs) rfl rfl rfl rfl HX.out.2.1 zAut_size zAut_size zAut_one ?_))
        exact bodyPost_ret (results_aut2 (p := 2) (q := 3) rfl rfl rfl (setRow_heap W6 rs _ zAut _ _ HX.out.2.1) zAut_size) rfl ⟨zeroA, none, 0, none, 0, by rw [zeroA_B, HErr.out]; rfl, fun w'' _ _ => zeroA_at w'', setRow_grew HG6.out HRs.out _, fun _ => rfl, fun h => absurd (HErr.out.symm.trans h) (by decide)⟩
  · have k1 : (perr != 0) = true := by simpa using h0
    have HErr : Hid (err = perr) := by rw [Hid, ← HE.out]; unfold makeErr; rw [if_neg (by rw [HPe.out]; exact h0)]; exact HPe.out
    have HE0 := hidd h0
    clear h0
    go_wp2_with (first | (refine wpList_build_aut rfl rfl ?_) | (refine wpList_store_aut (b := rs) rfl rfl rfl rfl HR2.out zAut_size zAut_size zAut_one ?_))
    exact bodyPost_ret (results_aut2 (p := 2) (q := 3) rfl rfl rfl (setRow_heap w2 rs _ zAut _ _ HR2.out) zAut_size) rfl ⟨zeroA, none, 0, none, 0, by rw [zeroA_B, HErr.out]; rfl, fun w'' _ _ => zeroA_at w'', setRow_grew HG2.out HRs.out _, fun _ => rfl, fun h => absurd (HErr.out.symm.trans h) HE0.out⟩
end Go.Proofs.YtkkdpafkafjfgaaDoor
