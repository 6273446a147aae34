/- AutoLeast's apart: two states of a canonical automaton are told apart. -/
import Derived.Test.YtkkdpafkafjfgaaDoorAlLwK
import Derived.Test.YtkkdpafkafjfgaaDoorAlPAuCc
import Derived.Deep.DeepCutAuto
namespace Go.Proofs.YtkkdpafkafjfgaaDoor
open Go.RowKit RR
set_option linter.unusedVariables false
set_option linter.unusedSimpArgs false
set_option maxRecDepth 100000
def lenS : Value → Nat | .slice _ n _ => n | _ => 0
theorem no_slot {shs : List Sh} {B : Nat} (h : ∀ s ∈ shs, (∃ v, s = .val v) ∨ s = .fact fun _ _ => True) : ∀ i v w w', LowRl B w w' → shF shs i v w → shF shs i v w' := by
  intro i v w w' _ hs
  unfold shF at hs ⊢
  rw [List.getD_eq_getElem?_getD] at hs ⊢
  cases hg : shs[i]? with
  | none => trivial
  | some s =>
    rw [hg] at hs
    rcases h s (List.mem_of_getElem? hg) with ⟨u, rfl⟩ | rfl
    · exact hs
    · trivial
theorem clsN_le (C : RA) : clsN C ≤ 256 := by
  have := uniq_le ((List.range 256).map (colA C))
  rw [uniq_fsts, List.length_map, List.length_map, List.length_range] at this
  exact this
theorem idx_bools {b o n c i : Nat} (h : i < n) (w : World) : (Instr.indexAt 28 (.slice (some ⟨b, o, none⟩) n c) (.int .i64 (i : Nat))).run Tryd.prog w = .ok (.pointer (some ⟨b, o + i, none⟩)) w := by
  have := index_sl (sz := 1) Tryd.underlying28 (by kernel_rfl) (fun w => size_of (by kernel_rfl) w) (b := b) (o := o) (c := c) h w
  rwa [Nat.mul_one] at this
theorem idx_rows {b o n c i : Nat} (h : i < n) (w : World) : (Instr.indexAt 27 (.slice (some ⟨b, o, none⟩) n c) (.int .i64 (i : Nat))).run Tryd.prog w = .ok (.pointer (some ⟨b, o + i, none⟩)) w := by
  have := index_sl (sz := 1) Tryd.underlying27 (by kernel_rfl) (fun w => size_of (by kernel_rfl) w) (b := b) (o := o) (c := c) h w
  rwa [Nat.mul_one] at this
theorem idx_ints {b o n c i : Nat} (h : i < n) (w : World) : (Instr.indexAt 37 (.slice (some ⟨b, o, none⟩) n c) (.int .i64 (i : Nat))).run Tryd.prog w = .ok (.pointer (some ⟨b, o + i, none⟩)) w := by
  have := index_sl (sz := 1) Tryd.underlying37 (by kernel_rfl) (fun w => size_of (by kernel_rfl) w) (b := b) (o := o) (c := c) h w
  rwa [Nat.mul_one] at this
theorem look_old {w : World} {mb : Nat} {L : List (Nat × Nat)} (h : KMap encP w mb (onesL L)) {q1 q2 : Nat} (hq : (q1, q2) ∈ L) : (Instr.lookup 96 (.map (some mb)) (.agg #[.int .i64 (q1 : Nat), .int .i64 (q2 : Nat)]) false).run Tryd.prog w = .ok (.int .i64 1) w :=
  h.lookS keyP (t := 96) Tryd.underlying96 (x := (q1, q2)) (v := .int .i64 1) (List.mem_map.2 ⟨_, hq, rfl⟩) false
theorem look_new {w : World} {mb : Nat} {L : List (Nat × Nat)} (h : KMap encP w mb (onesL L)) {q1 q2 : Nat} (hq : (q1, q2) ∉ L) (h1 : q1 ≤ 9223372036854775807) (h2 : q2 ≤ 9223372036854775807) : (Instr.lookup 96 (.map (some mb)) (.agg #[.int .i64 (q1 : Nat), .int .i64 (q2 : Nat)]) false).run Tryd.prog w = .ok (.int .i64 0) w :=
  h.lookN keyP (t := 96) Tryd.underlying96 (run_zero (t := 3) (z := .int .i64 0) (by kernel_rfl) w) (x := (q1, q2)) ⟨h1, h2⟩ (by rw [onesL_fst]; exact hq) false
set_option maxHeartbeats 4000000 in
theorem Apart_any (C : RA) (hC : Can C) (h8 : C.n ≤ 8192) (na ea : Option Addr) (nc' ec : Nat) (x y : Nat) (hx : x < C.n) (hy : y < C.n) (hne : x ≠ y) (w : World) (h : AutAt w (autOf C) na ea) :
    Calls Tryd.prog 15 #[.agg (autB (autOf C) na nc' ea ec), .int .i64 (x : Nat), .int .i64 (y : Nat)] w fun e w' => e = .returned (.bool true) ∧ Grew w w' := by
  have hG := (Grew.refl w).alloc (.cells (autB (autOf C) na nc' ea ec) 30)
  obtain ⟨nb, no, eb, eo, rb, ro, rc, hA⟩ := canAt_of ⟨box_new w (autOf C) na nc' ea ec 30, h.kept hG⟩ hC.ok
  have HC := hidd hC
  have HXY := hidd (And.intro hx (And.intro hy hne))
  obtain ⟨n, hn⟩ : ∃ n, C.n = n := ⟨_, rfl⟩
  obtain ⟨m, hm⟩ : ∃ m, clsN C = m := ⟨_, rfl⟩
  have HN := hidd (And.intro hn hm)
  have HSz := hidd (autB_size (autOf C) na nc' ea ec)
  generalize autB (autOf C) na nc' ea ec = av at hA hG HSz ⊢
  obtain ⟨W, hW⟩ : ∃ W, w.alloc (.cells av 30) = W := ⟨_, rfl⟩
  have hWs : W.heap.size = w.heap.size + 1 := by rw [← hW, World.size_alloc]
  rw [hW] at hA hG
  have HA := hidd hA
  have HG := hidd hG
  obtain ⟨b, hb⟩ : ∃ b, w.heap.size = b := ⟨_, rfl⟩
  rw [hb] at HA hWs
  have hn8 : n ≤ 8192 := by rw [← hn]; exact h8
  have hxn : x < n := by rw [← hn]; exact hx
  have hyn : y < n := by rw [← hn]; exact hy
  obtain ⟨w2, hput, hK2, hg2, hs2⟩ := (KMap.made encP W).put keyP (t := 96) Tryd.underlying96 (x := (x, y)) ⟨by show x ≤ _; omega, by show y ≤ _; omega⟩ (by simp) (.int .i64 1)
  have hput2 : (Instr.mapUpdate 96 (.map (some W.heap.size)) (.agg #[.int .i64 (x : Nat), .int .i64 (y : Nat)]) (.int .i64 1)).run Tryd.prog (W.alloc (.map #[] 0)) = .ok () w2 := hput
  rw [hWs] at hput2 hK2
  have hs3 : w2.heap.size = b + 2 := by rw [hs2, World.size_alloc, hWs]
  have hmm := run_makeMap (P := Tryd.prog) 96 W
  rw [hWs] at hmm
  have HS0 : Hid (Aps W (w2.alloc (.cells #[.int .i64 (x : Nat), .int .i64 (y : Nat)] 95)) (b + 1) [(x, y)] 0 (.slice (some ⟨b + 2, 0, none⟩) 1 1) 1) := by
    have gr : Grew W w2 := grew_grown ((Grew.refl W).alloc _) hg2 fun b e => by injection e with e; omega
    have g3 := (Grew.refl w2).alloc (.cells #[.int .i64 (x : Nat), .int .i64 (y : Nat)] 95)
    have hq := QRow.made (base := b + 1 + 1) (e := 95) (size := 2) w2 #[.int .i64 (x : Nat), .int .i64 (y : Nat)] 1 (by omega) (by unfold maxLen; omega) rfl
    rw [hs3] at hq
    refine ⟨gr.trans g3, hK2.kept g3, hq, fun k hk => ?_, rfl, by omega⟩
    cases hk
    rw [World.size_alloc, hs3]
    exact ⟨by show b + 1 + 1 ≤ b + 2; omega, by show b + 2 < b + 2 + 1; omega⟩
  have HP0 : Hid (Apt C x y [(x, y)] 0 0) := Apt.start hx hy
  have hz := run_zero (t := 95) (z := .agg #[.int .i64 0, .int .i64 0]) (by kernel_rfl)
  clear hput hK2 hg2 hs2 h hC hx hy hne hA hG h8 hn hm
  go_enter Tryd.func15, Tryd.ntmps15
  go_wp2_with (rw [hW])
  clear hput2 hmm
  generalize (w2.alloc (.cells #[.int .i64 (x : Nat), .int .i64 (y : Nat)] 95)) = W2 at HS0 ⊢
  obtain ⟨mb, hmb⟩ : ∃ mb, b + 1 = mb := ⟨_, rfl⟩
  have hmb2 : b + 2 = mb + 1 := by omega
  rw [hmb, hmb2] at HS0 ⊢
  obtain ⟨hdn, hdm⟩ := HN.out
  have hNP : ∀ {L : List (Nat × Nat)} {i k : Nat}, Apt C x y L i k → L.length ≤ n * n := fun h => pairs_le h.dis fun p hp => by rw [← hdn]; exact h.dom p hp
  have HNP : Hid (∀ (L : List (Nat × Nat)) (i k : Nat), Apt C x y L i k → L.length ≤ n * n) := fun L i k h => hNP h
  have HMb : Hid (b + 1 = mb) := hmb
  have hm256 : m ≤ 256 := by rw [← hdm]; exact clsN_le C
  have hnn : n * n ≤ 67108864 := Nat.le_trans (Nat.mul_le_mul hn8 hn8) (by decide)
  clear hdn hdm hNP hmb hmb2 hs3 hW hWs hxn hyn
  go_loopw [8] (fun s8 wr => ∃ i k qa qc, s8 = .slice qa k qc ∧ Hid (∃ L, Aps W wr mb L i (.slice qa k qc) k ∧ Apt C x y L i 0)) (fun s8 wr => n * n - (mapN wr mb - lenS s8))
  case atStart => exact ⟨0, 1, _, _, rfl, _, HS0.out, HP0.out⟩
  case round =>
    obtain ⟨i, k, qa, qc, rfl, KS⟩ := hrel
    clear HS0 HP0
    obtain ⟨L, hS, hP⟩ := KS.out
    have HMe : Hid (mapN wr mb = L.length) := by
      rw [hS.map.mapN]; unfold onesL; rw [List.length_map]; rfl
    have hLe := HNP.out _ _ _ hP
    have hlen := hS.len
    by_cases hk : 0 < k
    · obtain ⟨k, rfl⟩ : ∃ k', k = k' + 1 := ⟨k - 1, by omega⟩
      have kl : decide ((0 : Int) < ((k + 1 : Nat) : Int)) = true := decide_eq_true (by omega)
      have hil : i < L.length := by omega
      obtain ⟨⟨p1, p2⟩, hp⟩ : ∃ p, L[i]? = some p := ⟨_, List.getElem?_eq_getElem hil⟩
      have hpe : L[i]'hil = (p1, p2) := by rw [List.getElem?_eq_getElem hil] at hp; exact Option.some.inj hp
      obtain ⟨qb, qo, qc', e, hqb1, hqb2, _, _, hqc⟩ := hS.row.at (by omega)
      cases e
      have hh := qP_head hil
      rw [hpe] at hh
      have c0 := hqc 0 _ (by omega) hh.1
      have c1 := hqc 1 _ (by omega) hh.2
      rw [Nat.add_zero] at c0
      have hd := hP.dom _ (List.mem_of_getElem? hp)
      rw [HN.out.1] at hd
      obtain ⟨hp1, hp2⟩ := hd
      dsimp only at hp1 hp2
      have HP := hidd hP
      have HLp := hidd hp
      have HS := hidd hS
      have HLen := hidd hlen
      have HLe := hidd hLe
      have HOwn : Hid (∀ k, (Value.slice (some ⟨qb, qo, none⟩) (k + 1) qc).ownBlock = some k → k < wr.heap.size) := fun k hk => (hS.own k hk).2
      clear KS hS hP hh hqc hp hpe hil hlen hLe hqb1 hqb2 hk
      go_wp2_with fail
      clear c0 c1 kl
      obtain ⟨g, hg⟩ : ∃ g, wr.heap.size = g := ⟨_, rfl⟩
      have hgr := (Grew.refl wr).alloc (.cells #[.int .i64 (p1 : Nat), .int .i64 (p2 : Nat)] 95)
      have hgb := heap_alloc_new wr (.cells #[.int .i64 (p1 : Nat), .int .i64 (p2 : Nat)] 95)
      generalize wr.alloc (.cells #[.int .i64 (p1 : Nat), .int .i64 (p2 : Nat)] 95) = w3 at hgr hgb ⊢
      have HMg0 : Hid (mb < g) := by rw [Hid, ← hg]; exact HS.out.map.lt
      rw [hg] at hgb HOwn ⊢
      have hA3 := HA.out.kept (HS.out.grew.trans hgr)
      have d1 := hA3.en
      rw [HN.out.1] at d1
      have d2 := hA3.ends p1 (by rw [HN.out.1]; exact hp1)
      have d3 := hA3.ends p2 (by rw [HN.out.1]; exact hp2)
      obtain ⟨⟨d4, d5⟩, _⟩ := two_cells hgb
      have HA3 := hidd hA3
      have HS3 := hidd (HS.out.kept hgr)
      have HGb := hidd hgb
      obtain ⟨e1, he1⟩ : ∃ e, C.en p1 = e := ⟨_, rfl⟩
      obtain ⟨e2, he2⟩ : ∃ e, C.en p2 = e := ⟨_, rfl⟩
      rw [he1] at d2
      rw [he2] at d3
      have HE := hidd (And.intro he1 he2)
      clear hA3 hgb hgr HS he1 he2
      refine frameR [29, 30, 31, 32, 33, 34, 35, 36, 37, 38, 39, 40, 41] mixed drew_grew grew_tr
        [.val (.pointer (some ⟨b, 257, none⟩)), .val (.slice (some ⟨eb, eo, none⟩) n ec), .val (.pointer (some ⟨g, 0, none⟩)), .val (.int .i64 (p1 : Nat)), .val (.pointer (some ⟨eb, eo + p1, none⟩)), .val (.bool e1), .val (.pointer (some ⟨b, 257, none⟩)), .val (.slice (some ⟨eb, eo, none⟩) n ec), .val (.pointer (some ⟨g, 1, none⟩)), .val (.int .i64 (p2 : Nat)), .val (.pointer (some ⟨eb, eo + p2, none⟩)), .val (.bool e2), .val (.bool (e1 != e2))]
        (vals_mono (by simp)) (by kernel_rfl) (by kernel_rfl)
        ⟨sg_field (field_aut2 b) (by kernel_rfl) rfl rfl, sg_load (p := ⟨b, 257, none⟩) (fun wx g => load_one agg_boolsl (g.keeps d1)) (by kernel_rfl) rfl rfl,
         sg_field (field_pair0 g) (by kernel_rfl) rfl rfl, sg_load (p := ⟨g, 0, none⟩) (fun wx g => load_one agg_int (g.keeps d4)) (by kernel_rfl) rfl rfl,
         sg_index (idx_bools hp1) (by kernel_rfl) rfl rfl rfl, sg_load (p := ⟨eb, eo + p1, none⟩) (fun wx g => load_one agg_bool (g.keeps d2)) (by kernel_rfl) rfl rfl,
         sg_field (field_aut2 b) (by kernel_rfl) rfl rfl, sg_load (p := ⟨b, 257, none⟩) (fun wx g => load_one agg_boolsl (g.keeps d1)) (by kernel_rfl) rfl rfl,
         sg_field (field_pair1 g) (by kernel_rfl) rfl rfl, sg_load (p := ⟨g, 1, none⟩) (fun wx g => load_one agg_int (g.keeps d5)) (by kernel_rfl) rfl rfl,
         sg_index (idx_bools hp2) (by kernel_rfl) rfl rfl rfl, sg_load (p := ⟨eb, eo + p2, none⟩) (fun wx g => load_one agg_bool (g.keeps d3)) (by kernel_rfl) rfl rfl,
         st_num Grew.refl (bool_ne e1 e2) (by kernel_rfl) rfl rfl rfl, trivial⟩ ?_
      intro xs w5 g5 hts
      have e41 : xs 41 = .bool (e1 != e2) := hts 12 _ 41 rfl rfl
      have HA5 := hidd (HA3.out.kept g5)
      have HS5 := hidd (HS3.out.kept g5)
      have HG5 := hidd (heap_kept g5 HGb.out)
      simp only [List.foldl_cons, List.foldl_nil, List.setIfInBounds_toArray, List.set_cons_succ, List.set_cons_zero, e41]
      clear hts g5 e41 d1 d2 d3 d4 d5 HA3 HS3 HGb
      by_cases hee : e1 = e2
      rotate_left
      · have e0 : (e1 != e2) = true := by simpa using hee
        rw [e0]
        go_wp2_with fail
        go_ret
        exact ⟨rfl, HG.out.trans HS5.out.grew⟩
      have HEe : Hid (C.en p1 = C.en p2) := by rw [Hid, HE.out.1, HE.out.2, hee]
      have e0 : (e1 != e2) = false := by simpa using hee
      rw [e0]
      clear hee e0 HE
      have k1 := HA5.out.nx
      rw [HN.out.1] at k1
      obtain ⟨⟨k2, _⟩, _⟩ := two_cells HG5.out
      have k3 := HA5.out.row p1 (by rw [HN.out.1]; exact hp1)
      rw [HN.out.2] at k3
      go_wp2_with fail
      clear k1 k2 k3
      have HT0 : Hid (Aps W w5 mb L i (.slice (some ⟨qb, qo, none⟩) (k + 1) qc) (k + 1) ∧ Apt C x y L i 0 ∧ L[i]? = some (p1, p2) ∧ w5.heap[g]? = some (.cells #[.int .i64 (p1 : Nat), .int .i64 (p2 : Nat)] 95 (0, 0)) ∧ (Value.slice (some ⟨qb, qo, none⟩) (k + 1) qc).ownBlock ≠ some g) :=
        ⟨HS5.out, HP.out, HLp.out, HG5.out, fun e => Nat.lt_irrefl _ (HOwn.out g e)⟩
      have HMg : Hid (mb < g) := HMg0.out
      clear HA5 HS5 HG5 HP HLp HOwn
      obtain ⟨w0, rfl⟩ : ∃ w0, w0 = wr := ⟨_, rfl⟩
      go_loopw [8, 49] (fun s8 s49 wr => ∃ c k2 qa qc, s49 = .int .i64 (c : Nat) ∧ c ≤ m ∧ s8 = .slice qa (k2 + 1) qc ∧ Hid (∃ L, Aps W wr mb L i (.slice qa (k2 + 1) qc) (k2 + 1) ∧ Apt C x y L i c ∧ L[i]? = some (p1, p2) ∧ wr.heap[g]? = some (.cells #[.int .i64 (p1 : Nat), .int .i64 (p2 : Nat)] 95 (0, 0)) ∧ (Value.slice qa (k2 + 1) qc).ownBlock ≠ some g)) (fun _ s49 _ => m - (intOf s49).toNat)
      case atStart => exact ⟨0, k, _, _, rfl, by omega, rfl, L, HT0.out⟩
      case round =>
        obtain ⟨c, k2, qa, qc2, rfl, hc, rfl, JS⟩ := hrel
        clear HT0
        obtain ⟨L2, hS, hP, hp, hgb, hno⟩ := JS.out
        by_cases hcl : c < m
        · have kc : decide ((c : Int) < (m : Int)) = true := decide_eq_true (by omega)
          have hd := hP.dom _ (List.mem_of_getElem? hp)
          rw [HN.out.1] at hd
          obtain ⟨hp1, hp2⟩ := hd
          dsimp only at hp1 hp2
          obtain ⟨q1, hq1⟩ : ∃ q, C.nx p1 (fstC C c) = q := ⟨_, rfl⟩
          obtain ⟨q2, hq2⟩ : ∃ q, C.nx p2 (fstC C c) = q := ⟨_, rfl⟩
          have hcC : c < clsN C := by rw [HN.out.2]; exact hcl
          have hq1n : q1 < n := by rw [← hq1, ← HN.out.1]; exact HC.out.ok.nx _ _ (by rw [HN.out.1]; exact hp1) (fstC_lt C hcC)
          have hq2n : q2 < n := by rw [← hq2, ← HN.out.1]; exact HC.out.ok.nx _ _ (by rw [HN.out.1]; exact hp2) (fstC_lt C hcC)
          have HP := hidd hP
          have HLp := hidd hp
          have HS := hidd hS
          have HGb := hidd hgb
          have HNo := hidd hno
          have HQ := hidd (And.intro hq1 hq2)
          have HcC := hidd hcC
          clear JS hS hP hp hgb hno hq1 hq2 hcC
          go_upto_region 11 with fail
          have gd := drew_grew wr
          have hA := HA.out.kept (HS.out.grew.trans gd)
          have d1 := hA.nx
          rw [HN.out.1] at d1
          have d2 := hA.row p1 (by rw [HN.out.1]; exact hp1)
          have d3 := hA.row p2 (by rw [HN.out.1]; exact hp2)
          rw [HN.out.2] at d2 d3
          have d4 := hA.cell p1 c (by rw [HN.out.1]; exact hp1) HcC.out
          have d5 := hA.cell p2 c (by rw [HN.out.1]; exact hp2) HcC.out
          rw [HQ.out.1] at d4
          rw [HQ.out.2] at d5
          obtain ⟨⟨d6, d7⟩, _⟩ := two_cells (heap_kept gd HGb.out)
          refine RR.region_frame (J := BoxJ wr.drew 95 #[.int .i64 0, .int .i64 0] #[.int .i64 (q1 : Nat), .int .i64 (q2 : Nat)] 19 20 11) (Rl := LowRl wr.drew.heap.size) [52, 53, 54, 55, 56, 57, 58, 59, 60, 61, 62, 63, 64, 65, 66, 67, 68, 69, 70, 11] mixed (LowRl.drew _) LowRl.trans
            [.val (.pointer (some ⟨b, 256, none⟩)), .val (.slice (some ⟨nb, no, none⟩) n nc'), .val (.pointer (some ⟨g, 0, none⟩)), .val (.int .i64 (p1 : Nat)), .val (.pointer (some ⟨nb, no + p1, none⟩)), .val (.slice (some ⟨rb p1, ro p1, none⟩) m (rc p1)), .val (.int .i64 (c : Nat)), .val (.pointer (some ⟨rb p1, ro p1 + c, none⟩)), .val (.int .i64 (q1 : Nat)),
             .val (.pointer (some ⟨b, 256, none⟩)), .val (.slice (some ⟨nb, no, none⟩) n nc'), .val (.pointer (some ⟨g, 1, none⟩)), .val (.int .i64 (p2 : Nat)), .val (.pointer (some ⟨nb, no + p2, none⟩)), .val (.slice (some ⟨rb p2, ro p2, none⟩) m (rc p2)), .val (.int .i64 (c : Nat)), .val (.pointer (some ⟨rb p2, ro p2 + c, none⟩)), .val (.int .i64 (q2 : Nat)), .val (.agg #[.int .i64 (q1 : Nat), .int .i64 (q2 : Nat)]), .fact fun _ _ => True, .fact fun _ _ => True]
            (boxj_start _ _) (no_slot (by simp)) (by kernel_rfl) (by kernel_rfl)
            ⟨bj_field (field_aut1 b) (by decide) (by decide) (by decide) (by kernel_rfl) rfl rfl, bj_load (p := ⟨b, 256, none⟩) (fun wx g => load_one agg_rowsl (g.keeps d1)) (by decide) (by decide) (by decide) (by kernel_rfl) rfl rfl,
             bj_field (field_pair0 g) (by decide) (by decide) (by decide) (by kernel_rfl) rfl rfl, bj_load (p := ⟨g, 0, none⟩) (fun wx g => load_one agg_int (g.keeps d6)) (by decide) (by decide) (by decide) (by kernel_rfl) rfl rfl,
             bj_index (idx_rows hp1) (by decide) (by decide) (by decide) (by kernel_rfl) rfl rfl rfl, bj_load (p := ⟨nb, no + p1, none⟩) (fun wx g => load_one agg_ints (g.keeps d2)) (by decide) (by decide) (by decide) (by kernel_rfl) rfl rfl,
             bj_move (by decide) (by decide) (by decide) (by kernel_rfl) rfl rfl, bj_index (idx_ints hcl) (by decide) (by decide) (by decide) (by kernel_rfl) rfl rfl rfl, bj_load (p := ⟨rb p1, ro p1 + c, none⟩) (fun wx g => load_one agg_int (g.keeps d4)) (by decide) (by decide) (by decide) (by kernel_rfl) rfl rfl,
             bj_field (field_aut1 b) (by decide) (by decide) (by decide) (by kernel_rfl) rfl rfl, bj_load (p := ⟨b, 256, none⟩) (fun wx g => load_one agg_rowsl (g.keeps d1)) (by decide) (by decide) (by decide) (by kernel_rfl) rfl rfl,
             bj_field (field_pair1 g) (by decide) (by decide) (by decide) (by kernel_rfl) rfl rfl, bj_load (p := ⟨g, 1, none⟩) (fun wx g => load_one agg_int (g.keeps d7)) (by decide) (by decide) (by decide) (by kernel_rfl) rfl rfl,
             bj_index (idx_rows hp2) (by decide) (by decide) (by decide) (by kernel_rfl) rfl rfl rfl, bj_load (p := ⟨nb, no + p2, none⟩) (fun wx g => load_one agg_ints (g.keeps d3)) (by decide) (by decide) (by decide) (by kernel_rfl) rfl rfl,
             bj_move (by decide) (by decide) (by decide) (by kernel_rfl) rfl rfl, bj_index (idx_ints hcl) (by decide) (by decide) (by decide) (by kernel_rfl) rfl rfl rfl, bj_load (p := ⟨rb p2, ro p2 + c, none⟩) (fun wx g => load_one agg_int (g.keeps d5)) (by decide) (by decide) (by decide) (by kernel_rfl) rfl rfl,
             bj_pure (by decide) (by decide) (by decide) ?bd (by kernel_rfl) rfl,
             bj_alloc (by exact (show (19 : Nat) < 21 by decide)) (by exact (show (11 : Nat) < 89 by decide)) (by decide) ?al (by kernel_rfl) rfl,
             bj_store (by exact (show (20 : Nat) < 21 by decide)) (by decide) (fun _ => rfl) (by decide) (fun _ => trivial) ?st (by kernel_rfl) rfl rfl, trivial⟩ ?_
          case bd =>
            intro a1 wx hgw E
            have h1 : a1.eval (.tmp 60) = .int .i64 (q1 : Nat) := E.opv rfl
            have h2 : a1.eval (.tmp 69) = .int .i64 (q2 : Nat) := E.opv rfl
            unfold execOp
            simp only [List.map_toArray, List.map_cons, List.map_nil, h1, h2]
            have hbt : Tryd.prog.built 95 [(0, .int .i64 (q1 : Nat)), (1, .int .i64 (q2 : Nat))] = some #[.int .i64 (q1 : Nat), .int .i64 (q2 : Nat)] := by kernel_rfl
            simp only [Sem.run_bind, run_build wx _ _ _ hbt, Result.andThen_ok]
            rfl
          case al =>
            intro ev wx
            unfold execOp
            simp [Instr.alloc, Sem.run_bind, hz wx, newVar]
            try rfl
          case st =>
            intro wx hbx
            simp only [Instr.storeAt, Instr.sureAddr, Sem.run_bind, Sem.run_pure, Result.andThen_ok]
            exact run_storeVar_row _ _ _ _ _ _ hbx (by kernel_rfl) rfl (by simp [Value.oneCell'])
          intro xs listed a1 w8 hall hxs hJ hR _
          obtain ⟨h11, rfl⟩ := hJ.p2 (hall 20 (by exact (show (20 : Nat) < 21 by decide)))
          have e11 : xs 11 = .pointer (some ⟨wr.heap.size, 0, none⟩) := (hxs 11).symm.trans h11
          have hgB : Grew wr ((wr.drew.alloc (.cells #[.int .i64 0, .int .i64 0] 95)).setRow wr.drew.heap.size #[.int .i64 (q1 : Nat), .int .i64 (q2 : Nat)]) := gd.trans hJ.grew
          have hbB := setRow_heap _ wr.drew.heap.size _ #[.int .i64 (q1 : Nat), .int .i64 (q2 : Nat)] _ _ (heap_alloc_new wr.drew (.cells #[.int .i64 0, .int .i64 0] 95))
          simp only [List.foldl_cons, List.foldl_nil, List.setIfInBounds_toArray, List.set_cons_succ, List.set_cons_zero, e11]
          clear hall hxs hJ hR h11 e11 d1 d2 d3 d4 d5 d6 d7 hA gd
          generalize (wr.drew.alloc (.cells #[.int .i64 0, .int .i64 0] 95)).setRow wr.drew.heap.size #[.int .i64 (q1 : Nat), .int .i64 (q2 : Nat)] = w6 at hgB hbB ⊢
          obtain ⟨B, hB⟩ : ∃ B, wr.heap.size = B := ⟨_, rfl⟩
          have hbB : w6.heap[B]? = some (.cells #[.int .i64 (q1 : Nat), .int .i64 (q2 : Nat)] 95 (0, 0)) := by rw [← hB]; exact hbB
          rw [hB]
          have HS6 := hidd (HS.out.kept hgB)
          have HG6 := hidd (heap_kept hgB HGb.out)
          have HBb := hidd hbB
          have HBm : Hid (mb < B ∧ (Value.slice qa (k2 + 1) qc2).ownBlock ≠ some B) := by
            rw [Hid, ← hB]; exact ⟨HS.out.map.lt, fun e => Nat.lt_irrefl _ (HS.out.own _ e).2⟩
          obtain ⟨⟨b0, b1⟩, _⟩ := two_cells hbB
          clear hgB hbB hB HS HGb
          by_cases hq : (q1, q2) ∈ L2
          · have hlook := look_old HS6.out.map hq
            have HPn := hidd (HP.out.old HLp.out (.inl (by dsimp only; rw [HQ.out.1, HQ.out.2]; exact hq)))
            clear hq
            go_wp2_with fail
            exact ⟨⟨c + 1, k2, _, _, by simp, by omega, rfl, L2, HS6.out, HPn.out, HLp.out, HG6.out, HNo.out⟩, by simp [intOf]; omega⟩
          · have hlook := look_new HS6.out.map hq (by omega) (by omega)
            by_cases hqe : q1 = q2
            · have HPn := hidd (HP.out.old HLp.out (.inr (by dsimp only; rw [HQ.out.1, HQ.out.2]; exact hqe)))
              subst hqe
              have kq : ((q1 : Int) != (q1 : Int)) = false := by simp
              clear hq
              go_wp2_with fail
              exact ⟨⟨c + 1, k2, _, _, by simp, by omega, rfl, L2, HS6.out, HPn.out, HLp.out, HG6.out, HNo.out⟩, by simp [intOf]; omega⟩
            · have kq : ((q1 : Int) != (q2 : Int)) = true := by simp; omega
              have hPn := HP.out.new HC.out.ok HcC.out HLp.out (by dsimp only; rw [HQ.out.1, HQ.out.2]; exact hq)
              dsimp only at hPn
              rw [HQ.out.1, HQ.out.2] at hPn
              have HPn := hidd hPn
              have hln := HNP.out _ _ _ hPn
              rw [List.length_append] at hln
              have hlen := HS6.out.len
              simp only [List.length_cons, List.length_nil] at hln
              obtain ⟨w7, hput, hs7, hk7, v', w9, hap, ⟨va, vc, rfl⟩, hS9, hk9, hn9⟩ := HS6.out.add hq ⟨by show q1 ≤ _; omega, by show q2 ≤ _; omega⟩ (by omega) 97
              have hput2 : (Instr.mapUpdate 96 (.map (some mb)) (.agg #[.int .i64 (q1 : Nat), .int .i64 (q2 : Nat)]) (.int .i64 1)).run Tryd.prog w6 = .ok () w7 := hput
              have hg6 := (Array.getElem?_eq_some_iff.1 HG6.out).1
              have hb7 : w7.heap[B]? = some (.cells #[.int .i64 (q1 : Nat), .int .i64 (q2 : Nat)] 95 (0, 0)) := (hk7 B (Array.getElem?_eq_some_iff.1 HBb.out).1 (by have := HBm.out.1; omega)).trans HBb.out
              obtain ⟨⟨b2, b3⟩, _⟩ := two_cells hb7
              rw [← hs7] at hap
              have HSn := hidd hS9
              have HGn : Hid (w9.heap[g]? = some (.cells #[.int .i64 (p1 : Nat), .int .i64 (p2 : Nat)] 95 (0, 0))) := (hk9 g hg6 (by have := HMg.out; omega) HNo.out).trans HG6.out
              have HNn : Hid ((Value.slice va (k2 + 1 + 1) vc).ownBlock ≠ some g) := fun e => by
                rcases hn9 g e with h | h
                · exact HNo.out h
                · omega
              have HLn : Hid ((L2 ++ [(q1, q2)])[i]? = some (p1, p2)) := by rw [Hid, List.getElem?_append_left (List.getElem?_eq_some_iff.1 HLp.out).1]; exact HLp.out
              clear hq hput hs7 hk7 hS9 hk9 hn9 hg6 hb7 hPn hln hlen
              go_wp2_with (first | (at_builtin; refine wpList_append_eq rfl rfl rfl rfl hap ?_))
              exact ⟨⟨c + 1, k2 + 1, _, _, by simp, by omega, rfl, _, HSn.out, HPn.out, HLn.out, HGn.out, HNn.out⟩, by simp [intOf]; omega⟩
        · obtain rfl : c = m := by omega
          have kc : decide ((c : Int) < (c : Int)) = false := decide_eq_false (by omega)
          obtain ⟨a, cc, hsl, hcut⟩ := hS.cut
          have hPc : Apt C x y L2 i (clsN C) := by rw [HN.out.2]; exact hP
          have HCut := hidd hcut
          have HPn := hidd (hPc.next hp HEe.out)
          have HM2 : Hid (mapN wr mb = k2 + 1 + i) := by
            rw [hS.map.mapN]; unfold onesL; rw [List.length_map, ← hS.len]; rfl
          have hle2 := HNP.out _ _ _ hP
          have hlen2 := hS.len
          clear JS hS hP hp hgb hno hcut hPc
          go_wp2_with fail
          refine ⟨⟨i + 1, k2, a, cc, rfl, L2, HCut.out, HPn.out⟩, ?_⟩
          show n * n - (mapN wr mb - k2) < n * n - (mapN w0 mb - (k + 1))
          have := HLen.out
          have := HLe.out
          rw [HM2.out, HMe.out]
          omega
    · obtain rfl : k = 0 := by omega
      exact absurd (hP.end HC.out (by omega)) HXY.out.2.2
end Go.Proofs.YtkkdpafkafjfgaaDoor
