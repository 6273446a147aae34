/- The document's Smallest. -/
import Derived.Test.YtkkdpafkafjfgaaDoorMkPSlG
import Derived.Test.YtkkdpafkafjfgaaDoorMkPScInv
import Derived.Deep.DeepCutAuto
namespace Go.Proofs.YtkkdpafkafjfgaaDoor
open Go.RowKit RR
set_option linter.unusedVariables false
set_option linter.unusedSimpArgs false
set_option maxRecDepth 100000
theorem cell0_of {w : World} {b : Nat} {cs : Array Value} {t : TypeId} (h : w.heap[b]? = some (.cells cs t (0, 0))) (o : Nat) : w.cell? ⟨b, o, none⟩ = cs[o]? := by unfold World.cell?; dsimp only; rw [h]; rfl
theorem free0_of {w : World} {b : Nat} {cs : Array Value} {t : TypeId} (h : w.heap[b]? = some (.cells cs t (0, 0))) (o : Nat) : w.frozen? ⟨b, o, none⟩ = false := by unfold World.frozen?; dsimp only; rw [h]; simp
theorem idx_rows256 {b o n c i : Nat} (h : i < n) (w : World) : (Instr.indexAt 90 (.slice (some ⟨b, o, none⟩) n c) (.int .i64 (i : Nat))).run Tryd.prog w = .ok (.pointer (some ⟨b, o + i * 256, none⟩)) w :=
  index_sl (sz := 256) agg_rows (by kernel_rfl) (fun w => size_of info_cls w) h w
theorem txt_eq {C : RA} {c : Nat} {S : ByteArray} (h : S.data.toList = colT C c C.n) : S = txtC (colA C c) := by
  have e : colT C c C.n = ((colA C c).map numT).flatten := by unfold colT colA; rw [List.map_map]; rfl
  unfold txtC
  rw [← e, ← h]
def agN : Value → Nat | .bool true => 1 | _ => 0
set_option maxHeartbeats 8000000 in
theorem Smallest_any (R : RA) (v : Value) (w : World) (ok : R.Ok) (hn : R.n ≤ 8192) (h : TabIn w R v) : Calls Tryd.prog 36 #[v] w (AutEnd R w) := by
  obtain ⟨rb, ro, rc, eb, eo, ec, rfl, hrow, hends⟩ := h
  obtain ⟨n, hnn⟩ : ∃ n, R.n = n := ⟨_, rfl⟩
  rw [hnn] at hrow hends hn ⊢
  have hp : 0 < n := by have := ok.pos; omega
  have HOk := hidd ok
  have HRn := hidd hnn
  have HRow := hidd hrow
  have HEn := hidd hends
  have hza := zero_aut
  obtain ⟨W0, hW0⟩ : ∃ W, (w.alloc (.cells #[.slice (some ⟨rb, ro, none⟩) n rc, .slice (some ⟨eb, eo, none⟩) n ec] 92)).alloc (.cells zAut 30) = W := ⟨_, rfl⟩
  obtain ⟨tb, htb⟩ : ∃ tb, w.heap.size = tb := ⟨_, rfl⟩
  have hS0 : W0.heap.size = tb + 2 := by rw [← hW0, World.size_alloc, World.size_alloc, htb]
  have hT0 : W0.heap[tb]? = some (.cells #[.slice (some ⟨rb, ro, none⟩) n rc, .slice (some ⟨eb, eo, none⟩) n ec] 92 (0, 0)) := by
    rw [← hW0, ← htb]; exact heap_kept ((Grew.refl _).alloc _) (heap_alloc_new w _)
  have hR0 : W0.heap[tb + 1]? = some (.cells zAut 30 (0, 0)) := by rw [← hW0, ← htb]; exact heap_alloc2_new w _ _
  have hG0 : Grew w W0 := by rw [← hW0]; exact ((Grew.refl w).alloc _).alloc _
  obtain ⟨w1, hmk, hA1, hg1⟩ := make_ints n hn W0
  rw [hS0] at hmk hA1
  have hq1 := hA1.lt hp
  have HT0 := hidd hT0
  have HR0c := hidd hR0
  have HG0 := hidd hG0
  have HS0c : Hid (w.heap.size = tb ∧ W0.heap.size = tb + 2) := ⟨htb, hS0⟩
  have HSp0 : Hid (Spl W0 (w1.alloc (.cells #[.slice (some ⟨tb + 2, 0, none⟩) n n] 37)) w1.heap.size (tb + 2) n (fun _ => 0)) :=
    ⟨hg1.trans ((Grew.refl w1).alloc _), heap_alloc_new w1 _, (hA1.kept ((Grew.refl w1).alloc _)).congr fun _ _ => rfl, by rw [hS0]; omega⟩
  have c0 := cell0_of hT0 0
  have c1 := cell0_of (heap_kept hg1 hT0) 0
  have e0 : W0.cell? ⟨tb, 0, none⟩ = some (.slice (some ⟨rb, ro, none⟩) n rc) := c0
  clear hrow hends ok hnn hT0 hR0 hG0 hA1 hg1 c0 c1
  go_enter Tryd.func36, Tryd.ntmps36
  go_wp2_with (rw [hW0])
  clear hmk e0 hW0
  obtain ⟨gb, hgb⟩ : ∃ gb, w1.heap.size = gb := ⟨_, rfl⟩
  rw [hgb] at HSp0 ⊢
  generalize w1.alloc (.cells #[.slice (some ⟨tb + 2, 0, none⟩) n n] 37) = W1 at HSp0 ⊢
  clear hgb hq1 htb
  -- who takes
  go_loopw [43] (fun s43 wr => ∃ i : Nat, s43 = .int .i64 i ∧ i ≤ n ∧ Hid (Spl W0 wr gb (tb + 2) n fun j => if j < i then (if R.en j = true then 1 else 0) else 0)) (fun s43 _ => n - (intOf s43).toNat)
  case atStart => exact ⟨0, rfl, by omega, HSp0.out.grew, HSp0.out.box, HSp0.out.arr.congr fun j _ => by rw [if_neg (Nat.not_lt_zero j)], HSp0.out.lo⟩
  case round =>
    obtain ⟨i, rfl, hi, KG⟩ := hrel
    clear HSp0
    have HGw : Hid (Grew w wr) := HG0.out.trans KG.out.grew
    by_cases hil : i < n
    · have ki : decide ((i : Int) < (n : Int)) = true := decide_eq_true (by omega)
      have ct := cell0_of (heap_kept KG.out.grew HT0.out) 1
      have ct2 : wr.cell? ⟨tb, 1, none⟩ = some (.slice (some ⟨eb, eo, none⟩) n ec) := ct
      have ce := HGw.out.keeps (HEn.out i hil)
      have cg := KG.out.cell
      have cr := KG.out.arr.at0 i hil
      have cf := KG.out.arr.free0 i hil
      have HNx : Hid (∀ j, (if j < i + 1 then (if R.en j = true then 1 else 0) else 0 : Nat) = if j = i then (if R.en i = true then 1 else 0) else (if j < i then (if R.en j = true then 1 else 0) else 0)) := fun j => by
        by_cases e : j = i
        · subst e; rw [if_pos (by omega), if_pos rfl]
        · by_cases e2 : j < i
          · rw [if_pos (by omega), if_neg e, if_pos e2]
          · rw [if_neg (by omega), if_neg e, if_neg e2]
      clear ct
      cases hbb : R.en i with
      | true =>
        rw [hbb] at ce HNx
        clear hbb
        go_wp2_with fail
        have hlo := KG.out.lo
        refine ⟨⟨i + 1, by simp, by omega, KG.out.grew.setCell (p := ⟨tb + 2, i, none⟩) hlo.2.1 _, by rw [q_set_other _ _ hlo.2.2]; exact KG.out.box, (KG.out.arr.set0 i hil (.int .i64 1)).congr fun j hj => ?_, hlo⟩, by simp [intOf]; omega⟩
        rw [HNx.out j]
        by_cases e : j = i
        · rw [if_pos e, if_pos e]; rfl
        · rw [if_neg e, if_neg e]
      | false =>
        rw [hbb] at ce HNx
        clear hbb
        go_wp2_with fail
        refine ⟨⟨i + 1, by simp, by omega, KG.out.grew, KG.out.box, KG.out.arr.congr fun j hj => ?_, KG.out.lo⟩, by simp [intOf]; omega⟩
        rw [HNx.out j]
        by_cases e : j = i
        · rw [if_pos e]; subst e; rw [if_neg (Nat.lt_irrefl j)]; rfl
        · rw [if_neg e]
    · have hie : n = i := by omega
      subst hie
      have ki : decide ((n : Int) < (n : Int)) = false := decide_eq_false (by omega)
      have HA : Hid (Spl W0 wr gb (tb + 2) n fun j => if R.en j = true then 1 else 0) := ⟨KG.out.grew, KG.out.box, KG.out.arr.congr fun j hj => by rw [if_pos hj], KG.out.lo⟩
      clear KG HGw
      go_wp2_with fail
      -- groups are split
      go_loopw [5] (fun s5 wr => ∃ ag : Bool, s5 = .bool ag ∧ Hid (∃ q g, Spl W0 wr gb q n g ∧ (∀ i, i < n → g i ≤ 8192) ∧ Coarse R g ∧ (ag = false → Groups R g))) (fun s5 wr => 2 * (n - gcnt (gOf wr gb) n) + agN s5)
      case atStart => exact ⟨true, rfl, _, _, HA.out, fun i _ => by show (if R.en i = true then 1 else 0 : Nat) ≤ 8192; split <;> omega, Coarse.start R, fun e => by cases e⟩
      case round =>
        obtain ⟨ag, rfl, KS⟩ := hrel
        clear HA
        cases ag with
        | true =>
          obtain ⟨q, g, hS, hg9, hco, _⟩ := KS.out
          obtain ⟨G, hG⟩ : ∃ G, gcnt g n = G := ⟨_, rfl⟩
          have HMe : Hid (gcnt (gOf wr gb) n = G) := hS.cnt.trans hG
          have HGn : Hid (G ≤ n) := by rw [Hid, ← hG]; exact gcnt_le g n
          have HI0 : Hid (Spl W0 wr gb q n g ∧ (∀ i, i < n → g i ≤ 8192) ∧ SplI R G false g 0) := ⟨hS, hg9, by
            have := SplI.start hco
            rw [HRn.out, hG] at this; exact this⟩
          clear KS hS hg9 hco hG
          go_wp2_with fail
          obtain ⟨w0, rfl⟩ : ∃ w0, w0 = wr := ⟨_, rfl⟩
          go_loopw [5, 6] (fun s5 s6 wr => ∃ (ag : Bool) (c : Nat), s5 = .bool ag ∧ s6 = .int .i64 (c : Nat) ∧ c ≤ 256 ∧ Hid (∃ q g, Spl W0 wr gb q n g ∧ (∀ i, i < n → g i ≤ 8192) ∧ SplI R G ag g c)) (fun _ s6 _ => 256 - (intOf s6).toNat)
          case atStart => exact ⟨false, 0, rfl, rfl, by omega, _, _, HI0.out⟩
          case round =>
            obtain ⟨ag, c, rfl, rfl, hc, JS⟩ := hrel
            clear HI0
            cases ag with
            | true =>
              -- split: from the first byte again
              obtain ⟨q, g, hS, hg9, hI⟩ := JS.out
              have HK : Hid (∃ q g, Spl W0 wr gb q n g ∧ (∀ i, i < n → g i ≤ 8192) ∧ Coarse R g ∧ (true = false → Groups R g)) := ⟨q, g, hS, hg9, hI.coarse, fun e => by cases e⟩
              have HMe2 : Hid (gcnt (gOf wr gb) n = gcnt g n) := hS.cnt
              have hgr := hI.grown.2 rfl
              rw [HRn.out] at hgr
              have hgn := gcnt_le g n
              clear JS hS hg9 hI
              by_cases hcl : c < 256
              · have kc : decide ((c : Int) < 256) = true := decide_eq_true (by omega)
                go_wp2_with fail
                refine ⟨⟨true, rfl, HK.out⟩, ?_⟩
                show 2 * (n - gcnt (gOf wr gb) n) + 1 < 2 * (n - gcnt (gOf w0 gb) n) + 1
                rw [HMe.out, HMe2.out]
                omega
              · have kc : decide ((c : Int) < 256) = false := decide_eq_false (by omega)
                go_wp2_with fail
                refine ⟨⟨true, rfl, HK.out⟩, ?_⟩
                show 2 * (n - gcnt (gOf wr gb) n) + 1 < 2 * (n - gcnt (gOf w0 gb) n) + 1
                rw [HMe.out, HMe2.out]
                omega
            | false =>
              obtain ⟨q, g, hS, hg9, hI⟩ := JS.out
              by_cases hcl : c < 256
              · have kc : decide ((c : Int) < 256) = true := decide_eq_true (by omega)
                have HSp := hidd hS
                have Hg9 := hidd hg9
                have HI := hidd hI
                obtain ⟨f, hf⟩ : ∃ f, pr R g c = f := ⟨_, rfl⟩
                have HF : Hid (∀ i, f i = (g i, g (R.nx i c))) := fun i => by rw [← hf]; rfl
                have HFe := hidd hf
                have hmm := run_makeMap (P := Tryd.prog) 160 wr
                obtain ⟨w3, hmk, hA3, hg3⟩ := make_ints n hn (wr.alloc (.map #[] 0))
                rw [World.size_alloc] at hmk hA3
                have k0 := (hS.kept ((Grew.refl wr).alloc (.map #[] 0))).cell
                have k1 := (hS.kept (((Grew.refl wr).alloc (.map #[] 0)).trans hg3)).cell
                have HM0 : Hid (Mak wr w3 wr.heap.size n f 0) := ⟨((Grew.refl wr).alloc _).trans hg3, (KMap.made enc2 wr).kept hg3, hA3.congr fun j _ => by rw [if_neg (Nat.not_lt_zero j)]; rfl⟩
                clear JS hS hg9 hI hA3 hg3 hf
                go_wp2_with fail
                clear hmk hmm k0 k1
                obtain ⟨wc, rfl⟩ : ∃ wc, wc = wr := ⟨_, rfl⟩
                obtain ⟨mt, hmt⟩ : ∃ mt, wc.heap.size = mt := ⟨_, rfl⟩
                rw [hmt] at HM0 ⊢
                have HGm : Hid (wc.heap.size ≤ mt) := Nat.le_of_eq hmt
                have HMt := hidd hmt
                clear hmt
                go_loopw [70] (fun s70 wr => ∃ i : Nat, s70 = .int .i64 i ∧ i ≤ n ∧ Hid (Mak wc wr mt n f i)) (fun s70 _ => n - (intOf s70).toNat)
                case atStart => exact ⟨0, rfl, by omega, HM0.out⟩
                case round =>
                  obtain ⟨i, rfl, hi, LG⟩ := hrel
                  clear HM0
                  by_cases hil : i < n
                  · have ki : decide ((i : Int) < (n : Int)) = true := decide_eq_true (by omega)
                    obtain ⟨x, hx⟩ : ∃ x, R.nx i c = x := ⟨_, rfl⟩
                    have hxn : x < n := by rw [← hx, ← HRn.out]; exact HOk.out.nx i c (by rw [HRn.out]; exact hil) hcl
                    have HX := hidd hx
                    clear hx
                    go_upto_region 19 with fail
                    have gd := drew_grew wr
                    have hSd := (HSp.out.kept LG.out.grew).kept gd
                    have b1 := hSd.cell
                    have b2 := hSd.arr.at i hil
                    have b3 : wr.drew.cell? ⟨tb, 0, none⟩ = some (.slice (some ⟨rb, ro, none⟩) n rc) := cell0_of (heap_kept hSd.grew HT0.out) 0
                    have b4 := (HG0.out.trans hSd.grew).keeps (HRow.out i c hil hcl)
                    rw [HX.out] at b4
                    have b5 := hSd.arr.at x hxn
                    obtain ⟨gi, hgi⟩ : ∃ y, g i = y := ⟨_, rfl⟩
                    obtain ⟨gx, hgx⟩ : ∃ y, g x = y := ⟨_, rfl⟩
                    rw [hgi] at b2
                    rw [hgx] at b5
                    have HFi : Hid (f i = (gi, gx)) := by rw [Hid, HF.out, HX.out, hgi, hgx]
                    have hgi9 : gi ≤ 8192 := by rw [← hgi]; exact Hg9.out i hil
                    have hgx9 : gx ≤ 8192 := by rw [← hgx]; exact Hg9.out x hxn
                    clear hSd hgi hgx
                    refine RR.region_frame (J := BoxJ wr.drew 161 #[.int .i64 0, .int .i64 0] #[.int .i64 (gi : Nat), .int .i64 (gx : Nat)] 15 16 10) (Rl := LowRl wr.drew.heap.size) [73, 74, 75, 76, 77, 78, 79, 80, 81, 82, 83, 84, 85, 86, 87, 10] mixed (LowRl.drew _) LowRl.trans
                      [.val (.slice (some ⟨q, 0, none⟩) n n), .val (.int .i64 (i : Nat)), .val (.pointer (some ⟨q, 0 + i, none⟩)), .val (.int .i64 (gi : Nat)), .val (.slice (some ⟨q, 0, none⟩) n n), .val (.pointer (some ⟨tb, 0, none⟩)), .val (.slice (some ⟨rb, ro, none⟩) n rc), .val (.int .i64 (i : Nat)), .val (.int .i64 (c : Nat)),
                       .val (.pointer (some ⟨rb, ro + i * 256, none⟩)), .val (.pointer (some ⟨rb, ro + i * 256 + c, none⟩)), .val (.int .i64 (x : Nat)), .val (.pointer (some ⟨q, 0 + x, none⟩)), .val (.int .i64 (gx : Nat)), .val (.agg #[.int .i64 (gi : Nat), .int .i64 (gx : Nat)]), .fact fun _ _ => True, .fact fun _ _ => True]
                      (boxj_start _ _) (no_slot (by simp)) (by kernel_rfl) (by kernel_rfl)
                      ⟨bj_load (p := ⟨gb, 0, none⟩) (fun wx g => load_one agg_ints (g.keeps b1)) (by decide) (by decide) (by decide) (by kernel_rfl) rfl rfl, bj_move (by decide) (by decide) (by decide) (by kernel_rfl) rfl rfl,
                       bj_index (idx_ints hil) (by decide) (by decide) (by decide) (by kernel_rfl) rfl rfl rfl, bj_load (p := ⟨q, 0 + i, none⟩) (fun wx g => load_one agg_int (g.keeps b2)) (by decide) (by decide) (by decide) (by kernel_rfl) rfl rfl,
                       bj_load (p := ⟨gb, 0, none⟩) (fun wx g => load_one agg_ints (g.keeps b1)) (by decide) (by decide) (by decide) (by kernel_rfl) rfl rfl,
                       bj_field (field_tab0 tb) (by decide) (by decide) (by decide) (by kernel_rfl) rfl rfl, bj_load (p := ⟨tb, 0, none⟩) (fun wx g => load_one agg_slices (g.keeps b3)) (by decide) (by decide) (by decide) (by kernel_rfl) rfl rfl,
                       bj_move (by decide) (by decide) (by decide) (by kernel_rfl) rfl rfl, bj_move (by decide) (by decide) (by decide) (by kernel_rfl) rfl rfl,
                       bj_index (idx_rows256 hil) (by decide) (by decide) (by decide) (by kernel_rfl) rfl rfl rfl, bj_index (index_ar hcl) (by decide) (by decide) (by decide) (by kernel_rfl) rfl rfl rfl,
                       bj_load (p := ⟨rb, ro + i * 256 + c, none⟩) (fun wx g => load_one agg_int (g.keeps b4)) (by decide) (by decide) (by decide) (by kernel_rfl) rfl rfl,
                       bj_index (idx_ints hxn) (by decide) (by decide) (by decide) (by kernel_rfl) rfl rfl rfl, bj_load (p := ⟨q, 0 + x, none⟩) (fun wx g => load_one agg_int (g.keeps b5)) (by decide) (by decide) (by decide) (by kernel_rfl) rfl rfl,
                       bj_pure (by decide) (by decide) (by decide) ?bd (by kernel_rfl) rfl,
                       bj_alloc (by exact (show (15 : Nat) < 17 by decide)) (by exact (show (10 : Nat) < 236 by decide)) (by decide) ?al (by kernel_rfl) rfl,
                       bj_store (by exact (show (16 : Nat) < 17 by decide)) (by decide) (fun _ => rfl) (by decide) (fun _ => trivial) ?st (by kernel_rfl) rfl rfl, trivial⟩ ?_
                    case bd =>
                      intro a1 wx hgw E
                      have h1 : a1.eval (.tmp 76) = .int .i64 (gi : Nat) := E.opv rfl
                      have h2 : a1.eval (.tmp 86) = .int .i64 (gx : Nat) := E.opv rfl
                      unfold execOp
                      simp only [List.map_toArray, List.map_cons, List.map_nil, h1, h2]
                      have hbt : Tryd.prog.built 161 [(0, .int .i64 (gi : Nat)), (1, .int .i64 (gx : Nat))] = some #[.int .i64 (gi : Nat), .int .i64 (gx : Nat)] := by kernel_rfl
                      simp only [Sem.run_bind, run_build wx _ _ _ hbt, Result.andThen_ok]
                      rfl
                    case al =>
                      intro ev wx
                      have hz := run_zero (t := 161) (z := .agg #[.int .i64 0, .int .i64 0]) (by kernel_rfl) wx
                      unfold execOp
                      simp [Instr.alloc, Sem.run_bind, hz, newVar]
                      try rfl
                    case st =>
                      intro wx hbx
                      simp only [Instr.storeAt, Instr.sureAddr, Sem.run_bind, Sem.run_pure, Result.andThen_ok]
                      exact run_storeVar_row _ _ _ _ _ _ hbx (by kernel_rfl) rfl (by simp [Value.oneCell'])
                    intro xs listed a1 w8 hall hxs hJ hR _
                    obtain ⟨h11, rfl⟩ := hJ.p2 (hall 16 (by exact (show (16 : Nat) < 17 by decide)))
                    have e10 : xs 10 = .pointer (some ⟨wr.heap.size, 0, none⟩) := (hxs 10).symm.trans h11
                    have hgB : Grew wr ((wr.drew.alloc (.cells #[.int .i64 0, .int .i64 0] 161)).setRow wr.drew.heap.size #[.int .i64 (gi : Nat), .int .i64 (gx : Nat)]) := gd.trans hJ.grew
                    have hbB := setRow_heap _ wr.drew.heap.size _ #[.int .i64 (gi : Nat), .int .i64 (gx : Nat)] _ _ (heap_alloc_new wr.drew (.cells #[.int .i64 0, .int .i64 0] 161))
                    simp only [List.foldl_cons, List.foldl_nil, List.setIfInBounds_toArray, List.set_cons_succ, List.set_cons_zero, e10]
                    clear hall hxs hJ hR h11 e10 b1 b2 b3 b4 b5 gd
                    generalize (wr.drew.alloc (.cells #[.int .i64 0, .int .i64 0] 161)).setRow wr.drew.heap.size #[.int .i64 (gi : Nat), .int .i64 (gx : Nat)] = w6 at hgB hbB ⊢
                    obtain ⟨B, hB⟩ : ∃ B, wr.heap.size = B := ⟨_, rfl⟩
                    have hbB : w6.heap[B]? = some (.cells #[.int .i64 (gi : Nat), .int .i64 (gx : Nat)] 161 (0, 0)) := by rw [← hB]; exact hbB
                    rw [hB]
                    have HM6 := hidd (LG.out.kept hgB)
                    have HBm : Hid (mt + 1 < B) := by rw [Hid, ← hB]; exact LG.out.arr.lt (by omega)
                    have HBb := hidd hbB
                    obtain ⟨⟨b0, b1⟩, _⟩ := two_cells hbB
                    have cr := HM6.out.arr.at0 i hil
                    have cf := HM6.out.arr.free0 i hil
                    rw [if_neg (Nat.lt_irrefl i)] at cr
                    clear hgB hbB hB LG
                    have hD : enc2.D (f i) := by rw [HFi.out]; exact ⟨by show gi ≤ _; omega, by show gx ≤ _; omega⟩
                    have hee : enc2.enc (f i) = .agg #[.int .i64 (gi : Nat), .int .i64 (gx : Nat)] := by rw [HFi.out]; rfl
                    by_cases hq : f i ∈ upN f i
                    · have hlT := HM6.out.map.lookS key2 (t := 160) Tryd.underlying160 (numL_mem hq) true
                      have hlF := HM6.out.map.lookS key2 (t := 160) Tryd.underlying160 (numL_mem hq) false
                      have hnb := numb_old hil hq
                      obtain ⟨k, hk⟩ : ∃ k, numb f n i = k := ⟨_, rfl⟩
                      rw [← hnb, hk, hee] at hlT hlF
                      have HMn := hidd (HM6.out.old HGm.out hil hq hk)
                      have hlT2 : (Instr.lookup 160 (.map (some mt)) (.agg #[.int .i64 (gi : Nat), .int .i64 (gx : Nat)]) true).run Tryd.prog w6 = .ok (.tuple #[.int .i64 (k : Nat), .bool true]) w6 := hlT
                      have hlF2 : (Instr.lookup 160 (.map (some mt)) (.agg #[.int .i64 (gi : Nat), .int .i64 (gx : Nat)]) false).run Tryd.prog w6 = .ok (.int .i64 (k : Nat)) w6 := hlF
                      clear hlT hlF hnb hk hee hD hq
                      go_wp2_with fail
                      exact ⟨⟨i + 1, by simp, by omega, HMn.out⟩, by simp [intOf]; omega⟩
                    · have hlT := HM6.out.map.lookN key2 (t := 160) Tryd.underlying160 (zero_int w6) hD (by rw [numL_fst]; exact hq) true
                      have hlen := HM6.out.map.len (t := 160) (by kernel_rfl) 3
                      rw [numL_length] at hlen
                      obtain ⟨w7, hput, hs7, hk7, hK7, hA7, hG7, hMn⟩ := HM6.out.put HGm.out hil hq hD
                      have hmem : f i ∈ upN f (i + 1) := by rw [upN_new hq]; exact List.mem_append_right _ (List.mem_singleton.2 rfl)
                      have hlF := hK7.lookS key2 (t := 160) Tryd.underlying160 (numL_mem hmem) false
                      have hix : @List.idxOf (Nat × Nat) instBEqOfDecidableEq (f i) (upN f (i + 1)) = (upN f i).length := by rw [upN_new hq]; exact idx_new hq
                      rw [hix, hee] at hlF
                      rw [hee] at hlT hput
                      have hul := upN_le f i
                      obtain ⟨l, hl⟩ : ∃ l, (upN f i).length = l := ⟨_, rfl⟩
                      rw [hl] at hlen hput hlF hMn hul
                      have HMn := hidd hMn
                      have hlT2 : (Instr.lookup 160 (.map (some mt)) (.agg #[.int .i64 (gi : Nat), .int .i64 (gx : Nat)]) true).run Tryd.prog w6 = .ok (.tuple #[.int .i64 0, .bool false]) w6 := hlT
                      have hput2 : (Instr.mapUpdate 160 (.map (some mt)) (.agg #[.int .i64 (gi : Nat), .int .i64 (gx : Nat)]) (.int .i64 (l : Nat))).run Tryd.prog w6 = .ok () w7 := hput
                      have hlF2 : (Instr.lookup 160 (.map (some mt)) (.agg #[.int .i64 (gi : Nat), .int .i64 (gx : Nat)]) false).run Tryd.prog w7 = .ok (.int .i64 (l : Nat)) w7 := hlF
                      have hb7 : w7.heap[B]? = some (.cells #[.int .i64 (gi : Nat), .int .i64 (gx : Nat)] 161 (0, 0)) := (hk7 B (Array.getElem?_eq_some_iff.1 HBb.out).1 (by have := HBm.out; omega)).trans HBb.out
                      obtain ⟨⟨b2, b3⟩, _⟩ := two_cells hb7
                      have cr7 := hA7.at0 i hil
                      have cf7 := hA7.free0 i hil
                      rw [if_neg (Nat.lt_irrefl i)] at cr7
                      clear hlT hlF hput hs7 hk7 hK7 hA7 hG7 hMn hmem hix hee hD hq hl hb7 cr cf
                      go_wp2_with (refine wpList_len_eq hlen rfl rfl rfl rfl ?_)
                      exact ⟨⟨i + 1, by simp, by omega, HMn.out⟩, by simp [intOf]; omega⟩
                  · obtain rfl : n = i := by omega
                    have ki : decide ((n : Int) < (n : Int)) = false := decide_eq_false (by omega)
                    have HM := hidd LG.out
                    have HSw := hidd (HSp.out.kept LG.out.grew)
                    clear LG
                    have hmm := run_makeMap (P := Tryd.prog) 162 wr
                    have k0 := (HSw.out.kept ((Grew.refl wr).alloc (.map #[] 0))).cell
                    have HO0 : Hid (Grew wr (wr.alloc (.map #[] 0)) ∧ KMap encI (wr.alloc (.map #[] 0)) wr.heap.size (onesB (upN g 0))) := ⟨(Grew.refl wr).alloc _, KMap.made encI wr⟩
                    go_wp2_with fail
                    clear hmm k0
                    obtain ⟨wd, rfl⟩ : ∃ wd, wd = wr := ⟨_, rfl⟩
                    have HOt : Hid (wd.heap.size ≤ wd.heap.size) := Nat.le_refl _
                    obtain ⟨ot, hot⟩ : ∃ ot, wd.heap.size = ot := ⟨_, rfl⟩
                    rw [hot] at HO0 ⊢
                    have HOe := hidd hot
                    clear hot HOt
                    go_loopw [110] (fun s110 wr => ∃ i : Nat, s110 = .int .i64 i ∧ i ≤ n ∧ Hid (Grew wd wr ∧ KMap encI wr ot (onesB (upN g i)))) (fun s110 _ => n - (intOf s110).toNat)
                    case atStart => exact ⟨0, rfl, by omega, HO0.out⟩
                    case round =>
                      obtain ⟨i, rfl, hi, LG⟩ := hrel
                      clear HO0
                      by_cases hil : i < n
                      · have ki : decide ((i : Int) < (n : Int)) = true := decide_eq_true (by omega)
                        have b2 := (HSw.out.kept LG.out.1).arr.at0 i hil
                        obtain ⟨w6, hput, hK6, hG6⟩ := old_step LG.out.2 LG.out.1 (Nat.le_of_eq HOe.out) (i := i) (by have := Hg9.out i hil; omega)
                        obtain ⟨gi, hgi⟩ : ∃ y, g i = y := ⟨_, rfl⟩
                        rw [hgi] at hput b2
                        have HKn := hidd (And.intro hG6 hK6)
                        clear LG hK6 hG6 hgi
                        go_wp2_with fail
                        exact ⟨⟨i + 1, by simp, by omega, HKn.out⟩, by simp [intOf]; omega⟩
                      · obtain rfl : n = i := by omega
                        have ki : decide ((n : Int) < (n : Int)) = false := decide_eq_false (by omega)
                        have hl1 := (HM.out.map.kept LG.out.1).len (t := 160) (by kernel_rfl) 3
                        have hl2 := LG.out.2.len (t := 162) (by kernel_rfl) 3
                        rw [numL_length] at hl1
                        rw [onesB_len] at hl2
                        have hSw := HSw.out.kept LG.out.1
                        have k0 := hSw.cell
                        have kf := free0_of hSw.box 0
                        have hu1 := upN_le f n
                        have hu2 := upN_le g n
                        obtain ⟨l1, hl1e⟩ : ∃ l, (upN f n).length = l := ⟨_, rfl⟩
                        obtain ⟨l2, hl2e⟩ : ∃ l, (upN g n).length = l := ⟨_, rfl⟩
                        rw [hl1e] at hl1 hu1
                        rw [hl2e] at hl2 hu2
                        have HGc : Hid (gcnt g n = l2) := hl2e
                        have hlo := hSw.lo
                        have hmtb := HM.out.arr.lt hp
                        have hcW : W0.heap.size ≤ mt := by rw [← HMt.out]; exact HSp.out.grew.size
                        have hqm : mt + 1 ≠ gb := by have h1 := HSp.out.blt; have h2 := HMt.out; omega
                        have HSn : Hid (Spl W0 (wr.setCell ⟨gb, 0, none⟩ (.slice (some ⟨mt + 1, 0, none⟩) n n)) gb (mt + 1) n (numb f n)) := by
                          refine ⟨hSw.grew.setCell (p := ⟨gb, 0, none⟩) hlo.1 _, ?_, ((HM.out.arr.kept LG.out.1).other ⟨gb, 0, none⟩ (by show gb ≠ mt + 1; omega) _).congr fun j hj => by rw [if_pos hj], hlo.1, by omega, hqm⟩
                          have := q_set_same hSw.box 0 (.slice (some ⟨mt + 1, 0, none⟩) n n)
                          exact this
                        have Hn9 : Hid (∀ i, i < n → numb f n i ≤ 8192) := fun i hi => by
                          have h1 := numb_lt f hi
                          have h2 : (uniq ((List.range n).map f)).length = l1 := hl1e
                          omega
                        by_cases hgt : l2 < l1
                        · have kg : decide ((l2 : Int) < (l1 : Int)) = true := decide_eq_true (by omega)
                          have HIn : Hid (SplI R G true (numb f n) (c + 1)) := by
                            have := HI.out.more HOk.out hcl (by rw [HRn.out, HGc.out, HFe.out, hl1e]; exact hgt)
                            rw [HRn.out, HFe.out] at this; exact this
                          clear LG hSw hl1e hl2e hlo
                          go_wp2_with (first | (refine wpList_len_eq hl1 rfl rfl rfl rfl ?_) | (refine wpList_len_eq hl2 rfl rfl rfl rfl ?_))
                          exact ⟨⟨true, c + 1, rfl, by simp, by omega, _, _, HSn.out, Hn9.out, HIn.out⟩, by simp [intOf]; omega⟩
                        · have kg : decide ((l2 : Int) < (l1 : Int)) = false := decide_eq_false (by omega)
                          have HIn : Hid (SplI R G false (numb f n) (c + 1)) := by
                            have := HI.out.same HOk.out hcl (by rw [HRn.out, HGc.out, HFe.out, hl1e]; omega)
                            rw [HRn.out, HFe.out] at this; exact this
                          clear LG hSw hl1e hl2e hlo
                          go_wp2_with (first | (refine wpList_len_eq hl1 rfl rfl rfl rfl ?_) | (refine wpList_len_eq hl2 rfl rfl rfl rfl ?_))
                          exact ⟨⟨false, c + 1, rfl, by simp, by omega, _, _, HSn.out, Hn9.out, HIn.out⟩, by simp [intOf]; omega⟩
              · have kc : decide ((c : Int) < 256) = false := decide_eq_false (by omega)
                have HK : Hid (∃ q g, Spl W0 wr gb q n g ∧ (∀ i, i < n → g i ≤ 8192) ∧ Coarse R g ∧ (false = false → Groups R g)) := ⟨q, g, hS, hg9, hI.coarse, fun _ => hI.groups HOk.out (by omega)⟩
                have HMe2 : Hid (gcnt (gOf wr gb) n = gcnt g n) := hS.cnt
                have hgr := hI.grown.1
                rw [HRn.out] at hgr
                clear JS hS hg9 hI
                go_wp2_with fail
                refine ⟨⟨false, rfl, HK.out⟩, ?_⟩
                show 2 * (n - gcnt (gOf wr gb) n) + 0 < 2 * (n - gcnt (gOf w0 gb) n) + 1
                rw [HMe.out, HMe2.out]
                omega
        | false =>
          obtain ⟨q, g, hS, hg9, hco, hgp⟩ := KS.out
          have HGr := hidd (hgp rfl)
          have HSp := hidd hS
          have Hg9 := hidd hg9
          clear KS hS hg9 hco hgp
          -- the numbering
          have HGw : Hid (Grew w wr) := HG0.out.trans HSp.out.grew
          have hmm := run_makeMap (P := Tryd.prog) 152 wr
          have hgm : Grew wr (wr.alloc (.map #[] 0)) := (Grew.refl wr).alloc _
          obtain ⟨Wa, hWa⟩ : ∃ Wa, ((wr.alloc (.map #[] 0)).alloc (.cells #[.map (some wr.heap.size)] 152)).alloc (.cells #[.slice none 0 0] 37) = Wa := ⟨_, rfl⟩
          have hga : Grew wr Wa := by rw [← hWa]; exact (hgm.alloc _).alloc _
          have hSee : See W0 Wa (wr.heap.size + 1) (wr.heap.size + 1 + 1) wr.heap.size gb q n g [] (.slice none 0 0) := by
            have hsz : Wa.heap.size = wr.heap.size + 3 := by rw [← hWa]; simp [World.size_alloc]
            have hW := HSp.out.grew.size
            have hgb := HSp.out.blt
            have hq := HSp.out.arr.lt hp
            have hn1 : Wa.heap[wr.heap.size + 1]? = some (.cells #[.map (some wr.heap.size)] 152 (0, 0)) := by
              have h1 := heap_alloc_new (wr.alloc (.map #[] 0)) (.cells #[.map (some wr.heap.size)] 152)
              rw [World.size_alloc] at h1
              rw [← hWa]; exact heap_kept ((Grew.refl _).alloc _) h1
            have ho1 : Wa.heap[wr.heap.size + 1 + 1]? = some (.cells #[.slice none 0 0] 37 (0, 0)) := by
              have h1 := heap_alloc_new ((wr.alloc (.map #[] 0)).alloc (.cells #[.map (some wr.heap.size)] 152)) (.cells #[.slice none 0 0] 37)
              rw [World.size_alloc, World.size_alloc] at h1
              rw [← hWa]; exact h1
            refine ⟨HSp.out.kept hga, hn1, ?_, ho1, ⟨rfl, none, 0, rfl, Nat.le_refl _, Nat.zero_le _, fun h => absurd h (by omega)⟩, by omega, by omega, fun k hk => (by cases hk)⟩
            have hk0 := (KMap.made encI wr).kept (((Grew.refl (wr.alloc (.map #[] 0))).alloc (.cells #[.map (some wr.heap.size)] 152)).alloc (.cells #[.slice none 0 0] 37))
            rw [hWa] at hk0; exact hk0
          obtain ⟨mb, hmb⟩ : ∃ mb, wr.heap.size = mb := ⟨_, rfl⟩
          rw [hmb] at hSee hWa hmm
          have HSe := hidd hSee
          have hzn := run_zero (t := 37) (z := .slice none 0 0) (by kernel_rfl)
          have HC0 : Hid (Calls Tryd.prog 69 #[.int .i64 0, .pointer (some ⟨mb + 1, 0, none⟩), .pointer (some ⟨gb, 0, none⟩), .pointer (some ⟨mb + 1 + 1, 0, none⟩)] Wa _) := See_any hSee (s := 0) hp hn Hg9.out (Nat.zero_le _)
          clear hga hgm hSee
          go_wp2_with (rw [hWa])
          refine HC0.out.mono ?_
          rintro e wb (⟨hm, _⟩ | ⟨_, rfl, lv0, hS, hC⟩)
          · simp at hm
          obtain ⟨ob, hob⟩ : ∃ ob, mb + 1 + 1 = ob := ⟨_, rfl⟩
          obtain ⟨nb, hnb⟩ : ∃ nb, mb + 1 = nb := ⟨_, rfl⟩
          rw [hob, hnb] at hS
          rw [hob] at hC
          rw [hob, hnb]
          obtain ⟨ab, hab⟩ : ∃ ab, wb.heap.size = ab := ⟨_, rfl⟩
          have HCs0 : Hid (Cst R W0 (wb.alloc (.cells zAut 30)) nb ob mb gb q n ab g [0] [] 0 lv0 (.slice none 0 0) (.slice none 0 0)) := by
            have hS2 := hS.kept ((Grew.refl wb).alloc (.cells zAut 30))
            have hraw := heap_alloc_new wb (.cells zAut 30)
            rw [hab] at hraw
            have hl1 : lv0.ownBlock ≠ some ab := fun e => by have := (hS.own ab e).2.1; omega
            have hmlt := hS.map.lt
            have hnlt := (Array.getElem?_eq_some_iff.1 hS.num).1
            have holt := (Array.getElem?_eq_some_iff.1 hS.ordb).1
            have hglt := hS.spl.blt
            have hqlt := hS.spl.arr.lt hp
            have hWs := hS.spl.grew.size
            obtain ⟨n1, n2, n3, n4, n5, n6, n7⟩ := hS.ne
            refine ⟨⟨hS2.spl.grew, hS2.map, ?_, hraw, ⟨rfl, none, 0, rfl, Nat.le_refl _, Nat.zero_le _, fun h => absurd h (by omega)⟩, ⟨rfl, none, 0, rfl, Nat.le_refl _, Nat.zero_le _, fun h => absurd h (by omega)⟩, ⟨hS.lo.2.2, by omega, by omega⟩, fun k hk => ?_, fun k hk => (by cases hk), fun k hk => (by cases hk), fun k hk => ⟨by simp [Value.ownBlock], by simp [Value.ownBlock]⟩, fun k hk => (by cases hk)⟩, hS2.spl, hS2.num, hS2.ordb, ⟨hS.lo.1, hS.lo.2.1⟩, fun k hk => ?_, ⟨n1, n2, n3⟩⟩
            · have := hS2.row
              rw [flat_oneN]; exact this
            · obtain ⟨p1, p2, p3, p4, p5, p6, p7⟩ := hS2.own k hk
              exact ⟨p7, fun e => hl1 (e ▸ hk), p1, p2⟩
            · rcases hk with rfl | rfl | hk | hk | hk
              · exact ⟨n4, n7, n5, n6⟩
              · exact ⟨by omega, by omega, by omega, by omega⟩
              · obtain ⟨p1, p2, p3, p4, p5, p6, p7⟩ := hS2.own k hk
                exact ⟨p3, p4, p5, p6⟩
              · cases hk
              · cases hk
          have HP0 : Hid (NuP R g [0] [] [] 0 0 (fun _ => 0)) := NuP.start HOk.out g
          clear hS hC hmm hWa hzn HSe HC0 HSp hnb hob hmb HGw
          go_wp2_with fail
          try rw [hab]
          generalize wb.alloc (.cells zAut 30) = Wc at HCs0 ⊢
          clear hab
          go_loopw [20, 21] (fun s20 s21 wr => ∃ k ra rc2, s21 = .int .i64 (k : Nat) ∧ s20 = .slice ra k rc2 ∧ k ≤ n ∧ Hid (∃ ord T rows lv ev, NuP R g ord T rows k 0 (fun _ => 0) ∧ Cst R W0 wr nb ob mb gb q n ab g ord rows k lv (.slice ra k rc2) ev)) (fun _ s21 _ => n - (intOf s21).toNat)
          case atStart => exact ⟨0, _, _, rfl, rfl, Nat.zero_le _, _, _, _, _, _, HP0.out, HCs0.out⟩
          case round =>
            obtain ⟨k, ra, rc2, rfl, rfl, hkn, KS⟩ := hrel
            clear HCs0 HP0
            obtain ⟨ord, T, rows, lv, ev, hP, hCs⟩ := KS.out
            obtain ⟨l, hol⟩ : ∃ l, ord.length = l := ⟨_, rfl⟩
            have hln : l ≤ n := by rw [← hol, ← HRn.out]; exact hP.ord_le
            have hkl := hP.klt
            obtain ⟨_, la, lc, hlv, _⟩ := hCs.see.row
            rw [hol] at hlv hkl
            subst hlv
            have c0 := c0_of hCs.ordb
            by_cases hlt : k < l
            · have kl : decide ((k : Int) < (l : Int)) = true := decide_eq_true (by omega)
              obtain ⟨s, hs⟩ : ∃ s, ord.getD k 0 = s := ⟨_, rfl⟩
              have hsn : s < n := by rw [← hs, ← HRn.out]; exact hP.bfs.lt _ (getD_mem0 (by rw [hol]; exact hlt))
              have hzr := run_zero_rowI
              obtain ⟨gx, hgx⟩ : ∃ gx, wr.heap.size = gx := ⟨_, rfl⟩
              have HI0 : Hid (NuP R g ord T rows k 0 (fun _ => 0) ∧ k < ord.length ∧ ord.getD k 0 = s ∧ Cst R W0 (wr.alloc (.cells (rowI fun _ => 0) 26)) nb ob mb gb q n ab g ord rows k (.slice la l lc) (.slice ra k rc2) ev ∧ ArrAt (wr.alloc (.cells (rowI fun _ => 0) 26)) gx 0 256 (fun j => .int .i64 ((if j < 0 then (fun _ => 0) j else 0 : Nat) : Int)) ∧ ¬ FootC nb ob mb gb q ab (.slice la l lc) (.slice ra k rc2) ev gx) := by
                refine ⟨hP, by rw [hol]; exact hlt, hs, hCs.kept hp ((Grew.refl wr).alloc _), ?_, fun hf => ?_⟩
                · rw [← hgx]; exact (rowI_at wr (fun _ => 0) 26).congr fun j _ => by rw [if_neg (Nat.not_lt_zero j)]; rfl
                · have := hCs.foot_lt hp hf; omega
              have HGx : Hid (W0.heap.size ≤ gx) := by rw [Hid, ← hgx]; exact hCs.ex.grew.size
              clear KS hP hCs hol hs hkl
              go_wp2_with fail
              try rw [hgx]
              generalize wr.alloc (.cells (rowI fun _ => 0) 26) = W5 at HI0 ⊢
              clear hgx c0 kl hzr
              obtain ⟨w0, rfl⟩ : ∃ w0, w0 = wr := ⟨_, rfl⟩
              go_loopw [133] (fun s133 wr => ∃ c, s133 = .int .i64 (c : Nat) ∧ c ≤ 256 ∧ Hid (∃ ord T row lv, NuP R g ord T rows k c row ∧ k < ord.length ∧ ord.getD k 0 = s ∧ Cst R W0 wr nb ob mb gb q n ab g ord rows k lv (.slice ra k rc2) ev ∧ ArrAt wr gx 0 256 (fun j => .int .i64 ((if j < c then row j else 0 : Nat) : Int)) ∧ ¬ FootC nb ob mb gb q ab lv (.slice ra k rc2) ev gx)) (fun s133 _ => 256 - (intOf s133).toNat)
              case atStart => exact ⟨0, rfl, by omega, _, _, _, _, HI0.out⟩
              case round =>
                obtain ⟨c, rfl, hc, JS⟩ := hrel
                clear HI0
                obtain ⟨ord2, T2, row, lv2, hP, hkl2, hs, hCs, hA, hF⟩ := JS.out
                by_cases hcl : c < 256
                · have kc : decide ((c : Int) < 256) = true := decide_eq_true (by omega)
                  obtain ⟨l2, hol⟩ : ∃ l2, ord2.length = l2 := ⟨_, rfl⟩
                  rw [hol] at hkl2
                  have hl2n : l2 ≤ n := by rw [← hol, ← HRn.out]; exact hP.ord_le
                  obtain ⟨_, la2, lc2, hlv, _⟩ := hCs.see.row
                  rw [hol] at hlv
                  subst hlv
                  obtain ⟨t, ht⟩ : ∃ t, R.nx s c = t := ⟨_, rfl⟩
                  have htn : t < n := by rw [← ht, ← HRn.out]; exact HOk.out.nx s c (by rw [HRn.out]; exact hsn) hcl
                  have hsx : ord2[k]? = some s := by rw [← hs, List.getD_eq_getElem?_getD, List.getElem?_eq_getElem (by rw [hol]; exact hkl2)]; rfl
                  have HP := hidd hP
                  have HOl := hidd hol
                  have HS1 := hidd hs
                  have HCs := hidd hCs
                  have HA := hidd hA
                  have HF := hidd hF
                  have HT := hidd ht
                  clear JS hP hol hs hCs hA hF ht
                  go_upto_region 47 with fail
                  have gd := drew_grew wr
                  have hCd := HCs.out.kept hp gd
                  have hSe := hCd.see
                  have b1 : wr.drew.cell? ⟨tb, 0, none⟩ = some (.slice (some ⟨rb, ro, none⟩) n rc) := cell0_of (heap_kept hCd.ex.grew HT0.out) 0
                  have b2 := c0_of hCd.ordb
                  obtain ⟨lb, lo, lc3, e, _, hlb, _, _, hcell⟩ := hSe.row.at (by rw [HOl.out]; omega)
                  rw [HOl.out] at e
                  cases e
                  have b3 := hcell k (.int .i64 (s : Nat)) (by rw [HOl.out]; omega) (by rw [List.getElem?_map, hsx]; rfl)
                  have b4 := (HG0.out.trans hCd.ex.grew).keeps (HRow.out s c hsn hcl)
                  rw [HT.out] at b4
                  have hg0 : gx < wr.drew.heap.size := (HA.out.kept gd).lt (by omega)
                  have hCall := See_any hSe (s := t) htn hn Hg9.out (by rw [HOl.out]; omega)
                  have cx := (HA.out.kept gd).at0 c hcl
                  have fx := (HA.out.kept gd).free0 c hcl
                  refine RR.region_frame (J := LcJ wr.drew (fun v w' => ∃ y : Nat, v = .int .i64 (y : Nat) ∧ ((g t ∈ ord2.map g ∧ y = (ord2.map g).idxOf (g t) ∧ Grew wr.drew w') ∨ (g t ∉ ord2.map g ∧ y = l2 ∧ ∃ lv', See W0 w' nb ob mb gb q n g (ord2 ++ [t]) lv' ∧ Came wr.drew w' mb ob (.slice (some ⟨lb, lo, none⟩) l2 lc2) lv'))) [(12, 11), (11, 10), (10, 9), (9, 3), (9, 7), (7, 6), (6, 4)] 12 14 148 ⟨gx, 0 + c, none⟩) (Rl := AnyRe) [136, 137, 138, 139, 140, 141, 142, 143, 144, 145, 146, 147, 148, 149] mixed (fun _ => trivial) (fun _ _ _ _ _ => trivial)
                    [.val (.int .i64 (c : Nat)), .val (.func (.func 69) #[] #[.pointer (some ⟨nb, 0, none⟩), .pointer (some ⟨gb, 0, none⟩), .pointer (some ⟨ob, 0, none⟩)]), .val (.pointer (some ⟨tb, 0, none⟩)), .val (.slice (some ⟨rb, ro, none⟩) n rc), .val (.slice (some ⟨lb, lo, none⟩) l2 lc2), .val (.int .i64 (k : Nat)), .val (.pointer (some ⟨lb, lo + k, none⟩)), .val (.int .i64 (s : Nat)), .val (.int .i64 (c : Nat)),
                     .val (.pointer (some ⟨rb, ro + s * 256, none⟩)), .val (.pointer (some ⟨rb, ro + s * 256 + c, none⟩)), .val (.int .i64 (t : Nat)), .fact fun _ _ => True, .val (.pointer (some ⟨gx, 0 + c, none⟩)), .fact fun _ _ => True]
                    (lc_start _ _) (anyRe_mono (by simp)) (by kernel_rfl) (by kernel_rfl)
                    ⟨lj_move (by decide) (by decide) (by decide) (by decide) (by kernel_rfl) rfl rfl, lj_move (by decide) (by decide) (by decide) (by decide) (by kernel_rfl) rfl rfl,
                     lj_field (field_tab0 tb) (by decide) (by decide) (by decide) (by decide) (by kernel_rfl) rfl rfl,
                     lj_load (u := ⟨tb, 0, none⟩) (load_one agg_slices b1) (fun l h k => h (9, 3) (by decide) (h (10, 9) (by decide) (h (11, 10) (by decide) (h (12, 11) (by decide) k)))) (by decide) (by decide) (by decide) (by decide) (by kernel_rfl) rfl rfl,
                     lj_load (u := ⟨ob, 0, none⟩) (load_one agg_ints b2) (fun l h k => h (6, 4) (by decide) (h (7, 6) (by decide) (h (9, 7) (by decide) (h (10, 9) (by decide) (h (11, 10) (by decide) (h (12, 11) (by decide) k)))))) (by decide) (by decide) (by decide) (by decide) (by kernel_rfl) rfl rfl,
                     lj_move (by decide) (by decide) (by decide) (by decide) (by kernel_rfl) rfl rfl, lj_index (idx_ints hkl2) (by decide) (by decide) (by decide) (by decide) (by kernel_rfl) rfl rfl rfl,
                     lj_load (u := ⟨lb, lo + k, none⟩) (load_one agg_int b3) (fun l h k => h (9, 7) (by decide) (h (10, 9) (by decide) (h (11, 10) (by decide) (h (12, 11) (by decide) k)))) (by decide) (by decide) (by decide) (by decide) (by kernel_rfl) rfl rfl,
                     lj_move (by decide) (by decide) (by decide) (by decide) (by kernel_rfl) rfl rfl, lj_index (idx_rows256 hsn) (by decide) (by decide) (by decide) (by decide) (by kernel_rfl) rfl rfl rfl, lj_index (index_ar hcl) (by decide) (by decide) (by decide) (by decide) (by kernel_rfl) rfl rfl rfl,
                     lj_load (u := ⟨rb, ro + s * 256 + c, none⟩) (load_one agg_int b4) (fun l h k => h (12, 11) (by decide) k) (by decide) (by decide) (by decide) (by decide) (by kernel_rfl) rfl rfl,
                     lj_callv (by kernel_rfl) ?call (by decide) (by decide) (by exact (show (148 : Nat) < 236 by decide)) (by exact (show (12 : Nat) < 15 by decide)) (by kernel_rfl) rfl rfl rfl,
                     lj_index (index_ar hcl) (by decide) (by decide) (by decide) (by decide) (by kernel_rfl) rfl rfl rfl,
                     lj_store (by decide) (by decide) (by exact (show (14 : Nat) < 15 by decide)) (by decide) ?st (fun _ => rfl) (by kernel_rfl) rfl rfl, trivial⟩ ?_
                  case call =>
                    refine hCall.mono fun e w' h => ?_
                    rcases h with ⟨h1, h2, h3⟩ | ⟨h1, h2, lv', h3, h4⟩
                    · exact ⟨_, h2, _, rfl, Or.inl ⟨h1, rfl, h3⟩⟩
                    · exact ⟨_, h2, _, rfl, Or.inr ⟨h1, HOl.out, lv', h3, h4⟩⟩
                  case st =>
                    intro v w1 ⟨y, hy, hpo⟩
                    have hkx : w1.heap[gx]? = wr.drew.heap[gx]? := by
                      rcases hpo with ⟨_, _, h3⟩ | ⟨_, _, lv', h3, h4⟩
                      · exact h3.block gx hg0
                      · exact (hCd.came h3 h4 (by rw [HOl.out]; omega)).2 gx hg0 HF.out |>.1
                    have c1 : w1.cell? ⟨gx, c, none⟩ = some _ := (World.cell?_of_block (a := ⟨gx, c, none⟩) hkx).trans cx
                    have f1 : w1.frozen? ⟨gx, c, none⟩ = false := by
                      have := fx
                      unfold World.frozen? at this ⊢
                      rw [hkx]; exact this
                    rw [Nat.zero_add]
                    exact store_one (fun w => size_of info_int w) c1 f1 (by rw [hy]; rfl) (by rw [hy]; rfl)
                  intro xs listed a1 w8 hall hxs hJ hR _
                  obtain ⟨v, w9, ⟨y, rfl, hpo⟩, rfl⟩ := hJ.p2 (hall 14 (by exact (show (14 : Nat) < 15 by decide)))
                  simp only [List.foldl_cons, List.foldl_nil, List.setIfInBounds_toArray, List.set_cons_succ, List.set_cons_zero]
                  rw [Nat.zero_add]
                  have hkt : k < ord2.length := by rw [HOl.out]; exact hkl2
                  rcases hpo with ⟨hm, hy, h3⟩ | ⟨hm, hy, lv', h3, h4⟩
                  · have hC9 := hCd.kept hp h3
                    have HCn : Hid (Cst R W0 (w9.setCell ⟨gx, c, none⟩ (.int .i64 (y : Nat))) nb ob mb gb q n ab g ord2 rows k (.slice (some ⟨lb, lo, none⟩) l2 lc2) (.slice ra k rc2) ev) :=
                      hC9.same (hC9.ex.grew.setCell (p := ⟨gx, c, none⟩) HGx.out _) (by simp [World.setCell]) fun j hj => q_set_other _ _ (fun e => HF.out (e ▸ hj))
                    have HPn := hidd (HP.out.seen hkt hcl (by rw [HS1.out, HT.out]; exact hm))
                    rw [HS1.out, HT.out, ← hy] at HPn
                    have HAn := hidd (arr_next (q := y) hcl (HA.out.kept (gd.trans h3)))
                    clear hall hxs hJ hR b1 b2 b3 b4 cx fx hCd hSe hCall hm hy h3 hC9 hcell gd hsx
                    go_wp2_with fail
                    exact ⟨⟨c + 1, by simp, by omega, ord2, _, _, _, HPn.out, hkt, HS1.out, HCn.out, HAn.out, HF.out⟩, by simp [intOf]; omega⟩
                  · obtain ⟨hC9, hcm⟩ := hCd.came h3 h4 (by rw [HOl.out]; omega)
                    obtain ⟨hx1, hx2⟩ := hcm gx hg0 HF.out
                    have HCn : Hid (Cst R W0 (w9.setCell ⟨gx, c, none⟩ (.int .i64 (y : Nat))) nb ob mb gb q n ab g (ord2 ++ [t]) rows k lv' (.slice ra k rc2) ev) :=
                      hC9.same (hC9.ex.grew.setCell (p := ⟨gx, c, none⟩) HGx.out _) (by simp [World.setCell]) fun j hj => q_set_other _ _ (fun e => hx2 (e ▸ hj))
                    have HPn := hidd (HP.out.fresh HOk.out hkt hcl (by rw [HS1.out, HT.out]; exact hm))
                    rw [HS1.out, HT.out, HOl.out, ← hy] at HPn
                    have HAn := hidd (arr_next (q := y) hcl (arr_block (HA.out.kept gd) hx1))
                    have HF2 := hidd hx2
                    have HK2 : Hid (k < (ord2 ++ [t]).length) := by rw [Hid, List.length_append]; omega
                    have HS2 : Hid ((ord2 ++ [t]).getD k 0 = s) := by rw [getD_snoc_lt hkt]; exact HS1.out
                    clear hall hxs hJ hR b1 b2 b3 b4 cx fx hCd hSe hCall hm hy h3 h4 hC9 hcm hx1 hx2 hcell gd hsx
                    go_wp2_with fail
                    exact ⟨⟨c + 1, by simp, by omega, ord2 ++ [t], _, _, lv', HPn.out, HK2.out, HS2.out, HCn.out, HAn.out, HF2.out⟩, by simp [intOf]; omega⟩
                · obtain rfl : c = 256 := by omega
                  have kc : decide ((256 : Int) < 256) = false := rfl
                  obtain ⟨l2, hol⟩ : ∃ l2, ord2.length = l2 := ⟨_, rfl⟩
                  rw [hol] at hkl2
                  have hl2n : l2 ≤ n := by rw [← hol, ← HRn.out]; exact hP.ord_le
                  obtain ⟨_, la2, lc2, hlv, _⟩ := hCs.see.row
                  rw [hol] at hlv
                  subst hlv
                  have hrl := hP.rl
                  have HAr : Hid (ArrAt wr gx 0 256 fun j => .int .i64 (row j : Nat)) := hA.congr fun j hj => by rw [if_pos hj]
                  obtain ⟨rv', w7, hap, ⟨va, vc, rfl⟩, hC7⟩ := hCs.pushRow hp (row := row) (by rw [hrl]; omega) 90
                  rw [hrl] at hap hC7
                  have HC7 := hidd hC7
                  have HP := hidd hP
                  have HOl := hidd hol
                  have HS1 := hidd hs
                  have hsx : ord2[k]? = some s := by rw [← hs, List.getD_eq_getElem?_getD, List.getElem?_eq_getElem (by rw [hol]; exact hkl2)]; rfl
                  clear JS hP hol hs hCs hA hF hC7
                  go_wp2_with (first | (refine wpList_load_row rfl rfl rfl HAr.out ?_) | (refine wpList_build_row rfl rfl rfl ?_) | (at_builtin; refine wpList_append_eq rfl rfl rfl rfl hap ?_))
                  clear hap HAr
                  have hCd := HC7.out.kept hp (drew_grew w7)
                  have hX := hCd.ex
                  have b1 : w7.drew.cell? ⟨tb, 1, none⟩ = some (.slice (some ⟨eb, eo, none⟩) n ec) := cell0_of (heap_kept hX.grew HT0.out) 1
                  have b2 := c0_of hCd.ordb
                  obtain ⟨lb, lo, lc3, e, _, hlb, _, _, hcell⟩ := hCd.see.row.at (by rw [HOl.out]; omega)
                  rw [HOl.out] at e
                  cases e
                  have b3 := hcell k (.int .i64 (s : Nat)) (by rw [HOl.out]; omega) (by rw [List.getElem?_map, hsx]; rfl)
                  have b4 := (HG0.out.trans hX.grew).keeps (HEn.out s hsn)
                  have hr := hX.raw
                  have habl := (Array.getElem?_eq_some_iff.1 hr).1
                  have hcq : w7.drew.cell? ⟨ab, 257, none⟩ = some ev := by unfold World.cell?; dsimp only; rw [hr]; exact aCells_end ev
                  have hfq : w7.drew.frozen? ⟨ab, 257, none⟩ = false := by unfold World.frozen?; dsimp only; rw [hr]; simp
                  obtain ⟨ow, how⟩ : ∃ ow, ev.ownBlock = ow := ⟨_, rfl⟩
                  have hoq : ow ≠ some ab := by rw [← how]; exact fun e => (hX.owne _ e).2.1 rfl
                  have hol3 : ∀ k, ow = some k → k < w7.drew.heap.size := by rw [← how]; exact fun k e => (hX.owne k e).2.2.2
                  have hlo3 : ow ≠ some lb := by rw [← how]; exact (hX.ln lb rfl).2
                  have hla3 : lb ≠ ab := (hX.ownl lb rfl).2.1
                  have oab := hCd.out ab (Or.inr (Or.inl rfl))
                  have hoo : ow ≠ some ob := by rw [← how]; exact fun e => (hCd.out ob (Or.inr (Or.inr (Or.inr (Or.inr e))))).2.1 rfl
                  have hobl := (Array.getElem?_eq_some_iff.1 hCd.ordb).1
                  have htl := (Array.getElem?_eq_some_iff.1 HT0.out).1
                  have hwo : ∀ k, ow = some k → W0.heap.size ≤ k := by rw [← how]; exact fun k e => (hX.owne k e).2.2.1
                  have hwab := hX.lo.2.1
                  have hel : eb < W0.heap.size := by have := lt_of_cell (HG0.out.keeps (HEn.out s hsn)); exact this
                  have hWd := hX.grew.size
                  refine RR.region_frame (J := ApJ w7.drew ⟨ab, 257, none⟩ ow (EndApp W0 w7.drew ev (k + 1) (((ord2.take k).map fun x => Value.bool (R.en x)) ++ [.bool (R.en s)])) [10] 1 11 13 166) (Rl := ApRl ⟨ab, 257, none⟩ ow) [155, 156, 157, 158, 159, 160, 161, 162, 163, 164, 165, 166, 167] mixed (ApRl.drew _ _) ApRl.trans
                    [.val (.pointer (some ⟨ab, 257, none⟩)), .val ev, .val (.pointer (some ⟨tb, 1, none⟩)), .val (.slice (some ⟨eb, eo, none⟩) n ec), .val (.slice (some ⟨lb, lo, none⟩) l2 lc2), .val (.int .i64 (k : Nat)), .val (.pointer (some ⟨lb, lo + k, none⟩)), .val (.int .i64 (s : Nat)), .val (.pointer (some ⟨eb, eo + s, none⟩)), .val (.bool (R.en s)), .fact (OneNew w7.drew (.bool (R.en s))), .fact fun _ _ => True, .val (.pointer (some ⟨ab, 257, none⟩)), .fact fun _ _ => True]
                    (ap_start _ _) (ap_mono ?_) (by kernel_rfl) (by kernel_rfl)
                    ⟨gj_field (field_aut2 ab) (by decide) (by decide) (by decide) (by kernel_rfl) rfl rfl,
                     gj_row (wb := w7.drew) agg_boolsl hcq hoq (by decide) (by decide) (by decide) (by kernel_rfl) rfl rfl,
                     gj_field (field_tab1 tb) (by decide) (by decide) (by decide) (by kernel_rfl) rfl rfl,
                     gj_load (p := ⟨tb, 1, none⟩) ?l1 (by decide) (by decide) (by decide) (by kernel_rfl) rfl rfl,
                     gj_load (p := ⟨ob, 0, none⟩) ?l0 (by decide) (by decide) (by decide) (by kernel_rfl) rfl rfl,
                     gj_move (by decide) (by decide) (by decide) (by kernel_rfl) rfl rfl,
                     gj_index (idx_ints hkl2) (by decide) (by decide) (by decide) (by kernel_rfl) rfl rfl rfl,
                     gj_load (p := ⟨lb, lo + k, none⟩) ?l2 (by decide) (by decide) (by decide) (by kernel_rfl) rfl rfl,
                     gj_index (idx_bools hsn) (by decide) (by decide) (by decide) (by kernel_rfl) rfl rfl rfl,
                     gj_load (p := ⟨eb, eo + s, none⟩) ?l3 (by decide) (by decide) (by decide) (by kernel_rfl) rfl rfl,
                     gj_one (fun w => build_bool (R.en s) w) (by decide) (by decide) (by decide) (by decide) (by kernel_rfl) rfl rfl,
                     gj_append (by decide) (by decide) (by exact (show (166 : Nat) < 236 by decide)) (by exact (show (11 : Nat) < 14 by decide)) ?ap (by kernel_rfl) rfl,
                     gj_field (field_aut2 ab) (by decide) (by decide) (by decide) (by kernel_rfl) rfl rfl,
                     gj_store (wb := w7.drew) (by kernel_rfl) (by kernel_rfl) (by decide) hoq rfl ⟨_, hcq⟩ hfq (by exact (show (13 : Nat) < 14 by decide)) ?one (by kernel_rfl) rfl rfl (fun w => size_of (by kernel_rfl) w), trivial⟩ ?_
                  case l1 =>
                    intro wx g
                    exact load_one agg_boolsl (by rw [g.2 ⟨tb, 1, none⟩ (by show tb < w7.drew.heap.size; omega) (fun e => by have := hwo tb e; omega) (fun e => by have := congrArg Addr.block e; simp only at this; omega)]; exact b1)
                  case l0 =>
                    intro wx g
                    exact load_one agg_ints (by rw [g.2 ⟨ob, 0, none⟩ hobl hoo (fun e => by have := congrArg Addr.block e; exact oab.2.1 this.symm)]; exact b2)
                  case l2 =>
                    intro wx g
                    exact load_one agg_int (by rw [g.2 ⟨lb, lo + k, none⟩ hlb hlo3 (fun e => hla3 (congrArg Addr.block e))]; exact b3)
                  case l3 =>
                    intro wx g
                    exact load_one agg_bool (by rw [g.2 ⟨eb, eo + s, none⟩ (by show eb < w7.drew.heap.size; omega) (fun e => by have := hwo eb e; omega) (fun e => by have := congrArg Addr.block e; simp only at this; omega)]; exact b4)
                  case ap =>
                    intro a1 wx hg E
                    have hv : a1.eval (.tmp 156) = ev := E.opv rfl
                    obtain ⟨kk, hk1, hk2, hk3⟩ : OneNew w7.drew (.bool (R.en s)) (a1.eval (.tmp 165)) wx := E.op (.tmp 165)
                    rw [hv, hk1, ← how]
                    exact hX.endRun hg (by omega) hk3 1 _
                  case one =>
                    intro v wx hA
                    obtain ⟨⟨_, va, vc, e, _⟩, _⟩ := hA
                    rw [e]; exact ⟨rfl, rfl⟩
                  · intro sx hs
                    simp only [List.mem_cons, List.not_mem_nil, or_false] at hs
                    rcases hs with rfl | rfl | rfl | rfl | rfl | rfl | rfl | rfl | rfl | rfl | rfl | rfl | rfl | rfl <;> first | exact Or.inl ⟨_, rfl⟩ | exact Or.inr ⟨_, rfl, OneNew.mono habl hol3⟩ | exact Or.inr ⟨_, rfl, fun _ _ _ _ _ => trivial⟩
                  · intro xs listed a1 w8 hall hxs hJ hR _
                    obtain ⟨v, w9, hA, hg, rfl⟩ := hJ.p2 (hall 13 (by exact (show (13 : Nat) < 14 by decide)))
                    rw [← how] at hg
                    have HEnd := hidd (hCd.pushEnd hp hsx hA hg)
                    have HPn := hidd (HP.out.rowed (by rw [HOl.out]; exact hkl2))
                    simp only [List.foldl_cons, List.foldl_nil, List.setIfInBounds_toArray, List.set_cons_succ, List.set_cons_zero]
                    clear hall hxs hJ hR hA hg hCd hX b1 b2 b3 b4 hcell hr habl hcq hfq how hoq hol3 hlo3 hla3 oab hoo hobl htl hwo hwab hel hWd hsx
                    go_wp2_with fail
                    exact ⟨⟨k + 1, _, _, by simp, rfl, by omega, ord2, T2, rows ++ [row], _, v, HPn.out, HEnd.out⟩, by simp [intOf]; omega⟩
            · have hlk : l = k := by omega
              subst hlk
              have kl : decide ((l : Int) < (l : Int)) = false := decide_eq_false (by omega)
              have hp4 : 0 < l := by obtain ⟨r, hr⟩ := hP.bfs.zero; rw [← hol, hr]; simp
              have hrl := hP.rl
              obtain ⟨C, hC⟩ : ∃ C, bfsA R ord T = C := ⟨_, rfl⟩
              have HCn : Hid (C.n = l) := by rw [← hC]; exact hol
              have HLe : Hid (LeastOf R (autOf C) ∧ C.Ok) := by rw [← hC]; exact NuP.least HOk.out HGr.out (by rw [hol]; exact hP)
              have hnx : ∀ s c, s < l → c < 256 → (rows.getD s fun _ => 0) c = C.nx s c := fun s c hs hc => by rw [← hC]; exact hP.old s hs c hc
              have hen : ∀ s, C.en s = R.en (ord.getD s 0) := fun s => by rw [← hC]; rfl
              have hX := hCs.ex
              obtain ⟨rb2, ro2, rc3, e, _, hrb2, _, _, hcr⟩ := hX.next.at (by omega)
              rw [hrl] at e hcr
              cases e
              obtain ⟨eb2, eo2, ec2, e, heb2, hel2, _, _, hce2⟩ := hX.ends.at (by omega)
              subst e
              have HRw : Hid (∀ s c, s < l → c < 256 → wr.cell? ⟨rb2, ro2 + s * 256 + c, none⟩ = some (.int .i64 (C.nx s c : Nat))) := fun s c hs hc => by
                rw [Nat.add_assoc, ← hnx s c hs hc]
                exact hcr (s * 256 + c) _ (by have : (s + 1) * 256 ≤ l * 256 := Nat.mul_le_mul_right _ hs; omega) (rowsC_get hc rows s (by omega))
              have HEs : Hid (∀ s, s < l → wr.cell? ⟨eb2, eo2 + s, none⟩ = some (.bool (C.en s))) := fun s hs => by
                refine hce2 s _ (by omega) ?_
                rw [hen s, List.take_of_length_le (by omega), List.getElem?_map, List.getD_eq_getElem?_getD, List.getElem?_eq_getElem (by omega)]; rfl
              have HRb : Hid (rb2 < wr.heap.size ∧ rb2 ≠ ab) := ⟨hrb2, (hX.ownn rb2 rfl).2.1⟩
              have HEb : Hid (eb2 < wr.heap.size ∧ eb2 ≠ ab ∧ W0.heap.size ≤ eb2) := ⟨hel2, (hX.owne eb2 rfl).2.1, heb2⟩
              have habl := (Array.getElem?_eq_some_iff.1 hX.raw).1
              have HAb : Hid (W0.heap.size ≤ ab ∧ ab < wr.heap.size) := ⟨hX.lo.2.1, habl⟩
              have HGw4 := hidd hX.grew
              have HS0 : Hid (ColS W0 wr (wr.alloc (.map #[] 0)) ab wr.heap.size (.slice (some ⟨eb2, eo2, none⟩) l ec2) C 0 (.slice none 0 0)) := by
                have g := (Grew.refl wr).alloc (.map #[] 0)
                have hA0 : ArrAt wr ab 0 258 (clG (fun j => if j < 0 then (numb (colA C) 256 j : Nat) else 0) (.slice none 0 0) (.slice (some ⟨eb2, eo2, none⟩) l ec2)) := fun j hj => by
                  rw [Nat.zero_add]
                  refine ⟨?_, free0_of hX.raw j⟩
                  rw [cell0_of hX.raw j]
                  unfold aCells clG
                  dsimp only
                  by_cases h1 : j < 256
                  · rw [Array.getElem?_append_left (by rw [rowI_size]; exact h1), rowI_get _ h1, if_pos h1, if_neg (Nat.not_lt_zero j)]
                  · rw [Array.getElem?_append_right (by rw [rowI_size]; omega), rowI_size, if_neg h1]
                    rcases (by omega : j = 256 ∨ j = 257) with rfl | rfl <;> rfl
                refine ⟨hX.grew.trans g, fun j hj _ => g.block j hj, g.size, hA0.kept g, KMap.made (encT C.n) wr, ⟨rfl, none, 0, rfl, Nat.le_refl _, Nat.zero_le _, fun h => absurd h (by omega)⟩, fun k hk => (by cases hk), ⟨hX.lo.2.1, habl, Nat.le_refl _⟩, hX.grew.size⟩
              have hmm := run_makeMap (P := Tryd.prog) 164 wr
              clear KS hP hCs hol hkl hC hnx hen hX hcr hce2 hrb2 heb2 hel2 habl hrl
              go_wp2_with fail
              clear hmm c0
              obtain ⟨w4, rfl⟩ : ∃ w4, w4 = wr := ⟨_, rfl⟩
              generalize w4.alloc (.map #[] 0) = W5 at HS0 ⊢
              obtain ⟨cm, hcm⟩ : ∃ cm, w4.heap.size = cm := ⟨_, rfl⟩
              rw [hcm] at HS0
              try rw [hcm]
              clear hcm
              have h8 : l ≤ 8192 := by omega
              go_loopw [25, 26] (fun s25 s26 wr => ∃ c m fa fc, s26 = .int .i64 (c : Nat) ∧ c ≤ 256 ∧ s25 = .slice fa m fc ∧ m ≤ c ∧ Hid (m = (fsts (colA C) c).length ∧ ColS W0 w4 wr ab cm (.slice (some ⟨eb2, eo2, none⟩) l ec2) C c (.slice fa m fc))) (fun _ s26 _ => 256 - (intOf s26).toNat)
              case atStart => exact ⟨0, 0, _, _, rfl, by omega, rfl, Nat.le_refl _, rfl, HS0.out⟩
              case round =>
                obtain ⟨c, m, fa, fc, rfl, hc, rfl, hmc, JS⟩ := hrel
                clear HS0
                obtain ⟨hm, hS⟩ := JS.out
                by_cases hcl : c < 256
                · have kc : decide ((c : Int) < 256) = true := decide_eq_true (by omega)
                  have HM := hidd hm
                  have HS := hidd hS
                  clear JS hm hS
                  go_wp2_with fail
                  obtain ⟨w0, rfl⟩ : ∃ w0, w0 = wr := ⟨_, rfl⟩
                  go_loopw [27, 175] (fun s27 s175 wr => ∃ (i : Nat) (S : ByteArray), s175 = .int .i64 (i : Nat) ∧ s27 = .string S ∧ i ≤ l ∧ S.size ≤ i * 8194 ∧ Hid (Grew w0 wr ∧ S.data.toList = colT C c i)) (fun _ s175 _ => l - (intOf s175).toNat)
                  case atStart => exact ⟨0, ⟨#[]⟩, rfl, rfl, by omega, Nat.zero_le _, Grew.refl _, rfl⟩
                  case round =>
                    obtain ⟨i, S, rfl, rfl, hi, hSz, LG⟩ := hrel
                    by_cases hil : i < l
                    · have ki : decide ((i : Int) < (l : Int)) = true := decide_eq_true (by omega)
                      have HG := hidd LG.out.1
                      have HT := hidd LG.out.2
                      have HRow3 : Hid (∀ j, j < 256 → wr.cell? ⟨rb2, ro2 + i * 256 + j, none⟩ = some (.int .i64 (C.nx i j : Nat))) := fun j hj => by
                        rw [World.cell?_of_block (a := ⟨rb2, ro2 + i * 256 + j, none⟩) ((HS.out.kept HG.out).keep rb2 HRb.out.1 HRb.out.2)]; exact HRw.out i j hil hj
                      have hz := run_zero_rowI
                      have HZ := hidd (rowI_at wr (fun _ => 0) 26)
                      clear LG
                      go_upto_region 60 with (first | (refine wpList_load_off rfl rfl rfl HRow3.out ?_) | (refine wpList_store_row rfl rfl rfl rfl HZ.out ?_; intro w5 hS5 hb5))
                      have hg5 : Grew wr w5 := ((Grew.refl wr).alloc _).below hb5 (Nat.le_refl _)
                      obtain ⟨g1, hg1⟩ : ∃ g1, wr.heap.size = g1 := ⟨_, rfl⟩
                      rw [hg1] at hS5 ⊢
                      have cx := hS5.at0 c hcl
                      obtain ⟨x, hx⟩ : ∃ x, C.nx i c = x := ⟨_, rfl⟩
                      have hx8 : x ≤ 8192 := by rw [← hx]; have := HLe.out.2.nx i c (by rw [HCn.out]; exact hil) hcl; rw [HCn.out] at this; omega
                      rw [hx] at cx
                      have HX := hidd hx
                      have HD := hidd (Digits_any x w5 (by omega))
                      have hds := digText_size x
                      obtain ⟨D, hDe⟩ : ∃ D, digText x = D := ⟨_, rfl⟩
                      rw [hDe] at HD hds
                      have HDe := hidd hDe
                      have HG5 := hidd (HG.out.trans hg5)
                      have hs1 : (S ++ D).size = S.size + D.size := by simp
                      have hs2 : (S ++ D ++ ⟨#[32]⟩ : ByteArray).size = S.size + D.size + 1 := by simp [hs1]; rfl
                      clear hS5 hb5 hg5 hg1 hx hDe hz HZ HRow3
                      go_wp2_with fail
                      refine HD.out.mono ?_; rintro e w6 ⟨rfl, rfl⟩
                      go_wp2_with fail
                      have hdl : Lib.decDigits x = D.data.toList := by rw [← HDe.out]; rfl
                      refine ⟨⟨i + 1, S ++ D ++ ⟨#[32]⟩, by simp, rfl, by omega, by rw [hs2, Nat.add_mul]; omega, HG5.out, ?_⟩, by simp [intOf]; omega⟩
                      rw [colT_succ, ← HT.out, HX.out]
                      unfold numT
                      rw [hdl]
                      simp
                    · have hil2 : l = i := by omega
                      subst hil2
                      have ki : decide ((l : Int) < (l : Int)) = false := decide_eq_false (by omega)
                      have hSe : S = txtC (colA C c) := txt_eq (by rw [LG.out.2, HCn.out])
                      have hSc := HS.out.kept LG.out.1
                      have hD := colA_dom HLe.out.2 (by rw [HCn.out]; exact h8) hcl
                      obtain ⟨K, hK⟩ : ∃ K, txtC (colA C c) = K := ⟨_, rfl⟩
                      rw [hK] at hSe
                      subst hSe
                      have hke : (encT C.n).enc (colA C c) = .string S := by rw [← hK]; rfl
                      by_cases hq : colA C c ∈ upN (colA C) c
                      · have hlT := hSc.map.lookS keyT (t := 164) Tryd.underlying164 (numL_mem hq) true
                        have hlF := hSc.map.lookS keyT (t := 164) Tryd.underlying164 (numL_mem hq) false
                        have hnb := numb_old hcl hq
                        obtain ⟨x, hx⟩ : ∃ x, numb (colA C) 256 c = x := ⟨_, rfl⟩
                        have hix : @List.idxOf (List Nat) instBEqOfDecidableEq (colA C c) (upN (colA C) c) = x := by rw [← hx]; exact hnb.symm
                        rw [hix, hke] at hlT hlF
                        have hlT2 : (Instr.lookup 164 (.map (some cm)) (.string S) true).run Tryd.prog wr = .ok (.tuple #[.int .i64 (x : Nat), .bool true]) wr := hlT
                        have hlF2 : (Instr.lookup 164 (.map (some cm)) (.string S) false).run Tryd.prog wr = .ok (.int .i64 (x : Nat)) wr := hlF
                        have HCn2 := hidd (hSc.old hcl hq hx)
                        have ca := hSc.arr.at0 c (by omega)
                        have c1 : clG (fun j => if j < c then (numb (colA C) 256 j : Nat) else 0) (.slice none 0 0) (.slice (some ⟨eb2, eo2, none⟩) l ec2) c = .int .i64 0 := by unfold clG; dsimp only; rw [if_pos hcl, if_neg (Nat.lt_irrefl c)]
                        rw [c1] at ca
                        have cf := hSc.arr.free0 c (by omega)
                        have HMn : Hid (m = (fsts (colA C) (c + 1)).length) := by rw [fsts_mem_upN, if_pos hq]; exact HM.out
                        clear LG hSc hlT hlF hnb hix hke hD c1 hq hx hK
                        go_wp2_with fail
                        exact ⟨⟨c + 1, m, _, _, by simp, by omega, rfl, by omega, HMn.out, HCn2.out⟩, by simp [intOf]; omega⟩
                      · have hlT := hSc.map.lookN keyT (t := 164) Tryd.underlying164 (zero_int wr) hD (by rw [numL_fst]; exact hq) true
                        have hlen := hSc.map.len (t := 164) (by kernel_rfl) 3
                        rw [numL_length] at hlen
                        obtain ⟨w6, hput, hs6, v', w7, hap, ⟨va, vc, rfl⟩, hlF, ca, cf, hCn⟩ := hSc.fresh HLe.out.2 (by rw [HCn.out]; exact h8) hcl hq 37
                        rw [hke] at hlT
                        rw [hK] at hput hlF
                        rw [← hs6, ← HM.out] at hap
                        rw [← HM.out] at hCn
                        have hul := upN_le (colA C) c
                        obtain ⟨u, hu⟩ : ∃ u, (upN (colA C) c).length = u := ⟨_, rfl⟩
                        rw [hu] at hlen hput hlF hCn hul
                        have hlT2 : (Instr.lookup 164 (.map (some cm)) (.string S) true).run Tryd.prog wr = .ok (.tuple #[.int .i64 0, .bool false]) wr := hlT
                        have HCn2 := hidd hCn
                        have HMn : Hid (m + 1 = (fsts (colA C) (c + 1)).length) := by rw [Hid, fsts_mem_upN, if_neg hq, List.length_append, HM.out]; rfl
                        clear LG hSc hlT hke hD hq hK hCn hu hs6
                        go_wp2_with (first | (refine wpList_len_eq hlen rfl rfl rfl rfl ?_) | (at_builtin; refine wpList_append_eq rfl rfl rfl rfl hap ?_))
                        exact ⟨⟨c + 1, m + 1, _, _, by simp, by omega, rfl, by omega, HMn.out, HCn2.out⟩, by simp [intOf]; omega⟩
                · have hce : c = 256 := by omega
                  have kc : decide ((c : Int) < 256) = false := decide_eq_false (by omega)
                  rw [hce] at hm hS
                  clear hce
                  have hm0 : 0 < m := by rw [hm]; exact clsN_pos C
                  obtain ⟨fb, fo, fc2, e, hfb, hfl, _, _, hfc⟩ := hS.row.at (by rw [← hm]; exact hm0)
                  rw [← hm] at e hfc
                  cases e
                  have HFc : Hid (∀ j, j < m → (fsts (colA C) 256).getD j 0 < 256 ∧ wr.cell? ⟨fb, fo + j, none⟩ = some (.int .i64 ((fsts (colA C) 256).getD j 0 : Nat))) := fun j hj => by
                    have hj2 : j < (fsts (colA C) 256).length := by rw [← hm]; exact hj
                    refine ⟨fsts_lt (colA C) 256 _ (getD_mem0 hj2), hfc j _ (by omega) ?_⟩
                    rw [List.getElem?_map, List.getD_eq_getElem?_getD, List.getElem?_eq_getElem hj2]; rfl
                  have HFb : Hid (fb < wr.heap.size ∧ fb ≠ ab) := ⟨hfl, by have := HAb.out.2; omega⟩
                  have HRw5 : Hid (∀ s c, s < l → c < 256 → wr.cell? ⟨rb2, ro2 + s * 256 + c, none⟩ = some (.int .i64 (C.nx s c : Nat))) := fun s c hs hc => by
                    rw [World.cell?_of_block (a := ⟨rb2, ro2 + s * 256 + c, none⟩) (hS.keep rb2 HRb.out.1 HRb.out.2)]; exact HRw.out s c hs hc
                  have HEs5 : Hid (∀ s, s < l → wr.cell? ⟨eb2, eo2 + s, none⟩ = some (.bool (C.en s))) := fun s hs => by
                    rw [World.cell?_of_block (a := ⟨eb2, eo2 + s, none⟩) (hS.keep eb2 HEb.out.1 HEb.out.2.1)]; exact HEs.out s hs
                  have HRb5 : Hid (rb2 < wr.heap.size ∧ rb2 ≠ ab) := ⟨Nat.lt_of_lt_of_le HRb.out.1 hS.size, HRb.out.2⟩
                  have HEb5 : Hid (eb2 < wr.heap.size ∧ eb2 ≠ ab ∧ W0.heap.size ≤ eb2) := ⟨Nat.lt_of_lt_of_le HEb.out.1 hS.size, HEb.out.2⟩
                  have HM := hidd hm
                  have HR0 : Hid (RowS W0 wr wr ab (.slice (some ⟨eb2, eo2, none⟩) l ec2) C 0 (.slice none 0 0) (fun _ => undef)) :=
                    ⟨hS.grew, fun _ _ _ => rfl, Nat.le_refl _, hS.arr.congr fun j hj => by
                      unfold clG
                      by_cases h1 : j < 256
                      · rw [if_pos h1, if_pos h1]
                        dsimp only
                        rw [if_pos h1]
                      · rw [if_neg h1, if_neg h1], ⟨rfl, none, 0, rfl, Nat.le_refl _, Nat.zero_le _, fun h => absurd h (by omega)⟩, fun i hi => absurd hi (Nat.not_lt_zero i), fun i hi => absurd hi (Nat.not_lt_zero i), fun j hj => (by cases hj), ⟨hS.lo.1, Nat.lt_of_lt_of_le hS.lo.2.1 hS.size⟩⟩
                  have HW5 : Hid (W0.heap.size ≤ wr.heap.size) := hS.grew.size
                  clear JS hm hS hfc hfb hfl HRw HEs HRb HEb HAb
                  go_wp2_with fail
                  obtain ⟨w5, rfl⟩ : ∃ w5, w5 = wr := ⟨_, rfl⟩
                  go_loopw [211] (fun s211 wr => ∃ i : Nat, s211 = .int .i64 (i : Nat) ∧ i ≤ l ∧ Hid (∃ nxv vs, RowS W0 w5 wr ab (.slice (some ⟨eb2, eo2, none⟩) l ec2) C i nxv vs)) (fun s211 _ => l - (intOf s211).toNat)
                  case atStart => exact ⟨0, rfl, by omega, _, _, HR0.out⟩
                  case round =>
                    obtain ⟨i, rfl, hi, LG⟩ := hrel
                    clear HR0
                    obtain ⟨nxv, vs, hR⟩ := LG.out
                    by_cases hil : i < l
                    · have ki : decide ((i : Int) < (l : Int)) = true := decide_eq_true (by omega)
                      have HR := hidd hR
                      have HRow3 : Hid (∀ j, j < 256 → wr.cell? ⟨rb2, ro2 + i * 256 + j, none⟩ = some (.int .i64 (C.nx i j : Nat))) := fun j hj => by
                        rw [World.cell?_of_block (a := ⟨rb2, ro2 + i * 256 + j, none⟩) (hR.keep rb2 HRb5.out.1 HRb5.out.2)]; exact HRw5.out i j hil hj
                      have hz := run_zero_rowI
                      have HZ := hidd (rowI_at wr (fun _ => 0) 26)
                      clear LG hR
                      go_upto_region 70 with (first | (refine wpList_load_off rfl rfl rfl HRow3.out ?_) | (refine wpList_store_row rfl rfl rfl rfl HZ.out ?_; intro w6 hS6 hb6))
                      have hg6 : Grew wr w6 := ((Grew.refl wr).alloc _).below hb6 (Nat.le_refl _)
                      obtain ⟨g1, hg1⟩ : ∃ g1, wr.heap.size = g1 := ⟨_, rfl⟩
                      rw [hg1] at hS6 ⊢
                      have HR6 := hidd (HR.out.kept hg6)
                      have HS6 := hidd hS6
                      clear hS6 hb6 hg1 hz HZ HRow3 hg6 HR
                      go_wp2_with fail
                      obtain ⟨w7, rfl⟩ : ∃ w7, w7 = wr := ⟨_, rfl⟩
                      go_loopw [34, 217] (fun s34 s217 wr => ∃ j la2 lc2, s217 = .int .i64 (j : Nat) ∧ j ≤ m ∧ s34 = .slice la2 j lc2 ∧ Hid (Grew w6 wr ∧ QRow wr w6.heap.size 3 1 (.slice la2 j lc2) j ((rowK C i).take j) ∧ ∀ k, (Value.slice la2 j lc2).ownBlock = some k → w6.heap.size ≤ k ∧ k < wr.heap.size)) (fun _ s217 _ => m - (intOf s217).toNat)
                      case atStart => exact ⟨0, _, _, rfl, by omega, rfl, Grew.refl _, ⟨rfl, none, 0, rfl, Nat.le_refl _, Nat.zero_le _, fun h => absurd h (by omega)⟩, fun k hk => (by cases hk)⟩
                      case round =>
                        obtain ⟨j, la2, lc2, rfl, hj, rfl, RS⟩ := hrel
                        by_cases hjm : j < m
                        · have kj : decide ((j : Int) < (m : Int)) = true := decide_eq_true (by omega)
                          obtain ⟨hg, hq, ho⟩ := RS.out
                          obtain ⟨hd, hfc⟩ := HFc.out j hjm
                          obtain ⟨d, hde⟩ : ∃ d, (fsts (colA C) 256).getD j 0 = d := ⟨_, rfl⟩
                          rw [hde] at hd hfc
                          have cd : wr.cell? ⟨fb, fo + j, none⟩ = some (.int .i64 (d : Nat)) := by
                            rw [World.cell?_of_block (a := ⟨fb, fo + j, none⟩) ((HR6.out.kept hg).keep fb HFb.out.1 HFb.out.2)]; exact hfc
                          have cx := (HS6.out.kept hg).at0 d hd
                          obtain ⟨x, hx⟩ : ∃ x, C.nx i d = x := ⟨_, rfl⟩
                          rw [hx] at cx
                          obtain ⟨v', w8, hap, ⟨va, vc, rfl⟩, hq8, hg8, ho8⟩ := row_step hq hg ho x (by omega) 37
                          have HNw : Hid (Grew w6 w8 ∧ QRow w8 w6.heap.size 3 1 (.slice va (j + 1) vc) (j + 1) ((rowK C i).take (j + 1)) ∧ ∀ k, (Value.slice va (j + 1) vc).ownBlock = some k → w6.heap.size ≤ k ∧ k < w8.heap.size) := by
                            have hjl : j < (fsts (colA C) 256).length := by rw [← HM.out]; exact hjm
                            have e : (rowK C i).take (j + 1) = (rowK C i).take j ++ [.int .i64 (x : Nat)] := by
                              rw [List.take_add_one]
                              congr 1
                              unfold rowK
                              rw [List.getElem?_map, List.getElem?_eq_getElem hjl]
                              rw [List.getD_eq_getElem?_getD, List.getElem?_eq_getElem hjl] at hde
                              have h2 : (fsts (colA C) 256)[j] = d := hde
                              rw [h2]
                              show [Value.int .i64 (C.nx i d : Nat)] = _
                              rw [hx]
                            rw [e]
                            exact ⟨hg8, hq8, ho8⟩
                          clear RS hg hq ho hfc hde hx hq8 hg8 ho8
                          go_wp2_with (first | (at_builtin; refine wpList_append_eq rfl rfl rfl rfl hap ?_))
                          exact ⟨⟨j + 1, _, _, by simp, by omega, rfl, HNw.out⟩, by simp [intOf]; omega⟩
                        · have hjm2 : m = j := by omega
                          subst hjm2
                          have kj : decide ((m : Int) < (m : Int)) = false := decide_eq_false (by omega)
                          obtain ⟨hg, hq, ho⟩ := RS.out
                          have htk : (rowK C i).take m = rowK C i := List.take_of_length_le (by rw [rowK_len, HM.out]; exact Nat.le_refl _)
                          have hml : m = (rowK C i).length := by rw [rowK_len]; exact HM.out
                          rw [htk] at hq
                          have hq2 : QRow wr w6.heap.size 3 1 (.slice la2 m lc2) (rowK C i).length (rowK C i) := by rw [← hml]; exact hq
                          obtain ⟨v', w8, hap, ⟨va, vc, rfl⟩, cn, cnf, hR8⟩ := HR6.out.push hg hq2 ho rfl (by omega) 27
                          have cn6 := (HR6.out.kept hg).arr.at0 256 (by omega)
                          have e256 : clG (fun j => ((numb (colA C) 256 j : Nat) : Int)) nxv (.slice (some ⟨eb2, eo2, none⟩) l ec2) 256 = nxv := by unfold clG; rw [if_neg (by omega), if_pos rfl]
                          rw [e256] at cn6
                          obtain ⟨_, nla, nlc, hne, _⟩ := HR6.out.next
                          subst hne
                          have HR8 := hidd hR8
                          clear RS hg hq hq2 ho htk hml hR8 e256
                          go_wp2_with (first | (at_builtin; refine wpList_append_eq rfl rfl rfl rfl hap ?_))
                          exact ⟨⟨i + 1, by simp, by omega, _, _, HR8.out⟩, by simp [intOf]; omega⟩
                    · have hil2 : l = i := by omega
                      subst hil2
                      have ki : decide ((l : Int) < (l : Int)) = false := decide_eq_false (by omega)
                      have hcn := HCn.out
                      rw [← hcn] at hR
                      have hlc : 0 < C.n := by rw [hcn]; exact hp4
                      obtain ⟨nb2, no2, hnv, _⟩ := hR.rowsAt hlc (w8 := wr) fun _ _ _ => rfl
                      have hA1 := hR.arr
                      obtain ⟨nc2, hnc2⟩ : ∃ x, cpV nxv = x := ⟨_, rfl⟩
                      rw [hnc2] at hnv
                      subst hnv
                      have hv := clG_value (C := C) (nb := nb2) (no := no2) (nc := nc2) (ea := some ⟨eb2, eo2, none⟩) (ec := ec2)
                      have HV := hidd hv
                      have hA1' : ArrAt wr ab 0 258 (clG (fun j => ((numb (colA C) 256 j : Nat) : Int)) (.slice (some ⟨nb2, no2, none⟩) C.n nc2) (.slice (some ⟨eb2, eo2, none⟩) C.n ec2)) := by
                        have := hA1
                        rw [hcn] at this ⊢
                        exact this
                      have HA1 := hidd hA1'
                      have hrsl : wr.heap[tb + 1]? = some (.cells zAut 30 (0, 0)) := heap_kept hR.grew HR0c.out
                      have HT6 : Hid (ArrAt wr (tb + 1) 0 258 fun j => zAut.getD j undef) := fun j hj => by
                        rw [Nat.zero_add]
                        refine ⟨?_, free0_of hrsl j⟩
                        rw [cell0_of hrsl j]
                        show zAut[j]? = some (zAut.getD j undef)
                        rw [Array.getD_eq_getD_getElem?, Array.getElem?_eq_getElem (by show j < (aCells (.slice none 0 0)).size; rw [aCells_size]; exact hj)]; rfl
                      have HOne : Hid (∀ j, j < 258 → (clG (fun j => ((numb (colA C) 256 j : Nat) : Int)) (.slice (some ⟨nb2, no2, none⟩) C.n nc2) (.slice (some ⟨eb2, eo2, none⟩) C.n ec2) j).oneCell' = true) := fun j _ => by
                        unfold clG; split
                        · rfl
                        · split <;> rfl
                      have HRw := hidd hR
                      clear LG hR hA1 hA1' hv hrsl
                      go_wp2_with (first | (refine wpList_load_autF rfl rfl rfl HA1.out HV.out ?_) | (refine wpList_store_autF rfl rfl rfl rfl HT6.out HV.out HOne.out ?_; intro w7 hA7 hb7 ho7))
                      have hgb := HRw.out.grew.size
                      have hW0s := HS0c.out
                      have h5s := HRw.out.size
                      have hW5 := HW5.out
                      have HNew : AutNew w.heap.size w7 (autOf C) (some ⟨nb2, no2, none⟩) (some ⟨eb2, eo2, none⟩) := fun w8 h8 k8 => by
                        have hk8 : ∀ j, w5.heap.size ≤ j → j < wr.heap.size → w8.heap[j]? = wr.heap[j]? := fun j h1 h2 => by
                          rw [k8 j (by omega) (Nat.lt_of_lt_of_le h2 hb7.size), ho7 j (by omega)]
                        obtain ⟨nb3, no3, hnv3, hrows⟩ := HRw.out.rowsAt hlc hk8
                        cases hnv3
                        refine autAt_of HLe.out.2 (by rw [HCn.out]; omega) hrows (Or.inr ⟨eb2, eo2, rfl, fun i hi => ?_⟩)
                        have heb := HEb5.out
                        have h7s := hb7.size
                        rw [World.cell?_of_block (a := ⟨eb2, eo2 + i, none⟩) (k8 eb2 (by omega) (by omega)), World.cell?_of_block (a := ⟨eb2, eo2 + i, none⟩) (ho7 eb2 (by omega)), World.cell?_of_block (a := ⟨eb2, eo2 + i, none⟩) (HRw.out.keep eb2 heb.1 heb.2.1)]
                        exact HEs5.out i (by rw [← HCn.out]; exact hi)
                      exact bodyPost_ret (results_aut (p := 2) rfl rfl hA7 HV.out) rfl ⟨autOf C, some ⟨nb2, no2, none⟩, nc2, some ⟨eb2, eo2, none⟩, ec2, rfl, HLe.out.1, HNew, (HG0.out.trans HRw.out.grew).below hb7 (by omega)⟩
end Go.Proofs.YtkkdpafkafjfgaaDoor
