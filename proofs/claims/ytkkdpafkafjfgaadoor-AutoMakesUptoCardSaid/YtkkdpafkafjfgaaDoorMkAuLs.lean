/- The least automaton of a raw one. -/
import Derived.Test.YtkkdpafkafjfgaaDoorMkAuLc
namespace Go.Proofs.YtkkdpafkafjfgaaDoor
open Go.RowKit RR
set_option linter.unusedVariables false
set_option maxRecDepth 100000
set_option linter.unusedSimpArgs false
theorem bool_le (R : RA) (i : Nat) : (if R.en i = true then 1 else 0 : Nat) ≤ 8192 := by split <;> omega
set_option maxRecDepth 100000 in
set_option maxHeartbeats 8000000 in
theorem Least_any (R : RA) (b : Nat) (w : World) (ok : R.Ok) (hn : R.n ≤ 8192) (h : RawAt w b R) : Calls Tryd.prog 32 #[.pointer (some ⟨b, 0, none⟩)] w (AutEnd R w) := by
  obtain ⟨rb, ro, rc, eb, eo, ec, hb, hrow, hends⟩ := h
  obtain ⟨n, hnn⟩ : ∃ n, R.n = n := ⟨_, rfl⟩
  rw [hnn] at hb hrow hends hn
  have hp : 0 < n := by have := ok.pos; omega
  have HOk := hidd ok
  have HRn := hidd hnn
  have HRow := hidd hrow
  have HEn := hidd hends
  have HRb := hidd hb
  have hza := zero_aut
  have hg0 : Grew w (w.alloc (.cells zAut 30)) := (Grew.refl w).alloc _
  obtain ⟨w1, hmk, hA1, hg1⟩ := make_ints n hn (w.alloc (.cells zAut 30))
  rw [World.size_alloc] at hmk hA1
  obtain ⟨⟨q0, q1⟩, _⟩ := two_cells (heap_kept hg0 hb)
  obtain ⟨⟨p0, p1⟩, _⟩ := two_cells (heap_kept (hg0.trans hg1) hb)
  have HG1 : Hid (Grew w w1) := hg0.trans hg1
  have HT2 : Hid (w1.heap[w.heap.size]? = some (.cells zAut 30 (0, 0))) := heap_kept hg1 (heap_alloc_new w _)
  have HI : Hid (Grew w1 w1 ∧ ArrAt w1 (w.heap.size + 1) 0 n fun j => .int .i64 ((if j < 0 then (if R.en j = true then 1 else 0) else 0 : Nat) : Int)) := ⟨Grew.refl w1, hA1.congr fun j _ => by rw [if_neg (Nat.not_lt_zero j)]; rfl⟩
  clear ok hnn hrow hends hb hg0 hA1 hg1
  go_enter Tryd.func32, Tryd.ntmps32
  go_wp2_with fail
  clear hmk q0 q1 p0 p1
  obtain ⟨rs, hrs⟩ : ∃ rs, w.heap.size = rs := ⟨_, rfl⟩
  rw [hrs] at HT2 HI ⊢
  have HRs := hidd hrs
  clear hrs
  -- who takes
  go_loopw [41] (fun s41 wr => ∃ i : Nat, s41 = .int .i64 i ∧ i ≤ n ∧ Hid (Below (rs + 1) w1 wr ∧ ArrAt wr (rs + 1) 0 n fun j => .int .i64 ((if j < i then (if R.en j = true then 1 else 0) else 0 : Nat) : Int))) (fun s41 _ => n - (intOf s41).toNat)
  case atStart => exact ⟨0, rfl, by omega, Below.refl _ _, HI.out.2⟩
  case round =>
    obtain ⟨i, rfl, hi, KG⟩ := hrel
    clear HI
    have HGw : Hid (Grew w wr) := HG1.out.below KG.out.1 (by rw [HRs.out]; omega)
    by_cases hil : i < n
    · have ki : decide ((i : Int) < (n : Int)) = true := decide_eq_true (by omega)
      have ce := HGw.out.keeps (HEn.out i hil)
      have cr := KG.out.2.at0 i hil
      have cf := KG.out.2.free0 i hil
      have HNx : Hid (∀ j, (if j < i + 1 then (if R.en j = true then 1 else 0) else 0 : Nat) = if j = i then (if R.en i = true then 1 else 0) else (if j < i then (if R.en j = true then 1 else 0) else 0)) := fun j => by
        by_cases e : j = i
        · subst e; rw [if_pos (by omega), if_pos rfl]
        · by_cases e2 : j < i
          · rw [if_pos (by omega), if_neg e, if_pos e2]
          · rw [if_neg (by omega), if_neg e, if_neg e2]
      cases hbb : R.en i with
      | true =>
        rw [hbb] at ce HNx
        clear hbb
        go_wp2_with fail
        refine ⟨⟨i + 1, by simp, by omega, KG.out.1.setCell (p := ⟨rs + 1, i, none⟩) (Nat.le_refl _) _, (KG.out.2.set0 i hil (.int .i64 1)).congr fun j hj => ?_⟩, by simp [intOf]; omega⟩
        rw [HNx.out j]
        by_cases e : j = i
        · rw [if_pos e, if_pos e]; rfl
        · rw [if_neg e, if_neg e]
      | false =>
        rw [hbb] at ce HNx
        clear hbb
        go_wp2_with fail
        refine ⟨⟨i + 1, by simp, by omega, KG.out.1, KG.out.2.congr fun j hj => ?_⟩, by simp [intOf]; omega⟩
        rw [HNx.out j]
        by_cases e : j = i
        · rw [if_pos e]; subst e; rw [if_neg (Nat.lt_irrefl j)]; rfl
        · rw [if_neg e]
    · have hie : n = i := by omega
      subst hie
      have ki : decide ((n : Int) < (n : Int)) = false := decide_eq_false (by omega)
      have HA : Hid (ArrAt wr (rs + 1) 0 n fun j => .int .i64 ((if R.en j = true then 1 else 0 : Nat) : Int)) := KG.out.2.congr fun j hj => by rw [if_pos hj]
      have HB1 : Hid (Below (rs + 1) w1 wr) := KG.out.1
      clear KG HGw
      go_wp2_with fail
      -- groups are split
      go_loopw [3, 6] (fun s3 s6 wr => ∃ m gb : Nat, s6 = .int .i64 (m : Nat) ∧ m ≤ n ∧ s3 = .slice (some ⟨gb, 0, none⟩) n n ∧ Hid (∃ g : Nat → Nat, Below (rs + 1) w1 wr ∧ rs + 1 ≤ gb ∧ ArrAt wr gb 0 n (fun j => .int .i64 (g j : Nat)) ∧ (∀ i, i < n → g i ≤ 8192) ∧ Coarse R g ∧ (m = 0 ∨ m = gcnt g n))) (fun _ s6 _ => n - (intOf s6).toNat)
      case atStart => exact ⟨0, rs + 1, rfl, by omega, rfl, _, HB1.out, Nat.le_refl _, HA.out, fun i _ => bool_le R i, Coarse.start R, Or.inl rfl⟩
      case round =>
        obtain ⟨m, gb, rfl, hm, rfl, KS⟩ := hrel
        clear HA HB1
        obtain ⟨g, hbl, hgb, hA, hg9, hco, hmc⟩ := KS.out
        have HGw : Hid (Grew w wr) := HG1.out.below hbl (by rw [HRs.out]; omega)
        obtain ⟨⟨p0, p1⟩, _⟩ := two_cells (heap_kept HGw.out HRb.out)
        have hmm := run_makeMap (P := Tryd.prog) 149 wr
        obtain ⟨w3, hmk, hA3, hg3⟩ := make_ints n hn (wr.alloc (.map #[] 0))
        rw [World.size_alloc] at hmk hA3
        have HI0 : Hid (Grew wr w3 ∧ KMap encS w3 wr.heap.size (numL (uniq ((List.range 0).map (sgn R g)))) ∧ ArrAt w3 (wr.heap.size + 1) 0 n fun j => .int .i64 ((if j < 0 then numb (sgn R g) n j else 0 : Nat) : Int)) :=
          ⟨((Grew.refl wr).alloc _).trans hg3, (KMap.made encS wr).kept hg3, hA3.congr fun j _ => by rw [if_neg (Nat.not_lt_zero j)]; rfl⟩
        have HA := hidd hA
        have Hg9 := hidd hg9
        have HCo := hidd hco
        have HMc := hidd hmc
        have HBl := hidd hbl
        clear KS hbl hA hg9 hco hmc hA3 hg3
        go_wp2_with fail
        clear hmk hmm p0 p1
        obtain ⟨w0, rfl⟩ : ∃ w0, w0 = wr := ⟨_, rfl⟩
        obtain ⟨mb, hmb⟩ : ∃ mb, w0.heap.size = mb := ⟨_, rfl⟩
        rw [hmb] at HI0 ⊢
        have HMb := hidd hmb
        clear hmb
        go_loopw [57] (fun s57 wr => ∃ i : Nat, s57 = .int .i64 i ∧ i ≤ n ∧ Hid (Grew w0 wr ∧ KMap encS wr mb (numL (uniq ((List.range i).map (sgn R g)))) ∧ ArrAt wr (mb + 1) 0 n fun j => .int .i64 ((if j < i then numb (sgn R g) n j else 0 : Nat) : Int))) (fun s57 _ => n - (intOf s57).toNat)
        case atStart => exact ⟨0, rfl, by omega, HI0.out⟩
        case round =>
          obtain ⟨i, rfl, hi, LG⟩ := hrel
          clear HI0
          by_cases hil : i < n
          · have ki : decide ((i : Int) < (n : Int)) = true := decide_eq_true (by omega)
            have hzs := zero_rowS
            have hga : Grew wr (wr.alloc (.cells (rowS fun _ => 0) 151)) := (Grew.refl wr).alloc _
            have hgw : Grew w0 (wr.alloc (.cells (rowS fun _ => 0) 151)) := LG.out.1.trans hga
            have c0 := hgw.keeps (HA.out.at0 i hil)
            have hAs := rowS_at wr (fun _ => 0) 151
            have s0 := hAs.at0 256 (by omega)
            have sf := hAs.free0 256 (by omega)
            have hgW : Grew wr (wr.alloc (.cells ((rowS fun _ => 0).setIfInBounds 256 (.int .i64 (g i : Nat))) 151)) := (Grew.refl wr).alloc _
            have HI1 : Hid (Grew wr (wr.alloc (.cells ((rowS fun _ => 0).setIfInBounds 256 (.int .i64 (g i : Nat))) 151)) ∧ ArrAt (wr.alloc (.cells ((rowS fun _ => 0).setIfInBounds 256 (.int .i64 (g i : Nat))) 151)) wr.heap.size 0 257 fun j => .int .i64 ((if j = 256 then g i else if j < 0 then g (R.nx i j) else 0 : Nat) : Int)) := by
              refine ⟨hgW, ArrAt.new wr _ _ 257 _ fun j hj => ?_⟩
              by_cases e : j = 256
              · subst e
                rw [if_pos rfl, Array.getElem?_setIfInBounds_self_of_lt (by rw [rowS_size]; omega)]
              · rw [if_neg e, if_neg (Nat.not_lt_zero j), Array.getElem?_setIfInBounds_ne (Ne.symm e), rowS_get _ hj]; rfl
            have hgw2 := HGw.out.trans (LG.out.1.trans hgW)
            obtain ⟨⟨p0, p1⟩, _⟩ := two_cells (heap_kept hgw2 HRb.out)
            have HRow2 : Hid (∀ j, j < 256 → (wr.alloc (.cells ((rowS fun _ => 0).setIfInBounds 256 (.int .i64 (g i : Nat))) 151)).cell? ⟨rb, ro + i * 256 + j, none⟩ = some (.int .i64 (R.nx i j : Nat))) := fun j hj => hgw2.keeps (HRow.out i j hil hj)
            clear hAs hga hgW hgw2 hgw
            go_wp2_with (refine wpList_load_off rfl rfl rfl HRow2.out ?_)
            clear s0 sf c0 p0 p1 HRow2 hzs
            generalize wr.alloc (.cells ((rowS fun _ => 0).setIfInBounds 256 (.int .i64 (g i : Nat))) 151) = W1 at HI1 ⊢
            obtain ⟨wi, rfl⟩ : ∃ wi, wi = wr := ⟨_, rfl⟩
            obtain ⟨sb, hsb⟩ : ∃ sb, wi.heap.size = sb := ⟨_, rfl⟩
            rw [hsb] at HI1 ⊢
            have HSb := hidd hsb
            clear hsb
            go_loopw [72] (fun s72 wr => ∃ c : Nat, s72 = .int .i64 c ∧ c ≤ 256 ∧ Hid (Grew wi wr ∧ ArrAt wr sb 0 257 fun j => .int .i64 ((if j = 256 then g i else if j < c then g (R.nx i j) else 0 : Nat) : Int))) (fun s72 _ => 256 - (intOf s72).toNat)
            case atStart => exact ⟨0, rfl, by omega, HI1.out⟩
            case round =>
              obtain ⟨c, rfl, hc, MG⟩ := hrel
              clear HI1
              by_cases hcl : c < 256
              · have kc : decide ((c : Int) < 256) = true := decide_eq_true (by omega)
                have hx := run_index_rowA (fun j => (R.nx i j : Nat)) hcl
                have htn : R.nx i c < n := by rw [← HRn.out]; exact HOk.out.nx i c (by rw [HRn.out]; exact hil) hcl
                have c0 := MG.out.1.keeps (LG.out.1.keeps (HA.out.at0 (R.nx i c) htn))
                have cr := MG.out.2.at0 c (by omega)
                have cf := MG.out.2.free0 c (by omega)
                have HNx : Hid (∀ j, (if j = 256 then g i else if j < c + 1 then g (R.nx i j) else 0 : Nat) = if j = c then g (R.nx i c) else if j = 256 then g i else if j < c then g (R.nx i j) else 0) := fun j => by
                  by_cases e : j = c
                  · subst e; rw [if_neg (by omega), if_pos (by omega), if_pos rfl]
                  · rw [if_neg e]
                    by_cases e1 : j = 256
                    · rw [if_pos e1, if_pos e1]
                    · rw [if_neg e1, if_neg e1]
                      by_cases e2 : j < c
                      · rw [if_pos (by omega), if_pos e2]
                      · rw [if_neg (by omega), if_neg e2]
                have hcl2 : (c : Int) < 257 := by omega
                generalize R.nx i c = t at hx htn c0 HNx
                generalize g t = y at c0 HNx
                go_wp2_with fail
                refine ⟨⟨c + 1, by simp, by omega, MG.out.1.setCell (p := ⟨sb, c, none⟩) (Nat.le_of_eq HSb.out) _, (MG.out.2.set0 c (by omega) (.int .i64 (y : Nat))).congr fun j hj => ?_⟩, by simp [intOf]; omega⟩
                rw [HNx.out j]
                by_cases e : j = c
                · rw [if_pos e, if_pos e]
                · rw [if_neg e, if_neg e]
              · obtain rfl : c = 256 := by omega
                have kc : decide ((256 : Int) < 256) = false := rfl
                have HAs : Hid (ArrAt wr sb 0 257 fun j => .int .i64 (((sgn R g i).getD j 0 : Nat) : Int)) := MG.out.2.congr fun j hj => by
                  rw [sgn_get R g i hj]
                  by_cases e : j = 256
                  · rw [if_pos e, if_pos e]
                  · rw [if_neg e, if_neg e, if_pos (by omega)]
                have HK := hidd (LG.out.2.1.kept MG.out.1)
                have HN := hidd (LG.out.2.2.kept MG.out.1)
                have HG := hidd (LG.out.1.trans MG.out.1)
                have HDm : Hid (encS.D (sgn R g i)) := sgn_dom (fun j hj => Hg9.out j (by rw [← HRn.out]; exact hj)) HOk.out (by rw [HRn.out]; exact hil)
                have HUq := hidd (uniq_range_succ (sgn R g) i)
                have HNa := hidd (numb_at (sgn R g) hil)
                have HUl : Hid ((uniq ((List.range i).map (sgn R g))).length ≤ i) := by have := uniq_le ((List.range i).map (sgn R g)); rw [List.length_map, List.length_range] at this; exact this
                have HNx : Hid (∀ j, (if j < i + 1 then numb (sgn R g) n j else 0 : Nat) = if j = i then numb (sgn R g) n i else if j < i then numb (sgn R g) n j else 0) := fun j => by
                  by_cases e : j = i
                  · subst e; rw [if_pos (by omega), if_pos rfl]
                  · rw [if_neg e]
                    by_cases e2 : j < i
                    · rw [if_pos (by omega), if_pos e2]
                    · rw [if_neg (by omega), if_neg e2]
                clear MG
                obtain ⟨L, hL⟩ : ∃ L, uniq ((List.range i).map (sgn R g)) = L := ⟨_, rfl⟩
                rw [hL] at HK HUq HNa HUl
                clear hL
                obtain ⟨x, hx⟩ : ∃ x, sgn R g i = x := ⟨_, rfl⟩
                rw [hx] at HAs HDm HUq HNa
                clear hx
                have cr := HN.out.at0 i hil
                have cf := HN.out.free0 i hil
                rw [if_neg (Nat.lt_irrefl i)] at cr
                obtain ⟨f, hf⟩ : ∃ f : Nat → Int, (fun j => ((x.getD j 0 : Nat) : Int)) = f := ⟨_, rfl⟩
                have HAf : Hid (ArrAt wr sb 0 257 fun j => .int .i64 (f j)) := by rw [← hf]; exact HAs.out
                have hee : encS.enc x = .agg (rowS f) := by rw [← hf]; rfl
                clear HAs hf
                by_cases hq : x ∈ L
                · have HQ : Hid (uniq ((List.range (i + 1)).map (sgn R g)) = L) := by rw [HUq.out, if_pos hq]; rfl
                  have hlook := HK.out.lookS keyS (t := 149) Tryd.underlying149 (numL_mem hq) true
                  have hnb := HNa.out
                  rw [if_pos hq] at hnb
                  rw [← hnb] at hlook
                  obtain ⟨q, hqe⟩ : ∃ q, numb (sgn R g) n i = q := ⟨_, rfl⟩
                  rw [hqe] at hlook HNx
                  have hlook2 : (Instr.lookup 149 (.map (some mb)) (.agg (rowS f)) true).run Tryd.prog wr = .ok (.tuple #[.int .i64 (q : Nat), .bool true]) wr := by rw [← hee]; exact hlook
                  clear hlook hnb hqe hq HNa HUq hee
                  go_wp2_with (refine wpList_load_sign rfl rfl rfl HAf.out ?_)
                  refine ⟨⟨i + 1, by simp, by omega, HG.out.setCell (p := ⟨mb + 1, i, none⟩) (by show w0.heap.size ≤ mb + 1; rw [HMb.out]; exact Nat.le_succ _) _, by rw [HQ.out]; exact HK.out.other ⟨mb + 1, i, none⟩ (by show mb + 1 ≠ mb; omega) _, (HN.out.set0 i hil (.int .i64 (q : Nat))).congr fun j hj => ?_⟩, by simp [intOf]; omega⟩
                  rw [HNx.out j]
                  by_cases e : j = i
                  · rw [if_pos e, if_pos e]
                  · rw [if_neg e, if_neg e]
                · have HQ : Hid (uniq ((List.range (i + 1)).map (sgn R g)) = L ++ [x]) := by rw [HUq.out, if_neg hq]; rfl
                  have hlook2 : (Instr.lookup 149 (.map (some mb)) (.agg (rowS f)) true).run Tryd.prog wr = .ok (.tuple #[.int .i64 0, .bool false]) wr := by rw [← hee]; exact HK.out.lookN keyS (t := 149) Tryd.underlying149 (zero_int wr) HDm.out (by rw [numL_fst]; exact hq) true
                  have hlen := HK.out.len (t := 149) (by kernel_rfl) 3
                  rw [numL_length] at hlen
                  have hnb := HNa.out
                  rw [if_neg hq] at hnb
                  rw [hnb] at HNx
                  obtain ⟨w6, hput, hK6, hg6, hs6⟩ := HK.out.put keyS (t := 149) Tryd.underlying149 HDm.out (by rw [numL_fst]; exact hq) (.int .i64 (L.length : Nat))
                  rw [← numL_snoc] at hK6
                  have hbk : w6.heap[mb + 1]? = wr.heap[mb + 1]? := hg6.block _ (HN.out.lt (by omega)) (fun e => by injection e with e; omega)
                  have HN6 := hidd (arr_block HN.out hbk)
                  have HG6 : Hid (Grew w0 w6) := grew_grown HG.out hg6 fun b e => by injection e with e; rw [HMb.out]; omega
                  have cr6 := HN6.out.at0 i hil
                  have cf6 := HN6.out.free0 i hil
                  rw [if_neg (Nat.lt_irrefl i)] at cr6
                  have hul := HUl.out
                  obtain ⟨l, hl⟩ : ∃ l, L.length = l := ⟨_, rfl⟩
                  rw [hl] at hlen hput HNx hul
                  have hput2 : (Instr.mapUpdate 149 (.map (some mb)) (.agg (rowS f)) (.int .i64 (l : Nat))).run Tryd.prog wr = .ok () w6 := by rw [← hee]; exact hput
                  have HK6 := hidd hK6
                  clear hee hnb hq HNa HUq hl hput hK6 hg6 hs6 hbk cr cf
                  go_wp2_with (first | (refine wpList_load_sign rfl rfl rfl HAf.out ?_) | (refine wpList_len_eq hlen rfl rfl rfl rfl ?_))
                  refine ⟨⟨i + 1, by simp, by omega, HG6.out.setCell (p := ⟨mb + 1, i, none⟩) (by show w0.heap.size ≤ mb + 1; rw [HMb.out]; exact Nat.le_succ _) _, by rw [HQ.out]; exact HK6.out.other ⟨mb + 1, i, none⟩ (by show mb + 1 ≠ mb; omega) _, (HN6.out.set0 i hil (.int .i64 (l : Nat))).congr fun j hj => ?_⟩, by simp [intOf]; omega⟩
                  rw [HNx.out j]
                  by_cases e : j = i
                  · rw [if_pos e, if_pos e]
                  · rw [if_neg e, if_neg e]
          · have hie : n = i := by omega
            subst hie
            have ki : decide ((n : Int) < (n : Int)) = false := decide_eq_false (by omega)
            have hlen := LG.out.2.1.len (t := 149) (by kernel_rfl) 3
            rw [numL_length] at hlen
            have HN : Hid (ArrAt wr (mb + 1) 0 n fun j => .int .i64 (numb (sgn R g) n j : Nat)) := LG.out.2.2.congr fun j hj => by rw [if_pos hj]
            have HBn : Hid (Below (rs + 1) w1 wr) := HBl.out.trans (Below.mono LG.out.1 (by have := HBl.out.size; have h2 := lt_of_block HT2.out; omega))
            have hM1 : (uniq ((List.range n).map (sgn R g))).length ≤ n := by have := uniq_le ((List.range n).map (sgn R g)); rwa [List.length_map, List.length_range] at this
            have hM0 : 0 < (uniq ((List.range n).map (sgn R g))).length := uniq_pos (by rw [List.length_map, List.length_range]; exact hp)
            have hMg : gcnt g n ≤ (uniq ((List.range n).map (sgn R g))).length := by rw [← HRn.out]; exact signs_le R g
            have HG9 : Hid (∀ j, j < n → numb (sgn R g) n j ≤ 8192) := fun j hj => by have := numb_lt (sgn R g) hj; omega
            have HCn : Hid (Coarse R (numb (sgn R g) n)) := by rw [← HRn.out]; exact HCo.out.signs HOk.out
            have HDn : Hid ((uniq ((List.range n).map (sgn R g))).length ≤ gcnt g n → Groups R (numb (sgn R g) n)) := by rw [← HRn.out]; exact HCo.out.done HOk.out
            have HCt : Hid (gcnt (numb (sgn R g) n) n = (uniq ((List.range n).map (sgn R g))).length) := gcnt_numb (sgn R g) n
            have hmc := HMc.out
            have hmlt : mb < wr.heap.size := LG.out.2.1.lt
            clear LG
            generalize numb (sgn R g) n = g2 at HN HG9 HCn HDn HCt
            generalize (uniq ((List.range n).map (sgn R g))).length = M at hlen hM1 hM0 hMg HDn HCt
            by_cases hMm : M = m
            · have keq : ((M : Int) == (m : Int)) = true := by simp [hMm]
              have HGr : Hid (Groups R g2) := HDn.out (by omega)
              clear hmc HCn HDn HCt HMc HCo
              have HT4 : Hid (wr.heap[rs]? = some (.cells zAut 30 (0, 0))) := by rw [HBn.out.block rs (by omega)]; exact HT2.out
              have HG3 : Hid (Grew w wr) := HG1.out.below HBn.out (by rw [HRs.out]; omega)
              have hml : rs + 1 ≤ mb + 1 := by
                have h2 := lt_of_block HT2.out
                have := HBl.out.size
                rw [HMb.out] at this
                show rs + 1 ≤ mb + 1
                omega
              clear hM1 hM0 hMg HBl HMb HA Hg9 HGw HBn HT2 HG1 hMm
              -- numbers
              have c0 := ((Grew.refl wr).alloc (.map #[] 0)).keeps (HN.out.at0 0 hp)
              have hmm := run_makeMap (P := Tryd.prog) 152 wr
              obtain ⟨w6, hput, hK6, hg6, hs6⟩ := (KMap.made encI wr).put keyI (t := 152) Tryd.underlying152 (x := g2 0) (show g2 0 ≤ 9223372036854775807 by have := HG9.out 0 hp; omega) (by simp) (.int .i64 (0 : Nat))
              have hput2 : (Instr.mapUpdate 152 (.map (some wr.heap.size)) (.int .i64 (g2 0 : Nat)) (.int .i64 0)).run Tryd.prog (wr.alloc (.map #[] 0)) = .ok () w6 := hput
              have hs7 : w6.heap.size = wr.heap.size + 1 := by rw [hs6, World.size_alloc]
              have HS0 : Hid (ExSo encI 3 1 (fun x => [.int .i64 (x : Nat)]) R.en wr ((w6.alloc (.cells #[.int .i64 0] 3)).alloc (.cells zAut 30)) wr.heap.size (wr.heap.size + 1 + 1) ([0].map g2) [0] [] 0 (.slice (some ⟨wr.heap.size + 1, 0, none⟩) 1 1) (.slice none 0 0) (.slice none 0 0) (.cells (aCells (.slice none 0 0)) 30 (0, 0))) := by
                have gr : Grew wr w6 := grew_grown ((Grew.refl wr).alloc _) hg6 fun b e => by injection e with e; omega
                have g3 := ((Grew.refl w6).alloc (.cells #[.int .i64 0] 3)).alloc (.cells zAut 30)
                have hq := QRow.made (base := wr.heap.size) (e := 3) (size := 1) w6 #[.int .i64 0] 1 (by rw [hs7]; omega) (by unfold maxLen; omega) rfl
                rw [hs7] at hq
                have hh := heap_alloc_new (w6.alloc (.cells #[.int .i64 0] 3)) (.cells zAut 30)
                rw [World.size_alloc, hs7] at hh
                refine ⟨gr.trans g3, hK6.kept g3, hq.grew ((Grew.refl _).alloc _), hh, ⟨rfl, none, 0, rfl, Nat.le_refl _, Nat.zero_le _, fun h => absurd h (by omega)⟩, ⟨rfl, none, 0, rfl, Nat.le_refl _, Nat.zero_le _, fun h => absurd h (by omega)⟩, ⟨Nat.le_refl _, by omega, by omega⟩, fun k hk => ?_, fun k hk => (by cases hk), fun k hk => (by cases hk), fun k hk => ⟨by simp [Value.ownBlock], by simp [Value.ownBlock]⟩, fun k hk => (by cases hk)⟩
                cases hk
                rw [World.size_alloc, World.size_alloc, hs7]
                exact ⟨by show wr.heap.size + 1 ≠ _; omega, by show wr.heap.size + 1 ≠ _; omega, by show _ ≤ wr.heap.size + 1; omega, by show wr.heap.size + 1 < _; omega⟩
              have HP0 : Hid (NuP R g2 [0] [] [] 0 0 (fun _ => 0)) := NuP.start HOk.out g2
              clear hput hK6 hg6 hs6
              go_wp2_with (refine wpList_len_eq hlen rfl rfl rfl rfl ?_)
              clear hput2 hmm c0 hlen keq
              generalize (w6.alloc (.cells #[.int .i64 0] 3)).alloc (.cells zAut 30) = W5 at HS0 ⊢
              obtain ⟨w3', rfl⟩ : ∃ w3', w3' = wr := ⟨_, rfl⟩
              obtain ⟨nm, hnm⟩ : ∃ nm, w3'.heap.size = nm := ⟨_, rfl⟩
              rw [hnm] at HS0 ⊢
              obtain ⟨ab, hab⟩ : ∃ ab, nm + 1 + 1 = ab := ⟨_, rfl⟩
              rw [hab] at HS0 ⊢
              obtain ⟨gb3, hgb3⟩ : ∃ gb3, mb + 1 = gb3 := ⟨_, rfl⟩
              rw [hgb3] at HN ⊢
              clear hnm hab hgb3 hs7 hmlt
              go_loopw [16, 18, 19] (fun s16 s18 s19 wr => ∃ k l la lc ra rc2, s19 = .int .i64 (k : Nat) ∧ k ≤ l ∧ s16 = .slice la l lc ∧ l ≤ n ∧ s18 = .slice ra k rc2 ∧ Hid (∃ ord T rows ev, NuP R g2 ord T rows k 0 (fun _ => 0) ∧ ord.length = l ∧ ExSo encI 3 1 (fun x => [.int .i64 (x : Nat)]) R.en w3' wr nm ab (ord.map g2) ord rows k (.slice la l lc) (.slice ra k rc2) ev (.cells (aCells ev) 30 (0, 0)))) (fun _ _ s19 _ => n - (intOf s19).toNat)
              case atStart => exact ⟨0, 1, _, _, _, _, rfl, by omega, rfl, hp, rfl, [0], [], [], _, HP0.out, rfl, HS0.out⟩
              case round =>
                obtain ⟨k, l, la, lc, ra, rc2, rfl, hkl, rfl, hln, rfl, KS⟩ := hrel
                clear HS0 HP0
                obtain ⟨ord, T, rows, ev, hP, hol, hS⟩ := KS.out
                by_cases hlt : k < l
                · have kl : decide ((k : Int) < (l : Int)) = true := decide_eq_true (by omega)
                  have hz := run_zero_rowI
                  have hga : Grew wr (wr.alloc (.cells (rowI fun _ => 0) 26)) := (Grew.refl wr).alloc _
                  have HI0 : Hid (ExSo encI 3 1 (fun x => [.int .i64 (x : Nat)]) R.en w3' (wr.alloc (.cells (rowI fun _ => 0) 26)) nm ab (ord.map g2) ord rows k (.slice la l lc) (.slice ra k rc2) ev (.cells (aCells ev) 30 (0, 0)) ∧ ArrAt (wr.alloc (.cells (rowI fun _ => 0) 26)) wr.heap.size 0 256 (fun j => .int .i64 ((if j < 0 then (fun _ => 0) j else 0 : Nat) : Int)) ∧ ¬ Foot nm ab (.slice la l lc) (.slice ra k rc2) ev wr.heap.size) :=
                    ⟨hS.kept hga, (rowI_at wr (fun _ => 0) 26).congr fun j _ => by rw [if_neg (Nat.not_lt_zero j)]; rfl, fun hf => by have := hS.foot_lt hf; omega⟩
                  have HGs : Hid (w3'.heap.size ≤ wr.heap.size) := hS.grew.size
                  obtain ⟨s, hs⟩ : ∃ s, ord.getD k 0 = s := ⟨_, rfl⟩
                  have hsn : s < n := by rw [← hs, ← HRn.out]; exact hP.bfs.lt _ (getD_mem0 (by omega))
                  have hls := HI0.out.1.list
                  rw [hol] at hls
                  obtain ⟨lb, lo, lc3, e, _, hlb, _, _, hcell⟩ := hls.at (by omega)
                  cases e
                  have c0 := hcell k (.int .i64 (s : Nat)) (by omega) (by rw [flat_one, List.getElem?_map, ← hs, List.getD_eq_getElem?_getD, List.getElem?_eq_getElem (by omega)]; rfl)
                  have hgw := HG3.out.trans HI0.out.1.grew
                  have HRow2 : Hid (∀ j, j < 256 → (wr.alloc (.cells (rowI fun _ => 0) 26)).cell? ⟨rb, ro + s * 256 + j, none⟩ = some (.int .i64 (R.nx s j : Nat))) := fun j hj => hgw.keeps (HRow.out s j hsn hj)
                  have HRb2 := hidd (heap_kept hgw HRb.out)
                  have HP := hidd hP
                  have HOl := hidd hol
                  have HS1 := hidd hs
                  have HC0 := hidd c0
                  clear KS hS hP hol hs hga hls hcell c0 hgw
                  go_wp2_with fail
                  generalize wr.alloc (.cells (rowI fun _ => 0) 26) = W1 at HI0 HRow2 HRb2 HC0 hlb ⊢
                  obtain ⟨g0, hg0⟩ : ∃ g0, wr.heap.size = g0 := ⟨_, rfl⟩
                  rw [hg0] at HI0 HGs ⊢
                  clear hg0
                  refine frameR [120, 121, 122, 123, 124, 125, 126, 127, 128, 129, 130] mixed drew_grew grew_tr
                    [.val (.pointer (some ⟨b, 0, none⟩)), .val (.pointer (some ⟨b, 0, none⟩)), .val (.pointer (some ⟨b, 0, none⟩)), .val (.slice (some ⟨rb, ro, none⟩) n rc), .val (.slice (some ⟨lb, lo, none⟩) l lc), .val (.int .i64 (k : Nat)), .val (.pointer (some ⟨lb, lo + k, none⟩)), .val (.int .i64 (s : Nat)), .val (.pointer (some ⟨rb, ro + s * 256, none⟩)), .val (.agg (rowI fun j => (R.nx s j : Nat))), .val (.int .i64 0)]
                    (vals_mono (by simp)) (by kernel_rfl) (by kernel_rfl)
                    ⟨st_move Grew.refl (by kernel_rfl) rfl, sg_nil (by kernel_rfl) rfl rfl, sg_field (field_raw0 b) (by kernel_rfl) rfl rfl, sg_load (p := ⟨b, 0, none⟩) ?l1 (by kernel_rfl) rfl rfl, st_move Grew.refl (by kernel_rfl) rfl, st_move Grew.refl (by kernel_rfl) rfl, sg_index ?i1 (by kernel_rfl) rfl rfl rfl, sg_load (p := ⟨lb, lo + k, none⟩) ?l2 (by kernel_rfl) rfl rfl, sg_index (index_sl (sz := 256) agg_rows (by kernel_rfl) (fun w => size_of info_cls w) hsn) (by kernel_rfl) rfl rfl rfl, sg_load (p := ⟨rb, ro + s * 256, none⟩) ?l3 (by kernel_rfl) rfl rfl, st_move Grew.refl (by kernel_rfl) rfl, trivial⟩ ?_
                  case l1 => intro wx g; exact load_one agg_slices (two_cells (heap_kept g HRb2.out)).1.1
                  case i1 =>
                    intro wx
                    have := index_sl (sz := 1) Tryd.underlying37 (by kernel_rfl) (fun w => size_of info_int w) (b := lb) (o := lo) (c := lc) hlt wx
                    rwa [Nat.mul_one] at this
                  case l2 => intro wx g; exact load_one (fun w => run_isAgg Tryd.underlying3 w) (g.keeps HC0.out)
                  case l3 => intro wx g; exact load_rowO fun j hj => g.keeps (HRow2.out j hj)
                  intro xs w5 g5 hts
                  have e129 : xs 129 = .agg (rowI fun j => (R.nx s j : Nat)) := hts 9 _ 129 rfl rfl
                  have e130 : xs 130 = .int .i64 0 := hts 10 _ 130 rfl rfl
                  have HI1 : Hid (ExSo encI 3 1 (fun x => [.int .i64 (x : Nat)]) R.en w3' w5 nm ab (ord.map g2) ord rows k (.slice (some ⟨lb, lo, none⟩) l lc) (.slice ra k rc2) ev (.cells (aCells ev) 30 (0, 0)) ∧ ArrAt w5 g0 0 256 (fun j => .int .i64 ((if j < 0 then (fun _ => 0) j else 0 : Nat) : Int)) ∧ ¬ Foot nm ab (.slice (some ⟨lb, lo, none⟩) l lc) (.slice ra k rc2) ev g0) := ⟨HI0.out.1.kept g5, HI0.out.2.1.kept g5, HI0.out.2.2⟩
                  simp only [List.foldl_cons, List.foldl_nil, List.setIfInBounds_toArray, List.set_cons_succ, List.set_cons_zero, e129, e130]
                  clear hts g5 e129 e130 HI0 HRow2 HRb2 HC0 hlb
                  go_wp2_with fail
                  obtain ⟨w0, rfl⟩ : ∃ w0, w0 = wr := ⟨_, rfl⟩
                  go_loopw [16, 130] (fun s16 s130 wr => ∃ c l la lc, s130 = .int .i64 (c : Nat) ∧ c ≤ 256 ∧ s16 = .slice la l lc ∧ l ≤ n ∧ k < l ∧ Hid (∃ ord T row, NuP R g2 ord T rows k c row ∧ ord.length = l ∧ ord.getD k 0 = s ∧ ExSo encI 3 1 (fun x => [.int .i64 (x : Nat)]) R.en w3' wr nm ab (ord.map g2) ord rows k (.slice la l lc) (.slice ra k rc2) ev (.cells (aCells ev) 30 (0, 0)) ∧ ArrAt wr g0 0 256 (fun j => .int .i64 ((if j < c then row j else 0 : Nat) : Int)) ∧ ¬ Foot nm ab (.slice la l lc) (.slice ra k rc2) ev g0)) (fun _ s130 _ => 256 - (intOf s130).toNat)
                  case atStart => exact ⟨0, l, _, _, rfl, by omega, rfl, hln, hlt, ord, T, _, HP.out, HOl.out, HS1.out, HI1.out⟩
                  case round =>
                    obtain ⟨c, l2, la2, lc2, rfl, hc, rfl, hln2, hkl2, JS⟩ := hrel
                    clear HI1 HP HOl HS1
                    obtain ⟨ord2, T2, row, hP, hol, hs, hS, hA, hF⟩ := JS.out
                    have HP := hidd hP
                    have HOl := hidd hol
                    have HS1 := hidd hs
                    have HS := hidd hS
                    have HA := hidd hA
                    have HF := hidd hF
                    clear JS hP hol hs hS hA hF
                    by_cases hcl : c < 256
                    · have kc : decide ((c : Int) < 256) = true := decide_eq_true (by omega)
                      have hcl2 : (c : Int) < 256 := by omega
                      have hx := run_index_rowA (fun j => (R.nx s j : Nat)) hcl
                      have htn : R.nx s c < n := by rw [← HRn.out]; exact HOk.out.nx s c (by rw [HRn.out]; exact hsn) hcl
                      obtain ⟨t, ht⟩ : ∃ t, R.nx s c = t := ⟨_, rfl⟩
                      have HT : Hid (R.nx (ord2.getD k 0) c = t) := by rw [HS1.out]; exact ht
                      rw [ht] at hx htn
                      clear ht
                      have cg := HS.out.grew.keeps (HN.out.at0 t htn)
                      have cr := HA.out.at0 c hcl
                      rw [if_neg (Nat.lt_irrefl c)] at cr
                      have cf := HA.out.free0 c hcl
                      have hgl : g0 < wr.heap.size := HA.out.lt (by omega)
                      have hy9 := HG9.out t htn
                      obtain ⟨y, hy⟩ : ∃ y, g2 t = y := ⟨_, rfl⟩
                      have HY := hidd hy
                      rw [hy] at cg hy9
                      clear hy
                      by_cases hq : y ∈ ord2.map g2
                      · have hlook := HS.out.map.lookS keyI (t := 152) Tryd.underlying152 (numL_mem hq) true
                        have hPn := HP.out.seen (by rw [HOl.out]; exact hkl2) hcl (by rw [HT.out, HY.out]; exact hq)
                        rw [HT.out, HY.out] at hPn
                        have hjl := idx_lt hq
                        rw [List.length_map, HOl.out] at hjl
                        obtain ⟨q, hqe⟩ : ∃ q, (ord2.map g2).idxOf y = q := ⟨_, rfl⟩
                        rw [hqe] at hlook hPn hjl
                        have hlook2 : (Instr.lookup 152 (.map (some nm)) (.int .i64 (y : Nat)) true).run Tryd.prog wr = .ok (.tuple #[.int .i64 (q : Nat), .bool true]) wr := hlook
                        have HPn := hidd hPn
                        have HAn := hidd (arr_next (q := q) hcl HA.out)
                        have HSn : Hid (ExSo encI 3 1 (fun x => [.int .i64 (x : Nat)]) R.en w3' (wr.setCell ⟨g0, c, none⟩ (.int .i64 (q : Nat))) nm ab (ord2.map g2) ord2 rows k (.slice la2 l2 lc2) (.slice ra k rc2) ev (.cells (aCells ev) 30 (0, 0))) :=
                          HS.out.same (HS.out.grew.setCell (p := ⟨g0, c, none⟩) HGs.out _) (by simp [World.setCell]) fun k hk => q_set_other _ _ (fun e => HF.out (e ▸ hk))
                        clear hlook hqe hq hPn
                        go_wp2_with fail
                        exact ⟨⟨c + 1, l2, _, _, by simp, by omega, rfl, hln2, hkl2, ord2, _, _, HPn.out, HOl.out, HS1.out, HSn.out, HAn.out, HF.out⟩, by simp [intOf]; omega⟩
                      · have hlook : (Instr.lookup 152 (.map (some nm)) (.int .i64 (y : Nat)) true).run Tryd.prog wr = .ok (.tuple #[.int .i64 0, .bool false]) wr := HS.out.map.lookN keyI (t := 152) Tryd.underlying152 (zero_int wr) (show y ≤ 9223372036854775807 by omega) (by rw [numL_fst]; exact hq) true
                        obtain ⟨i0, hi0, hz0, hz1, hz2⟩ := intsI
                        obtain ⟨w8, hput, hs8, _, v', w7, hap, ⟨va, vc, rfl⟩, hS7, hall⟩ := HS.out.add (mt := 152) (lt := 37) keyI Tryd.underlying152 Tryd.underlying37 hi0 hz0 hz1 hz2 rfl (x := t) (y := y) (show y ≤ 9223372036854775807 by omega) hq (List.length_map _) rfl (fun u hu => by rw [List.mem_singleton] at hu; rw [hu]; rfl) (by rw [HOl.out]; omega) (by omega) (by rw [HOl.out]; omega) 3 37
                        obtain ⟨h8, hF8⟩ := hall g0 hgl HF.out
                        rw [← hs8] at hap
                        rw [HOl.out] at hput hap hF8 hS7
                        have hput2 : (Instr.mapUpdate 152 (.map (some nm)) (.int .i64 (y : Nat)) (.int .i64 (l2 : Nat))).run Tryd.prog wr = .ok () w8 := hput
                        have hap2 : (Builtin.append_ #[37, 37] 37 #[.slice la2 l2 lc2, .slice (some ⟨w8.heap.size, 0, none⟩) 1 1]).run Tryd.prog (w8.alloc (.cells #[.int .i64 (t : Nat)] 3)) = .ok (.slice va (l2 + 1) vc) w7 := hap
                        have hPn := HP.out.fresh HOk.out (by rw [HOl.out]; exact hkl2) hcl (by rw [HT.out, HY.out]; exact hq)
                        rw [HT.out, HOl.out] at hPn
                        have hle := hPn.ord_le
                        rw [List.length_append, HOl.out, HRn.out] at hle
                        have hl3 : l2 + 1 ≤ n := hle
                        have HPn := hidd hPn
                        have HA7 := hidd (arr_block HA.out h8)
                        have cr7 := HA7.out.at0 c hcl
                        rw [if_neg (Nat.lt_irrefl c)] at cr7
                        have cf7 := HA7.out.free0 c hcl
                        have HAn := hidd (arr_next (q := l2) hcl HA7.out)
                        have HF8 := hidd hF8
                        have hS7b : ExSo encI 3 1 (fun x => [.int .i64 (x : Nat)]) R.en w3' w7 nm ab ((ord2 ++ [t]).map g2) (ord2 ++ [t]) rows k (.slice va (l2 + 1) vc) (.slice ra k rc2) ev (.cells (aCells ev) 30 (0, 0)) := by rw [List.map_append, List.map_singleton, HY.out]; exact hS7
                        have HSn : Hid (ExSo encI 3 1 (fun x => [.int .i64 (x : Nat)]) R.en w3' (w7.setCell ⟨g0, c, none⟩ (.int .i64 (l2 : Nat))) nm ab ((ord2 ++ [t]).map g2) (ord2 ++ [t]) rows k (.slice va (l2 + 1) vc) (.slice ra k rc2) ev (.cells (aCells ev) 30 (0, 0))) :=
                          hS7b.same (hS7b.grew.setCell (p := ⟨g0, c, none⟩) HGs.out _) (by simp [World.setCell]) fun k hk => q_set_other _ _ (fun e => HF8.out (e ▸ hk))
                        have HKn : Hid ((ord2 ++ [t]).length = l2 + 1) := by rw [List.length_append, HOl.out]; rfl
                        have HSx : Hid ((ord2 ++ [t]).getD k 0 = s) := by rw [getD_snoc_lt (by rw [HOl.out]; exact hkl2)]; exact HS1.out
                        clear hput hap hF8 hS7 hS7b hall h8 hs8 hq cr cf hPn hle
                        go_wp2_with (first | (at_builtin; refine wpList_append_eq rfl rfl rfl rfl hap2 ?_))
                        exact ⟨⟨c + 1, l2 + 1, _, _, by simp, by omega, rfl, hl3, by omega, ord2 ++ [t], _, _, HPn.out, HKn.out, HSx.out, HSn.out, HAn.out, HF8.out⟩, by simp [intOf]; omega⟩
                    · obtain rfl : c = 256 := by omega
                      have kc : decide ((256 : Int) < 256) = false := rfl
                      have HAr : Hid (ArrAt wr g0 0 256 fun j => .int .i64 (row j : Nat)) := HA.out.congr fun j hj => by rw [if_pos hj]
                      have hrl := HP.out.rl
                      obtain ⟨rv', w7, hap, ⟨va, vc, rfl⟩, hS7, hall⟩ := HS.out.pushRow (row := row) (by rw [hrl]; omega) 90
                      rw [hrl] at hap hS7
                      have HS7 := hidd hS7
                      clear hS7 hall
                      go_wp2_with (first | (refine wpList_load_row rfl rfl rfl HAr.out ?_) | (refine wpList_build_row rfl rfl rfl ?_) | (at_builtin; refine wpList_append_eq rfl rfl rfl rfl hap ?_))
                      clear hap HAr HA HF HS
                      have hSd := HS7.out.kept (drew_grew w7)
                      have hls := hSd.list
                      rw [HOl.out] at hls
                      obtain ⟨lb2, lo2, lc3, e, _, hlb2, _, _, hcell⟩ := hls.at (by omega)
                      cases e
                      have hsx : ord2[k]? = some s := by rw [← HS1.out, List.getD_eq_getElem?_getD, List.getElem?_eq_getElem (by rw [HOl.out]; exact hkl2)]; rfl
                      have c0 := hcell k (.int .i64 (s : Nat)) (by omega) (by rw [flat_one, List.getElem?_map, hsx]; rfl)
                      have hce := (HG3.out.trans hSd.grew).keeps (HEn.out s hsn)
                      have hrb2 := heap_kept (HG3.out.trans hSd.grew) HRb.out
                      have hbl := (Array.getElem?_eq_some_iff.1 hrb2).1
                      have hr := hSd.raw
                      have habl := (Array.getElem?_eq_some_iff.1 hr).1
                      have hcq : w7.drew.cell? ⟨ab, 257, none⟩ = some ev := by unfold World.cell?; dsimp only; rw [hr]; exact aCells_end ev
                      have hfq : w7.drew.frozen? ⟨ab, 257, none⟩ = false := by unfold World.frozen?; dsimp only; rw [hr]; simp
                      obtain ⟨ow, how⟩ : ∃ ow, ev.ownBlock = ow := ⟨_, rfl⟩
                      have hoq : ow ≠ some ab := by rw [← how]; exact fun e => (hSd.owne _ e).2.1 rfl
                      have hol3 : ∀ k, ow = some k → k < w7.drew.heap.size := by rw [← how]; exact fun k e => (hSd.owne k e).2.2.2
                      have hlo3 : ow ≠ some lb2 := by rw [← how]; exact (hSd.ln lb2 rfl).2
                      have hla3 : lb2 ≠ ab := (hSd.ownl lb2 rfl).2.1
                      have hob : ow ≠ some b := fun e => by rw [← how] at e; have := (hSd.owne b e).2.2.1; have h2 := (Array.getElem?_eq_some_iff.1 (heap_kept HG3.out HRb.out)).1; omega
                      have hoe : ow ≠ some eb := fun e => by rw [← how] at e; have := (hSd.owne eb e).2.2.1; have h2 := lt_of_cell (HG3.out.keeps (HEn.out s hsn)); simp only at h2; omega
                      have hba : b ≠ ab := fun e => by have h1 := hSd.lo.2.1; have h2 := (Array.getElem?_eq_some_iff.1 (heap_kept HG3.out HRb.out)).1; omega
                      have hea : eb ≠ ab := fun e => by have h1 := hSd.lo.2.1; have h2 := lt_of_cell (HG3.out.keeps (HEn.out s hsn)); simp only at h2; omega
                      obtain ⟨⟨r0, r1⟩, _⟩ := two_cells hrb2
                      refine RR.region_frame (J := ApJ w7.drew ⟨ab, 257, none⟩ ow (EndApp w3' w7.drew ev (k + 1) (((ord2.take k).map fun x => Value.bool (R.en x)) ++ [.bool (R.en s)])) [12] 1 13 15 178) (Rl := ApRl ⟨ab, 257, none⟩ ow) [165, 166, 167, 168, 169, 170, 171, 172, 173, 174, 175, 176, 177, 178, 179] mixed (ApRl.drew _ _) ApRl.trans
                        [.val (.pointer (some ⟨ab, 257, none⟩)), .val ev, .val (.pointer (some ⟨b, 0, none⟩)), .val (.pointer (some ⟨b, 0, none⟩)), .val (.pointer (some ⟨b, 1, none⟩)), .val (.slice (some ⟨eb, eo, none⟩) n ec), .val (.slice (some ⟨lb2, lo2, none⟩) l2 lc2), .val (.int .i64 (k : Nat)), .val (.pointer (some ⟨lb2, lo2 + k, none⟩)), .val (.int .i64 (s : Nat)), .val (.pointer (some ⟨eb, eo + s, none⟩)), .val (.bool (R.en s)), .fact (OneNew w7.drew (.bool (R.en s))), .fact fun _ _ => True, .val (.pointer (some ⟨ab, 257, none⟩)), .fact fun _ _ => True]
                        (ap_start _ _) (ap_mono ?_) (by kernel_rfl) (by kernel_rfl)
                        ⟨gj_field (field_aut2 ab) (by decide) (by decide) (by decide) (by kernel_rfl) rfl rfl,
                         gj_row (wb := w7.drew) agg_boolsl hcq hoq (by decide) (by decide) (by decide) (by kernel_rfl) rfl rfl,
                         gj_move (by decide) (by decide) (by decide) (by kernel_rfl) rfl rfl, gj_nil (by decide) (by decide) (by decide) (by kernel_rfl) rfl rfl, gj_field (field_raw1 b) (by decide) (by decide) (by decide) (by kernel_rfl) rfl rfl,
                         gj_load (p := ⟨b, 1, none⟩) ?l1 (by decide) (by decide) (by decide) (by kernel_rfl) rfl rfl,
                         gj_move (by decide) (by decide) (by decide) (by kernel_rfl) rfl rfl, gj_move (by decide) (by decide) (by decide) (by kernel_rfl) rfl rfl,
                         gj_index ?i1 (by decide) (by decide) (by decide) (by kernel_rfl) rfl rfl rfl,
                         gj_load (p := ⟨lb2, lo2 + k, none⟩) ?l2 (by decide) (by decide) (by decide) (by kernel_rfl) rfl rfl,
                         gj_index ?i2 (by decide) (by decide) (by decide) (by kernel_rfl) rfl rfl rfl,
                         gj_load (p := ⟨eb, eo + s, none⟩) ?l3 (by decide) (by decide) (by decide) (by kernel_rfl) rfl rfl,
                         gj_one (fun w => build_bool (R.en s) w) (by decide) (by decide) (by decide) (by decide) (by kernel_rfl) rfl rfl,
                         gj_append (by decide) (by decide) (by exact (show (178 : Nat) < 241 by decide)) (by exact (show (13 : Nat) < 16 by decide)) ?ap (by kernel_rfl) rfl,
                         gj_field (field_aut2 ab) (by decide) (by decide) (by decide) (by kernel_rfl) rfl rfl,
                         gj_store (wb := w7.drew) (by kernel_rfl) (by kernel_rfl) (by decide) hoq rfl ⟨_, hcq⟩ hfq (by exact (show (15 : Nat) < 16 by decide)) ?one (by kernel_rfl) rfl rfl (fun w => size_of (by kernel_rfl) w), trivial⟩ ?_
                      case l1 =>
                        intro wx g
                        exact load_one agg_boolsl (by rw [g.2 ⟨b, 1, none⟩ hbl hob (fun e => hba (congrArg Addr.block e))]; exact r1)
                      case l2 =>
                        intro wx g
                        exact load_one (fun w => run_isAgg Tryd.underlying3 w) (by rw [g.2 ⟨lb2, lo2 + k, none⟩ hlb2 hlo3 (fun e => hla3 (congrArg Addr.block e))]; exact c0)
                      case l3 =>
                        intro wx g
                        exact load_one (fun w => run_isAgg Tryd.underlying4 w) (by rw [g.2 ⟨eb, eo + s, none⟩ (lt_of_cell hce) hoe (fun e => hea (congrArg Addr.block e))]; exact hce)
                      case i1 =>
                        intro wx
                        have := index_sl (sz := 1) Tryd.underlying37 (by kernel_rfl) (fun w => size_of info_int w) (b := lb2) (o := lo2) (c := lc2) hkl2 wx
                        rwa [Nat.mul_one] at this
                      case i2 =>
                        intro wx
                        have := index_sl (sz := 1) Tryd.underlying28 (by kernel_rfl) (fun w => size_of (by kernel_rfl) w) (b := eb) (o := eo) (c := ec) hsn wx
                        rwa [Nat.mul_one] at this
                      case ap =>
                        intro a1 wx hg E
                        have hv : a1.eval (.tmp 166) = ev := E.opv rfl
                        obtain ⟨kk, hk1, hk2, hk3⟩ : OneNew w7.drew (.bool (R.en s)) (a1.eval (.tmp 177)) wx := E.op (.tmp 177)
                        rw [hv, hk1, ← how]
                        exact hSd.endRun hg (by omega) hk3 1 _
                      case one =>
                        intro v wx hA
                        obtain ⟨⟨_, va, vc, e, _⟩, _⟩ := hA
                        rw [e]; exact ⟨rfl, rfl⟩
                      · intro sx hs
                        simp only [List.mem_cons, List.not_mem_nil, or_false] at hs
                        rcases hs with rfl | rfl | rfl | rfl | rfl | rfl | rfl | rfl | rfl | rfl | rfl | rfl | rfl | rfl | rfl | rfl <;> first | exact Or.inl ⟨_, rfl⟩ | exact Or.inr ⟨_, rfl, OneNew.mono habl hol3⟩ | exact Or.inr ⟨_, rfl, fun _ _ _ _ _ => trivial⟩
                      · intro xs listed a1 w8 hall hxs hJ hR _
                        obtain ⟨v, w9, hA, hg, rfl⟩ := hJ.p2 (hall 15 (by exact (show (15 : Nat) < 16 by decide)))
                        rw [← how] at hg
                        have hend := hSd.pushEnd hsx hA hg rfl (o := 257)
                        rw [aCells_set] at hend
                        have HEnd := hidd hend
                        have HPn := hidd (HP.out.rowed (by rw [HOl.out]; exact hkl2))
                        simp only [List.foldl_cons, List.foldl_nil, List.setIfInBounds_toArray, List.set_cons_succ, List.set_cons_zero]
                        clear hend hall hxs hJ hR hA hg hSd hls hcell c0 hce hrb2 hbl hr habl hcq hfq how hoq hol3 hlo3 hla3 hob hoe hba hea r0 r1 hsx
                        go_wp2_with fail
                        exact ⟨⟨k + 1, l2, _, _, _, _, by simp, by omega, rfl, hln2, rfl, ord2, T2, rows ++ [row], v, HPn.out, HOl.out, HEnd.out⟩, by simp [intOf]; omega⟩
                · have hie : l = k := by omega
                  subst hie
                  have kl : decide ((l : Int) < (l : Int)) = false := decide_eq_false (by omega)
                  have hp4 : 0 < l := by obtain ⟨r, hr⟩ := hP.bfs.zero; rw [← hol, hr]; simp
                  have hrl := hP.rl
                  obtain ⟨C, hC⟩ : ∃ C, bfsA R ord T = C := ⟨_, rfl⟩
                  have HCn : Hid (C.n = l) := by rw [← hC]; exact hol
                  have HLe : Hid (LeastOf R (autOf C) ∧ C.Ok) := by rw [← hC]; exact NuP.least HOk.out HGr.out (by rw [hol]; exact hP)
                  have hnx : ∀ s c, s < l → c < 256 → (rows.getD s fun _ => 0) c = C.nx s c := fun s c hs hc => by rw [← hC]; exact hP.old s hs c hc
                  have hen : ∀ s, C.en s = R.en (ord.getD s 0) := fun s => by rw [← hC]; rfl
                  obtain ⟨rb2, ro2, rc3, e, _, _, _, _, hcr⟩ := hS.next.at (by omega)
                  rw [hrl] at e hcr
                  cases e
                  obtain ⟨eb2, eo2, ec2, e, _, _, _, _, hce2⟩ := hS.ends.at (by omega)
                  have HRw : Hid (∀ s c, s < l → c < 256 → wr.cell? ⟨rb2, ro2 + s * 256 + c, none⟩ = some (.int .i64 (C.nx s c : Nat))) := fun s c hs hc => by
                    rw [Nat.add_assoc, ← hnx s c hs hc]
                    exact hcr (s * 256 + c) _ (by have : (s + 1) * 256 ≤ l * 256 := Nat.mul_le_mul_right _ hs; omega) (rowsC_get hc rows s (by omega))
                  have HEs : Hid (∀ s, s < l → wr.cell? ⟨eb2, eo2 + s, none⟩ = some (.bool (C.en s))) := fun s hs => by
                    refine hce2 s _ (by omega) ?_
                    rw [hen s, List.getElem?_map, List.getElem?_take, if_pos hs, List.getElem?_eq_getElem (by rw [hol]; exact hs)]
                    show some (Value.bool (R.en ord[s])) = some (.bool (R.en (ord.getD s 0)))
                    rw [List.getD_eq_getElem?_getD, List.getElem?_eq_getElem (by rw [hol]; exact hs)]; rfl
                  have hr := hS.raw
                  rw [e] at hr
                  have habl := (Array.getElem?_eq_some_iff.1 hr).1
                  have hrbne : rb2 ≠ ab := (hS.ownn rb2 rfl).2.1
                  have HEb : Hid (rs < eb2) := by
                    have h2 := (Array.getElem?_eq_some_iff.1 HT4.out).1
                    have h3 := by rw [e] at hS; exact (hS.owne eb2 rfl).2.2.1
                    show rs < eb2
                    omega
                  have hebne : eb2 ≠ ab := by rw [e] at hS; exact (hS.owne eb2 rfl).2.1
                  have HT5 : Hid (wr.heap[rs]? = some (.cells zAut 30 (0, 0))) := heap_kept hS.grew HT4.out
                  have hab1 : rs + 1 ≤ ab := by have := hS.lo.2.1; have h2 := (Array.getElem?_eq_some_iff.1 HT4.out).1; omega
                  have HG4 : Hid (Grew w wr) := HG3.out.trans hS.grew
                  have hA0 : ArrAt wr ab 0 258 fun j => (aCells (.slice (some ⟨eb2, eo2, none⟩) l ec2)).getD j undef := fun j hj => by
                    rw [Nat.zero_add]
                    refine ⟨?_, by unfold World.frozen?; dsimp only; rw [hr]; simp⟩
                    unfold World.cell?
                    dsimp only
                    rw [hr]
                    show (aCells (.slice (some ⟨eb2, eo2, none⟩) l ec2))[j]? = _
                    rw [Array.getD_eq_getD_getElem?, Array.getElem?_eq_getElem (by rw [aCells_size]; exact hj)]; rfl
                  obtain ⟨w5, hmk, hA5, hg5⟩ := make_sls l (by omega) wr
                  have hA6 := hA0.kept hg5
                  have cq := hA6.at0 256 (by omega)
                  have fq := hA6.free0 256 (by omega)
                  have hc256 : (aCells (.slice (some ⟨eb2, eo2, none⟩) l ec2)).getD 256 undef = .slice none 0 0 := rfl
                  rw [hc256] at cq
                  have HS0 : Hid (ClSt rs wr (w5.setCell ⟨ab, 256, none⟩ (.slice (some ⟨wr.heap.size, 0, none⟩) l l)) ab wr.heap.size l (.slice (some ⟨eb2, eo2, none⟩) l ec2) (fun j => if j < 0 then (numb (colA C) 256 j : Nat) else 0) (fun _ => .slice none 0 0) (fun i => (fsts (colA C) 0).map fun d => Value.int .i64 (C.nx i d : Nat))) := by
                    have hsz : (w5.setCell ⟨ab, 256, none⟩ (.slice (some ⟨wr.heap.size, 0, none⟩) l l)).heap.size = w5.heap.size := by simp [World.setCell]
                    refine ⟨(Below.mono hg5 (by omega)).setCell (p := ⟨ab, 256, none⟩) hab1 _, fun k hk hne => ?_, (hA6.set0 256 (by omega) _).congr fun j hj => ?_, ⟨?_, fun i hi => ⟨rfl, none, 0, rfl, Nat.le_refl _, Nat.zero_le _, fun h => absurd h (by omega)⟩, fun i hi k hk => (by cases hk), fun i j _ _ _ k hk => (by cases hk), Nat.le_refl _⟩, ⟨hab1, habl, hp4⟩⟩
                    · rw [q_set_other _ _ (Ne.symm hne)]; exact hg5.block k hk
                    · unfold clF
                      by_cases h1 : j = 256
                      · subst h1; rw [if_pos rfl, if_neg (by omega), if_pos rfl]
                      · rw [if_neg h1]
                        by_cases h2 : j < 256
                        · rw [if_pos h2]
                          dsimp only
                          rw [if_neg (Nat.not_lt_zero j)]
                          show (aCells _).getD j undef = _
                          unfold aCells
                          rw [Array.getD_eq_getD_getElem?, Array.getElem?_append_left (by rw [rowI_size]; exact h2), rowI_get _ h2]; rfl
                        · have : j = 257 := by omega
                          subst this
                          rw [if_neg (by omega), if_neg (by omega)]; rfl
                    · exact arr_block hA5 (q_set_other _ _ (by omega))
                  have HCl := hidd (show rb2 ≠ ab ∧ eb2 ≠ ab from ⟨hrbne, hebne⟩)
                  have HRl := hidd (lt_of_cell (HRw.out 0 0 hp4 (by omega)))
                  have HEl := hidd (lt_of_cell (HEs.out 0 hp4))
                  have HPo := hidd hp4
                  have HNb : Hid (ab < wr.heap.size ∧ wr.heap.size ≤ wr.heap.size) := ⟨habl, Nat.le_refl _⟩
                  clear KS hP hS hol hrl hC hnx hen hcr hce2 hr habl hrbne hebne hA0 hA5 hg5 hA6 hab1 e hc256
                  go_wp2_with fail
                  clear hmk cq fq
                  generalize w5.setCell ⟨ab, 256, none⟩ (.slice (some ⟨wr.heap.size, 0, none⟩) l l) = W6 at HS0 ⊢
                  obtain ⟨w4, rfl⟩ : ∃ w4, w4 = wr := ⟨_, rfl⟩
                  obtain ⟨nb, hnb⟩ : ∃ nb, w4.heap.size = nb := ⟨_, rfl⟩
                  rw [hnb] at HS0 HNb ⊢
                  have HNs := hidd hnb
                  clear hnb
                  go_loopw [25, 184] (fun s25 s184 wr => ∃ c m, s184 = .int .i64 (c : Nat) ∧ c ≤ 256 ∧ s25 = .int .i64 (m : Nat) ∧ m ≤ c ∧ Hid (∃ vs, m = (fsts (colA C) c).length ∧ ClSt rs w4 wr ab nb l (.slice (some ⟨eb2, eo2, none⟩) l ec2) (fun j => if j < c then (numb (colA C) 256 j : Nat) else 0) vs (fun i => (fsts (colA C) c).map fun d => Value.int .i64 (C.nx i d : Nat)))) (fun _ s184 _ => 256 - (intOf s184).toNat)
                  case atStart => exact ⟨0, 0, rfl, by omega, rfl, Nat.le_refl _, _, rfl, HS0.out⟩
                  case round =>
                    obtain ⟨c, m, rfl, hc, rfl, hmc, KS⟩ := hrel
                    clear HS0
                    obtain ⟨vs, hm, hS⟩ := KS.out
                    have HM := hidd hm
                    by_cases hcl : c < 256
                    · have kc : decide ((c : Int) < 256) = true := decide_eq_true (by omega)
                      have hcl2 : (c : Int) < 256 := by omega
                      have hzi := zero_int
                      have hga : Grew wr (wr.alloc (.cells #[.int .i64 (c : Nat)] 3)) := (Grew.refl wr).alloc _
                      have hS1 := hS.kept hga
                      have ca := hS1.arr.at0 c (by omega)
                      have cf := hS1.arr.free0 c (by omega)
                      have hcf : clF (fun j => if j < c then ((numb (colA C) 256 j : Nat) : Int) else 0) nb l (.slice (some ⟨eb2, eo2, none⟩) l ec2) c = .int .i64 0 := by unfold clF; rw [if_pos hcl]; dsimp only; rw [if_neg (Nat.lt_irrefl c)]
                      rw [hcf] at ca
                      have hbig := hS.lo
                      have hwl := hS.below.size
                      have hcb0 : (wr.alloc (.cells #[.int .i64 (c : Nat)] 3)).cell? ⟨wr.heap.size, 0, none⟩ = some (.int .i64 (c : Nat)) := by rw [World.cell?_alloc_mark]; rfl
                      have hcb1 : ((wr.alloc (.cells #[.int .i64 (c : Nat)] 3)).setCell ⟨ab, c, none⟩ (.int .i64 (-1))).cell? ⟨wr.heap.size, 0, none⟩ = some (.int .i64 (c : Nat)) := by
                        rw [setCell_cell_other _ _ _ _ (.inl (show ab ≠ wr.heap.size by omega))]; exact hcb0
                      have HS2 : Hid (ClSt rs w4 ((wr.alloc (.cells #[.int .i64 (c : Nat)] 3)).setCell ⟨ab, c, none⟩ (.int .i64 (-1))) ab nb l (.slice (some ⟨eb2, eo2, none⟩) l ec2) (fun j => if j = c then -1 else if j < c then (numb (colA C) 256 j : Nat) else 0) vs (fun i => (fsts (colA C) c).map fun d => Value.int .i64 (C.nx i d : Nat))) := hS1.setc hcl (-1)
                      have HCb := hidd hcb1
                      have HVo : Hid (∀ j, j < l → ∀ k, (vs j).ownBlock = some k → k ≠ wr.heap.size) := fun j hj k hk => by have := (hS.nx.own j hj k hk).2.2; omega
                      have hcbne : ab ≠ wr.heap.size := by omega
                      clear KS hS hS1 hm hga hcf hbig hwl hcb0
                      go_wp2_with fail
                      clear ca cf hcb1
                      generalize (wr.alloc (.cells #[.int .i64 (c : Nat)] 3)).setCell ⟨ab, c, none⟩ (.int .i64 (-1)) = W2 at HS2 HCb ⊢
                      obtain ⟨cb, hcb⟩ : ∃ cb, wr.heap.size = cb := ⟨_, rfl⟩
                      rw [hcb] at HCb hcbne HVo ⊢
                      clear hcb
                      go_loopw [191] (fun s191 wr => ∃ d : Nat, s191 = .int .i64 d ∧ d ≤ c ∧ Hid (Grew W2 wr ∧ ∀ d', d' < d → colA C d' ≠ colA C c)) (fun s191 _ => c - (intOf s191).toNat)
                      case atStart => exact ⟨0, rfl, by omega, Grew.refl W2, fun d' h => by omega⟩
                      case round =>
                        obtain ⟨d, rfl, hd, JG⟩ := hrel
                        by_cases hdl : d < c
                        · have kd : decide ((d : Int) < (c : Int)) = true := decide_eq_true (by omega)
                          have hga : Grew wr (wr.alloc (.cells #[.int .i64 (d : Nat)] 3)) := (Grew.refl wr).alloc _
                          have hgw := JG.out.1.trans hga
                          have c1 := hgw.keeps HCb.out
                          have c2 : (wr.alloc (.cells #[.int .i64 (d : Nat)] 3)).cell? ⟨wr.heap.size, 0, none⟩ = some (.int .i64 (d : Nat)) := by rw [World.cell?_alloc_mark]; rfl
                          have hkw := (HS2.out.kept hgw).keep
                          have HCall := hidd (ContainsFunc_any l C.nx rb2 ro2 rc2 cb wr.heap.size c d hcl (by omega) (wr.alloc (.cells #[.int .i64 (d : Nat)] 3)) (by omega) c1 c2 (fun s c hs hc => by
                            rw [World.cell?_of_block (a := ⟨rb2, ro2 + s * 256 + c, none⟩) (hkw rb2 HRl.out HCl.out.1)]; exact HRw.out s c hs hc))
                          have HC2 := hidd c2
                          have HGw := hidd hgw
                          clear hga hkw hgw
                          go_wp2_with fail
                          refine HCall.out.mono ?_; rintro e wz ⟨⟨z, rfl, hz⟩, gz⟩
                          have HZ := hidd hz
                          have HGz := hidd (HGw.out.trans gz)
                          have HC2z := hidd (gz.keeps HC2.out)
                          obtain ⟨db, hdb⟩ : ∃ db, wr.heap.size = db := ⟨_, rfl⟩
                          rw [hdb] at HC2z ⊢
                          clear hz gz HCall HC2 HGw c1 c2 hdb
                          cases z with
                          | true =>
                            have HNe : Hid (∀ d', d' < d + 1 → colA C d' ≠ colA C c) := fun d' h => by
                              by_cases e : d' < d
                              · exact JG.out.2 d' e
                              · have : d' = d := by omega
                                rw [this]
                                intro e2
                                obtain ⟨s, hs, hne⟩ := HZ.out.1 rfl
                                exact hne ((colA_iff.1 e2 s (by rw [HCn.out]; exact hs)).symm)
                            go_wp2_with fail
                            exact ⟨⟨d + 1, by simp, by omega, HGz.out, HNe.out⟩, by simp [intOf]; omega⟩
                          | false =>
                            have HEq : Hid (colA C d = colA C c) := colA_iff.2 fun s hs => by
                              rw [HCn.out] at hs
                              by_cases e : C.nx s c = C.nx s d
                              · exact e.symm
                              · exact absurd (HZ.out.2 ⟨s, hs, e⟩) Bool.false_ne_true
                            have hSz := HS2.out.kept HGz.out
                            have hdc : d ≠ c := by omega
                            have HSz := hidd hSz
                            have hcd := hSz.arr.at0 d (by omega)
                            have hcc := hSz.arr.at0 c (by omega)
                            have hfc := hSz.arr.free0 c (by omega)
                            have e1 : clF (fun j => if j = c then -1 else if j < c then ((numb (colA C) 256 j : Nat) : Int) else 0) nb l (.slice (some ⟨eb2, eo2, none⟩) l ec2) d = .int .i64 (numb (colA C) 256 d : Nat) := by unfold clF; rw [if_pos (by omega)]; dsimp only; rw [if_neg hdc, if_pos hdl]
                            rw [e1] at hcd
                            have hc1 := HGz.out.keeps HCb.out
                            have hc2 := HC2z.out
                            obtain ⟨q, hq⟩ : ∃ q, numb (colA C) 256 d = q := ⟨_, rfl⟩
                            have HQ : Hid (numb (colA C) 256 c = q) := by rw [← hq]; exact (numb_seen (colA C) (by omega) (by omega) HEq.out).symm
                            rw [hq] at hcd
                            clear hSz hq e1
                            go_wp2_with fail
                            refine RR.region_frame (J := StJ wz.drew (fun w' => ∃ w1, Grew wz.drew w1 ∧ w' = w1.setCell ⟨ab, c, none⟩ (.int .i64 (q : Nat))) [0, 1, 2, 3, 4, 6] 7) (Rl := NoRl ab) [198, 199, 200, 201, 202, 203, 204] mixed (NoRl.drew _) NoRl.trans
                              [.val (.int .i64 (c : Nat)), .val (.int .i64 (d : Nat)), .val (.pointer (some ⟨ab, 0, none⟩)), .val (.pointer (some ⟨ab, d, none⟩)), .val (.int .i64 (q : Nat)), .val (.pointer (some ⟨ab, 0, none⟩)), .val (.pointer (some ⟨ab, c, none⟩)), .fact fun _ _ => True]
                              (st_start _ _) (no_mono ?_) (by kernel_rfl) (by kernel_rfl)
                              ⟨hj_load1 (wb := wz.drew) (p := ⟨cb, 0, none⟩) agg_int hc1 (by decide) (by decide) (by kernel_rfl) rfl rfl, hj_load1 (wb := wz.drew) (p := ⟨db, 0, none⟩) agg_int hc2 (by decide) (by decide) (by kernel_rfl) rfl rfl,
                               hj_field (field_aut0 ab) (by decide) (by decide) (by kernel_rfl) rfl rfl, hj_index ?i1 (by decide) (by decide) (by kernel_rfl) rfl rfl rfl, hj_load1 (wb := wz.drew) (p := ⟨ab, d, none⟩) agg_int hcd (by decide) (by decide) (by kernel_rfl) rfl rfl,
                               hj_field' (field_aut0 ab) (by decide) (by kernel_rfl) rfl rfl, hj_index ?i2 (by decide) (by decide) (by kernel_rfl) rfl rfl rfl,
                               hj_store (by decide) (by exact (show (7 : Nat) < 8 by decide)) ?st (by decide) (by kernel_rfl) rfl, trivial⟩ ?_
                            case i1 => intro wx; have := index_ar (b := ab) (o := 0) (show d < 256 by omega) wx; rwa [Nat.zero_add] at this
                            case i2 => intro wx; have := index_ar (b := ab) (o := 0) hcl wx; rwa [Nat.zero_add] at this
                            case st =>
                              intro a1 wx hg E
                              have h1 : a1.eval (.tmp 204) = .pointer (some ⟨ab, c, none⟩) := E.opv rfl
                              have h2 : a1.eval (.tmp 202) = .int .i64 (q : Nat) := E.opv rfl
                              rw [h1, h2]
                              have hcx := hg.keeps (p := ⟨ab, c, none⟩) hcc
                              have hfx : wx.frozen? ⟨ab, c, none⟩ = false := by rw [hg.frozen (p := ⟨ab, c, none⟩) (lt_of_cell hcc)]; exact hfc
                              exact ⟨_, store_one (size_of info_int) hcx hfx rfl rfl, NoRl.set _ _ _ _, wx, hg, rfl⟩
                            · intro sx hs
                              simp only [List.mem_cons, List.not_mem_nil, or_false] at hs
                              rcases hs with rfl | rfl | rfl | rfl | rfl | rfl | rfl | rfl <;> first | exact Or.inl ⟨_, rfl⟩ | exact Or.inr ⟨_, rfl, fun _ _ _ _ _ => trivial⟩
                            · intro xs listed a1 w8 hall hxs hJ hR _
                              obtain ⟨w9, hg9, rfl⟩ := hJ.p1 (hall 7 (by exact (show (7 : Nat) < 8 by decide)))
                              have hS3 := (HSz.out.kept ((drew_grew wz).trans hg9)).setc hcl (q : Nat)
                              have hca := hS3.arr.at0 c (by omega)
                              have e1 : clF (fun j => if j = c then ((q : Nat) : Int) else if j = c then -1 else if j < c then ((numb (colA C) 256 j : Nat) : Int) else 0) nb l (.slice (some ⟨eb2, eo2, none⟩) l ec2) c = .int .i64 (q : Nat) := by unfold clF; rw [if_pos hcl]; dsimp only; rw [if_pos rfl]
                              rw [e1] at hca
                              have hcbx : (w9.setCell ⟨ab, c, none⟩ (.int .i64 (q : Nat))).cell? ⟨cb, 0, none⟩ = some (.int .i64 (c : Nat)) := by
                                rw [setCell_cell_other _ _ _ _ (.inl (show ab ≠ cb from hcbne))]
                                exact ((drew_grew wz).trans hg9).keeps hc1
                              have hS4 : ClSt rs w4 (w9.setCell ⟨ab, c, none⟩ (.int .i64 (q : Nat))) ab nb l (.slice (some ⟨eb2, eo2, none⟩) l ec2) (fun j => if j < c + 1 then (numb (colA C) 256 j : Nat) else 0) vs (fun i => (fsts (colA C) (c + 1)).map fun d => Value.int .i64 (C.nx i d : Nat)) := by
                                refine hS3.congr (fun j hj => ?_) fun i hi => by rw [fsts_seen (colA C) hdl HEq.out]
                                by_cases e : j = c
                                · subst e; rw [if_pos rfl, if_pos (by omega), HQ.out]
                                · rw [if_neg e, if_neg e]
                                  by_cases e2 : j < c
                                  · rw [if_pos e2, if_pos (by omega)]
                                  · rw [if_neg e2, if_neg (by omega)]
                              have HS4 := hidd hS4
                              have HM2 : Hid (m = (fsts (colA C) (c + 1)).length) := by rw [fsts_seen (colA C) hdl HEq.out]; exact HM.out
                              have kq : decide ((q : Int) < 0) = false := decide_eq_false (by omega)
                              simp only [List.foldl_cons, List.foldl_nil, List.setIfInBounds_toArray, List.set_cons_succ, List.set_cons_zero]
                              clear hS3 hS4 e1 hall hxs hJ hR hg9 hcd hcc hfc hc1 hc2
                              go_wp2_with fail
                              exact ⟨⟨c + 1, m, by simp, by omega, rfl, by omega, vs, HM2.out, HS4.out⟩, by simp [intOf]; omega⟩
                        · have hie : c = d := by omega
                          subst hie
                          have kd : decide ((c : Int) < (c : Int)) = false := decide_eq_false (by omega)
                          have HNo : Hid (∀ d', d' < c → colA C d' ≠ colA C c) := JG.out.2
                          have hSz := HS2.out.kept JG.out.1
                          have HSz := hidd hSz
                          have hca := hSz.arr.at0 c (by omega)
                          have hfc := hSz.arr.free0 c (by omega)
                          have e1 : clF (fun j => if j = c then -1 else if j < c then ((numb (colA C) 256 j : Nat) : Int) else 0) nb l (.slice (some ⟨eb2, eo2, none⟩) l ec2) c = .int .i64 (-1) := by unfold clF; rw [if_pos hcl]; dsimp only; rw [if_pos rfl]
                          rw [e1] at hca
                          have hcbx := JG.out.1.keeps HCb.out
                          have hcby : (wr.setCell ⟨ab, c, none⟩ (.int .i64 (m : Nat))).cell? ⟨cb, 0, none⟩ = some (.int .i64 (c : Nat)) := by
                            rw [setCell_cell_other _ _ _ _ (.inl (show ab ≠ cb from hcbne))]; exact hcbx
                          have HS3 : Hid (ClSt rs w4 (wr.setCell ⟨ab, c, none⟩ (.int .i64 (m : Nat))) ab nb l (.slice (some ⟨eb2, eo2, none⟩) l ec2) (fun j => if j < c + 1 then (numb (colA C) 256 j : Nat) else 0) vs (fun i => ((fsts (colA C) c).map fun d => Value.int .i64 (C.nx i d : Nat)) ++ (if i < 0 then [Value.int .i64 (C.nx i c : Nat)] else []))) := by
                            refine (hSz.setc hcl (m : Nat)).congr (fun j hj => ?_) fun i hi => by rw [if_neg (Nat.not_lt_zero i), List.append_nil]
                            by_cases e : j = c
                            · subst e; rw [if_pos rfl, if_pos (by omega), numb_fresh (colA C) hcl HNo.out, HM.out]
                            · rw [if_neg e, if_neg e]
                              by_cases e2 : j < c
                              · rw [if_pos e2, if_pos (by omega)]
                              · rw [if_neg e2, if_neg (by omega)]
                          have HM3 : Hid (m + 1 = (fsts (colA C) (c + 1)).length) := by rw [fsts_fresh (colA C) HNo.out, List.length_append, HM.out]; rfl
                          have HFm : Hid ((fsts (colA C) c).length ≤ 256) := Nat.le_trans (fsts_le _ c) (by omega)
                          have HCy := hidd hcby
                          have klt : decide ((-1 : Int) < 0) = true := rfl
                          clear hSz e1 JG
                          go_wp2_with fail
                          clear hca hfc hcbx hcby
                          generalize wr.setCell ⟨ab, c, none⟩ (.int .i64 (m : Nat)) = W3 at HS3 HCy ⊢
                          go_loopw [219] (fun s219 wr => ∃ i : Nat, s219 = .int .i64 i ∧ i ≤ l ∧ Hid (∃ vs, ClSt rs w4 wr ab nb l (.slice (some ⟨eb2, eo2, none⟩) l ec2) (fun j => if j < c + 1 then (numb (colA C) 256 j : Nat) else 0) vs (fun j => ((fsts (colA C) c).map fun d => Value.int .i64 (C.nx j d : Nat)) ++ (if j < i then [Value.int .i64 (C.nx j c : Nat)] else [])) ∧ wr.cell? ⟨cb, 0, none⟩ = some (.int .i64 (c : Nat)) ∧ ∀ j, j < l → ∀ k, (vs j).ownBlock = some k → k ≠ cb)) (fun s219 _ => l - (intOf s219).toNat)
                          case atStart => exact ⟨0, rfl, by omega, vs, HS3.out, HCy.out, HVo.out⟩
                          case round =>
                            obtain ⟨i, rfl, hi, LS⟩ := hrel
                            clear HS3 HCy
                            obtain ⟨vs2, hS, hcy, hvo⟩ := LS.out
                            have HVo2 := hidd hvo
                            have HS := hidd hS
                            have HCy := hidd hcy
                            clear LS hS hcy hvo
                            by_cases hil : i < l
                            · have ki : decide ((i : Int) < (l : Int)) = true := decide_eq_true (by omega)
                              have HRow3 : Hid (∀ j, j < 256 → wr.cell? ⟨rb2, ro2 + i * 256 + j, none⟩ = some (.int .i64 (C.nx i j : Nat))) := fun j hj => by
                                rw [World.cell?_of_block (a := ⟨rb2, ro2 + i * 256 + j, none⟩) (HS.out.keep rb2 HRl.out HCl.out.1)]; exact HRw.out i j hil hj
                              have hz := run_zero_rowI
                              have HZ := hidd (rowI_at wr (fun _ => 0) 26)
                              go_wp2_with (first | (refine wpList_load_off rfl rfl rfl HRow3.out ?_) | (refine wpList_store_row rfl rfl rfl rfl HZ.out ?_; intro w5 hS5 hb5))
                              have hg5 : Grew wr w5 := ((Grew.refl wr).alloc _).below hb5 (Nat.le_refl _)
                              obtain ⟨g1, hg1⟩ : ∃ g1, wr.heap.size = g1 := ⟨_, rfl⟩
                              rw [hg1] at hS5 ⊢
                              have hSd := HS.out.kept (hg5.trans (drew_grew w5))
                              have hcd := (hg5.trans (drew_grew w5)).keeps HCy.out
                              have hrow5 := hS5.at0 c hcl
                              have hg1l : g1 < w5.heap.size := hS5.lt (by omega)
                              have hlo := hSd.lo
                              have hws := hSd.below.size
                              have hnlo := hSd.nx.lo
                              have hg1b : w4.heap.size ≤ g1 := by rw [← hg1]; exact HS.out.below.size
                              have hcnx := hSd.nx.arr.at0 i hil
                              have hfnx := hSd.nx.arr.free0 i hil
                              have hnbl := hSd.nx.arr.lt (by omega)
                              have hc256 := hSd.arr.at0 256 (by omega)
                              have e256 : clF (fun j => if j < c + 1 then ((numb (colA C) 256 j : Nat) : Int) else 0) nb l (.slice (some ⟨eb2, eo2, none⟩) l ec2) 256 = .slice (some ⟨nb, 0, none⟩) l l := rfl
                              rw [e256] at hc256
                              obtain ⟨ow, how⟩ : ∃ ow, (vs2 i).ownBlock = ow := ⟨_, rfl⟩
                              have hown := hSd.nx.own i hil
                              rw [how] at hown
                              have hoab : ow ≠ some ab := fun e => by have := (hown _ e).2.1; omega
                              have honb : ow ≠ some nb := fun e => (hown _ e).1 rfl
                              have hol : ∀ k, ow = some k → k < w5.drew.heap.size := fun k e => (hown k e).2.2
                              have hog1 : ow ≠ some g1 := by
                                rw [← how, ← hg1]
                                intro e
                                have := (HS.out.nx.own i hil _ e).2.2; omega
                              have hocb : ow ≠ some cb := fun e => by
                                rw [← how] at e
                                exact HVo2.out i hil _ e rfl
                              have hcbnb : cb ≠ nb := fun e => by
                                have h1 := hSd.nx.arr.at0 0 (by omega)
                                rw [← e, hcd] at h1
                                have h2 := hSd.nx.row 0 (by omega)
                                obtain ⟨_, a, cp, e2, _⟩ := h2
                                rw [e2] at h1
                                cases h1
                              have hg1nb : g1 ≠ nb := fun e => by have := HS.out.nx.arr.lt (by omega); omega
                              have HSd := hidd hSd
                              have hvl : (vs2 i).oneCell' = true := by obtain ⟨_, a, cp, e2, _⟩ := hSd.nx.row i hil; rw [e2]; rfl
                              have hrfl : (((fsts (colA C) c).map fun d => Value.int .i64 (C.nx i d : Nat)) ++ (if i < i then [Value.int .i64 (C.nx i c : Nat)] else [])).length ≤ 9000 := by
                                rw [if_neg (Nat.lt_irrefl i), List.append_nil, List.length_map]; have := HFm.out; omega
                              obtain ⟨x, hx⟩ : ∃ x, C.nx i c = x := ⟨_, rfl⟩
                              have HX := hidd hx
                              rw [hx] at hrow5
                              clear hx
                              refine RR.region_frame (J := ApJ w5.drew ⟨nb, i, none⟩ ow (NxApp w5.drew w4.heap.size (vs2 i) ((((fsts (colA C) c).map fun d => Value.int .i64 (C.nx i d : Nat)) ++ (if i < i then [Value.int .i64 (C.nx i c : Nat)] else [])).length + 1) ((((fsts (colA C) c).map fun d => Value.int .i64 (C.nx i d : Nat)) ++ (if i < i then [Value.int .i64 (C.nx i c : Nat)] else [])) ++ [.int .i64 (x : Nat)])) [11] 7 12 14 236) (Rl := ApRl ⟨nb, i, none⟩ ow) [224, 225, 226, 227, 228, 229, 230, 231, 232, 233, 234, 235, 236, 237] mixed (ApRl.drew _ _) ApRl.trans
                                [.val (.pointer (some ⟨ab, 256, none⟩)), .val (.slice (some ⟨nb, 0, none⟩) l l), .val (.int .i64 (i : Nat)), .val (.pointer (some ⟨ab, 256, none⟩)), .val (.slice (some ⟨nb, 0, none⟩) l l), .val (.int .i64 (i : Nat)), .val (.pointer (some ⟨nb, i, none⟩)), .val (vs2 i), .val (.int .i64 (c : Nat)), .val (.pointer (some ⟨g1, c, none⟩)), .val (.int .i64 (x : Nat)), .fact (OneNew w5.drew (.int .i64 (x : Nat))), .fact fun _ _ => True, .val (.pointer (some ⟨nb, i, none⟩)), .fact fun _ _ => True]
                                (ap_start _ _) (ap_mono ?_) (by kernel_rfl) (by kernel_rfl)
                                ⟨gj_field (field_aut1 ab) (by decide) (by decide) (by decide) (by kernel_rfl) rfl rfl, gj_load (p := ⟨ab, 256, none⟩) ?l1 (by decide) (by decide) (by decide) (by kernel_rfl) rfl rfl, gj_move (by decide) (by decide) (by decide) (by kernel_rfl) rfl rfl,
                                 gj_field (field_aut1 ab) (by decide) (by decide) (by decide) (by kernel_rfl) rfl rfl, gj_load (p := ⟨ab, 256, none⟩) ?l2 (by decide) (by decide) (by decide) (by kernel_rfl) rfl rfl, gj_move (by decide) (by decide) (by decide) (by kernel_rfl) rfl rfl,
                                 gj_index ?i1 (by decide) (by decide) (by decide) (by kernel_rfl) rfl rfl rfl, gj_row (wb := w5.drew) agg_ints hcnx honb (by decide) (by decide) (by decide) (by kernel_rfl) rfl rfl,
                                 gj_load (p := ⟨cb, 0, none⟩) ?l3 (by decide) (by decide) (by decide) (by kernel_rfl) rfl rfl, gj_index ?i2 (by decide) (by decide) (by decide) (by kernel_rfl) rfl rfl rfl, gj_load (p := ⟨g1, c, none⟩) ?l4 (by decide) (by decide) (by decide) (by kernel_rfl) rfl rfl,
                                 gj_one (fun w => build_int (x : Nat) w) (by decide) (by decide) (by decide) (by decide) (by kernel_rfl) rfl rfl,
                                 gj_append (by decide) (by decide) (by exact (show (236 : Nat) < 241 by decide)) (by exact (show (12 : Nat) < 15 by decide)) ?ap (by kernel_rfl) rfl,
                                 gj_index ?i3 (by decide) (by decide) (by decide) (by kernel_rfl) rfl rfl rfl,
                                 gj_store (wb := w5.drew) (by kernel_rfl) (by kernel_rfl) (by decide) honb rfl ⟨_, hcnx⟩ hfnx (by exact (show (14 : Nat) < 15 by decide)) ?one (by kernel_rfl) rfl rfl (fun w => size_of (by kernel_rfl) w), trivial⟩ ?_
                              case l1 => intro wx g; exact load_one agg_rowsl (by rw [g.2 ⟨ab, 256, none⟩ (lt_of_cell hc256) hoab (fun e => by have := congrArg Addr.block e; simp only at this; omega)]; exact hc256)
                              case l2 => intro wx g; exact load_one agg_rowsl (by rw [g.2 ⟨ab, 256, none⟩ (lt_of_cell hc256) hoab (fun e => by have := congrArg Addr.block e; simp only at this; omega)]; exact hc256)
                              case l3 => intro wx g; exact load_one agg_int (by rw [g.2 ⟨cb, 0, none⟩ (lt_of_cell hcd) hocb (fun e => hcbnb (congrArg Addr.block e))]; exact hcd)
                              case l4 => intro wx g; exact load_one agg_int (by rw [g.2 ⟨g1, c, none⟩ hg1l hog1 (fun e => hg1nb (congrArg Addr.block e))]; exact hrow5)
                              case i1 =>
                                intro wx
                                have := index_sl (sz := 1) Tryd.underlying27 (by kernel_rfl) (fun w => size_of (by kernel_rfl) w) (b := nb) (o := 0) (c := l) hil wx
                                rwa [Nat.mul_one, Nat.zero_add] at this
                              case i3 =>
                                intro wx
                                have := index_sl (sz := 1) Tryd.underlying27 (by kernel_rfl) (fun w => size_of (by kernel_rfl) w) (b := nb) (o := 0) (c := l) hil wx
                                rwa [Nat.mul_one, Nat.zero_add] at this
                              case i2 => intro wx; have := index_ar (b := g1) (o := 0) hcl wx; rwa [Nat.zero_add] at this
                              case ap =>
                                intro a1 wx hg E
                                have hv : a1.eval (.tmp 231) = vs2 i := E.opv rfl
                                obtain ⟨kk, hk1, hk2, hk3⟩ : OneNew w5.drew (.int .i64 (x : Nat)) (a1.eval (.tmp 235)) wx := E.op (.tmp 235)
                                rw [hv, hk1, ← how]
                                exact HSd.out.nx.run hil hg hws hrfl rfl hk3 1 _
                              case one =>
                                intro v wx hA
                                obtain ⟨⟨_, va, vc, e, _⟩, _⟩ := hA
                                rw [e]; exact ⟨rfl, rfl⟩
                              · intro sx hs
                                simp only [List.mem_cons, List.not_mem_nil, or_false] at hs
                                rcases hs with rfl | rfl | rfl | rfl | rfl | rfl | rfl | rfl | rfl | rfl | rfl | rfl | rfl | rfl | rfl <;> first | exact Or.inl ⟨_, rfl⟩ | exact Or.inr ⟨_, rfl, OneNew.mono hnbl hol⟩ | exact Or.inr ⟨_, rfl, fun _ _ _ _ _ => trivial⟩
                              · intro xs listed a1 w8 hall hxs hJ hR _
                                obtain ⟨v, w9, hA, hg, rfl⟩ := hJ.p2 (hall 14 (by exact (show (14 : Nat) < 15 by decide)))
                                rw [← how] at hg
                                have hend := HSd.out.push hil hA hg
                                have hvo3 : ∀ j, j < l → ∀ k, (if j = i then v else vs2 j).ownBlock = some k → k ≠ cb := fun j hj k hk => by
                                  by_cases e : j = i
                                  · rw [if_pos e] at hk
                                    rcases hA.2 k hk with e2 | ⟨e2, _⟩
                                    · exact HVo2.out i hil k e2
                                    · have := lt_of_cell hcd; simp only at this; omega
                                  · rw [if_neg e] at hk
                                    exact HVo2.out j hj k hk
                                have hcb9 : (w9.setCell ⟨nb, i, none⟩ v).cell? ⟨cb, 0, none⟩ = some (.int .i64 (c : Nat)) := by
                                  rw [setCell_cell_other _ _ _ _ (.inl (show nb ≠ cb from Ne.symm hcbnb)), World.cell?_of_block (a := ⟨cb, 0, none⟩) (hg.block cb (lt_of_cell hcd) (fun e => hocb (by rw [← how]; exact e.symm)))]
                                  exact hcd
                                have hend2 := hend.congr (fun j hj => rfl) (rf' := fun j => ((fsts (colA C) c).map fun d => Value.int .i64 (C.nx j d : Nat)) ++ (if j < i + 1 then [Value.int .i64 (C.nx j c : Nat)] else [])) (fun j hj => by
                                  by_cases e : j = i
                                  · subst e
                                    rw [if_pos rfl, if_neg (Nat.lt_irrefl j), if_pos (Nat.lt_succ_self j), List.append_nil, HX.out]
                                  · rw [if_neg e]
                                    by_cases e2 : j < i
                                    · rw [if_pos e2, if_pos (by omega)]
                                    · rw [if_neg e2, if_neg (by omega)])
                                have HEnd := hidd (And.intro hend2 (And.intro hcb9 hvo3))
                                simp only [List.foldl_cons, List.foldl_nil, List.setIfInBounds_toArray, List.set_cons_succ, List.set_cons_zero]
                                clear hend hend2 hcb9 hvo3 hall hxs hJ hR hA hg hSd hcd hrow5 hg1l hlo hws hnlo hg1b hcnx hfnx hnbl hc256 e256 how hown hoab honb hol hog1 hocb hcbnb hg1nb hvl hrfl hS5 hb5 hg5 hg1
                                go_wp2_with fail
                                exact ⟨⟨i + 1, by simp, by omega, _, HEnd.out⟩, by simp [intOf]; omega⟩
                            · have hie : l = i := by omega
                              subst hie
                              have ki : decide ((l : Int) < (l : Int)) = false := decide_eq_false (by omega)
                              have HS5 : Hid (ClSt rs w4 wr ab nb l (.slice (some ⟨eb2, eo2, none⟩) l ec2) (fun j => if j < c + 1 then (numb (colA C) 256 j : Nat) else 0) vs2 (fun i => (fsts (colA C) (c + 1)).map fun d => Value.int .i64 (C.nx i d : Nat))) := HS.out.congr (fun j hj => rfl) fun j hj => by
                                rw [if_pos hj, fsts_fresh (colA C) HNo.out, List.map_append]; rfl
                              go_wp2_with fail
                              exact ⟨⟨c + 1, m + 1, by simp, by omega, by simp, by omega, vs2, HM3.out, HS5.out⟩, by simp [intOf]; omega⟩
                    · obtain rfl : c = 256 := by omega
                      have kc : decide ((256 : Int) < 256) = false := rfl
                      have hS6 := hS.congr (cls' := fun j => (numb (colA C) 256 j : Nat)) (fun j hj => by rw [if_pos hj]) (fun i hi => rfl)
                      have hcn := HCn.out
                      have hv := cl_value (C := C) (nb := nb) (ea := some ⟨eb2, eo2, none⟩) (ec := ec2)
                      have HA1 := hidd hS6.arr
                      have hrsl : wr.heap[rs]? = some (.cells zAut 30 (0, 0)) := by rw [hS6.below.block rs (by omega)]; exact HT5.out
                      have HT6 : Hid (ArrAt wr rs 0 258 fun j => zAut.getD j undef) := fun j hj => by
                        rw [Nat.zero_add]
                        refine ⟨?_, by unfold World.frozen?; dsimp only; rw [hrsl]; simp⟩
                        unfold World.cell?
                        dsimp only
                        rw [hrsl]
                        show zAut[j]? = _
                        rw [Array.getD_eq_getD_getElem?, Array.getElem?_eq_getElem (by show j < (aCells (.slice none 0 0)).size; rw [aCells_size]; exact hj)]; rfl
                      have HOne : Hid (∀ j, j < 258 → (clF (fun j => ((numb (colA C) 256 j : Nat) : Int)) nb l (.slice (some ⟨eb2, eo2, none⟩) l ec2) j).oneCell' = true) := fun j _ => by
                        unfold clF; split
                        · rfl
                        · split <;> rfl
                      have HNx : Hid (NxAt wr w4.heap.size nb C.n vs fun i => (fsts (colA C) 256).map fun d => Value.int .i64 (C.nx i d : Nat)) := by
                        rw [hcn]; exact hS6.nx
                      have HRsl : Hid (rs < w4.heap.size) := by have := hS6.lo; show rs < w4.heap.size; omega
                      have HEnds : Hid (SlAt wr (some ⟨eb2, eo2, none⟩) C.n fun i => .bool (C.en i)) := Or.inr ⟨eb2, eo2, rfl, fun i hi => by
                        rw [hcn] at hi
                        rw [World.cell?_of_block (a := ⟨eb2, eo2 + i, none⟩) (hS6.keep eb2 HEl.out HCl.out.2)]; exact HEs.out i hi⟩
                      rw [hcn] at hv
                      have HBl := hidd (And.intro hS6.below hS6.keep)
                      have HV := hidd hv
                      clear hS hS6 KS hm HM hrsl
                      go_wp2_with (first | (refine wpList_load_autF rfl rfl rfl HA1.out HV.out ?_) | (refine wpList_store_autF rfl rfl rfl rfl HT6.out HV.out HOne.out ?_; intro w7 hA7 hb7 ho7))
                      have hrs7 := HRsl.out
                      have hl7 : 0 < C.n := by rw [HCn.out]; exact HPo.out
                      have HNew : AutNew w.heap.size w7 (autOf C) (some ⟨nb, 0, none⟩) (some ⟨eb2, eo2, none⟩) := fun w8 h8 k8 => by
                        rw [HRs.out] at k8
                        have hN7 := HNx.out.above (w' := w8) hl7 (Nat.le_trans hb7.size h8) fun k hk hk2 => (k8 k (by omega) (Nat.lt_of_lt_of_le hk2 hb7.size)).trans (ho7 k (by omega))
                        refine autAt_of HLe.out.2 (by rw [HCn.out]; omega) hN7.rows (Or.inr ⟨eb2, eo2, rfl, fun i hi => ?_⟩)
                        have hew := HEl.out
                        have heb := HEb.out
                        have hws := HBl.out.1.size
                        have h7s := hb7.size
                        rw [World.cell?_of_block (a := ⟨eb2, eo2 + i, none⟩) (k8 eb2 (by omega) (by omega)), World.cell?_of_block (a := ⟨eb2, eo2 + i, none⟩) (ho7 eb2 (by omega)), World.cell?_of_block (a := ⟨eb2, eo2 + i, none⟩) (HBl.out.2 eb2 HEl.out HCl.out.2)]
                        exact HEs.out i (by rw [← HCn.out]; exact hi)
                      exact bodyPost_ret (results_aut (p := 2) rfl rfl hA7 HV.out) rfl ⟨autOf C, some ⟨nb, 0, none⟩, l, some ⟨eb2, eo2, none⟩, ec2, rfl, HLe.out.1, HNew, (HG4.out.below HBl.out.1 (by rw [HRs.out]; omega)).below hb7 (by rw [HRs.out]; exact Nat.le_refl _)⟩
            · have keq : ((M : Int) == (m : Int)) = false := by simp; omega
              have HMn : Hid (rs + 1 ≤ mb + 1) := by
                have h2 := lt_of_block HT2.out
                have := HBl.out.size
                rw [HMb.out] at this
                show rs + 1 ≤ mb + 1
                omega
              have hnm : n - M < n - m := by omega
              clear HDn hmc HMc HCo
              go_wp2_with (refine wpList_len_eq hlen rfl rfl rfl rfl ?_)
              exact ⟨⟨M, mb + 1, rfl, hM1, rfl, g2, HBn.out, HMn.out, HN.out, HG9.out, HCn.out, Or.inr HCt.out.symm⟩, by simp [intOf]; omega⟩
end Go.Proofs.YtkkdpafkafjfgaaDoor
