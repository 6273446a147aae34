/- How many texts an automaton takes: the program's Count. -/
import Derived.Test.YtkkdpafkafjfgaaDoorShPAuC
import Derived.Test.YtkkdpafkafjfgaaDoorShPAuR
namespace Go.Proofs.YtkkdpafkafjfgaaDoor
open Go.RowKit
set_option linter.unusedVariables false
theorem info_i64 : (Tryd.prog.info? 3).map (fun i => (i.zero, i.size, i.bytes)) = some (some (.int .i64 0), 1, 8) := by kernel_rfl
theorem make_ints (n : Nat) (hn : n ≤ 8192) (w : World) : ∃ w', (Instr.makeSlice 37 (.int .i64 (n : Int)) (.int .i64 (n : Int))).run Tryd.prog w = .ok (.slice (some ⟨w.heap.size, 0, none⟩) n n) w' ∧ ArrAt w' w.heap.size 0 n (fun _ => .int .i64 0) ∧ Grew w w' := by
  obtain ⟨i0, hi, hz0, hz1, hz2⟩ := info_parts info_i64
  exact make_row 37 3 i0 (.int .i64 0) Tryd.underlying37 hi hz0 hz1 rfl n (by rw [hz2]; omega) (by unfold maxLen; omega) w
def NumsAt (w : World) (b : Nat) (l : List Nat) : Prop := ArrAt w b 0 l.length fun j => .int .i64 (l.getD j 0 : Nat)
theorem NumsAt.kept {w w' : World} {b : Nat} {l : List Nat} (h : NumsAt w b l) (g : Grew w w') : NumsAt w' b l := ArrAt.kept h g
theorem NumsAt.set {w : World} {b : Nat} {l : List Nat} (h : NumsAt w b l) (i : Nat) (hi : i < l.length) (x : Nat) : NumsAt (w.setCell ⟨b, i, none⟩ (.int .i64 x)) b (l.set i x) := by
  unfold NumsAt
  rw [List.length_set]
  refine (ArrAt.set0 h i hi _).congr fun j hj => ?_
  by_cases e : j = i
  · subst e; rw [if_pos rfl, List.getD_eq_getElem?_getD, List.getElem?_set_self hi]; rfl
  · rw [if_neg e, List.getD_eq_getElem?_getD, List.getD_eq_getElem?_getD, List.getElem?_set_ne (fun h => e h.symm)]
def cntV (A : Aut) (n : Int) : Value := if wrongA A = 0 then if n < 0 ∨ 7 < n then .tuple #[.int .i64 0, .int .i64 3] else .tuple #[.int .i64 (cntA (raA A) n.toNat 0), .int .i64 0] else .tuple #[.int .i64 0, .int .i64 (wrongA A)]
set_option maxRecDepth 100000 in
set_option maxHeartbeats 4000000 in
theorem Count_any (A : Aut) (na ea : Option Addr) (nc ec : Nat) (n : Int) (w : World) (h : AutAt w A na ea) (hn : bdI n) : Calls Tryd.prog 19 #[.agg (autB A na nc ea ec), .int .i64 n] w fun e w' => e = .returned (cntV A n) ∧ Grew w w' := by
  have hB := box_new w A na nc ea ec 30
  have hG := (Grew.refl w).alloc (.cells (autB A na nc ea ec) 30)
  have HWr := hidd (AWrong_any A na ea nc ec _ (h.kept hG))
  have HSz := hidd (autB_size A na nc ea ec)
  have HH := hidd (heap_alloc_new w (.cells (autB A na nc ea ec) 30))
  have a1 := autB_next A na nc ea ec
  have a2 := autB_ends A na nc ea ec
  generalize autB A na nc ea ec = av at hB hG a1 a2 HWr HSz HH ⊢
  have HB := hidd hB
  have HG := hidd hG
  have HA := hidd h
  clear hB hG h
  by_cases h0 : wrongA A = 0
  · rw [h0] at HWr
    have HR := hidd (wrongA_zero.1 h0)
    by_cases hb : n < 0 ∨ 7 < n
    · have HV : Hid (cntV A n = .tuple #[.int .i64 0, .int .i64 3]) := by unfold cntV; rw [if_pos h0, if_pos hb]; rfl
      have hs : (decide (n < 0) = true) ∨ (decide (n < 0) = false ∧ decide ((7 : Int) < n) = true) := by
        simp only [decide_eq_true_eq, decide_eq_false_iff_not]; omega
      clear h0 hb
      rcases hs with k1 | ⟨k1, k2⟩
      all_goals
        go_enter Tryd.func19, Tryd.ntmps19
        go_wp2_with (refine wpList_load_aut rfl rfl rfl HH.out HSz.out ?_)
        refine HWr.out.mono ?_; rintro e w1 ⟨rfl, g1⟩
        go_wp2_with fail
        exact bodyPost_ret (results_tmp2 rfl _ _ _) rfl ⟨by rw [HV.out]; rfl, HG.out.trans g1⟩
    · have HV : Hid (cntV A n = .tuple #[.int .i64 (cntA (raA A) n.toNat 0), .int .i64 0]) := by unfold cntV; rw [if_pos h0, if_neg hb]; rfl
      have k1 : decide (n < 0) = false := decide_eq_false (by omega)
      have k2 : decide ((7 : Int) < n) = false := decide_eq_false (by omega)
      obtain ⟨N, rfl⟩ : ∃ N : Nat, n = (N : Int) := ⟨n.toNat, by omega⟩
      rw [Int.toNat_natCast] at HV
      have hN7 : N ≤ 7 := by omega
      obtain ⟨m, hm⟩ : ∃ m, A.next.length = m := ⟨_, rfl⟩
      have HM := hidd hm
      have h9 : m ≤ 8192 := by have := HR.out.n1; omega
      have hp : 0 < m := by have := HR.out.n0; omega
      clear h0 hb
      go_enter Tryd.func19, Tryd.ntmps19
      go_wp2_with (refine wpList_load_aut rfl rfl rfl HH.out HSz.out ?_)
      refine HWr.out.mono ?_; rintro e w1 ⟨rfl, g1⟩
      have HL1 : Hid (Held w1 w.heap.size A na nc ea ec) := ⟨HB.out.kept g1, HA.out.kept (HG.out.trans g1)⟩
      have HG1 := hidd (HG.out.trans g1)
      have cx := HL1.out.box.nx
      rw [hm] at cx a1
      clear HB HG HA g1 HWr HH HSz hm
      obtain ⟨w2, hmk, hA2, hg2⟩ := make_ints m h9 w1
      have cf0 := hA2.free0 0 hp
      have cr0 := hA2.at0 0 hp
      have HI : Hid (NumsAt (w2.setCell ⟨w1.heap.size, 0, none⟩ (.int .i64 1)) w1.heap.size (fwd (raA A) 0)) := by
        have h1 : NumsAt w2 w1.heap.size (List.replicate m 0) := by
          unfold NumsAt; rw [List.length_replicate]
          exact hA2.congr fun j hj => by rw [List.getD_eq_getElem?_getD, List.getElem?_replicate, if_pos hj]; rfl
        have h2 := h1.set 0 (by rw [List.length_replicate]; exact hp) 1
        rw [show fwd (raA A) 0 = (List.replicate m 0).set 0 1 from by rw [fwd]; show (List.replicate A.next.length 0).set 0 1 = _; rw [HM.out]]
        exact h2
      have HG3 : Hid (Grew w1 (w2.setCell ⟨w1.heap.size, 0, none⟩ (.int .i64 1))) := hg2.setCell (p := ⟨w1.heap.size, 0, none⟩) (Nat.le_refl _) _
      clear hA2 hg2 a1 a2
      go_wp2_with fail
      generalize w2.setCell ⟨w1.heap.size, 0, none⟩ (.int .i64 1) = W2 at HI HG3 ⊢
      clear hmk cf0 cr0 cx
      have hok := HR.out.ok HL1.out.rows.c256
      have HOk := hidd hok
      have HRn : Hid ((raA A).n = m) := HM.out
      clear hok
      go_loopw [7, 33] (fun s7 s33 wr => ∃ k wb : Nat, s33 = .int .i64 k ∧ k ≤ N ∧ s7 = .slice (some ⟨wb, 0, none⟩) m m ∧ Hid (Grew w1 wr ∧ NumsAt wr wb (fwd (raA A) k))) (fun _ s33 _ => N - (intOf s33).toNat)
      case atStart => exact ⟨0, w1.heap.size, rfl, by omega, rfl, HG3.out, HI.out⟩
      case round =>
        obtain ⟨k, wb, rfl, hk, rfl, KG⟩ := hrel
        clear HI HG3
        by_cases hlt : k < N
        · have kl : decide ((k : Int) < (N : Int)) = true := decide_eq_true (by omega)
          obtain ⟨w3, hmk, hA3, hg3⟩ := make_ints m h9 wr
          have HI0 : Hid (Grew wr w3 ∧ NumsAt w3 wr.heap.size (pushTo (raA A) (fwd (raA A) k) 0)) := by
            refine ⟨hg3, ?_⟩
            rw [pushTo, HRn.out]
            unfold NumsAt; rw [List.length_replicate]
            exact hA3.congr fun j hj => by rw [List.getD_eq_getElem?_getD, List.getElem?_replicate, if_pos hj]; rfl
          clear hA3 hg3
          go_wp2_with fail
          clear hmk
          obtain ⟨w0, rfl⟩ : ∃ w0, w0 = wr := ⟨_, rfl⟩
          obtain ⟨nb, hnb⟩ : ∃ nb, w0.heap.size = nb := ⟨_, rfl⟩
          rw [hnb] at HI0 ⊢
          have HNb := hidd hnb
          have HHd := hidd (HL1.out.kept KG.out.1)
          clear hnb
          have HPl := hidd (fun i (hi : i < m) c (hc : c ≤ 256) j => part_le HOk.out k (i := i) (m := c) (by rw [HRn.out]; exact hi) hc j)
          have HFl : Hid ((fwd (raA A) k).length = m) := by rw [fwd_length, HRn.out]; rfl
          have HFs : Hid (fwd (raA A) (k + 1) = pushTo (raA A) (fwd (raA A) k) m) := by rw [fwd, HRn.out]; rfl
          have HVs := hidd KG.out.2
          generalize fwd (raA A) k = v at HI0 HPl HFl HFs HVs ⊢
          have hpw : 2 * 256 ^ (k + 1) ≤ 2 * 256 ^ 7 := Nat.mul_le_mul_left _ (Nat.pow_le_pow_right (by omega) (by omega))
          have HPw : Hid (2 * 256 ^ (k + 1) ≤ 144115188075855872) := hpw
          clear hpw
          go_loopw [40] (fun s40 wr => ∃ i : Nat, s40 = .int .i64 i ∧ i ≤ m ∧ Hid (Grew w0 wr ∧ NumsAt wr nb (pushTo (raA A) v i))) (fun s40 _ => m - (intOf s40).toNat)
          case atStart => exact ⟨0, rfl, by omega, HI0.out⟩
          case round =>
            obtain ⟨i, rfl, hi, LG⟩ := hrel
            clear HI0
            by_cases hil : i < m
            · have ki : decide ((i : Int) < (m : Int)) = true := decide_eq_true (by omega)
              have cv := LG.out.1.keeps (HVs.out.at0 i (by rw [HFl.out]; exact hil))
              have HPi := hidd (HPl.out i hil)
              obtain ⟨L2, hL2⟩ : ∃ L2, pushTo (raA A) v (i + 1) = L2 := ⟨_, rfl⟩
              have HL2 := hidd hL2
              have HPs : Hid (L2 = if 0 < v.getD i 0 then addS (raA A) (v.getD i 0) i (pushTo (raA A) v i) 256 else pushTo (raA A) v i) := hL2.symm
              have hpl := pushTo_length (raA A) v i
              rw [HRn.out] at hpl
              have HLn := hidd hpl
              clear hpl
              generalize v.getD i 0 = x at cv HPi HPs
              generalize pushTo (raA A) v i = L at LG HPi HPs HLn
              clear hL2
              by_cases hx : 0 < x
              · have kx : decide ((0 : Int) < (x : Int)) = true := decide_eq_true (by omega)
                have HP2 : Hid (L2 = addS (raA A) x i L 256) := by rw [HPs.out, if_pos hx]; rfl
                have HJ0 : Hid (Grew w0 wr ∧ NumsAt wr nb (addS (raA A) x i L 0)) := LG.out
                clear HPs LG
                go_wp2_with fail
                go_loopw [47] (fun s47 wr => ∃ c : Nat, s47 = .int .i64 c ∧ c ≤ 256 ∧ Hid (Grew w0 wr ∧ NumsAt wr nb (addS (raA A) x i L c))) (fun s47 _ => 256 - (intOf s47).toNat)
                case atStart => exact ⟨0, rfl, by omega, HJ0.out⟩
                case round =>
                  obtain ⟨c, rfl, hc, MG⟩ := hrel
                  clear HJ0
                  by_cases hcl : c < 256
                  · have kc : decide ((c : Int) < 256) = true := decide_eq_true (by omega)
                    have HSt := hidd (Step_any A na ea nc ec w.heap.size i c wr (HHd.out.kept MG.out.1) HR.out (by rw [HM.out]; exact hil) hcl)
                    have HTl : Hid (stepA A i c < m) := by rw [← HM.out]; exact (HR.out.ok HL1.out.rows.c256).nx i c (by show i < A.next.length; rw [HM.out]; exact hil) hcl
                    have HAc : Hid (addS (raA A) x i L (c + 1) = (addS (raA A) x i L c).set (stepA A i c) ((addS (raA A) x i L c).getD (stepA A i c) 0 + x)) := rfl
                    have HPc := hidd (HPi.out c hc (stepA A i c))
                    have HLc : Hid ((addS (raA A) x i L c).length = m) := by rw [addS_length]; exact HLn.out
                    generalize stepA A i c = t at HSt HTl HAc HPc
                    obtain ⟨L3, hL3⟩ : ∃ L3, addS (raA A) x i L c = L3 := ⟨_, rfl⟩
                    rw [hL3] at HAc HPc MG HLc
                    clear hL3
                    have hcw : (c : Int) % 256 = (c : Int) := by omega
                    go_wp2_with fail
                    refine HSt.out.mono ?_; rintro e wz ⟨rfl, gz⟩
                    have hN2 := MG.out.2.kept gz
                    have cz := hN2.at0 t (by rw [HLc.out]; exact HTl.out)
                    have cf := hN2.free0 t (by rw [HLc.out]; exact HTl.out)
                    have HN2 := hidd hN2
                    have htl := HTl.out
                    have HGz := hidd (MG.out.1.trans gz)
                    have hyx := Nat.le_trans HPc.out HPw.out
                    obtain ⟨y, hy⟩ : ∃ y, L3.getD t 0 = y := ⟨_, rfl⟩
                    rw [hy] at HAc cz hyx
                    clear hN2 hy HPc HSt
                    go_wp2_with fail
                    have hst := HN2.out.set t (by rw [HLc.out]; exact HTl.out) (y + x)
                    rw [Int.natCast_add] at hst
                    exact ⟨⟨c + 1, by simp, by omega, HGz.out.setCell (p := ⟨nb, t, none⟩) (Nat.le_of_eq HNb.out) _, by rw [HAc.out]; exact hst⟩, by simp [intOf]; omega⟩
                  · obtain rfl : c = 256 := by omega
                    have kc : decide ((256 : Int) < 256) = false := rfl
                    go_wp2_with fail
                    exact ⟨⟨i + 1, by simp, by omega, MG.out.1, by rw [HL2.out, HP2.out]; exact MG.out.2⟩, by simp [intOf]; omega⟩
              · have kx : decide ((0 : Int) < (x : Int)) = false := decide_eq_false (by omega)
                have HP2 : Hid (L2 = L) := by rw [HPs.out, if_neg hx]; rfl
                clear HPs
                go_wp2_with fail
                exact ⟨⟨i + 1, by simp, by omega, LG.out.1, by rw [HL2.out, HP2.out]; exact LG.out.2⟩, by simp [intOf]; omega⟩
            · obtain rfl : i = m := by omega
              have ki : decide ((i : Int) < (i : Int)) = false := decide_eq_false (by omega)
              go_wp2_with fail
              exact ⟨⟨k + 1, nb, by simp, by omega, rfl, KG.out.1.trans LG.out.1, by rw [HFs.out]; exact LG.out.2⟩, by simp [intOf]; omega⟩
        · obtain rfl : k = N := by omega
          have kl : decide ((k : Int) < (k : Int)) = false := decide_eq_false (by omega)
          have HFl : Hid ((fwd (raA A) k).length = m) := by rw [fwd_length, HRn.out]; rfl
          have HFd : Hid (dot (fwd (raA A) k) (cntA (raA A) 0) = cntA (raA A) k 0) := by have := dot_fwd HOk.out k 0; rw [Nat.zero_add] at this; exact this
          have hcl : cntA (raA A) k 0 ≤ 256 ^ 7 := Nat.le_trans (cntA_le k 0) (Nat.pow_le_pow_right (by omega) hN7)
          have HCl : Hid (cntA (raA A) k 0 ≤ 72057594037927936) := hcl
          have HVs := hidd KG.out.2
          have HG2 := hidd KG.out.1
          clear hcl KG
          generalize fwd (raA A) k = v at HFl HFd HVs
          go_wp2_with fail
          obtain ⟨w0, rfl⟩ : ∃ w0, w0 = wr := ⟨_, rfl⟩
          go_loopw [12, 66] (fun s12 s66 wr => ∃ i : Nat, s66 = .int .i64 i ∧ i ≤ m ∧ s12 = .int .i64 (dot (v.take i) (cntA (raA A) 0) : Nat) ∧ Hid (Grew w0 wr)) (fun _ s66 _ => m - (intOf s66).toNat)
          case atStart => exact ⟨0, rfl, by omega, by rw [List.take_zero]; rfl, Grew.refl _⟩
          case round =>
            obtain ⟨i, rfl, hi, rfl, LG⟩ := hrel
            by_cases hil : i < m
            · have ki : decide ((i : Int) < (m : Int)) = true := decide_eq_true (by omega)
              have cv := LG.out.keeps (HVs.out.at0 i (by rw [HFl.out]; exact hil))
              have hh := HL1.out.kept (HG2.out.trans LG.out)
              have ce := hh.box.en
              obtain ⟨eb, eo, rfl, he⟩ := hh.rows.ends.get (by rw [HR.out.ne, HM.out]; omega)
              have c0 := he i (by rw [HR.out.ne, HM.out]; exact hil)
              rw [HR.out.ne, HM.out] at ce
              have HD : Hid (dot (v.take (i + 1)) (cntA (raA A) 0) = dot (v.take i) (cntA (raA A) 0) + v.getD i 0 * (if A.ends.getD i false = true then 1 else 0)) := dot_take (by rw [HFl.out]; exact hil) _
              have hle : dot (v.take (i + 1)) (cntA (raA A) 0) ≤ 72057594037927936 := Nat.le_trans (dot_take_le v (i + 1) _) (by rw [HFd.out]; exact HCl.out)
              generalize v.getD i 0 = x at cv HD
              generalize dot (v.take i) (cntA (raA A) 0) = S at HD ⊢
              rw [HD.out] at hle
              clear hh he
              cases hb : A.ends.getD i false with
              | true =>
                rw [hb] at c0 HD hle
                rw [if_pos rfl, Nat.mul_one] at HD hle
                clear hb
                go_wp2_with fail
                exact ⟨⟨i + 1, by simp, by omega, by rw [HD.out]; simp, LG.out⟩, by simp [intOf]; omega⟩
              | false =>
                rw [hb] at c0 HD hle
                rw [if_neg (by simp), Nat.mul_zero, Nat.add_zero] at HD hle
                clear hb
                go_wp2_with fail
                exact ⟨⟨i + 1, by simp, by omega, by rw [HD.out]; rfl, LG.out⟩, by simp [intOf]; omega⟩
            · obtain rfl : i = m := by omega
              have ki : decide ((i : Int) < (i : Int)) = false := decide_eq_false (by omega)
              have HX : Hid (dot (v.take i) (cntA (raA A) 0) = cntA (raA A) k 0) := by rw [← HFd.out, ← HFl.out, List.take_length]; rfl
              go_wp2_with fail
              exact bodyPost_ret (results_tmp2 rfl _ _ _) rfl ⟨by rw [HV.out, HX.out]; rfl, HG1.out.trans (HG2.out.trans LG.out)⟩
  · have HV : Hid (cntV A n = .tuple #[.int .i64 0, .int .i64 (wrongA A)]) := by unfold cntV; rw [if_neg h0]; rfl
    obtain ⟨W, hW⟩ : ∃ W, wrongA A = W := ⟨_, rfl⟩
    rw [hW] at h0 HWr HV
    have k1 : (W != 0) = true := by simpa using h0
    clear hW h0
    go_enter Tryd.func19, Tryd.ntmps19
    go_wp2_with (refine wpList_load_aut rfl rfl rfl HH.out HSz.out ?_)
    refine HWr.out.mono ?_; rintro e w1 ⟨rfl, g1⟩
    go_wp2_with fail
    exact bodyPost_ret (results_tmp2 rfl _ _ _) rfl ⟨by rw [HV.out]; rfl, HG.out.trans g1⟩
end Go.Proofs.YtkkdpafkafjfgaaDoor
