/- AutoShort: the walk. Conditions: the automaton lies in memory; the number's own bound; the library's table of zeros. -/
import Derived.Test.YtkkdpafkafjfgaaDoorShLwA
import Derived.Test.YtkkdpafkafjfgaaDoorShAuJ
import Derived.Test.YtkkdpafkafjfgaaDoorShPAuT
namespace Go.Proofs.YtkkdpafkafjfgaaDoor
open Go.RowKit RR
set_option linter.unusedVariables false
set_option linter.unusedSimpArgs false
set_option maxRecDepth 100000
theorem addTo_short {nx : Nat → Nat} {t : List UInt8} {L : List (Nat × List UInt8)} {c i : Nat} (h : ∀ (k : Nat) (x : Nat × List UInt8), L[k]? = some x → x.2.length ≤ k) (ht : t.length ≤ i) (hi : i < L.length) : ∀ (k : Nat) (x : Nat × List UInt8), (addTo nx t L c)[k]? = some x → x.2.length ≤ k := by
  intro k x hk
  unfold addTo at hk
  split at hk
  · exact h k x hk
  · rcases Nat.lt_or_ge k L.length with hl | hl
    · rw [List.getElem?_append_left hl] at hk; exact h k x hk
    · rw [List.getElem?_append_right hl] at hk
      have : k - L.length = 0 := by
        rcases Nat.eq_zero_or_pos (k - L.length) with e | e
        · exact e
        · rw [List.getElem?_eq_none (by simp; omega)] at hk; cases hk
      rw [this] at hk
      cases hk
      simp; omega
theorem addUp_short {nx : Nat → Nat} {t : List UInt8} {L : List (Nat × List UInt8)} {i : Nat} (h : ∀ (k : Nat) (x : Nat × List UInt8), L[k]? = some x → x.2.length ≤ k) (ht : t.length ≤ i) (hi : i < L.length) : ∀ m, ∀ (k : Nat) (x : Nat × List UInt8), (addUp nx t L m)[k]? = some x → x.2.length ≤ k
  | 0 => h
  | m + 1 => by
    rw [addUp_succ]
    refine addTo_short (addUp_short h ht hi m) ht ?_
    obtain ⟨r, hr⟩ := addUp_pre nx t L m
    rw [hr, List.length_append]; omega
theorem bfs_short (A : RA) : ∀ i, ∀ (k : Nat) (x : Nat × List UInt8), (bfs A i)[k]? = some x → x.2.length ≤ k
  | 0 => fun k x h => by
    have e : bfs A 0 = [(0, [])] := rfl
    rw [e] at h
    have := List.mem_of_getElem? h
    rw [List.mem_singleton] at this; rw [this]; exact Nat.zero_le _
  | i + 1 => by
    cases e : (bfs A i)[i]? with
    | none => have e2 : bfs A (i + 1) = bfs A i := by rw [bfs, e]
              rw [e2]; exact bfs_short A i
    | some x =>
      obtain ⟨s, t⟩ := x
      rw [bfs_succ e]
      exact addUp_short (bfs_short A i) (bfs_short A i i _ e) (List.getElem?_eq_some_iff.1 e).1 256
theorem short_len {A : RA} (ok : A.Ok) {t : List UInt8} (h : Short A (some t)) : t.length ≤ A.n := by
  cases h with
  | found i s t h hi he =>
    have h1 := bfs_short A i i _ hi
    have h2 := (bfs_ok ok i).le
    have h3 := (List.getElem?_eq_some_iff.1 hi).1
    dsimp only at h1; omega
theorem oper_load_aut {o : Oper} {a : Act} {w : World} {K : Act → World → Prop} {Q : Exit → Act → World → Prop} {x : Operand} (ho : o.op = .load 30 x) {b : Nat} {av : Array Value} (hx : a.eval x = .pointer (some ⟨b, 0, none⟩)) (hA : w.heap[b]? = some (.cells av 30 (0, 0))) (hs : av.size = 258)
    (h : K (a.put o.dst (.agg av)) w) : Oper.wp Tryd.prog o a w K Q := by
  have hl := run_loadVar_row (P := Tryd.prog) w b 30 30 av (0, 0) _ hA Tryd.underlying30 rfl (by rw [hs]; exact info_aut)
  unfold Oper.wp execOp
  simp only [ho, hx, Instr.loadAt, Instr.sureAddr, Sem.run_bind, Sem.run_pure, Result.andThen_ok, hl]
  exact h
set_option maxHeartbeats 4000000 in
theorem AutoShort_walk (A : Aut) (na ea : Option Addr) (nc ec : Nat) (n : Int) (w : World) (h : AutAt w A na ea) (hn : bdI n) (hT : TabZ32 w) :
    Calls Tryd.prog 6 #[.agg (autB A na nc ea ec), .int .i64 n] w fun e w' => e = .returned (.bool true) ∧ Grew w w' := by
  have HA := hidd h
  have HBd := hidd hn
  have hz := zero_aut
  have HAl : Hid (∀ w1, Grew w w1 → Calls Tryd.prog 13 #[] w1 fun e w' => e = .returned (.bool true) ∧ Grew w1 w') := fun w1 g => Alive_any w1 (hT.kept g)
  have HSz := hidd (autB_size A na nc ea ec)
  have HH := hidd (heap_alloc_new w (.cells (autB A na nc ea ec) 30))
  have HG := hidd ((Grew.refl w).alloc (.cells (autB A na nc ea ec) 30))
  have HW : Hid (∀ w1, Grew w w1 → Calls Tryd.prog 14 #[.agg (autB A na nc ea ec)] w1 _) := fun w1 g => AWrong_any A na ea nc ec w1 (h.kept g)
  have HN : Hid (∀ w1, Grew w w1 → Calls Tryd.prog 16 #[.agg (autB A na nc ea ec)] w1 _) := fun w1 g => ANot_any A na ea nc ec w1 (h.kept g)
  have HC : Hid (∀ w1, Grew w w1 → Calls Tryd.prog 19 #[.agg (autB A na nc ea ec), .int .i64 n] w1 _) := fun w1 g => Count_any A na ea nc ec n w1 (h.kept g) hn
  have HS : Hid (∀ w1, Grew w w1 → Calls Tryd.prog 20 #[.agg (autB A na nc ea ec)] w1 _) := fun w1 g => Shortest_any A na ea nc ec w1 (h.kept g)
  have HAc : Hid (∀ w1 t, Grew w w1 → t.size ≤ maxLen → Calls Tryd.prog 21 #[.agg (autB A na nc ea ec), .string t] w1 _) := fun w1 t g ht => Accepts_any A na ea nc ec t w1 (h.kept g) ht
  have HNx := hidd (len_next A na nc ea ec)
  have HCl := hidd h.c256
  generalize autB A na nc ea ec = av at HSz HH HG HW HN HC HS HAc HNx ⊢
  obtain ⟨bb, hbb⟩ : ∃ bb, w.heap.size = bb := ⟨_, rfl⟩
  obtain ⟨W, hW⟩ : ∃ W, w.alloc (.cells av 30) = W := ⟨_, rfl⟩
  rw [hW] at HH HG
  rw [hbb] at HH
  clear h hn hT
  go_enter Tryd.func6, Tryd.ntmps6
  go_wp2_with (rw [hW])
  refine (HAl.out _ HG.out).mono ?_; rintro e w1 ⟨rfl, g1⟩
  have HH1 := hidd (heap_kept g1 HH.out)
  have HG1 := hidd (HG.out.trans g1)
  have c1 : w1.cell? ⟨bb, 256, none⟩ = some (.slice na A.next.length nc) := by rw [cell_of HH1.out]; exact HNx.out
  clear g1 HH HG hW hbb HAl
  by_cases hn0 : n < 0
  · have k1 : decide (n < 0) = true := decide_eq_true hn0
    go_wp2_with fail
    go_ret
    exact ⟨rfl, HG1.out⟩
  have k1 : decide (n < 0) = false := decide_eq_false hn0
  by_cases hn7 : 7 < n
  · have k2 : decide (7 < n) = true := decide_eq_true hn7
    go_wp2_with fail
    go_ret
    exact ⟨rfl, HG1.out⟩
  have k2 : decide (7 < n) = false := decide_eq_false hn7
  by_cases hw0 : wrongA A = 0
  · have HRt := hidd (wrongA_zero.1 hw0)
    have HOk := hidd (HRt.out.ok HCl.out)
    rw [hw0] at HW HN
    obtain ⟨N, rfl⟩ : ∃ N : Nat, n = N := ⟨n.toNat, by omega⟩
    have hN7 : N ≤ 7 := by omega
    go_wp2_with fail
    refine oper_load_aut (b := bb) rfl rfl HH1.out HSz.out ?_
    go_wp2_with fail
    refine (HW.out _ HG1.out).mono ?_; rintro e w2 ⟨rfl, g2⟩
    have HH2 := hidd (heap_kept g2 HH1.out)
    have HG2 := hidd (HG1.out.trans g2)
    have c2 : w2.cell? ⟨bb, 256, none⟩ = some (.slice na A.next.length nc) := by rw [cell_of HH2.out]; exact HNx.out
    obtain ⟨L, hL⟩ : ∃ L, A.next.length = L := ⟨_, rfl⟩
    rw [hL] at c2
    have HL := hidd hL
    clear g2 HH1 HG1 c1 HW hL
    by_cases hL1 : 1000 < L
    · have k3 : decide ((1000 : Int) < (L : Int)) = true := decide_eq_true (by omega)
      go_wp2_with fail
      go_ret
      exact ⟨rfl, HG2.out⟩
    have k3 : decide ((1000 : Int) < (L : Int)) = false := decide_eq_false (by omega)
    go_wp2_with (refine wpList_load_aut (b := bb) rfl rfl rfl HH2.out HSz.out ?_)
    refine (HN.out _ HG2.out).mono ?_; rintro e w3 h3
    obtain ⟨B, nb, nbc, eb, ebc, rfl, hNw, g3, hI⟩ := h3.is
    obtain ⟨b5, hb5⟩ : ∃ b5, w3.heap.size = b5 := ⟨_, rfl⟩
    have HBz := hidd (And.intro (autB_size B nb nbc eb ebc) (autB_one B nb nbc eb ebc))
    have hz0 : (w3.alloc (.cells zAut 30)).heap[b5]? = some (.cells zAut 30 (0, 0)) := by rw [← hb5]; exact heap_alloc_new w3 _
    have ga := (Grew.refl w3).alloc (.cells zAut 30)
    obtain ⟨bv, hbv⟩ : ∃ bv, autB B nb nbc eb ebc = bv := ⟨_, rfl⟩
    obtain ⟨W4, hW4⟩ : ∃ W4, (w3.alloc (.cells zAut 30)).setRow b5 bv = W4 := ⟨_, rfl⟩
    have hb6 := setRow_heap _ b5 _ bv _ _ hz0
    have gw : Grew w3 W4 := by rw [← hW4]; exact setRow_grew ga (by omega) bv
    rw [hW4] at hb6
    have hAB := hNw.at.kept gw
    have HZ := hidd hz0
    have HX := hidd (And.intro hb6 (HG2.out.trans (g3.trans gw)))
    have HH4 := hidd (heap_kept (g3.trans gw) HH2.out)
    have HCB : Hid (∀ w1, Grew W4 w1 → Calls Tryd.prog 19 #[.agg bv, .int .i64 (N : Nat)] w1 _) := fun w1 g => by
      have := Count_any B nb eb nbc ebc (N : Nat) w1 (hAB.kept g) HBd.out
      rw [hbv] at this; exact this
    rw [hbv] at HBz ⊢
    -- what is counted
    obtain ⟨X, hX⟩ : ∃ X, cntA (raA A) N 0 = X := ⟨_, rfl⟩
    obtain ⟨Y, hY⟩ : ∃ Y, cntA (raA B) N 0 = Y := ⟨_, rfl⟩
    have eA : cntV A (N : Nat) = .tuple #[.int .i64 (X : Nat), .int .i64 0] := by
      unfold cntV; rw [if_pos hw0, if_neg (by omega), ← hX]; simp
    have eB : cntV B (N : Nat) = .tuple #[.int .i64 (Y : Nat), .int .i64 0] := by
      unfold cntV; rw [if_pos (wrongA_zero.2 hI.right), if_neg (by omega), ← hY]; simp
    rw [eA] at HC
    rw [eB] at HCB
    have HXY : Hid (X + Y = 256 ^ N) := by
      rw [Hid, ← hX, ← hY]
      refine cntA_not N 0 0 fun l => ?_
      rw [hI.lang]; simp
    have HXe := hidd hX
    clear h3 hNw g3 hI hz0 ga gw hb6 hAB hbv eA eB hX hY HN HH2 HG2 c2 k3
    go_wp2_with (first | (rw [hW4]) | (refine wpList_store_aut (b := b5) rfl rfl rfl rfl HZ.out zAut_size HBz.out.1 HBz.out.2 ?_) | (refine wpList_load_aut (b := bb) rfl rfl rfl HH4.out HSz.out ?_))
    refine (HC.out _ HX.out.2).mono ?_; rintro e w5 ⟨rfl, g5⟩
    have HH5 := hidd (heap_kept g5 HH4.out)
    have HB5 := hidd (heap_kept g5 HX.out.1)
    have HG5 := hidd (HX.out.2.trans g5)
    have HG45 := hidd g5
    clear g5 HH4
    go_wp2_with (refine wpList_load_aut (b := b5) rfl rfl rfl HB5.out HBz.out.1 ?_)
    refine (HCB.out _ HG45.out).mono ?_; rintro e w6 ⟨rfl, g6⟩
    have HH6 := hidd (heap_kept g6 HH5.out)
    have HG6 := hidd (HG5.out.trans g6)
    clear g6 HH5 HB5 HG5 HG45 HCB HC hW4 hb5
    go_wp2_with fail
    go_loopw [11, 12] (fun s11 s12 wr => ∃ k v : Nat, s12 = .int .i64 (k : Nat) ∧ s11 = .int .i64 (v : Nat) ∧ k ≤ N ∧ v ≤ 72057594037927936 ∧ Hid (v = 256 ^ k ∧ wr = w6)) (fun _ s12 _ => N - (intOf s12).toNat)
    case atStart => exact ⟨0, 1, rfl, rfl, by omega, by omega, by decide, rfl⟩
    case round =>
      obtain ⟨k, v, rfl, rfl, hk, hv, HK⟩ := hrel
      obtain ⟨hve, rfl⟩ := HK.out
      by_cases hkN : k < N
      · have q1 : decide ((k : Int) < (N : Int)) = true := decide_eq_true (by omega)
        have hv2 : v ≤ 281474976710656 := by rw [hve]; exact Nat.pow_le_pow_right (n := 256) (by decide) (show k ≤ 6 by omega)
        have HN2 : Hid (v * 256 = 256 ^ (k + 1)) := by rw [Hid, hve, Nat.pow_succ]
        clear hve HK
        go_wp2_with fail
        exact ⟨⟨k + 1, v * 256, by simp, by simp, by omega, by omega, HN2.out, trivial⟩, by simp [intOf]; omega⟩
      · obtain rfl : k = N := by omega
        have q1 : decide ((k : Int) < (k : Int)) = false := decide_eq_false (by omega)
        have hxy : X + Y = v := by rw [HXY.out, hve]
        have q2 : (((X : Int) + (Y : Int)) != (v : Int)) = false := by
          have : (X : Int) + (Y : Int) = (v : Int) := by omega
          rw [this]; simp
        have hX9 : X ≤ 72057594037927936 := by omega
        have hY9 : Y ≤ 72057594037927936 := by omega
        clear hve HK HXY
        go_wp2_with (refine wpList_load_aut (b := bb) rfl rfl rfl HH6.out HSz.out ?_)
        refine (HS.out _ HG6.out).mono ?_; rintro e w7 ⟨⟨o, ho, rfl⟩, g7⟩
        have ho := ho hw0
        have HH7 := hidd (heap_kept g7 HH6.out)
        have HG7 := hidd (HG6.out.trans g7)
        cases o with
        | none =>
          have eS : shoV A none = .tuple #[.string ⟨#[]⟩, .int .i64 6] := by unfold shoV; rw [if_pos hw0]
          rw [eS]
          have hX0 : X = 0 := by rw [← HXe.out]; exact cntA_none _ 0 fun l _ => short_none HOk.out ho l
          clear ho g7 eS
          subst hX0
          go_wp2_with fail
          go_ret
          exact ⟨rfl, HG7.out⟩
        | some t =>
          obtain ⟨S, hS⟩ : ∃ S : ByteArray, ByteArray.mk t.toArray = S := ⟨_, rfl⟩
          have hSd : S.data.toList = t := by rw [← hS]
          obtain ⟨M, hM⟩ : ∃ M, S.size = M := ⟨_, rfl⟩
          have htM : t.length = M := by rw [← hM, ← hSd]; rfl
          have eS : shoV A (some t) = .tuple #[.string S, .int .i64 0] := by unfold shoV; rw [if_pos hw0, ← hS]
          rw [eS]
          obtain ⟨hT1, hT2⟩ := short_found HOk.out ho
          have hMl := short_len HOk.out ho
          have hM8 : M ≤ 8192 := by have := HRt.out.n1; have e : (raA A).n = A.next.length := rfl; omega
          have hlow : k < M → X = 0 := fun hlt => by rw [← HXe.out]; exact cntA_none _ 0 fun l hl => hT2 l (by omega)
          have hat : k = M → 0 < X := fun e => by
            rw [← HXe.out, e, ← htM]; exact cntA_some t 0 hT1
          have HAx := HAc.out w7 S HG7.out (by rw [hM]; unfold maxLen; omega)
          have eA : accV A S.data.toList = .tuple #[.bool true, .int .i64 0] := by unfold accV; rw [if_pos hw0, hSd, takes_tak, hT1]
          rw [eA] at HAx
          have HAy := hidd HAx
          clear ho g7 eS hT1 hT2 hMl HAx eA hSd htM hS
          rcases Nat.lt_trichotomy k M with hlt | heq | hgt
          · have hX0 := hlow hlt
            subst hX0
            have u1 : decide ((M : Int) ≤ (k : Int)) = false := decide_eq_false (by omega)
            have u2 : ((k : Int) != (M : Int)) = true := by simp; omega
            clear hlow hat
            go_wp2_with (refine wpList_load_aut (b := bb) rfl rfl rfl HH7.out HSz.out ?_)
            refine HAy.out.mono ?_; rintro e w8 ⟨rfl, g8⟩
            have HG8 := hidd (HG7.out.trans g8)
            clear g8
            go_wp2_with fail
            go_ret
            exact ⟨rfl, HG8.out⟩
          · have hXp := hat heq
            have u1 : decide ((M : Int) ≤ (k : Int)) = true := decide_eq_true (by omega)
            have u2 : ((k : Int) != (M : Int)) = false := by rw [heq]; simp
            have u3 : decide ((0 : Int) < (X : Int)) = true := decide_eq_true (by omega)
            have u4 : decide (0 < X) = true := decide_eq_true hXp
            clear hlow hat
            go_wp2_with (refine wpList_load_aut (b := bb) rfl rfl rfl HH7.out HSz.out ?_)
            refine HAy.out.mono ?_; rintro e w8 ⟨rfl, g8⟩
            have HG8 := hidd (HG7.out.trans g8)
            clear g8
            go_wp2_with fail
            go_ret
            exact ⟨rfl, HG8.out⟩
          · have u1 : decide ((M : Int) ≤ (k : Int)) = true := decide_eq_true (by omega)
            have u2 : ((k : Int) != (M : Int)) = true := by simp; omega
            clear hlow hat
            go_wp2_with (refine wpList_load_aut (b := bb) rfl rfl rfl HH7.out HSz.out ?_)
            refine HAy.out.mono ?_; rintro e w8 ⟨rfl, g8⟩
            have HG8 := hidd (HG7.out.trans g8)
            clear g8
            go_wp2_with fail
            go_ret
            exact ⟨rfl, HG8.out⟩
  · obtain ⟨W0, hW0⟩ : ∃ W0, wrongA A = W0 := ⟨_, rfl⟩
    rw [hW0] at HW hw0
    have k3 : (W0 != 0) = true := by simpa using hw0
    go_wp2_with fail
    refine oper_load_aut (b := bb) rfl rfl HH1.out HSz.out ?_
    go_wp2_with fail
    refine (HW.out _ HG1.out).mono ?_; rintro e w2 ⟨rfl, g2⟩
    have HG2 := hidd (HG1.out.trans g2)
    clear g2
    go_wp2_with fail
    go_ret
    exact ⟨rfl, HG2.out⟩
end Go.Proofs.YtkkdpafkafjfgaaDoor
