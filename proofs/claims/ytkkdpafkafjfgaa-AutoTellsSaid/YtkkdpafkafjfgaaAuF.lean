/- How many texts an automaton takes: the document's Count. -/
import Derived.Test.YtkkdpafkafjfgaaAuE
import Derived.Test.YtkkdpafkafjfgaaAuG
namespace Go.Proofs.Ytkkdpafkafjfgaa
open Go.RowKit
set_option linter.unusedVariables false
/-- By how many texts of so many bytes each state is left. -/
theorem run_index_row (f : Nat → Int) {i : Nat} (hi : i < 256) (w : World) : (Instr.index 22 (.agg (rowI f)) (.int .i64 i)).run Try.prog w = .ok (.int .i64 (f i)) w :=
  run_index_arr Try.underlying22 info_int Try.underlying3 rfl hi (rowI_get f hi) w
theorem sumB_mono {f : Nat → Nat} : ∀ {a b : Nat}, a ≤ b → sumB f a ≤ sumB f b
  | a, 0, h => by obtain rfl : a = 0 := by omega
                  exact Nat.le_refl _
  | a, b + 1, h => by
    by_cases e : a = b + 1
    · rw [e]; exact Nat.le_refl _
    · rw [sumB]; have := sumB_mono (f := f) (a := a) (b := b) (by omega); omega
/-- The row that is being made: states before s are done, s has so many bytes. -/
def midF (A : Aut) (k s c j : Nat) : Nat := if j < s then cntA (raA A) (k + 1) j else if j = s then sumB (fun c => cntA (raA A) k (stepA A s c)) c else 0
def leftF (A : Aut) (k j : Nat) : Value := .int .i64 (cntA (raA A) k j : Nat)
set_option maxRecDepth 100000 in
set_option maxHeartbeats 4000000 in
theorem CountR_any (A : Aut) (na ea : Option Addr) (nc ec : Nat) (n : Int) (w : World) (h : AutAt w A na ea) (hn : bdI n) : Calls Try.prog 12 #[.agg (autB A na nc ea ec), .int .i64 n] w fun e w' => e = .returned (cntV A n) ∧ Grew w w' := by
  have hB := box_new w A na nc ea ec 26
  have hG := (Grew.refl w).alloc (.cells (autB A na nc ea ec) 26)
  have HWr := hidd (WrongR_any A na ea nc ec _ (h.kept hG))
  have HOf : Hid (∀ w1, Grew w w1 → RightA A → Calls Try.prog 19 #[.agg (autB A na nc ea ec)] w1 _) := fun w1 g hr => Of_any A na ea nc ec w1 (h.kept g) hr
  have HSz := hidd (autB_size A na nc ea ec)
  have HH := hidd (heap_alloc_new w (.cells (autB A na nc ea ec) 26))
  have a1 := autB_next A na nc ea ec
  have a2 := autB_ends A na nc ea ec
  generalize autB A na nc ea ec = av at hB hG a1 a2 HWr HOf HSz HH ⊢
  have HG := hidd hG
  have HA := hidd h
  clear hB hG h
  by_cases h0 : wrongA A = 0
  · rw [h0] at HWr
    have HR := hidd (wrongA_zero.1 h0)
    by_cases hb : n < 0 ∨ 7 < n
    · have HV : Hid (cntV A n = .tuple #[.int .i64 0, .int .i64 3]) := by unfold cntV; rw [if_pos h0, if_pos hb]; rfl
      have hs : (decide (n < 0) = true) ∨ (decide (n < 0) = false ∧ decide ((7 : Int) < n) = true) := by
        simp only [decide_eq_true_eq, decide_eq_false_iff_not]; omega
      clear h0 hb
      rcases hs with k1 | ⟨k1, k2⟩
      all_goals
        go_enter Try.func12, Try.ntmps12
        go_wp2_with (refine wpList_load_aut rfl rfl rfl HH.out HSz.out ?_)
        refine HWr.out.mono ?_; rintro e w1 ⟨rfl, g1⟩
        go_wp2_with fail
        exact bodyPost_ret (results_tmp2 rfl _ _ _) rfl ⟨by rw [HV.out]; rfl, HG.out.trans g1⟩
    · have HV : Hid (cntV A n = .tuple #[.int .i64 (cntA (raA A) n.toNat 0), .int .i64 0]) := by unfold cntV; rw [if_pos h0, if_neg hb]; rfl
      have k1 : decide (n < 0) = false := decide_eq_false (by omega)
      have k2 : decide ((7 : Int) < n) = false := decide_eq_false (by omega)
      obtain ⟨N, rfl⟩ : ∃ N : Nat, n = (N : Int) := ⟨n.toNat, by omega⟩
      rw [Int.toNat_natCast] at HV
      have hN7 : N ≤ 7 := by omega
      clear h0 hb
      go_enter Try.func12, Try.ntmps12
      go_wp2_with (refine wpList_load_aut rfl rfl rfl HH.out HSz.out ?_)
      refine HWr.out.mono ?_; rintro e w1 ⟨rfl, g1⟩
      have HH1 := hidd (heap_kept g1 HH.out)
      have HG1 := hidd (HG.out.trans g1)
      clear HWr HH HG g1
      go_wp2_with (refine wpList_load_aut rfl rfl rfl HH1.out HSz.out ?_)
      refine (HOf.out _ HG1.out HR.out).mono ?_; rintro e w2 ⟨qv, rfl, hq, g2⟩
      obtain ⟨qb, qo, qc, rfl, _, hT⟩ := tab_at hq HR.out.n0
      have HT := hidd hT
      have HG2 := hidd (HG1.out.trans g2)
      clear hq hT HOf HH1 HSz HG1 g2
      obtain ⟨m, hm⟩ : ∃ m, A.next.length = m := ⟨_, rfl⟩
      have HM := hidd hm
      have h9 : m ≤ 8192 := by have := HR.out.n1; omega
      have hp : 0 < m := by have := HR.out.n0; omega
      have hEl : A.ends.length = m := by rw [HR.out.ne, hm]
      have HEl := hidd hEl
      rw [hm, hEl]
      have HTab : Hid ((w2.alloc (.cells #[.slice (some ⟨qb, qo, none⟩) m qc, .slice ea m ec] 44)).heap[w2.heap.size]? = some (.cells #[.slice (some ⟨qb, qo, none⟩) m qc, .slice ea m ec] 44 (0, 0))) := heap_alloc_new w2 _
      obtain ⟨w3, hmk, hA3, hg3⟩ := make_ints m h9 (w2.alloc (.cells #[.slice (some ⟨qb, qo, none⟩) m qc, .slice ea m ec] 44))
      rw [World.size_alloc] at hmk hA3
      have t3 := two_cells (heap_kept hg3 HTab.out)
      obtain ⟨⟨t0, t1⟩, _⟩ := t3
      have HI : Hid (Grew w2 w3 ∧ ArrAt w3 (w2.heap.size + 1) 0 m fun j => .int .i64 ((if j < 0 then cntA (raA A) 0 j else 0 : Nat) : Int)) := ⟨((Grew.refl w2).alloc _).trans hg3, hA3⟩
      have HTw := hidd (heap_kept hg3 HTab.out)
      obtain ⟨eb, eo, rfl, _⟩ := (HA.out.kept (HG2.out.trans HI.out.1)).ends.get (by rw [HEl.out]; omega)
      clear hm hEl a1 a2 hA3
      go_wp2_with fail
      obtain ⟨tb, htb⟩ : ∃ tb, w2.heap.size = tb := ⟨_, rfl⟩
      have HTb := hidd htb
      rw [htb] at HI HTw t0 t1 ⊢
      clear hmk hg3 HTab htb
      go_loopw [37] (fun s37 wr => ∃ i : Nat, s37 = .int .i64 i ∧ i ≤ m ∧ Hid (Grew w2 wr ∧ wr.heap[tb]? = some (.cells #[.slice (some ⟨qb, qo, none⟩) m qc, .slice (some ⟨eb, eo, none⟩) m ec] 44 (0, 0)) ∧ ArrAt wr (tb + 1) 0 m fun j => .int .i64 ((if j < i then cntA (raA A) 0 j else 0 : Nat) : Int))) (fun s37 _ => m - (intOf s37).toNat)
      case atStart => exact ⟨0, rfl, by omega, HI.out.1, HTw.out, HI.out.2⟩
      case round =>
        obtain ⟨i, rfl, hi, KG⟩ := hrel
        by_cases hil : i < m
        · have ki : decide ((i : Int) < (m : Int)) = true := decide_eq_true (by omega)
          obtain ⟨eb2, eo2, e2, he⟩ := (HA.out.kept (HG2.out.trans KG.out.1)).ends.get (by rw [HEl.out]; omega)
          cases e2
          have ce := he i (by rw [HEl.out]; exact hil)
          have cr := KG.out.2.2.at0 i hil
          have cf := KG.out.2.2.free0 i hil
          have HC0 : Hid (cntA (raA A) 0 i = if A.ends.getD i false = true then 1 else 0) := rfl
          clear he
          cases hb : A.ends.getD i false with
          | true =>
            rw [hb] at ce HC0
            clear hb
            go_wp2_with fail
            refine ⟨⟨i + 1, by simp, by omega, KG.out.1.setCell (p := ⟨tb + 1, i, none⟩) (by rw [HTb.out]; exact Nat.le_succ _) _, (by rw [q_set_other _ _ (by omega)]; exact KG.out.2.1), (KG.out.2.2.set0 i hil (.int .i64 1)).congr fun j hj => ?_⟩, by simp [intOf]; omega⟩
            by_cases e : j = i
            · subst e; rw [if_pos rfl, if_pos (by omega), HC0.out]; rfl
            · rw [if_neg e]
              by_cases e2 : j < i
              · rw [if_pos e2, if_pos (by omega)]
              · rw [if_neg e2, if_neg (by omega)]
          | false =>
            rw [hb] at ce HC0
            clear hb
            go_wp2_with fail
            refine ⟨⟨i + 1, by simp, by omega, KG.out.1, KG.out.2.1, KG.out.2.2.congr fun j hj => ?_⟩, by simp [intOf]; omega⟩
            by_cases e : j = i
            · subst e; rw [if_neg (Nat.lt_irrefl j), if_pos (by omega), HC0.out]; rfl
            · by_cases e2 : j < i
              · rw [if_pos e2, if_pos (by omega)]
              · rw [if_neg e2, if_neg (by omega)]
        · obtain rfl : i = m := by omega
          have ki : decide ((i : Int) < (i : Int)) = false := decide_eq_false (by omega)
          have HI1 : Hid (Grew w2 wr ∧ wr.heap[tb]? = some (.cells #[.slice (some ⟨qb, qo, none⟩) i qc, .slice (some ⟨eb, eo, none⟩) i ec] 44 (0, 0)) ∧ ArrAt wr (tb + 1) 0 i fun j => .int .i64 (cntA (raA A) 0 j : Nat)) := ⟨KG.out.1, KG.out.2.1, KG.out.2.2.congr fun j hj => by rw [if_pos hj]⟩
          go_wp2_with fail
          generalize hmm : i = m at *
          clear hmm
          go_loopw [8, 11] (fun s8 s11 wr => ∃ k lb : Nat, s11 = .int .i64 k ∧ k ≤ N ∧ s8 = .slice (some ⟨lb, 0, none⟩) m m ∧ Hid (Grew w2 wr ∧ wr.heap[tb]? = some (.cells #[.slice (some ⟨qb, qo, none⟩) m qc, .slice (some ⟨eb, eo, none⟩) m ec] 44 (0, 0)) ∧ ArrAt wr lb 0 m fun j => .int .i64 (cntA (raA A) k j : Nat))) (fun _ s11 _ => N - (intOf s11).toNat)
          case atStart => exact ⟨0, tb + 1, rfl, by omega, rfl, HI1.out⟩
          case round =>
            obtain ⟨k, lb, rfl, hk, rfl, LG⟩ := hrel
            by_cases hkl : k < N
            · have kk : decide ((k : Int) < (N : Int)) = true := decide_eq_true (by omega)
              obtain ⟨w4, hmk, hA4, hg4⟩ := make_ints m h9 wr
              obtain ⟨⟨q0, q1⟩, _⟩ := two_cells (heap_kept hg4 LG.out.2.1)
              have HJ : Hid (Grew wr w4 ∧ ArrAt w4 wr.heap.size 0 m fun j => .int .i64 ((midF A k 0 0 j : Nat) : Int)) := ⟨hg4, hA4.congr fun j hj => by unfold midF; rw [if_neg (Nat.not_lt_zero j)]; split <;> rfl⟩
              clear hA4 hg4
              go_wp2_with fail
              clear hmk
              obtain ⟨w0, rfl⟩ : ∃ w0, w0 = wr := ⟨_, rfl⟩
              obtain ⟨nb, hnb⟩ : ∃ nb, w0.heap.size = nb := ⟨_, rfl⟩
              rw [hnb] at HJ ⊢
              have HNb := hidd hnb
              clear hnb q0 q1
              go_loopw [58] (fun s58 wr => ∃ s : Nat, s58 = .int .i64 s ∧ s ≤ m ∧ Hid (Grew w0 wr ∧ ArrAt wr nb 0 m fun j => .int .i64 ((midF A k s 0 j : Nat) : Int))) (fun s58 _ => m - (intOf s58).toNat)
              case atStart => exact ⟨0, rfl, by omega, HJ.out⟩
              case round =>
                obtain ⟨s, rfl, hs, MG⟩ := hrel
                clear HJ
                by_cases hsl : s < m
                · have ks : decide ((s : Int) < (m : Int)) = true := decide_eq_true (by omega)
                  have HRow : Hid (∀ j, j < 256 → wr.cell? ⟨qb, qo + s * 256 + j, none⟩ = some (.int .i64 (stepI A s j))) := fun j hj => (LG.out.1.trans MG.out.1).keeps (HT.out s j (by rw [HM.out]; exact hsl) hj)
                  have hz := run_zero_rowI
                  have HZ := hidd (rowI_at wr (fun _ => 0) 22)
                  go_wp2_with (first | (refine wpList_load_off rfl rfl rfl HRow.out ?_) | (refine wpList_store_row rfl rfl rfl rfl HZ.out ?_; intro w5 hS5 hb5) | (refine wpList_load_row rfl rfl rfl hS5 ?_))
                  have hg5 : Grew wr w5 := ((Grew.refl wr).alloc _).below hb5 (Nat.le_refl _)
                  have HK0 : Hid (Grew w0 w5 ∧ ArrAt w5 nb 0 m fun j => .int .i64 ((midF A k s 0 j : Nat) : Int)) := ⟨MG.out.1.trans hg5, MG.out.2.kept hg5⟩
                  clear hS5 hb5 hg5 HZ HRow hz
                  go_loopw [64] (fun s64 wr => ∃ c : Nat, s64 = .int .i64 c ∧ c ≤ 256 ∧ Hid (Grew w0 wr ∧ ArrAt wr nb 0 m fun j => .int .i64 ((midF A k s c j : Nat) : Int))) (fun s64 _ => 256 - (intOf s64).toNat)
                  case atStart => exact ⟨0, rfl, by omega, HK0.out⟩
                  case round =>
                    obtain ⟨c, rfl, hc, PG⟩ := hrel
                    clear HK0 MG
                    by_cases hcl : c < 256
                    · have kc : decide ((c : Int) < 256) = true := decide_eq_true (by omega)
                      have hx := run_index_row (fun j => stepI A s j) hcl
                      have hst := stepI_nat HR.out HA.out.c256 (s := s) (c := c) (by rw [HM.out]; exact hsl) hcl
                      rw [hst.1] at hx
                      have htl : stepA A s c < m := by rw [← HM.out]; exact hst.2
                      have HMf : Hid (∀ j, midF A k s (c + 1) j = if j = s then midF A k s c s + cntA (raA A) k (stepA A s c) else midF A k s c j) := fun j => by
                        unfold midF
                        by_cases e : j = s
                        · subst e; rw [if_neg (Nat.lt_irrefl j), if_pos rfl, if_pos rfl, if_neg (Nat.lt_irrefl j), if_pos rfl]; rfl
                        · by_cases e2 : j < s
                          · simp only [if_pos e2, if_neg e]
                          · simp only [if_neg e2, if_neg e]
                      have hle : midF A k s c s + cntA (raA A) k (stepA A s c) ≤ 72057594037927936 := by
                        have h1 : midF A k s c s + cntA (raA A) k (stepA A s c) = sumB (fun c => cntA (raA A) k (stepA A s c)) (c + 1) := by unfold midF; rw [if_neg (Nat.lt_irrefl s), if_pos rfl]; rfl
                        rw [h1]
                        refine Nat.le_trans (sumB_mono (show c + 1 ≤ 256 by omega)) ?_
                        have h2 : cntA (raA A) (k + 1) s ≤ 256 ^ (k + 1) := cntA_le (k + 1) s
                        have h3 : 256 ^ (k + 1) ≤ 256 ^ 7 := Nat.pow_le_pow_right (by omega) (by omega)
                        exact Nat.le_trans h2 h3
                      have y0 := PG.out.2.at0 s hsl
                      have yf := PG.out.2.free0 s hsl
                      have z0 := PG.out.1.keeps (LG.out.2.2.at0 (stepA A s c) htl)
                      generalize midF A k s c s = y at HMf hle y0
                      generalize cntA (raA A) k (stepA A s c) = z at HMf hle z0
                      generalize stepA A s c = t at hx htl z0
                      have hlb : lb < nb := by rw [← HNb.out]; exact LG.out.2.2.lt (by omega)
                      have hk0 : wr.drew.cell? ⟨lb, t, none⟩ = some (.int .i64 z) := z0
                      have hk1 : ∀ u, (wr.setCell ⟨nb, s, none⟩ u).drew.cell? ⟨lb, t, none⟩ = some (.int .i64 z) := fun u => by
                        show (wr.setCell ⟨nb, s, none⟩ u).cell? ⟨lb, t, none⟩ = _
                        rw [setCell_cell_other _ _ _ _ (.inl (show nb ≠ lb by omega))]; exact z0
                      have y1 : wr.drew.cell? ⟨nb, s, none⟩ = some (.int .i64 y) := y0
                      have yf1 : wr.drew.frozen? ⟨nb, s, none⟩ = false := yf
                      clear hst y0 z0 yf
                      go_wp2_with fail
                      have HFin : Hid (Grew w0 (wr.setCell ⟨nb, s, none⟩ (.int .i64 ((y : Int) + (z : Int)))).drew ∧ ArrAt (wr.setCell ⟨nb, s, none⟩ (.int .i64 ((y : Int) + (z : Int)))).drew nb 0 m fun j => .int .i64 ((midF A k s (c + 1) j : Nat) : Int)) := by
                        refine ⟨(PG.out.1.setCell (p := ⟨nb, s, none⟩) (Nat.le_of_eq HNb.out) _).drew, ArrAt.drew ((PG.out.2.set0 s hsl _).congr fun j hj => ?_)⟩
                        rw [HMf.out j]
                        by_cases e : j = s
                        · subst e; rw [if_pos rfl, if_pos rfl, Int.natCast_add]
                        · rw [if_neg e, if_neg e]
                      go_region_law (fail)
                      all_goals
                        try go_wp2_with fail
                        exact ⟨⟨c + 1, by simp, by omega, HFin.out⟩, by simp [intOf]; omega⟩
                    · obtain rfl : c = 256 := by omega
                      have kc : decide ((256 : Int) < 256) = false := rfl
                      go_wp2_with fail
                      refine ⟨⟨s + 1, by simp, by omega, PG.out.1, PG.out.2.congr fun j hj => ?_⟩, by simp [intOf]; omega⟩
                      have e : midF A k s 256 j = midF A k (s + 1) 0 j := by
                        unfold midF
                        by_cases e : j = s
                        · subst e; rw [if_neg (Nat.lt_irrefl j), if_pos rfl, if_pos (by omega)]; rfl
                        · by_cases e2 : j < s
                          · rw [if_pos e2, if_pos (by omega)]
                          · rw [if_neg e2, if_neg e, if_neg (by omega)]; split <;> rfl
                      rw [e]
                · obtain rfl : s = m := by omega
                  have ks : decide ((s : Int) < (s : Int)) = false := decide_eq_false (by omega)
                  go_wp2_with fail
                  refine ⟨⟨k + 1, nb, by simp, by omega, rfl, LG.out.1.trans MG.out.1, heap_kept MG.out.1 LG.out.2.1, MG.out.2.congr fun j hj => by unfold midF; rw [if_pos hj]⟩, by simp [intOf]; omega⟩
            · obtain rfl : k = N := by omega
              have kk : decide ((k : Int) < (k : Int)) = false := decide_eq_false (by omega)
              have c0 := LG.out.2.2.at0 0 hp
              go_wp2_with fail
              exact bodyPost_ret (results_tmp2 rfl _ _ _) rfl ⟨by rw [HV.out]; rfl, HG2.out.trans LG.out.1⟩
  · have HV : Hid (cntV A n = .tuple #[.int .i64 0, .int .i64 (wrongA A)]) := by unfold cntV; rw [if_neg h0]; rfl
    obtain ⟨W, hW⟩ : ∃ W, wrongA A = W := ⟨_, rfl⟩
    rw [hW] at h0 HWr HV
    have k1 : (W != 0) = true := by simpa using h0
    clear hW h0
    go_enter Try.func12, Try.ntmps12
    go_wp2_with (refine wpList_load_aut rfl rfl rfl HH.out HSz.out ?_)
    refine HWr.out.mono ?_; rintro e w1 ⟨rfl, g1⟩
    go_wp2_with fail
    exact bodyPost_ret (results_tmp2 rfl _ _ _) rfl ⟨by rw [HV.out]; rfl, HG.out.trans g1⟩
end Go.Proofs.Ytkkdpafkafjfgaa
