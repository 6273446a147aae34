/- What is wrong with an automaton: the document's. Printed. -/
import Derived.Test.YtkkdpafkafjfgaaTwAuW
namespace Go.Proofs.Ytkkdpafkafjfgaa
open Go.RowKit
set_option linter.unusedVariables false
set_option maxRecDepth 100000 in
theorem WrongR_any (A : Aut) (na ea : Option Addr) (nc ec : Nat) (w : World) (h : AutAt w A na ea) : Calls Try.prog 6 #[.agg (autB A na nc ea ec)] w fun e w' => e = .returned (.int .i64 (wrongA A)) ∧ Grew w w' := by
  have hB := box_new w A na nc ea ec 26
  have hG := (Grew.refl w).alloc (.cells (autB A na nc ea ec) 26)
  have a1 := autB_next A na nc ea ec
  have a2 := autB_ends A na nc ea ec
  generalize autB A na nc ea ec = av at hB hG a1 a2 ⊢
  have HB := hidd hB
  have HG := hidd hG
  have HA := hidd (h.kept hG)
  clear hB hG h
  by_cases h1 : A.next.length < 1 ∨ 8192 < A.next.length ∨ A.ends.length ≠ A.next.length
  · have HW : Hid (wrongA A = 5) := by unfold wrongA; rw [if_pos h1]; rfl
    have hs : (decide ((A.next.length : Int) < 1) = true) ∨ (decide ((A.next.length : Int) < 1) = false ∧ decide ((8192 : Int) < (A.next.length : Int)) = true) ∨ (decide ((A.next.length : Int) < 1) = false ∧ decide ((8192 : Int) < (A.next.length : Int)) = false ∧ ((A.ends.length : Int) != (A.next.length : Int)) = true) := by
      simp only [decide_eq_true_eq, decide_eq_false_iff_not, bne_iff_ne]; omega
    clear h1
    rcases hs with k1 | ⟨k1, k2⟩ | ⟨k1, k2, k3⟩
    all_goals
      go_enter Try.func6, Try.ntmps6
      go_wp2_with fail
      go_ret
      rw [HW.out]
      exact ⟨rfl, HG.out⟩
  · have h2 : 0 < A.next.length := by omega
    have h9 : A.next.length ≤ 8192 := by omega
    have HRl := hidd HA.out.rlen
    have k1 : decide ((A.next.length : Int) < 1) = false := decide_eq_false (by omega)
    have k2 : decide ((8192 : Int) < (A.next.length : Int)) = false := decide_eq_false (by omega)
    have k3 : ((A.ends.length : Int) != (A.next.length : Int)) = false := by simp; omega
    obtain ⟨ra, rc, hr, hr2⟩ := HA.out.next
    obtain ⟨nb, no, rfl, hn⟩ := hr.get h2
    have c0 := hn 0 h2
    rw [Nat.add_zero] at c0
    have HR := hidd hn
    have HR2 := hidd hr2
    obtain ⟨E, hE⟩ : ∃ E, rowsErr A.next.length (A.next.getD 0 []).length A.next = E := ⟨_, rfl⟩
    have HE := hidd hE
    have HW := hidd (wrongA_of h1 hE)
    clear hr hr2 hn h1 hE
    obtain ⟨cl, hcl⟩ : ∃ cl, (A.next.getD 0 []).length = cl := ⟨_, rfl⟩
    rw [hcl] at c0 HE HW
    obtain ⟨n, hn⟩ : ∃ n, A.next.length = n := ⟨_, rfl⟩
    have HN := hidd hn
    have HB' : Hid (∀ g, Grew (w.alloc (.cells av 26)) g → g.cell? ⟨w.heap.size, 256, none⟩ = some (.slice (some ⟨nb, no, none⟩) n nc)) := fun g hg => by rw [← hn]; exact (HB.out.kept hg).nx
    have HCl : Hid (ArrAt (w.alloc (.cells av 26)) w.heap.size 0 256 fun j => .int .i64 (A.cls.getD j 0)) := HB.out.cl
    rw [hn] at k1 k2 k3 h2 h9 HE HR HR2 HRl
    rw [hn] at a1
    have H256 := hidd HA.out.c256
    have HR0 := hidd c0
    clear hn hcl HB HA
    go_enter Try.func6, Try.ntmps6
    go_wp2_with fail
    clear a1 a2 c0 k1 k2 k3
    generalize w.alloc (.cells av 26) = W at HG HB' HCl HR HR2 HR0 ⊢
    go_loopw [31] (fun s31 wr => ∃ i : Nat, s31 = .int .i64 i ∧ i ≤ n ∧ Hid (Grew W wr) ∧ Hid (rowsErr n cl (A.next.drop i) = E)) (fun s31 _ => n - (intOf s31).toNat)
    case atStart => exact ⟨0, rfl, by omega, Grew.refl W, HE.out⟩
    case round =>
      obtain ⟨i, rfl, hi, KG, KE⟩ := hrel
      by_cases hlt : i < n
      · have kl : decide ((i : Int) < (n : Int)) = true := decide_eq_true (by omega)
        have hrl2 := HRl.out i hlt
        unfold maxLen at hrl2
        have hst := HN.out
        have hat := rowsErr_at (n := n) (k := cl) (l := A.next) (i := i) (by omega)
        have cr := KG.out.keeps (HR.out i hlt)
        have cn0 := HB'.out wr KG.out
        have cr0 := KG.out.keeps HR0.out
        have hr2 := HR2.out i hlt
        generalize A.next.getD i [] = r at hat cr hr2 hrl2
        generalize ra i = ria at cr hr2
        have HAt := hidd hat
        have HR3 := hidd hr2
        clear hst hat hr2
        by_cases hrl : r.length = cl
        · have kr : ((r.length : Int) != (cl : Int)) = false := by simp; omega
          obtain ⟨R, hR⟩ : ∃ R, r.any (badT n) = R := ⟨_, rfl⟩
          have HRe := hidd hR
          have HRw : Hid (rowErr n cl r = if R then 3 else 0) := by rw [rowErr_eq, if_neg (by omega), hR]; exact rfl
          clear hR
          go_wp2_with fail
          go_loopw [45] (fun s45 wi => ∃ j : Nat, s45 = .int .i64 j ∧ j ≤ r.length ∧ Hid (Grew W wi) ∧ Hid ((r.drop j).any (badT n) = R)) (fun s45 _ => r.length - (intOf s45).toNat)
          case atStart => exact ⟨0, rfl, by omega, KG, HRe.out⟩
          case round =>
            obtain ⟨j, rfl, hj, LG, LE⟩ := hrel
            by_cases hjl : j < r.length
            · have kj : decide ((j : Int) < (r.length : Int)) = true := decide_eq_true (by omega)
              obtain ⟨rb, ro, rfl, hrc⟩ := HR3.out.get (by omega)
              have ct := LG.out.keeps (hrc j hjl)
              have cn := HB'.out wr LG.out
              have hat := any_at hjl (badT n)
              generalize r.getD j 0 = t at hat ct
              have HAn := hidd hat
              clear hrc hat cr cn0 cr0
              by_cases hb : badT n t = true
              · have HX : Hid (wrongA A = 3) := by
                  have h1 : R = true := by rw [← LE.out, HAn.out, hb]; rfl
                  have h3 := HRw.out
                  rw [h1, if_pos rfl] at h3
                  have := HAt.out
                  rw [KE.out, h3, if_neg (by omega)] at this
                  rw [HW.out, this]; rfl
                have hs : (decide (t < 0) = true) ∨ (decide (t < 0) = false ∧ decide ((n : Int) ≤ t) = true) := by
                  unfold badT at hb
                  cases h : decide (t < 0)
                  · rw [h] at hb; exact Or.inr ⟨rfl, hb⟩
                  · exact Or.inl rfl
                clear hb HAn HAt HRw HRe
                rcases hs with k1 | ⟨k1, k2⟩
                all_goals
                  go_wp2_with fail
                  go_ret
                  rw [HX.out]
                  exact ⟨rfl, HG.out.trans LG.out⟩
              · have k1 : decide (t < 0) = false := by
                  unfold badT at hb
                  cases h : decide (t < 0)
                  · rfl
                  · rw [h] at hb; exact absurd rfl hb
                have k2 : decide ((n : Int) ≤ t) = false := by
                  unfold badT at hb
                  cases h : decide ((n : Int) ≤ t)
                  · rfl
                  · rw [h, Bool.or_true] at hb; exact absurd rfl hb
                have HL2 : Hid ((r.drop (j + 1)).any (badT n) = R) := by
                  have := HAn.out
                  rw [LE.out, eq_false_of_ne_true hb, Bool.false_or] at this
                  exact this.symm
                clear hb HAn
                go_wp2_with fail
                go_roundw
                case rel => exact ⟨j + 1, by go_num, by omega, LG, HL2⟩
                case measure => simp [intOf]; omega
            · have hje : j = r.length := by omega
              have kj : decide ((j : Int) < (r.length : Int)) = false := decide_eq_false (by omega)
              have HK2 : Hid (rowsErr n cl (A.next.drop (i + 1)) = E) := by
                have h1 : R = false := by rw [← LE.out, hje, List.drop_length]; rfl
                have h3 := HRw.out
                rw [h1, if_neg (by simp)] at h3
                have := HAt.out
                rw [KE.out, h3, if_pos rfl] at this
                exact this.symm
              clear HRw HRe HAt LE hje
              go_wp2_with fail
              go_roundw
              case rel => exact ⟨i + 1, by go_num, by omega, LG, HK2⟩
              case measure => simp [intOf]; omega
        · have kr : ((r.length : Int) != (cl : Int)) = true := by simp; omega
          have HX : Hid (wrongA A = 8) := by
            have h8 : rowErr n cl r = 8 := by rw [rowErr_eq, if_pos hrl]
            have := HAt.out
            rw [KE.out, h8, if_neg (by omega)] at this
            rw [HW.out, this]; rfl
          clear HAt HR3
          go_wp2_with fail
          go_ret
          rw [HX.out]
          exact ⟨rfl, HG.out.trans KG.out⟩
      · obtain rfl : i = n := by omega
        have kl : decide ((i : Int) < (i : Int)) = false := decide_eq_false (by omega)
        have HX : Hid (E = 0) := by have := KE.out; rw [← HN.out, List.drop_length] at this; exact this.symm
        have HCr := hidd (HCl.out.kept KG.out)
        go_wp2_with (refine wpList_load_cls rfl rfl rfl HCr.out ?_)
        obtain ⟨C, hC⟩ : ∃ C, A.cls.any (badT cl) = C := ⟨_, rfl⟩
        have HC := hidd hC
        have HW2 : Hid (wrongA A = if C then 3 else 0) := by rw [HW.out, HX.out, if_pos rfl, clsErr_eq, hC]; exact rfl
        clear hC HCr HW HX
        go_loopw [62] (fun s62 wc => ∃ j : Nat, s62 = .int .i64 j ∧ j ≤ 256 ∧ Hid (Grew W wc) ∧ Hid ((A.cls.drop j).any (badT cl) = C)) (fun s62 _ => 256 - (intOf s62).toNat)
        case atStart => exact ⟨0, rfl, by omega, KG, HC.out⟩
        case round =>
          obtain ⟨j, rfl, hj, LG, LE⟩ := hrel
          by_cases hjl : j < 256
          · have kj : decide ((j : Int) < 256) = true := decide_eq_true (by omega)
            have hx := run_cls A.cls hjl
            have cn0 := HB'.out wr LG.out
            have cr0 := LG.out.keeps HR0.out
            have hat := any_at (r := A.cls) (j := j) (by rw [H256.out]; exact hjl) (badT cl)
            generalize A.cls.getD j 0 = t at hat hx
            have HAn := hidd hat
            clear hat
            by_cases hb : badT cl t = true
            · have HX : Hid (wrongA A = 3) := by
                have h1 : C = true := by rw [← LE.out, HAn.out, hb]; rfl
                rw [HW2.out, h1]; rfl
              have hs : (decide (t < 0) = true) ∨ (decide (t < 0) = false ∧ decide ((cl : Int) ≤ t) = true) := by
                unfold badT at hb
                cases h : decide (t < 0)
                · rw [h] at hb; exact Or.inr ⟨rfl, hb⟩
                · exact Or.inl rfl
              clear hb HAn
              rcases hs with k1 | ⟨k1, k2⟩
              all_goals
                go_wp2_with fail
                go_ret
                rw [HX.out]
                exact ⟨rfl, HG.out.trans LG.out⟩
            · have k1 : decide (t < 0) = false := by
                unfold badT at hb
                cases h : decide (t < 0)
                · rfl
                · rw [h] at hb; exact absurd rfl hb
              have k2 : decide ((cl : Int) ≤ t) = false := by
                unfold badT at hb
                cases h : decide ((cl : Int) ≤ t)
                · rfl
                · rw [h, Bool.or_true] at hb; exact absurd rfl hb
              have HL2 : Hid ((A.cls.drop (j + 1)).any (badT cl) = C) := by
                have := HAn.out
                rw [LE.out, eq_false_of_ne_true hb, Bool.false_or] at this
                exact this.symm
              clear hb HAn
              go_wp2_with fail
              go_roundw
              case rel => exact ⟨j + 1, by go_num, by omega, LG, HL2⟩
              case measure => simp [intOf]; omega
          · have hje : j = 256 := by omega
            have kj : decide ((j : Int) < 256) = false := decide_eq_false (by omega)
            have HX : Hid (wrongA A = 0) := by
              have h1 : C = false := by rw [← LE.out, hje, ← H256.out, List.drop_length]; rfl
              rw [HW2.out, h1]; rfl
            go_wp2_with fail
            go_ret
            rw [HX.out]
            exact ⟨rfl, HG.out.trans LG.out⟩
end Go.Proofs.Ytkkdpafkafjfgaa
