/- scanfailbig: div (where what is divided has two words at most, or is less). -/
import Derived.Test.YthhcpocgfmlbeaaDoorBgH
namespace Go.Proofs.YthhcpocgfmlbeaaDoor
open Go.RowKit
set_option linter.unusedVariables false
def DivEnd (w : World) (Q R : Nat) (e : Ending) (w' : World) : Prop := Grew w w' ∧ ∃ p c q d, e = .returned (.tuple #[.slice p (nw Q) c, .slice q (nw R) d]) ∧ WordsAt w' (.slice p (nw Q) c) Q (nw Q) ∧ WordsAt w' (.slice q (nw R) d) R (nw R)
set_option maxRecDepth 100000 in
set_option maxHeartbeats 4000000 in
theorem div_any {w : World} {p q : Option Addr} {A C c d : Nat} (hA : WordsAt w (.slice p (nw A) c) A (nw A)) (hC : WordsAt w (.slice q (nw C) d) C (nw C)) (hn : nw A ≤ 1099511627776) (h0 : C ≠ 0) (hs : A < C ∨ A < 18446744073709551616) :
    Calls Tryd.prog 59 #[.slice p (nw A) c, .slice q (nw C) d] w (DivEnd w (A / C) (A % C)) := by
  have HC := hidd (cmp_any hA hC)
  have hm : nw C ≠ 0 := by rw [nw_pos h0]; omega
  have e0 : ((nw C : Int) == 0) = false := by rw [beq_eq_false_iff_ne]; omega
  by_cases hlt : A < C
  · have HT := hidd (fun k => twin_any (hA.kept ((Grew.refl w).drewN k)) hn)
    have hQ : A / C = 0 := Nat.div_eq_of_lt hlt
    have hR : A % C = A := Nat.mod_eq_of_lt hlt
    rw [hQ, hR]
    have hc : cmpI A C < 0 := by unfold cmpI; rw [if_pos hlt]; omega
    have e2 : decide (cmpI A C < 0) = true := decide_eq_true hc
    obtain ⟨k, hk0⟩ : ∃ k, cmpI A C = k := ⟨_, rfl⟩
    rw [hk0] at HC e2
    have HNZ := hidd nw_zero
    obtain ⟨n, hn0⟩ : ∃ n, nw A = n := ⟨_, rfl⟩
    obtain ⟨m, hm0⟩ : ∃ n, nw C = n := ⟨_, rfl⟩
    rw [hn0] at HT HC
    rw [hm0] at HC e0
    have HN := hidd hn0
    rw [hn0, hm0]
    clear hA hC hn h0 hs hm hlt hQ hR hc hk0 hn0 hm0
    go_enter Tryd.func59, Tryd.ntmps59
    go_wp2_with fail
    refine HC.out.mono ?_; rintro e w1 ⟨rfl, j, rfl⟩
    go_wp2_with fail
    refine (HT.out j).mono ?_; rintro e w1 ⟨g1, p', c', rfl, hp⟩
    have HP := hidd (And.intro (((Grew.refl w).drewN j).trans g1) hp)
    clear g1 hp
    go_wp2_with fail
    go_ret2
    exact ⟨HP.out.1, none, 0, p', c', by rw [HN.out, HNZ.out]; rfl, by rw [HNZ.out]; exact wordsAt_nil _ (by omega), by rw [HN.out]; exact HP.out.2⟩
  · have hA64 := hs.resolve_left hlt
    have hn2 : nw A ≤ 2 := nw_le (two_words.2 hA64)
    have HX := hidd (fun k => plain_any (hA.kept ((Grew.refl w).drewN k)) hA64)
    have HY := hidd (fun k => plain_any (hC.kept ((Grew.refl w).drewN k)) (by omega : C < 18446744073709551616))
    have HQ := hidd (fun w1 => words_any (A / C) (Nat.lt_of_le_of_lt (Nat.div_le_self A C) hA64) w1)
    have HR := hidd (fun w1 => words_any (A % C) (Nat.lt_of_le_of_lt (Nat.mod_le A C) hA64) w1)
    have hc : ¬ cmpI A C < 0 := by unfold cmpI; rw [if_neg hlt]; split <;> omega
    have e2 : decide (cmpI A C < 0) = false := decide_eq_false hc
    have e3 : decide ((nw A : Int) ≤ 2) = true := decide_eq_true (by omega)
    have e4 : ((C : Int) == 0) = false := by rw [beq_eq_false_iff_ne]; omega
    have e5 : ¬ ((C : Int) = 0) := by omega
    have e6 : (C : Int) ≠ 0 := by omega
    obtain ⟨Q, hQ0⟩ : ∃ Q, A / C = Q := ⟨_, rfl⟩
    obtain ⟨S, hS0⟩ : ∃ Q, A % C = Q := ⟨_, rfl⟩
    have hQl : Q ≤ A := by rw [← hQ0]; exact Nat.div_le_self A C
    have hSl : S ≤ A := by rw [← hS0]; exact Nat.mod_le A C
    rw [hQ0] at HQ
    rw [hS0] at HR
    rw [hQ0, hS0]
    have f1 : (A : Int) / (C : Int) = (Q : Int) := by rw [← hQ0]; simp
    have f2 : Int.tdiv (A : Int) (C : Int) = (Q : Int) := by rw [Int.tdiv_eq_ediv_of_nonneg (by omega)]; exact f1
    have f3 : (A : Int) % (C : Int) = (S : Int) := by rw [← hS0]; simp
    have f4 : Int.tmod (A : Int) (C : Int) = (S : Int) := by rw [Int.tmod_eq_emod_of_nonneg (by omega)]; exact f3
    have f5 : IntKind.u64.wrap (Q : Int) = (Q : Int) := wrap_u64 (by omega)
    have f6 : IntKind.u64.wrap (S : Int) = (S : Int) := wrap_u64 (by omega)
    obtain ⟨k, hk0⟩ : ∃ k, cmpI A C = k := ⟨_, rfl⟩
    rw [hk0] at HC e2
    obtain ⟨n, hn0⟩ : ∃ n, nw A = n := ⟨_, rfl⟩
    obtain ⟨m, hm0⟩ : ∃ n, nw C = n := ⟨_, rfl⟩
    rw [hn0] at HX HC e3
    rw [hm0] at HC HY e0
    rw [hn0, hm0]
    clear hA hC hn hs hm hlt hQ0 hS0 hc hk0 hn0 hm0
    go_enter Tryd.func59, Tryd.ntmps59
    go_wp2_with fail
    refine HC.out.mono ?_; rintro e w1 ⟨rfl, j, rfl⟩
    go_wp2_with fail
    refine (HX.out j).mono ?_; rintro e w1 ⟨rfl, rfl⟩
    go_wp2_with fail
    refine (HY.out j).mono ?_; rintro e w1 ⟨rfl, rfl⟩
    go_wp2_with fail
    go_region_with (first | (go_at_call 84; refine (HQ.out _).mono ?_; rintro e wq ⟨gq, pq, cq, rfl, hq⟩; have HQQ := hidd (And.intro gq hq); clear gq hq) | (go_at_call 84; refine (HR.out _).mono ?_; rintro e wr ⟨gr, pr, cr, rfl, hr⟩; have HRR := hidd (And.intro gr hr); clear gr hr))
    all_goals
      go_wp2_with fail
      go_ret2
      first
        | exact ⟨((((Grew.refl w).drewN j).drew).trans HQQ.out.1).trans HRR.out.1, _, _, _, _, rfl, HQQ.out.2.kept HRR.out.1, HRR.out.2⟩
        | exact ⟨((((Grew.refl w).drewN j).drew).trans HRR.out.1).trans HQQ.out.1, _, _, _, _, rfl, HQQ.out.2, HRR.out.2.kept HQQ.out.1⟩
end Go.Proofs.YthhcpocgfmlbeaaDoor
