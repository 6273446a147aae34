/- scanfailbig: SetInt64, NewInt, sum; the document's Big. -/
import Derived.Test.YthhcpocgfmlbeaaDoorBgF
namespace Go.Proofs.YthhcpocgfmlbeaaDoor
open Go.RowKit
set_option linter.unusedVariables false
set_option maxRecDepth 100000 in
set_option maxHeartbeats 1000000 in
theorem SetInt64_any {w : World} {b : Nat} (x : Int) (hb : ObjAt w b) (hx : In64 x) :
    Calls Tryd.prog 81 #[.pointer (some ⟨b, 0, none⟩), .int .i64 x] w fun e w' => e = .returned (.pointer (some ⟨b, 0, none⟩)) ∧ But b w w' ∧ IntAt w' b x := by
  obtain ⟨x0, x1⟩ := hx
  have HO := hidd hb
  have HW : Hid (Calls Tryd.prog 84 #[.int .u64 (x.natAbs : Nat)] w fun e w' => Grew w w' ∧ ∃ p c, e = .returned (.slice p (nw x.natAbs) c) ∧ WordsAt w' (.slice p (nw x.natAbs) c) x.natAbs (nw x.natAbs)) := words_any _ (by omega) w
  have HV : Hid (∀ w1 p c, Grew w w1 → WordsAt w1 (.slice p (nw x.natAbs) c) x.natAbs (nw x.natAbs) → Calls Tryd.prog 54 #[.pointer (some ⟨b, 0, none⟩), .bool (decide (x < 0)), .slice p (nw x.natAbs) c] w1 fun e w' => e = .returned (.pointer (some ⟨b, 0, none⟩)) ∧ But b w1 w' ∧ IntAt w' b x) := fun w1 p c g h => by
    have := give_any (decide (x < 0)) (HO.out.kept g) h
    rw [sgI_of] at this
    exact this
  clear hb
  obtain ⟨A, hA⟩ : ∃ A, x.natAbs = A := ⟨_, rfl⟩
  rw [hA] at HW HV
  obtain ⟨n, hn⟩ : ∃ n, nw A = n := ⟨_, rfl⟩
  rw [hn] at HW HV
  clear hn
  by_cases h0 : x < 0
  · have f1 : IntKind.u64.wrap x = x + 18446744073709551616 := by rw [IntKind.wrap_u64]; omega
    have f2 : IntKind.u64.wrap (-(x + 18446744073709551616)) = (A : Int) := by rw [IntKind.wrap_u64]; omega
    have e1 : decide (x < 0) = true := decide_eq_true h0
    rw [e1] at HV
    clear h0 hA
    go_enter Tryd.func81, Tryd.ntmps81
    go_wp2_with fail
    refine HW.out.mono ?_; rintro e w1 ⟨g1, p, c, rfl, hp⟩
    have HP := hidd (And.intro g1 hp)
    clear g1 hp
    go_wp2_with fail
    refine (HV.out _ _ _ HP.out.1 HP.out.2).mono ?_; rintro e w2 ⟨rfl, b2, i2⟩
    have HQ := hidd (And.intro ((But.of_grew HP.out.1).trans b2) i2)
    clear b2 i2
    go_wp2_with fail
    go_ret
    exact ⟨rfl, HQ.out.1, HQ.out.2⟩
  · have hxA : x = (A : Int) := by omega
    subst hxA
    have f1 : IntKind.u64.wrap (A : Int) = (A : Int) := by rw [IntKind.wrap_u64]; omega
    have e1 : decide ((A : Int) < 0) = false := decide_eq_false h0
    rw [e1] at HV
    clear h0 hA
    go_enter Tryd.func81, Tryd.ntmps81
    go_wp2_with fail
    refine HW.out.mono ?_; rintro e w1 ⟨g1, p, c, rfl, hp⟩
    have HP := hidd (And.intro g1 hp)
    clear g1 hp
    go_wp2_with fail
    refine (HV.out _ _ _ HP.out.1 HP.out.2).mono ?_; rintro e w2 ⟨rfl, b2, i2⟩
    have HQ := hidd (And.intro ((But.of_grew HP.out.1).trans b2) i2)
    clear b2 i2
    go_wp2_with fail
    go_ret
    exact ⟨rfl, HQ.out.1, HQ.out.2⟩
theorem obj_new (w : World) : ObjAt (w.alloc (.cells #[.bool false, .slice none 0 0] 56)) w.heap.size := ⟨_, _, _, _, heap_alloc_new w _⟩
set_option maxRecDepth 100000 in
set_option maxHeartbeats 1000000 in
theorem NewInt_any (x : Int) (hx : In64 x) (w : World) :
    Calls Tryd.prog 58 #[.int .i64 x] w fun e w' => e = .returned (.pointer (some ⟨w.heap.size, 0, none⟩)) ∧ Grew w w' ∧ IntAt w' w.heap.size x := by
  have HS := hidd (SetInt64_any x (obj_new w) hx)
  clear hx
  go_enter Tryd.func58, Tryd.ntmps58
  go_wp2_with fail
  refine HS.out.mono ?_; rintro e w2 ⟨rfl, b2, i2⟩
  have HQ := hidd (And.intro (b2.grew ((Grew.refl w).alloc _) (Nat.le_refl _)) i2)
  clear b2 i2
  go_wp2_with fail
  go_ret
  exact ⟨rfl, HQ.out.1, HQ.out.2⟩
set_option maxRecDepth 100000 in
theorem Big_any (x : Int) (hx : In64 x) (w : World) :
    Calls Tryd.prog 34 #[.int .i64 x] w fun e w' => e = .returned (.pointer (some ⟨w.heap.size, 0, none⟩)) ∧ Grew w w' ∧ IntAt w' w.heap.size x := by
  have HS := hidd (NewInt_any x hx w)
  clear hx
  go_enter Tryd.func34, Tryd.ntmps34
  go_wp2_with fail
  refine HS.out.mono ?_; rintro e w2 ⟨rfl, g2, i2⟩
  have HQ := hidd (And.intro g2 i2)
  clear g2 i2
  go_wp2_with fail
  go_ret
  exact ⟨rfl, HQ.out.1, HQ.out.2⟩
/-- What comes of a sum of two numbers with signs. -/
def SumEnd (w : World) (Z : Int) (e : Ending) (w' : World) : Prop := Grew w w' ∧ ∃ s p c N, e = .returned (.tuple #[.bool s, .slice p (nw N) c]) ∧ WordsAt w' (.slice p (nw N) c) N (nw N) ∧ sgI s N = Z
set_option maxRecDepth 100000 in
set_option maxHeartbeats 1000000 in
theorem sum_any {w : World} {p q : Option Addr} {A C c d : Nat} (s t : Bool) (hA : WordsAt w (.slice p (nw A) c) A (nw A)) (hC : WordsAt w (.slice q (nw C) d) C (nw C)) (hn : nw A ≤ 1099511627776) (hm : nw C ≤ 1099511627776) :
    Calls Tryd.prog 74 #[.bool s, .slice p (nw A) c, .bool t, .slice q (nw C) d] w (SumEnd w (sgI s A + sgI t C)) := by
  by_cases hst : s = t
  · subst hst
    have HA := hidd (add_any hA hC hn hm)
    have hv : sgI s (A + C) = sgI s A + sgI s C := by unfold sgI; split <;> omega
    have HV := hidd hv
    clear hv
    obtain ⟨n, hn0⟩ : ∃ n, nw A = n := ⟨_, rfl⟩
    obtain ⟨m, hm0⟩ : ∃ n, nw C = n := ⟨_, rfl⟩
    rw [hn0, hm0] at HA
    rw [hn0, hm0]
    clear hA hC hn hm hn0 hm0
    go_enter Tryd.func74, Tryd.ntmps74
    go_wp2_with fail
    refine HA.out.mono ?_; rintro e w1 ⟨g1, p', c', rfl, hp⟩
    have HP := hidd (And.intro g1 hp)
    clear g1 hp
    go_wp2_with fail
    go_ret2
    exact ⟨HP.out.1, s, p', c', _, rfl, HP.out.2, HV.out⟩
  · have e1 : (s == t) = false := by rw [beq_eq_false_iff_ne]; exact hst
    have HC := hidd (cmp_any hA hC)
    by_cases hle : C ≤ A
    · have HS := hidd (fun k => sub_any (hA.kept ((Grew.refl w).drewN k)) (hC.kept ((Grew.refl w).drewN k)) hn (nw_mono hle) hle)
      have HV : Hid (sgI s (A - C) = sgI s A + sgI t C) := by
        unfold Hid sgI
        cases s <;> cases t <;> simp at hst ⊢ <;> omega
      have hc : 0 ≤ cmpI A C := by unfold cmpI; rw [if_neg (by omega)]; split <;> omega
      have e2 : decide (0 ≤ cmpI A C) = true := decide_eq_true hc
      obtain ⟨n, hn0⟩ : ∃ n, nw A = n := ⟨_, rfl⟩
      obtain ⟨m, hm0⟩ : ∃ n, nw C = n := ⟨_, rfl⟩
      obtain ⟨k, hk0⟩ : ∃ k, cmpI A C = k := ⟨_, rfl⟩
      rw [hk0] at HC e2
      rw [hn0, hm0] at HC HS
      rw [hn0, hm0]
      clear hA hC hn hm hn0 hm0 hc hk0 hst
      go_enter Tryd.func74, Tryd.ntmps74
      go_wp2_with fail
      refine HC.out.mono ?_; rintro e w1 ⟨rfl, j, rfl⟩
      go_wp2_with fail
      refine (HS.out j).mono ?_; rintro e w1 ⟨g1, p', c', rfl, hp⟩
      have HP := hidd (And.intro (((Grew.refl w).drewN j).trans g1) hp)
      clear g1 hp
      go_wp2_with fail
      go_ret2
      exact ⟨HP.out.1, s, p', c', _, rfl, HP.out.2, HV.out⟩
    · have HS := hidd (fun k => sub_any (hC.kept ((Grew.refl w).drewN k)) (hA.kept ((Grew.refl w).drewN k)) hm (nw_mono (by omega)) (by omega))
      have HV : Hid (sgI t (C - A) = sgI s A + sgI t C) := by
        unfold Hid sgI
        cases s <;> cases t <;> simp at hst ⊢ <;> omega
      have hc : cmpI A C < 0 := by unfold cmpI; rw [if_pos (by omega)]; omega
      have e2 : decide (0 ≤ cmpI A C) = false := decide_eq_false (by omega)
      obtain ⟨n, hn0⟩ : ∃ n, nw A = n := ⟨_, rfl⟩
      obtain ⟨m, hm0⟩ : ∃ n, nw C = n := ⟨_, rfl⟩
      obtain ⟨k, hk0⟩ : ∃ k, cmpI A C = k := ⟨_, rfl⟩
      rw [hk0] at HC e2
      rw [hn0, hm0] at HC HS
      rw [hn0, hm0]
      clear hA hC hn hm hn0 hm0 hc hk0 hst hle
      go_enter Tryd.func74, Tryd.ntmps74
      go_wp2_with fail
      refine HC.out.mono ?_; rintro e w1 ⟨rfl, j, rfl⟩
      go_wp2_with fail
      refine (HS.out j).mono ?_; rintro e w1 ⟨g1, p', c', rfl, hp⟩
      have HP := hidd (And.intro (((Grew.refl w).drewN j).trans g1) hp)
      clear g1 hp
      go_wp2_with fail
      go_ret2
      exact ⟨HP.out.1, t, p', c', _, rfl, HP.out.2, HV.out⟩
end Go.Proofs.YthhcpocgfmlbeaaDoor
