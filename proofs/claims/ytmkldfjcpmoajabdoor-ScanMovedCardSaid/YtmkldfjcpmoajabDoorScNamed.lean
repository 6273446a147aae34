/- pats.Named: at every text. -/
import Derived.Test.YtmkldfjcpmoajabDoorBase
import Derived.Lib.ItoaWalk
namespace Go.Proofs.YtmkldfjcpmoajabDoor
open Go.RowKit
set_option linter.unusedVariables false

def nameByte (i : Nat) (c : UInt8) : Bool := (decide (65 ≤ c.toNat) && decide (c.toNat ≤ 90)) || (decide (0 < i) && (decide (48 ≤ c.toNat) && decide (c.toNat ≤ 57)))
def nameFrom (l : List UInt8) (k : Nat) : Bool := (List.range k).all fun i => nameByte i (l.getD i 0)
/-- Is a text a name? -/
def named (s : ByteArray) : Bool := decide (1 ≤ s.size) && (decide (s.size ≤ 16) && nameFrom s.data.toList s.size)
theorem nameFrom_succ (l : List UInt8) (k : Nat) : nameFrom l (k + 1) = (nameFrom l k && nameByte k (l.getD k 0)) := by
  unfold nameFrom; rw [List.range_succ, List.all_append]; simp
theorem nameFrom_false {l : List UInt8} {k n : Nat} (h : nameByte k (l.getD k 0) = false) (hk : k < n) : nameFrom l n = false := by
  unfold nameFrom; rw [List.all_eq_false]
  exact ⟨k, by simpa using hk, by simpa using h⟩

set_option maxRecDepth 100000 in
set_option maxHeartbeats 1000000 in
theorem Named_any (s : ByteArray) (w : World) (hs : s.size ≤ maxLen) :
    Calls Tryd.prog 35 #[.string s] w fun e w' => e = .returned (.bool (named s)) ∧ w = w' := by
  by_cases h1 : s.size < 1 ∨ 16 < s.size
  · have hf : named s = false := by
      unfold named
      rcases h1 with h | h
      · rw [decide_eq_false (by omega)]; rfl
      · rw [decide_eq_false (show ¬ s.size ≤ 16 by omega)]; simp
    have HF := hidd hf
    unfold maxLen at hs
    clear hf
    rcases h1 with h | h
    all_goals
      have k1 : decide ((s.size : Int) < 1) = decide (s.size < 1) := by rw [decide_eq_decide]; omega
      have k2 : decide (16 < (s.size : Int)) = decide (16 < s.size) := by rw [decide_eq_decide]; omega
      first | rw [decide_eq_true (show s.size < 1 by omega)] at k1 | rw [decide_eq_false (show ¬ (s.size < 1) by omega)] at k1
      first | rw [decide_eq_true (show 16 < s.size by omega)] at k2 | rw [decide_eq_false (show ¬ (16 < s.size) by omega)] at k2
      go_enter Tryd.func35, Tryd.ntmps35
      go_wp2_with fail
      go_ret
      exact ⟨ret_bool HF.out.symm, rfl⟩
  · have a1 : 1 ≤ s.size := by omega
    have a2 : s.size ≤ 16 := by omega
    have hn : named s = nameFrom s.data.toList s.size := by
      unfold named; rw [decide_eq_true a1, decide_eq_true a2]; rfl
    have HN := hidd hn
    clear hn h1 hs
    go_enter Tryd.func35, Tryd.ntmps35
    go_wp2_with fail
    go_loop [3, 4, 15] (fun _ _ u => ∃ k : Nat, k ≤ s.size ∧ u = .int .i64 k ∧ Hid (nameFrom s.data.toList k = true)) (fun _ _ u => s.size - (intOf u).toNat)
    case atStart => exact ⟨0, by omega, rfl, rfl⟩
    case round =>
      obtain ⟨k, hk, rfl, HA⟩ := hrel
      by_cases hlt : k < s.size
      · have e1 : s.data.toList.getD k 0 = s[k] := (Lib.getD_at s k hlt).symm
        have hb := (s[k]).toNat_lt
        have HB : Hid (nameByte k (s.data.toList.getD k 0) = ((decide (65 ≤ (s[k]).toNat) && decide ((s[k]).toNat ≤ 90)) || (decide (0 < k) && (decide (48 ≤ (s[k]).toNat) && decide ((s[k]).toNat ≤ 57))))) := by rw [Hid, e1]; rfl
        have HS := hidd (nameFrom_succ s.data.toList k)
        have HX : Hid (nameByte k (s.data.toList.getD k 0) = false → nameFrom s.data.toList s.size = false) := fun h => nameFrom_false h hlt
        clear e1
        have hc : ((s[k]).toNat < 48 ∨ (48 ≤ (s[k]).toNat ∧ (s[k]).toNat ≤ 57)) ∨ ((57 < (s[k]).toNat ∧ (s[k]).toNat < 65) ∨ (65 ≤ (s[k]).toNat ∧ (s[k]).toNat ≤ 90)) ∨ 90 < (s[k]).toNat := by omega
        have hz : k = 0 ∨ 0 < k := by omega
        rcases hz with hz | hz
        · subst hz
          rcases hc with (hc | ⟨hc, hc'⟩) | (⟨hc, hc'⟩ | ⟨hc, hc'⟩) | hc
          all_goals
            have HH := hidd HB.out
            have g1 : decide ((65 : Int) ≤ ((s[0]).toNat : Int)) = decide (65 ≤ (s[0]).toNat) := by rw [decide_eq_decide]; omega
            have g2 : decide (((s[0]).toNat : Int) ≤ 90) = decide ((s[0]).toNat ≤ 90) := by rw [decide_eq_decide]; omega
            have g3 : decide ((48 : Int) ≤ ((s[0]).toNat : Int)) = decide (48 ≤ (s[0]).toNat) := by rw [decide_eq_decide]; omega
            have g4 : decide (((s[0]).toNat : Int) ≤ 57) = decide ((s[0]).toNat ≤ 57) := by rw [decide_eq_decide]; omega
            first | rw [decide_eq_true (show 65 ≤ (s[0]).toNat by omega)] at g1 | rw [decide_eq_false (show ¬ (65 ≤ (s[0]).toNat) by omega)] at g1
            first | rw [decide_eq_true (show (s[0]).toNat ≤ 90 by omega)] at g2 | rw [decide_eq_false (show ¬ ((s[0]).toNat ≤ 90) by omega)] at g2
            first | rw [decide_eq_true (show 48 ≤ (s[0]).toNat by omega)] at g3 | rw [decide_eq_false (show ¬ (48 ≤ (s[0]).toNat) by omega)] at g3
            first | rw [decide_eq_true (show (s[0]).toNat ≤ 57 by omega)] at g4 | rw [decide_eq_false (show ¬ ((s[0]).toNat ≤ 57) by omega)] at g4
            go_wp2_with fail
            first
            | (go_ret; refine ⟨ret_bool ?_, rfl⟩; rw [HN.out, HX.out (by rw [HH.out]; simp; omega)])
            | (go_round
               case rel => exact ⟨1, by omega, by go_num, by rw [Hid, HS.out, HA.out, HH.out]; simp; omega⟩
               case measure => simp [intOf]; omega)
        · have hz' : (((k : Int) == 0) = false) := beq_eq_false_iff_ne.2 (by omega)
          rcases hc with (hc | ⟨hc, hc'⟩) | (⟨hc, hc'⟩ | ⟨hc, hc'⟩) | hc
          all_goals
            have HH := hidd HB.out
            have g1 : decide ((65 : Int) ≤ ((s[k]).toNat : Int)) = decide (65 ≤ (s[k]).toNat) := by rw [decide_eq_decide]; omega
            have g2 : decide (((s[k]).toNat : Int) ≤ 90) = decide ((s[k]).toNat ≤ 90) := by rw [decide_eq_decide]; omega
            have g3 : decide ((48 : Int) ≤ ((s[k]).toNat : Int)) = decide (48 ≤ (s[k]).toNat) := by rw [decide_eq_decide]; omega
            have g4 : decide (((s[k]).toNat : Int) ≤ 57) = decide ((s[k]).toNat ≤ 57) := by rw [decide_eq_decide]; omega
            first | rw [decide_eq_true (show 65 ≤ (s[k]).toNat by omega)] at g1 | rw [decide_eq_false (show ¬ (65 ≤ (s[k]).toNat) by omega)] at g1
            first | rw [decide_eq_true (show (s[k]).toNat ≤ 90 by omega)] at g2 | rw [decide_eq_false (show ¬ ((s[k]).toNat ≤ 90) by omega)] at g2
            first | rw [decide_eq_true (show 48 ≤ (s[k]).toNat by omega)] at g3 | rw [decide_eq_false (show ¬ (48 ≤ (s[k]).toNat) by omega)] at g3
            first | rw [decide_eq_true (show (s[k]).toNat ≤ 57 by omega)] at g4 | rw [decide_eq_false (show ¬ ((s[k]).toNat ≤ 57) by omega)] at g4
            go_wp2_with fail
            first
            | (go_ret; refine ⟨ret_bool ?_, rfl⟩; rw [HN.out, HX.out (by rw [HH.out]; simp; omega)])
            | (go_round
               case rel => exact ⟨k + 1, by omega, by go_num, by rw [Hid, HS.out, HA.out, HH.out]; simp; omega⟩
               case measure => simp [intOf]; omega)
      · obtain rfl : k = s.size := by omega
        go_wp2_with fail
        go_ret
        exact ⟨ret_bool (by rw [HN.out, HA.out]), rfl⟩
end Go.Proofs.YtmkldfjcpmoajabDoor
