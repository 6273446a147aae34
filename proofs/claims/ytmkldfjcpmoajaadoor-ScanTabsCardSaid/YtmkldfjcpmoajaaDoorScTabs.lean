/- ScanTabs: the walk. Conditions: what the arguments are read as; the library's table of powers of ten. -/
import Derived.Test.YtmkldfjcpmoajaaDoorScShape
import Derived.Test.YtmkldfjcpmoajaaDoorScPlain
namespace Go.Proofs.YtmkldfjcpmoajaaDoor
open Go.RowKit
set_option linter.unusedVariables false
section
variable {w : World} {s : ByteArray}
theorem some_at (k n : Int) (t : ByteArray) (w w1 : World) (hk : -9223372036854775808 ≤ k ∧ k ≤ 9223372036854775807) (hn : -9223372036854775808 ≤ n ∧ n ≤ 9223372036854775807) (h : t.size ≤ maxLen) : PatV w (.slice none 0 0) (someP k n t) :=
  ⟨kids_none w, hk, hn, h, Nat.zero_le _⟩
set_option maxRecDepth 100000 in
set_option maxHeartbeats 4000000 in
theorem ScanTabs_walk (n at_ : Int) (hn : -9223372036854775808 ≤ n ∧ n ≤ 9223372036854775807) (hs : s.size ≤ maxLen) (hat : -9223372036854775808 ≤ at_ ∧ at_ ≤ 9223372036854775807) (hT : TabP w) :
    Calls Tryd.prog 13 #[.int .i64 n, .string s, .int .i64 at_] w fun e w' => e = .returned (.bool true) ∧ Grew w w' := by
  have HAl : Hid (∀ w1, Grew w w1 → Calls Tryd.prog 23 #[] w1 fun e w' => e = .returned (.bool true) ∧ Grew w1 w') := fun w1 g => alive_any w1 (hT.kept g)
  by_cases hr : n < 0 ∨ (s.size : Int) < n ∨ 65536 < s.size
  · have hr2 : n < 0 ∨ (0 ≤ n ∧ (s.size : Int) < n) ∨ (0 ≤ n ∧ n ≤ (s.size : Int) ∧ 65536 < (s.size : Int)) := by omega
    unfold maxLen at hs
    clear hr hT hat
    rcases hr2 with h | h | h
    all_goals
      go_enter Tryd.func13, Tryd.ntmps13
      go_wp2_with fail
      refine (HAl.out _ (Grew.refl w)).mono ?_; rintro e w1 ⟨rfl, g1⟩
      have HG := hidd g1
      clear g1
      go_wp2_with fail
      go_ret
      exact ⟨rfl, HG.out⟩
  · have H := hidd (And.intro hr (And.intro hs hT))
    have h0 : 0 ≤ n := by omega
    have h1 : n ≤ (s.size : Int) := by omega
    have h2 : (s.size : Int) ≤ 65536 := by omega
    have HC : Hid (∀ (k m : Int) w1, (0 ≤ k ∧ k ≤ 24) → (0 ≤ m ∧ m ≤ 65536) → Calls Tryd.prog 27 #[.int .i64 k, .int .i64 m, .string ⟨#[]⟩] w1 fun e w' => e = .returned (.agg #[.int .i64 k, .string ByteArray.empty, .int .i64 m, .string ByteArray.empty, .slice none 0 0]) ∧ Grew w1 w') :=
      fun k m w1 hk hm => (some_any k m ByteArray.empty w1 (by omega) (by omega) (Nat.zero_le _)).mono fun e w' h => ⟨h.1, h.2.1⟩
    have HK : Hid (∀ (k m k' m' : Int) w1, (0 ≤ k ∧ k ≤ 24) → (0 ≤ m ∧ m ≤ 65536) → (0 ≤ k' ∧ k' ≤ 24) → (0 ≤ m' ∧ m' ≤ 65536) → Grew w w1 → alikeB [] s (someP k m ByteArray.empty) (someP k' m' ByteArray.empty) at_ = true →
        Calls Tryd.prog 24 #[.slice none 0 0, .agg #[.int .i64 k, .string ByteArray.empty, .int .i64 m, .string ByteArray.empty, .slice none 0 0], .agg #[.int .i64 k', .string ByteArray.empty, .int .i64 m', .string ByteArray.empty, .slice none 0 0], .string s, .int .i64 at_] w1 fun e w' => e = .returned (.bool true) ∧ Grew w1 w') :=
      fun k m k' m' w1 hk hm hk' hm' g ha => (alike_any (p := someP k m ByteArray.empty) (q := someP k' m' ByteArray.empty) at_ (rules_none w1) (some_at k m ByteArray.empty w1 w1 (by omega) (by omega) (Nat.zero_le _)) (some_at k' m' ByteArray.empty w1 w1 (by omega) (by omega) (Nat.zero_le _)) hs (hT.kept g)).mono fun e w' h => ⟨by rw [h.1, ha], h.2⟩
    have A1 := hidd (tabs_rtab (R := []) (s := s) n h0 h1 ByteArray.empty ByteArray.empty at_)
    have A2 := hidd (tabs_rpos (R := []) (s := s) n h0 h1 ByteArray.empty ByteArray.empty at_)
    have A3 := hidd (tabs_rem (R := []) (s := s) ByteArray.empty ByteArray.empty at_)
    have B1 := hidd (show 0 ≤ (s.size : Int) - n ∧ (s.size : Int) - n ≤ 65536 by omega)
    have B2 := hidd (show 0 ≤ n ∧ n ≤ 65536 by omega)
    clear hr hs hT hat hn
    go_enter Tryd.func13, Tryd.ntmps13
    go_wp2_with fail
    refine (HAl.out _ (Grew.refl w)).mono ?_; rintro e w1 ⟨rfl, g1⟩
    have G1 := hidd g1
    clear g1 HAl
    go_wp2_with fail
    refine (HC.out 9 n _ (by omega) B2.out).mono ?_; rintro e w2 ⟨rfl, g2⟩
    have G2 := hidd (G1.out.trans g2)
    clear g2
    go_wp2_with fail
    refine (HC.out 8 ((s.size : Int) - n) _ (by omega) B1.out).mono ?_; rintro e w3 ⟨rfl, g3⟩
    have G3 := hidd (G2.out.trans g3)
    clear g3
    go_wp2_with fail
    refine (HK.out 9 n 8 ((s.size : Int) - n) _ (by omega) B2.out (by omega) B1.out G3.out A1.out).mono ?_; rintro e w4 ⟨rfl, g4⟩
    have G4 := hidd (G3.out.trans g4)
    clear g4
    go_wp2_with fail
    refine (HC.out 11 n _ (by omega) B2.out).mono ?_; rintro e w5 ⟨rfl, g5⟩
    have G5 := hidd (G4.out.trans g5)
    clear g5
    go_wp2_with fail
    refine (HC.out 10 ((s.size : Int) - n) _ (by omega) B1.out).mono ?_; rintro e w6 ⟨rfl, g6⟩
    have G6 := hidd (G5.out.trans g6)
    clear g6
    go_wp2_with fail
    refine (HK.out 11 n 10 ((s.size : Int) - n) _ (by omega) B2.out (by omega) B1.out G6.out A2.out).mono ?_; rintro e w7 ⟨rfl, g7⟩
    have G7 := hidd (G6.out.trans g7)
    clear g7
    go_wp2_with fail
    refine (HC.out 12 0 _ (by omega) (by omega)).mono ?_; rintro e w8 ⟨rfl, g8⟩
    have G8 := hidd (G7.out.trans g8)
    clear g8
    go_wp2_with fail
    refine (HC.out 9 0 _ (by omega) (by omega)).mono ?_; rintro e w9 ⟨rfl, g9⟩
    have G9 := hidd (G8.out.trans g9)
    clear g9
    go_wp2_with fail
    refine (HK.out 12 0 9 0 _ (by omega) (by omega) (by omega) (by omega) G9.out A3.out).mono ?_; rintro e w10 ⟨rfl, g10⟩
    have G10 := hidd (G9.out.trans g10)
    clear g10
    go_wp2_with fail
    go_ret
    exact ⟨rfl, G10.out⟩
end
end Go.Proofs.YtmkldfjcpmoajaaDoor
