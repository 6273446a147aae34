/- NumbersRead: at every text, number and base. Conditions: the library's tables and errors. -/
import Derived.Test.YthhcpocgfmlbeaaDoorNumTurn
import Derived.Test.YthhcpocgfmlbeaaDoorNrC
import Derived.Test.YthhcpocgfmlbeaaDoorNrE
namespace Go.Proofs.YthhcpocgfmlbeaaDoor
open Go.RowKit
set_option linter.unusedVariables false
set_option maxRecDepth 100000 in
theorem Unbase_none (t : ByteArray) (b : Int) (h : b < 2 ∨ 36 < b) (w : World) :
    Calls Tryd.prog 23 #[.string t, .int .i64 b] w fun e w' => e = .returned (.tuple #[.int .i64 0, .int .i64 3]) ∧ Grew w w' := by
  by_cases h2 : b < 2
  · have e2 : decide (b < 2) = true := decide_eq_true h2
    clear h
    go_enter Tryd.func23, Tryd.ntmps23
    go_wp2_with fail
    go_ret2
    exact ⟨rfl, Grew.refl _⟩
  · have e2 : decide (b < 2) = false := decide_eq_false h2
    have e3 : decide (36 < b) = true := decide_eq_true (by omega)
    clear h
    go_enter Tryd.func23, Tryd.ntmps23
    go_wp2_with fail
    go_ret2
    exact ⟨rfl, Grew.refl _⟩
set_option maxRecDepth 100000 in
theorem Unbase_much (t : ByteArray) (b : Nat) (hb : 2 ≤ b) (h36 : b ≤ 36) (hs : t.size ≤ maxLen) (h : 65536 < t.size) (w : World) :
    Calls Tryd.prog 23 #[.string t, .int .i64 (b : Nat)] w fun e w' => e = .returned (.tuple #[.int .i64 0, .int .i64 4]) ∧ Grew w w' := by
  unfold maxLen at hs
  have e2 : decide ((b : Int) < 2) = false := decide_eq_false (by omega)
  have e3 : decide ((36 : Int) < (b : Int)) = false := decide_eq_false (by omega)
  have e4 : decide ((65536 : Int) < (t.size : Int)) = true := decide_eq_true (by omega)
  have e5 : decide (65536 < t.size) = true := decide_eq_true h
  go_enter Tryd.func23, Tryd.ntmps23
  go_wp2_with fail
  go_ret2
  exact ⟨rfl, Grew.refl _⟩
theorem unbR_two (b : Nat) (l : List UInt8) : ∃ c e : Int, unbR b l = .returned (.tuple #[.int .i64 c, .int .i64 e]) := by
  unfold unbR
  split
  · exact ⟨_, _, rfl⟩
  · split
    · exact ⟨_, _, rfl⟩
    · exact ⟨_, _, rfl⟩
theorem both_read (t : ByteArray) (w : World) (hw : TurnD w) (ht : t.size ≤ maxLen) : ∃ c e : Int, (∀ w1, Grew w w1 → Calls Tryd.prog 18 #[.string t] w1 fun r w' => r = .returned (.tuple #[.int .i64 c, .int .i64 e]) ∧ Grew w1 w') ∧ (∀ w1, Calls Tryd.prog 19 #[.string t] w1 fun r w' => r = .returned (.tuple #[.int .i64 c, .int .i64 e]) ∧ Grew w1 w') := by
  by_cases h : 65536 < t.size
  · exact ⟨0, 4, fun w1 _ => Read_much t h w1, fun w1 => RRead_much t ht h w1⟩
  · obtain ⟨c, e, hr, hc⟩ := readR_two t.data.toList
    refine ⟨c, e, ?_⟩
    rw [← hr]
    exact ⟨fun w1 g => Read_any t (by omega) w1 (hw.2.2.grew g), fun w1 => RRead_any t (by omega) w1⟩
theorem both_base (n b : Int) (w : World) (hw : TurnD w) (hn : In64 n) : ∃ (B : ByteArray) (e : Int), (∀ w1, Grew w w1 → Calls Tryd.prog 20 #[.int .i64 n, .int .i64 b] w1 fun r w' => r = .returned (.tuple #[.string B, .int .i64 e]) ∧ Grew w1 w') ∧ (∀ w1, Calls Tryd.prog 21 #[.int .i64 n, .int .i64 b] w1 fun r w' => r = .returned (.tuple #[.string B, .int .i64 e]) ∧ Grew w1 w') := by
  by_cases h : b < 2 ∨ 36 < b
  · exact ⟨_, _, fun w1 _ => Base_none n b h w1, fun w1 => RBase_none n b h w1⟩
  · obtain ⟨k, rfl⟩ : ∃ k : Nat, b = k := ⟨b.toNat, by omega⟩
    have hb : 2 ≤ k := by omega
    have h36 : k ≤ 36 := by omega
    exact ⟨_, _, fun w1 g => Base_any n hn k hb h36 w1 (hw.1.grew g) (hw.2.1.kept g), fun w1 => RBase_any n hn k hb h36 w1⟩
theorem both_unbase (t : ByteArray) (b : Int) (ht : t.size ≤ maxLen) : ∃ c e : Int, (∀ w1, Calls Tryd.prog 23 #[.string t, .int .i64 b] w1 fun r w' => r = .returned (.tuple #[.int .i64 c, .int .i64 e]) ∧ Grew w1 w') ∧ (∀ w1, Calls Tryd.prog 24 #[.string t, .int .i64 b] w1 fun r w' => r = .returned (.tuple #[.int .i64 c, .int .i64 e]) ∧ Grew w1 w') := by
  by_cases h : b < 2 ∨ 36 < b
  · exact ⟨_, _, fun w1 => Unbase_none t b h w1, fun w1 => RUnbase_none t b h w1⟩
  · obtain ⟨k, rfl⟩ : ∃ k : Nat, b = k := ⟨b.toNat, by omega⟩
    have hb : 2 ≤ k := by omega
    have h36 : k ≤ 36 := by omega
    by_cases hm : 65536 < t.size
    · exact ⟨_, _, fun w1 => Unbase_much t k hb h36 ht hm w1, fun w1 => RUnbase_much t k hb h36 ht hm w1⟩
    · obtain ⟨c, e, hr⟩ := unbR_two k t.data.toList
      refine ⟨c, e, ?_⟩
      rw [← hr]
      exact ⟨fun w1 => Unbase_any t k hb h36 (by omega) w1, fun w1 => RUnbase_any t k hb h36 (by omega) w1⟩
set_option maxRecDepth 100000 in
set_option maxHeartbeats 2000000 in
theorem NumbersRead_walk (t : ByteArray) (n b : Int) (w : World) (hw : TurnD w) (htz : t.size ≤ maxLen) (hn0 : (Lit.int .i64 n).wf = true) (hb0 : (Lit.int .i64 b).wf = true) :
    Calls Tryd.prog 7 #[.string t, .int .i64 n, .int .i64 b] w fun e w' => e = .returned (.bool true) ∧ Grew w w' := by
  have hn : In64 n := bd_i64 hn0
  obtain ⟨c, e, P1, P2⟩ := both_read t w hw htz
  obtain ⟨B, eb, P3, P4⟩ := both_base n b w hw hn
  obtain ⟨c2, e2, P5, P6⟩ := both_unbase t b htz
  have P7 : ∀ w1, Calls Tryd.prog 21 #[.int .i64 n, .int .i64 10] w1 fun r w' => r = .returned (.tuple #[.string ⟨(Lib.itoa n).toArray⟩, .int .i64 0]) ∧ Grew w1 w' := fun w1 => by
    rw [itoa_fmN]; exact RBase_any n hn 10 (by omega) (by omega) w1
  have P8 : ∀ w1, Grew w w1 → Calls Tryd.prog 22 #[.int .i64 n] w1 fun r w' => r = .returned (.string ⟨(Lib.itoa n).toArray⟩) ∧ Grew w1 w' := fun w1 g => Print_any n hn w1 (hw.1.grew g)
  obtain ⟨T, hT⟩ : ∃ T : ByteArray, (⟨(Lib.itoa n).toArray⟩ : ByteArray) = T := ⟨_, rfl⟩
  rw [hT] at P7 P8
  have Q1 := hidd P1; have Q2 := hidd P2; have Q3 := hidd P3; have Q4 := hidd P4; have Q5 := hidd P5; have Q6 := hidd P6; have Q7 := hidd P7; have Q8 := hidd P8
  clear P1 P2 P3 P4 P5 P6 P7 P8 hn hn0 hb0 hw hT htz
  go_enter Tryd.func7, Tryd.ntmps7
  go_wp2_with fail
  refine (Q1.out w (Grew.refl w)).mono ?_; rintro r w1 ⟨rfl, g1⟩
  have H := hidd g1
  clear g1
  go_wp2_with fail
  refine (Q2.out w1).mono ?_; rintro r w2 ⟨rfl, g2⟩
  replace H := hidd (H.out.trans g2)
  clear g2
  go_wp2_with fail
  refine (Q3.out w2 H.out).mono ?_; rintro r w3 ⟨rfl, g3⟩
  replace H := hidd (H.out.trans g3)
  clear g3
  go_wp2_with fail
  refine (Q4.out w3).mono ?_; rintro r w4 ⟨rfl, g4⟩
  replace H := hidd (H.out.trans g4)
  clear g4
  go_wp2_with fail
  refine (Q7.out w4).mono ?_; rintro r w5 ⟨rfl, g5⟩
  replace H := hidd (H.out.trans g5)
  clear g5
  go_wp2_with fail
  refine (Q8.out w5 H.out).mono ?_; rintro r w6 ⟨rfl, g6⟩
  replace H := hidd (H.out.trans g6)
  clear g6
  go_wp2_with fail
  refine (Q5.out w6).mono ?_; rintro r w7 ⟨rfl, g7⟩
  replace H := hidd (H.out.trans g7)
  clear g7
  go_wp2_with fail
  refine (Q6.out w7).mono ?_; rintro r w8 ⟨rfl, g8⟩
  replace H := hidd (H.out.trans g8)
  clear g8
  go_wp2_with fail
  go_ret
  exact ⟨rfl, H.out⟩
end Go.Proofs.YthhcpocgfmlbeaaDoor
