/- NumbersTurn: at every number, base and text. Conditions: the library's tables and errors. -/
import Derived.Test.YthhcpocgfmlbeaaDoorFmN
import Derived.Test.YthhcpocgfmlbeaaDoorFmV
namespace Go.Proofs.YthhcpocgfmlbeaaDoor
open Go.RowKit
set_option linter.unusedVariables false
/-- What the library's own variables hold. -/
def TurnD (w : World) : Prop := TabD w ∧ TabZ w ∧ ErrsD w
theorem TurnD.grew {w w' : World} (h : TurnD w) (g : Grew w w') : TurnD w' := ⟨h.1.grew g, h.2.1.kept g, h.2.2.grew g⟩
theorem radix_len2 {b : Nat} (hb : 2 ≤ b) : ∀ (k u : Nat), u < 2 ^ (k + 1) → (radix b u).length ≤ k + 1
  | 0, u, h => by rw [radix_low (by simp at h; omega)]; simp
  | k + 1, u, h => by
    by_cases hu : u < b
    · rw [radix_low hu]; simp
    · rw [radix_high (by omega) hb, List.length_append]
      have h2 : u / b ≤ u / 2 := Nat.div_le_div_left hb (by omega)
      have := radix_len2 hb k (u / b) (by rw [Nat.pow_succ] at h; omega)
      simp; omega
theorem fmN_len {b : Nat} (hb : 2 ≤ b) {n : Int} (hn : In64 n) : (fmN b n).length ≤ 65 := by
  obtain ⟨h0, h1⟩ := hn
  have := radix_len2 hb 63 n.natAbs (by rw [show (2 : Nat) ^ (63 + 1) = 18446744073709551616 by decide]; omega)
  unfold fmN; split
  · rw [List.length_cons]; omega
  · omega
set_option maxRecDepth 100000 in
theorem Read_much (t : ByteArray) (h : 65536 < t.size) (w : World) : Calls Tryd.prog 18 #[.string t] w fun e w' => e = .returned (.tuple #[.int .i64 0, .int .i64 4]) ∧ Grew w w' := by
  have e4 : decide ((65536 : Int) < (t.size : Int)) = true := decide_eq_true (by omega)
  go_enter Tryd.func18, Tryd.ntmps18
  go_wp2_with fail
  go_ret2
  exact ⟨rfl, Grew.refl _⟩
theorem readR_two (l : List UInt8) : ∃ c e : Int, readR l = .returned (.tuple #[.int .i64 c, .int .i64 e]) ∧ In64 c := by
  have h0 : In64 0 := by unfold In64; omega
  unfold readR
  split
  · exact ⟨_, _, rfl, h0⟩
  · split
    · exact ⟨_, _, rfl, h0⟩
    · unfold pIntR
      cases hp : Lib.parseIntB 64 (Lib.trimS l [32, 9]) with
      | ok v =>
        have := Lib.parseIntB_bounds hp
        refine ⟨_, _, rfl, ?_⟩
        unfold In64
        rw [show ((2 ^ (64 - 1) : Nat) : Int) = 9223372036854775808 by decide] at this
        omega
      | range => exact ⟨_, _, rfl, h0⟩
      | _ => exact ⟨_, _, rfl, h0⟩
theorem read_two (t : ByteArray) (w : World) (hw : TurnD w) : ∃ c e : Int, In64 c ∧ (e = 0 → c ≠ 0 → (Lib.itoa c).length ≤ t.size) ∧ ∀ w1, Grew w w1 → Calls Tryd.prog 18 #[.string t] w1 fun r w' => r = .returned (.tuple #[.int .i64 c, .int .i64 e]) ∧ Grew w1 w' := by
  by_cases h : 65536 < t.size
  · exact ⟨0, 4, by unfold In64; omega, fun h => by omega, fun w1 _ => Read_much t h w1⟩
  · obtain ⟨c, e, hr, hc⟩ := readR_two t.data.toList
    refine ⟨c, e, hc, fun he hc0 => ?_, fun w1 g => ?_⟩
    · subst he; rw [size_data t]; exact read_len hr hc0
    · rw [← hr]; exact Read_any t (by omega) w1 (hw.2.2.grew g)
theorem base_two (n b : Int) (w : World) (hw : TurnD w) (hn : In64 n) : (∃ B : ByteArray, (∀ w1, Grew w w1 → Calls Tryd.prog 20 #[.int .i64 n, .int .i64 b] w1 fun r w' => r = .returned (.tuple #[.string B, .int .i64 0]) ∧ Grew w1 w') ∧ (∀ w1, Calls Tryd.prog 23 #[.string B, .int .i64 b] w1 fun r w' => r = .returned (.tuple #[.int .i64 n, .int .i64 0]) ∧ Grew w1 w')) ∨ (∀ w1, Calls Tryd.prog 20 #[.int .i64 n, .int .i64 b] w1 fun r w' => r = .returned (.tuple #[.string ⟨#[]⟩, .int .i64 3]) ∧ Grew w1 w') := by
  by_cases h : b < 2 ∨ 36 < b
  · exact Or.inr fun w1 => Base_none n b h w1
  · obtain ⟨k, rfl⟩ : ∃ k : Nat, b = k := ⟨b.toNat, by omega⟩
    have hb : 2 ≤ k := by omega
    have h36 : k ≤ 36 := by omega
    refine Or.inl ⟨⟨(fmN k n).toArray⟩, fun w1 g => Base_any n hn k hb h36 w1 (hw.1.grew g) (hw.2.1.kept g), fun w1 => ?_⟩
    have hs : (⟨(fmN k n).toArray⟩ : ByteArray).size ≤ 65536 := by
      have := fmN_len hb hn
      rw [size_data, str_of]; omega
    have := Unbase_any ⟨(fmN k n).toArray⟩ k hb h36 hs w1
    rw [str_of, unb_back k hb h36 n hn] at this
    exact this
set_option maxRecDepth 100000 in
set_option maxHeartbeats 2000000 in
theorem NumbersTurn_walk (n b : Int) (t : ByteArray) (w : World) (hw : TurnD w) (hn0 : (Lit.int .i64 n).wf = true) (hb0 : (Lit.int .i64 b).wf = true) (htz : t.size ≤ maxLen) :
    Calls Tryd.prog 8 #[.int .i64 n, .int .i64 b, .string t] w fun e w' => e = .returned (.bool true) ∧ Grew w w' := by
  have hn : In64 n := bd_i64 hn0
  have HW := hidd hw
  obtain ⟨P, hP⟩ : ∃ P : ByteArray, (⟨(Lib.itoa n).toArray⟩ : ByteArray) = P := ⟨_, rfl⟩
  have HP1 : Hid (∀ w1, Grew w w1 → Calls Tryd.prog 22 #[.int .i64 n] w1 fun r w' => r = .returned (.string P) ∧ Grew w1 w') := fun w1 g => by rw [← hP]; exact Print_any n hn w1 (HW.out.1.grew g)
  have HR1 : Hid (∀ w1, Grew w w1 → Calls Tryd.prog 18 #[.string P] w1 fun r w' => r = .returned (.tuple #[.int .i64 n, .int .i64 0]) ∧ Grew w1 w') := fun w1 g => by
    have hs : P.size ≤ 65536 := by
      have := fmN_len (b := 10) (by omega) hn
      rw [← hP, size_data, str_of, itoa_fmN]; omega
    have := Read_any P hs w1 (HW.out.2.2.grew g)
    rw [← hP, str_of, read_back n hn, hP] at this
    exact this
  have hB := base_two n b w hw hn
  obtain ⟨c, e, hc, hlen, hRd⟩ := read_two t w hw
  have HR2 := hidd hRd
  have HA := hidd (alive_true w hw.1)
  obtain ⟨D, hD⟩ : ∃ D : ByteArray, (⟨(Lib.itoa c).toArray⟩ : ByteArray) = D := ⟨_, rfl⟩
  have HP2 : Hid (∀ w1, Grew w w1 → Calls Tryd.prog 22 #[.int .i64 c] w1 fun r w' => r = .returned (.string D) ∧ Grew w1 w') := fun w1 g => by rw [← hD]; exact Print_any c hc w1 (HW.out.1.grew g)
  have hDs : D.size = (Lib.itoa c).length := by rw [← hD, size_data, str_of]
  have hD0 : c = 0 → D = ⟨#[48]⟩ := fun h => by rw [← hD, h, show Lib.itoa 0 = [48] from by decide +kernel]
  have hfin : e ≠ 0 ∨ (e = 0 ∧ D.size ≤ t.size) ∨ (e = 0 ∧ c = 0 ∧ t.size = 0 ∧ D = ⟨#[48]⟩) := by
    by_cases he : e = 0
    · by_cases hc0 : c = 0
      · by_cases ht : t.size = 0
        · exact Or.inr (Or.inr ⟨he, hc0, ht, hD0 hc0⟩)
        · exact Or.inr (Or.inl ⟨he, by rw [hD0 hc0]; show 1 ≤ t.size; omega⟩)
      · exact Or.inr (Or.inl ⟨he, by rw [hDs]; exact hlen he hc0⟩)
    · exact Or.inl he
  clear hw hn hn0 hP hRd hD hDs hD0 hlen hc
  rcases hB with ⟨B, hb1, hb2⟩ | hb1
  · have HB1 := hidd hb1
    have HB2 := hidd hb2
    clear hb1 hb2
    rcases hfin with he | ⟨rfl, hle⟩ | ⟨rfl, rfl, ht0, rfl⟩
    · have x1 : (e == 0) = false := by rw [beq_eq_false_iff_ne]; exact he
      clear he
      go_enter Tryd.func8, Tryd.ntmps8
      go_wp2_with fail
      refine HA.out.mono ?_; rintro r w1 ⟨rfl, g1⟩
      have G1 := hidd g1
      clear g1
      go_wp2_with fail
      refine (HP1.out _ G1.out).mono ?_; rintro r w2 ⟨rfl, g2⟩
      have G2 := hidd (G1.out.trans g2)
      clear g2
      go_wp2_with fail
      refine (HR1.out _ G2.out).mono ?_; rintro r w3 ⟨rfl, g3⟩
      have G3 := hidd (G2.out.trans g3)
      clear g3
      go_wp2_with fail
      refine (HB1.out _ G3.out).mono ?_; rintro r w4 ⟨rfl, g4⟩
      have G4 := hidd (G3.out.trans g4)
      clear g4
      go_wp2_with fail
      refine (HB2.out _).mono ?_; rintro r w5 ⟨rfl, g5⟩
      have G5 := hidd (G4.out.trans g5)
      clear g5
      go_wp2_with fail
      refine (HR2.out _ G5.out).mono ?_; rintro r w6 ⟨rfl, g6⟩
      have G6 := hidd (G5.out.trans g6)
      clear g6
      go_wp2_with fail
      go_ret
      exact ⟨rfl, G6.out⟩
    · have x1 : decide ((D.size : Int) ≤ (t.size : Int)) = true := decide_eq_true (by omega)
      have x2 : decide (D.size ≤ t.size) = true := decide_eq_true hle
      go_enter Tryd.func8, Tryd.ntmps8
      go_wp2_with fail
      refine HA.out.mono ?_; rintro r w1 ⟨rfl, g1⟩
      have G1 := hidd g1
      clear g1
      go_wp2_with fail
      refine (HP1.out _ G1.out).mono ?_; rintro r w2 ⟨rfl, g2⟩
      have G2 := hidd (G1.out.trans g2)
      clear g2
      go_wp2_with fail
      refine (HR1.out _ G2.out).mono ?_; rintro r w3 ⟨rfl, g3⟩
      have G3 := hidd (G2.out.trans g3)
      clear g3
      go_wp2_with fail
      refine (HB1.out _ G3.out).mono ?_; rintro r w4 ⟨rfl, g4⟩
      have G4 := hidd (G3.out.trans g4)
      clear g4
      go_wp2_with fail
      refine (HB2.out _).mono ?_; rintro r w5 ⟨rfl, g5⟩
      have G5 := hidd (G4.out.trans g5)
      clear g5
      go_wp2_with fail
      refine (HR2.out _ G5.out).mono ?_; rintro r w6 ⟨rfl, g6⟩
      have G6 := hidd (G5.out.trans g6)
      clear g6
      go_wp2_with fail
      refine (HP2.out _ G6.out).mono ?_; rintro r w7 ⟨rfl, g7⟩
      replace G6 := hidd (G6.out.trans g7)
      clear g7
      go_wp2_with fail
      go_ret
      exact ⟨rfl, G6.out⟩
    · have x1 : t.toList.isEmpty = true := by rw [nil_of_size ht0]; rfl
      go_enter Tryd.func8, Tryd.ntmps8
      go_wp2_with fail
      refine HA.out.mono ?_; rintro r w1 ⟨rfl, g1⟩
      have G1 := hidd g1
      clear g1
      go_wp2_with fail
      refine (HP1.out _ G1.out).mono ?_; rintro r w2 ⟨rfl, g2⟩
      have G2 := hidd (G1.out.trans g2)
      clear g2
      go_wp2_with fail
      refine (HR1.out _ G2.out).mono ?_; rintro r w3 ⟨rfl, g3⟩
      have G3 := hidd (G2.out.trans g3)
      clear g3
      go_wp2_with fail
      refine (HB1.out _ G3.out).mono ?_; rintro r w4 ⟨rfl, g4⟩
      have G4 := hidd (G3.out.trans g4)
      clear g4
      go_wp2_with fail
      refine (HB2.out _).mono ?_; rintro r w5 ⟨rfl, g5⟩
      have G5 := hidd (G4.out.trans g5)
      clear g5
      go_wp2_with fail
      refine (HR2.out _ G5.out).mono ?_; rintro r w6 ⟨rfl, g6⟩
      have G6 := hidd (G5.out.trans g6)
      clear g6
      go_wp2_with fail
      refine (HP2.out _ G6.out).mono ?_; rintro r w7 ⟨rfl, g7⟩
      replace G6 := hidd (G6.out.trans g7)
      clear g7
      go_wp2_with fail
      go_ret
      exact ⟨rfl, G6.out⟩
  · have HB1 := hidd hb1
    clear hb1
    rcases hfin with he | ⟨rfl, hle⟩ | ⟨rfl, rfl, ht0, rfl⟩
    · have x1 : (e == 0) = false := by rw [beq_eq_false_iff_ne]; exact he
      clear he
      go_enter Tryd.func8, Tryd.ntmps8
      go_wp2_with fail
      refine HA.out.mono ?_; rintro r w1 ⟨rfl, g1⟩
      have G1 := hidd g1
      clear g1
      go_wp2_with fail
      refine (HP1.out _ G1.out).mono ?_; rintro r w2 ⟨rfl, g2⟩
      have G2 := hidd (G1.out.trans g2)
      clear g2
      go_wp2_with fail
      refine (HR1.out _ G2.out).mono ?_; rintro r w3 ⟨rfl, g3⟩
      have G3 := hidd (G2.out.trans g3)
      clear g3
      go_wp2_with fail
      refine (HB1.out _).mono ?_; rintro r w5 ⟨rfl, g5⟩
      have G5 := hidd (G3.out.trans g5)
      clear g5
      go_wp2_with fail
      refine (HR2.out _ G5.out).mono ?_; rintro r w6 ⟨rfl, g6⟩
      have G6 := hidd (G5.out.trans g6)
      clear g6
      go_wp2_with fail
      go_ret
      exact ⟨rfl, G6.out⟩
    · have x1 : decide ((D.size : Int) ≤ (t.size : Int)) = true := decide_eq_true (by omega)
      have x2 : decide (D.size ≤ t.size) = true := decide_eq_true hle
      go_enter Tryd.func8, Tryd.ntmps8
      go_wp2_with fail
      refine HA.out.mono ?_; rintro r w1 ⟨rfl, g1⟩
      have G1 := hidd g1
      clear g1
      go_wp2_with fail
      refine (HP1.out _ G1.out).mono ?_; rintro r w2 ⟨rfl, g2⟩
      have G2 := hidd (G1.out.trans g2)
      clear g2
      go_wp2_with fail
      refine (HR1.out _ G2.out).mono ?_; rintro r w3 ⟨rfl, g3⟩
      have G3 := hidd (G2.out.trans g3)
      clear g3
      go_wp2_with fail
      refine (HB1.out _).mono ?_; rintro r w5 ⟨rfl, g5⟩
      have G5 := hidd (G3.out.trans g5)
      clear g5
      go_wp2_with fail
      refine (HR2.out _ G5.out).mono ?_; rintro r w6 ⟨rfl, g6⟩
      have G6 := hidd (G5.out.trans g6)
      clear g6
      go_wp2_with fail
      refine (HP2.out _ G6.out).mono ?_; rintro r w7 ⟨rfl, g7⟩
      replace G6 := hidd (G6.out.trans g7)
      clear g7
      go_wp2_with fail
      go_ret
      exact ⟨rfl, G6.out⟩
    · have x1 : t.toList.isEmpty = true := by rw [nil_of_size ht0]; rfl
      go_enter Tryd.func8, Tryd.ntmps8
      go_wp2_with fail
      refine HA.out.mono ?_; rintro r w1 ⟨rfl, g1⟩
      have G1 := hidd g1
      clear g1
      go_wp2_with fail
      refine (HP1.out _ G1.out).mono ?_; rintro r w2 ⟨rfl, g2⟩
      have G2 := hidd (G1.out.trans g2)
      clear g2
      go_wp2_with fail
      refine (HR1.out _ G2.out).mono ?_; rintro r w3 ⟨rfl, g3⟩
      have G3 := hidd (G2.out.trans g3)
      clear g3
      go_wp2_with fail
      refine (HB1.out _).mono ?_; rintro r w5 ⟨rfl, g5⟩
      have G5 := hidd (G3.out.trans g5)
      clear g5
      go_wp2_with fail
      refine (HR2.out _ G5.out).mono ?_; rintro r w6 ⟨rfl, g6⟩
      have G6 := hidd (G5.out.trans g6)
      clear g6
      go_wp2_with fail
      refine (HP2.out _ G6.out).mono ?_; rintro r w7 ⟨rfl, g7⟩
      replace G6 := hidd (G6.out.trans g7)
      clear g7
      go_wp2_with fail
      go_ret
      exact ⟨rfl, G6.out⟩
end Go.Proofs.YthhcpocgfmlbeaaDoor
