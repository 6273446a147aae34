/- FormatInt at every base; numbers.Base. Conditions: the library's two tables. -/
import Derived.Test.YthhcpocgfmlbeaaDoorFmG
import Derived.Test.YthhcpocgfmlbeaaDoorFmQ
import Derived.Test.YthhcpocgfmlbeaaDoorNumAlive
namespace Go.Proofs.YthhcpocgfmlbeaaDoor
open Go.RowKit
set_option linter.unusedVariables false
def fmN (b : Nat) (n : Int) : List UInt8 := if n < 0 then 45 :: radix b n.natAbs else radix b n.natAbs
theorem decDigits_radix (u : Nat) : Lib.decDigits u = radix 10 u := by
  induction u using Nat.strongRecOn with
  | ind u ih =>
    by_cases h : u < 10
    · rw [Lib.decDigits, dif_pos h, radix_low h]; unfold digB; rw [if_pos h]
    · rw [Lib.decDigits, dif_neg h, radix_high (by omega) (by omega), ih _ (by omega)]; unfold digB; rw [if_pos (by omega)]
theorem itoa_fmN (n : Int) : Lib.itoa n = fmN 10 n := by
  unfold Lib.itoa fmN
  by_cases h : n < 0
  · rw [if_pos h, if_pos h, decDigits_radix]
  · rw [if_neg h, if_neg h, decDigits_radix]; congr 1; omega
/-- formatBits: every base but ten. -/
theorem formatBits_any (n : Int) (hn : In64 n) (b : Nat) (hb : 2 ≤ b) (h36 : b ≤ 36) (h10 : b ≠ 10) (w : World) (hz : TabZ w) :
    Calls Tryd.prog 80 #[.slice none 0 0, .int .u64 (IntKind.u64.wrap n), .int .i64 (b : Nat), .bool (decide (n < 0)), .bool false] w fun e w' => e = .returned (.tuple #[.slice none 0 0, .string ⟨(fmN b n).toArray⟩]) ∧ Grew w w' := by
  have hu64 : n.natAbs < 18446744073709551616 := by obtain ⟨h0, h1⟩ := hn; omega
  by_cases h : n < 0
  · have hU : IntKind.u64.wrap (-(IntKind.u64.wrap n)) = (n.natAbs : Int) := by obtain ⟨h0, h1⟩ := hn; rw [IntKind.wrap_u64, IntKind.wrap_u64]; omega
    rw [decide_eq_true h, show fmN b n = 45 :: radix b n.natAbs from if_pos h]
    by_cases h2 : b = 2
    · subst h2; exact fb_2_neg _ _ hu64 hU w hz
    by_cases h4 : b = 4
    · subst h4; exact fb_4_neg _ _ hu64 hU w hz
    by_cases h8 : b = 8
    · subst h8; exact fb_8_neg _ _ hu64 hU w hz
    by_cases h16 : b = 16
    · subst h16; exact fb_16_neg _ _ hu64 hU w hz
    by_cases h32 : b = 32
    · subst h32; exact fb_32_neg _ _ hu64 hU w hz
    exact fb_gen_neg _ _ hu64 hU b hb h36 ⟨h2, h4, h8, h16, h32⟩ h10 w
  · have hU : IntKind.u64.wrap n = (n.natAbs : Int) := by obtain ⟨h0, h1⟩ := hn; rw [IntKind.wrap_u64]; omega
    rw [decide_eq_false h, show fmN b n = radix b n.natAbs from if_neg h]
    by_cases h2 : b = 2
    · subst h2; exact fb_2 _ _ hu64 hU w hz
    by_cases h4 : b = 4
    · subst h4; exact fb_4 _ _ hu64 hU w hz
    by_cases h8 : b = 8
    · subst h8; exact fb_8 _ _ hu64 hU w hz
    by_cases h16 : b = 16
    · subst h16; exact fb_16 _ _ hu64 hU w hz
    by_cases h32 : b = 32
    · subst h32; exact fb_32 _ _ hu64 hU w hz
    exact fb_gen _ _ hu64 hU b hb h36 ⟨h2, h4, h8, h16, h32⟩ h10 w
set_option maxRecDepth 100000 in
set_option maxHeartbeats 2000000 in
theorem FormatInt_any (n : Int) (hn : In64 n) (b : Nat) (hb : 2 ≤ b) (h36 : b ≤ 36) (w : World) (ht : TabD w) (hz : TabZ w) :
    Calls Tryd.prog 33 #[.int .i64 n, .int .i64 (b : Nat)] w fun e w' => e = .returned (.string ⟨(fmN b n).toArray⟩) ∧ Grew w w' := by
  by_cases h10 : b = 10
  · subst h10
    rw [← itoa_fmN]
    exact FormatInt10 n hn w ht
  · have HF := hidd (formatBits_any n hn b hb h36 h10 w hz)
    have e1 : ((b : Int) == 10) = false := by rw [beq_eq_false_iff_ne]; omega
    obtain ⟨s, hs⟩ : ∃ s, decide (n < 0) = s := ⟨_, rfl⟩
    rw [hs] at HF
    have HI : Hid (Calls Tryd.prog 57 #[.int .i64 n, .int .i64 (b : Nat)] w fun e w' => e = .returned (.string ⟨(fmN b n).toArray⟩) ∧ Grew w w') := by
      clear hn h10 ht hz
      unfold Hid
      go_enter Tryd.func57, Tryd.ntmps57
      go_wp2_with fail
      refine HF.out.mono ?_; rintro e w1 ⟨rfl, g1⟩
      go_wp2_with fail
      go_ret
      exact ⟨rfl, g1⟩
    clear hn h10 ht hz
    go_enter Tryd.func33, Tryd.ntmps33
    go_wp2_with fail
    refine HI.out.mono ?_; rintro e w1 ⟨rfl, g1⟩
    go_wp2_with fail
    go_ret
    exact ⟨rfl, g1⟩
set_option maxRecDepth 100000 in
theorem Base_any (n : Int) (hn : In64 n) (b : Nat) (hb : 2 ≤ b) (h36 : b ≤ 36) (w : World) (ht : TabD w) (hz : TabZ w) :
    Calls Tryd.prog 20 #[.int .i64 n, .int .i64 (b : Nat)] w fun e w' => e = .returned (.tuple #[.string ⟨(fmN b n).toArray⟩, .int .i64 0]) ∧ Grew w w' := by
  have HF := hidd (FormatInt_any n hn b hb h36 w ht hz)
  have e2 : decide ((b : Int) < 2) = false := decide_eq_false (by omega)
  have e3 : decide ((36 : Int) < (b : Int)) = false := decide_eq_false (by omega)
  clear hn ht hz
  go_enter Tryd.func20, Tryd.ntmps20
  go_wp2_with fail
  refine HF.out.mono ?_; rintro e w1 ⟨rfl, g1⟩
  go_wp2_with fail
  go_ret2
  exact ⟨rfl, g1⟩
set_option maxRecDepth 100000 in
theorem Base_none (n b : Int) (h : b < 2 ∨ 36 < b) (w : World) :
    Calls Tryd.prog 20 #[.int .i64 n, .int .i64 b] w fun e w' => e = .returned (.tuple #[.string ⟨#[]⟩, .int .i64 3]) ∧ Grew w w' := by
  by_cases h2 : b < 2
  · have e2 : decide (b < 2) = true := decide_eq_true h2
    clear h
    go_enter Tryd.func20, Tryd.ntmps20
    go_wp2_with fail
    go_ret2
    exact ⟨rfl, Grew.refl _⟩
  · have e2 : decide (b < 2) = false := decide_eq_false h2
    have e3 : decide (36 < b) = true := decide_eq_true (by omega)
    clear h
    go_enter Tryd.func20, Tryd.ntmps20
    go_wp2_with fail
    go_ret2
    exact ⟨rfl, Grew.refl _⟩
end Go.Proofs.YthhcpocgfmlbeaaDoor
