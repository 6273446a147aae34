/- scanfailbig: SetBit (a bit set in a number of no sign). -/
import Derived.Test.YthhcpocgfmlbeaaBgO
namespace Go.Proofs.Ythhcpocgfmlbeaa
open Go.RowKit
set_option linter.unusedVariables false
section
variable {w : World} {z x y : Nat} {X Y : Int}
set_option maxRecDepth 100000 in
set_option maxHeartbeats 4000000 in
theorem SetBit_own {V i : Nat} (hz : ObjAt w z) (hx : IntAt w x (V : Nat)) (hd : 2 ^ (i + 1) ∣ V) (hi : i ≤ 1000) (hn : nw V ≤ 1000) :
    Calls Try.prog 46 #[.pointer (some ⟨z, 0, none⟩), .pointer (some ⟨x, 0, none⟩), .int .i64 (i : Nat), .int .u64 1] w fun e w' => e = .returned (.pointer (some ⟨z, 0, none⟩)) ∧ But z w w' ∧ IntAt w' z (V + 2 ^ i : Nat) := by
  have HO := hidd hz
  have HX := hidd hx
  obtain ⟨p, c, hh, hp⟩ := hx
  rw [show (V : Int).natAbs = V from rfl] at hh
  obtain ⟨⟨k0, k1⟩, _⟩ := two_cells hh
  obtain ⟨q, hq⟩ : ∃ q, i / 32 = q := ⟨_, rfl⟩
  obtain ⟨s, hs⟩ : ∃ s, i % 32 = s := ⟨_, rfl⟩
  obtain ⟨M, hM⟩ : ∃ M, max (nw V) (q + 1) = M := ⟨_, rfl⟩
  have hM1 : nw V ≤ M := by omega
  have hM2 : q < M := by omega
  have hVM : V < B32 ^ M := Nat.lt_of_lt_of_le (nw_lt V) (Nat.pow_le_pow_right (by decide) hM1)
  obtain ⟨_, _, d3, _⟩ := dg_bit hVM hd (show i = q * 32 + s by omega) (by omega) hM2
  obtain ⟨d1, d2, d4, d5⟩ := dg_bit (n := M + 1) (Nat.lt_trans hVM (Nat.pow_lt_pow_right (by decide) (by omega))) hd (show i = q * 32 + s by omega) (by omega) (by omega)
  have HL : Hid (∀ K : Int, K = ((M + 1 : Nat) : Int) → Calls Try.prog 56 #[.pointer (some ⟨x, 0, none⟩), .int .i64 K] w fun e w' => e = .returned (.slice (some ⟨w.heap.size, 0, none⟩) (M + 1) (M + 1)) ∧ Grew w w' ∧ ArrAt w' w.heap.size 0 (M + 1) (fun j => .int .u32 (dg V j : Nat))) := fun K hK => by rw [hK]; exact low_any (n := M + 1) HX.out (by omega) (by omega)
  have HT : Hid (dg (V + 2 ^ i) M = 0) := dg_high d3 (Nat.le_refl _)
  have HF := hidd (And.intro d4 d5)
  obtain ⟨a1, a2⟩ := andn_clear (dg_lt V q) (show s < 32 by omega) d1
  obtain ⟨d0, hd0⟩ : ∃ d0, dg V q = d0 := ⟨_, rfl⟩
  rw [hd0] at a1 a2 d2
  obtain ⟨t, ht⟩ : ∃ t, 2 ^ s = t := ⟨_, rfl⟩
  rw [ht] at a1 a2 d2
  have HD := hidd hd0
  have HTt := hidd ht
  have f1 : Int.tdiv (i : Int) 32 = (q : Int) := by rw [Int.tdiv_eq_ediv_of_nonneg (by omega)]; omega
  have f2 : (i : Int) / 32 = (q : Int) := by omega
  have f4 : IntKind.u64.wrap (i : Int) = (i : Int) := wrap_u64 (by omega)
  have f5 : (i : Int) % 32 = (s : Int) := by omega
  have f6 : Int.tmod (i : Int) 32 = (s : Int) := by rw [Int.tmod_eq_emod_of_nonneg (by omega)]; omega
  have f7 : IntKind.u64.wrap (s : Int) = (s : Int) := wrap_u64 (by omega)
  have f8 : ((2 ^ s : Nat) : Int) = (t : Int) := by rw [ht]
  have f9 : (2 : Int) ^ s = (t : Int) := by rw [← ht]; simp
  obtain ⟨m, hm0⟩ : ∃ n, nw V = n := ⟨_, rfl⟩
  rw [hm0] at k1 hM
  have hi0 : decide ((i : Int) < 0) = false := decide_eq_false (by omega)
  have hs32 : s < 32 := by omega
  have hb : q ≤ 1000 := by omega
  have hb2 : m ≤ 1000 := by omega
  have f10 : (t : Int) % 4294967296 = (t : Int) := by omega
  have f11 : bits .and .u64 1 1 = 1 := by decide
  clear hz hh hp hd hi hn hq hs hM1 hVM d1 d3 d4 d5 hd0 ht hm0
  go_enter Try.func46, Try.ntmps46
  go_wp2_with fail
  all_goals
    refine (HL.out _ (by omega)).mono ?_; rintro e w1 ⟨rfl, g1, ar1⟩
    have cq : w1.cell? ⟨w.heap.size, q, none⟩ = some (.int .u32 (d0 : Nat)) := by rw [ar1.at0 q (by omega), HD.out]
    have fq := ar1.free0 q (by omega)
    have H1 := hidd (And.intro g1 ar1)
    clear g1 ar1
    go_wp2_with fail
    have HW : Hid (WordsAt ((w1.setCell ⟨w.heap.size, q, none⟩ (.int .u32 (d0 : Nat))).setCell ⟨w.heap.size, q, none⟩ (.int .u32 ((d0 + t : Nat) : Int))) (.slice (some ⟨w.heap.size, 0, none⟩) (M + 1) (M + 1)) (V + 2 ^ i) (M + 1)) :=
      wordsAt_arr (f := updN (dg V) q (dg V q + 2 ^ s)) HF.out.1 HF.out.2 ((arr_upd (v := d0 + t) (arr_upd (v := d0) H1.out.2 (by omega)) (by omega)).congr fun j hj => by
        rw [HD.out, HTt.out]
        unfold updN
        by_cases e : j = q
        · rw [if_pos e, if_pos e]
        · rw [if_neg e, if_neg e, if_neg e]) (Nat.le_refl _) (by omega)
    have HG : Hid (Grew w ((w1.setCell ⟨w.heap.size, q, none⟩ (.int .u32 (d0 : Nat))).setCell ⟨w.heap.size, q, none⟩ (.int .u32 ((d0 + t : Nat) : Int)))) := ((H1.out.1).setCell (Nat.le_refl _) _).setCell (Nat.le_refl _) _
    refine (of_any (HO.out.kept HG.out) HW.out HT.out (by omega)).mono ?_; rintro e w2 ⟨rfl, b2, i2⟩
    have H2 := hidd (And.intro (But.grewL HG.out b2) i2)
    clear b2 i2
    go_wp2_with fail
    go_ret
    exact ⟨rfl, H2.out.1, H2.out.2⟩
end
end Go.Proofs.Ythhcpocgfmlbeaa
