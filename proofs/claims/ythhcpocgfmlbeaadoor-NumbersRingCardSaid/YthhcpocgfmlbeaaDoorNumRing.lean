/- Sums and products: at every three numbers. -/
import Derived.Test.YthhcpocgfmlbeaaDoorNumAlive
namespace Go.Proofs.YthhcpocgfmlbeaaDoor
open Go.RowKit
set_option linter.unusedVariables false
theorem rnumR_in {x : Int} (h : In64 x) : numR x = .returned (.tuple #[.int .i64 x, .int .i64 0]) := by rw [numR, numV_in h, numE_in h]
theorem rnumR_out {x : Int} (h : ¬ In64 x) : numR x = .returned (.tuple #[.int .i64 0, .int .i64 3]) := by rw [numR, numV_out h, numE_out h]

set_option maxHeartbeats 2000000 in
theorem NumbersRing_walk (a b c : Int) (w : World) (ht : TabD w) (ha0 : (Lit.int .i64 a).wf = true) (hb0 : (Lit.int .i64 b).wf = true) (hc0 : (Lit.int .i64 c).wf = true) :
    Calls Tryd.prog 4 #[.int .i64 a, .int .i64 b, .int .i64 c] w fun e w' => e = .returned (.bool true) ∧ Grew w w' := by
  have ha : Hid (In64 a) := bd_i64 ha0
  have hb : Hid (In64 b) := bd_i64 hb0
  have hc : Hid (In64 c) := bd_i64 hc0
  clear ha0 hb0 hc0
  have HC : Hid (b + a = a + b) := Int.add_comm b a
  have HM : Hid (b * a = a * b) := Int.mul_comm b a
  have HS : Hid (a + b - b = a) := by rw [Hid]; omega
  have HD : Hid (a * b + a * c = a * (b + c)) := (Int.mul_add a b c).symm
  obtain ⟨s, hs⟩ : ∃ s, a + b = s := ⟨_, rfl⟩
  obtain ⟨p, hp⟩ : ∃ s, a * b = s := ⟨_, rfl⟩
  obtain ⟨r, hr⟩ : ∃ s, a * c = s := ⟨_, rfl⟩
  obtain ⟨d, hd⟩ : ∃ s, b + c = s := ⟨_, rfl⟩
  rw [hs] at HC HS
  rw [hp] at HM
  rw [hp, hr, hd] at HD
  obtain ⟨z, hz⟩ : ∃ s, a * d = s := ⟨_, rfl⟩
  rw [hz] at HD
  have H1 := hidd hs; have H2 := hidd hp; have H3 := hidd hr; have H4 := hidd hd; have H5 := hidd hz
  clear hs hp hr hd hz
  have K : Hid (In64 s) ∨ Hid (¬ In64 s) := by unfold Hid; exact Decidable.em _
  have L : (Hid (¬ In64 p)) ∨ (Hid (In64 p) ∧ Hid (¬ In64 r)) ∨ (Hid (In64 p) ∧ Hid (In64 r) ∧ Hid (¬ In64 d)) ∨ (Hid (In64 p) ∧ Hid (In64 r) ∧ Hid (In64 d)) := by
    unfold Hid
    by_cases h1 : In64 p <;> by_cases h2 : In64 r <;> by_cases h3 : In64 d <;> simp [h1, h2, h3]
  rcases K with k | k <;> rcases L with l1 | ⟨l1, l2⟩ | ⟨l1, l2, l3⟩ | ⟨l1, l2, l3⟩
  all_goals
    go_enter Tryd.func4, Tryd.ntmps4
    go_wp2_with fail
    refine (alive_true w ht).mono ?_; rintro e w1 ⟨rfl, G1⟩
    go_wp2_with fail
    refine (Add_any a b w1 ha.out hb.out).mono ?_; rintro e w2 ⟨rfl, G2⟩
    rw [H1.out]
    first | rw [rnumR_in k.out] | rw [rnumR_out k.out]
    go_wp2_with fail
    refine (Add_any b a w2 hb.out ha.out).mono ?_; rintro e w3 ⟨rfl, G3⟩
    rw [HC.out]
    first | rw [rnumR_in k.out] | rw [rnumR_out k.out]
    go_wp2_with fail
    replace G1 := hidd ((G1.trans G2).trans G3)
    clear G2 G3
    try
      refine (Sub_any s b w3 k.out hb.out).mono ?_; rintro e w4 ⟨rfl, G4⟩
      rw [HS.out, rnumR_in ha.out]
      replace G1 := hidd (G1.out.trans G4)
      clear G4
      go_wp2_with fail
    refine (Mul_any a b _ ha.out hb.out).mono ?_; rintro e w5 ⟨rfl, G5⟩
    rw [H2.out]
    first | rw [rnumR_in l1.out] | rw [rnumR_out l1.out]
    go_wp2_with fail
    refine (Mul_any b a w5 hb.out ha.out).mono ?_; rintro e w6 ⟨rfl, G6⟩
    rw [HM.out]
    first | rw [rnumR_in l1.out] | rw [rnumR_out l1.out]
    go_wp2_with fail
    refine (Mul_any a c w6 ha.out hc.out).mono ?_; rintro e w7 ⟨rfl, G7⟩
    rw [H3.out]
    first | rw [rnumR_in l2.out] | rw [rnumR_out l2.out] | rw [numR_def]
    go_wp2_with fail
    refine (Add_any b c w7 hb.out hc.out).mono ?_; rintro e w8 ⟨rfl, G8⟩
    rw [H4.out]
    first | rw [rnumR_in l3.out] | rw [rnumR_out l3.out] | rw [numR_def]
    go_wp2_with fail
    replace G1 := hidd ((((G1.out.trans G5).trans G6).trans G7).trans G8)
    try
      refine (Mul_any a d w8 ha.out l3.out).mono ?_; rintro e w9 ⟨rfl, G9⟩
      rw [H5.out, numR_def]
      go_wp2_with fail
      refine (Add_any p r w9 l1.out l2.out).mono ?_; rintro e w10 ⟨rfl, G10⟩
      rw [HD.out, numR_def]
      replace G1 := hidd ((G1.out.trans G9).trans G10)
      go_wp2_with fail
    go_ret
    exact ⟨rfl, G1.out⟩
end Go.Proofs.YthhcpocgfmlbeaaDoor
