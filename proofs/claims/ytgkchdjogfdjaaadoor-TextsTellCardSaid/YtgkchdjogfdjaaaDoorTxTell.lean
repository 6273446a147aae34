/- Trim, Reverse, Rotate, Compare and Count of anything: the law's walk. -/
import Derived.Test.YtgkchdjogfdjaaaDoorTxTrim
import Derived.Test.YtgkchdjogfdjaaaDoorTxRTrim
import Derived.Test.YtgkchdjogfdjaaaDoorTxReverse
import Derived.Test.YtgkchdjogfdjaaaDoorTxRReverse
import Derived.Test.YtgkchdjogfdjaaaDoorTxRotate
import Derived.Test.YtgkchdjogfdjaaaDoorTxCompare
import Derived.Test.YtgkchdjogfdjaaaDoorTxRCompare
import Derived.Test.YtgkchdjogfdjaaaDoorTxCount
import Derived.Test.YtgkchdjogfdjaaaDoorTxRCount
namespace Go.Proofs.YtgkchdjogfdjaaaDoor
open Go.RowKit
set_option linter.unusedVariables false

/-- An answer of two: a text and a number, of the same bytes on both sides. -/
theorem tell_text {P : Program} {f : FuncId} {args : Array Value} (lim : Prop) [Decidable lim] (z : Int) (L : List UInt8)
    (hf1 : lim → ∀ w, Calls P f args w fun e w' => e = .returned (.tuple #[.string ⟨#[]⟩, .int .i64 z]) ∧ Grew w w')
    (hf2 : ¬ lim → ∀ w, Calls P f args w fun e w' => ∃ r : ByteArray, e = .returned (.tuple #[.string r, .int .i64 0]) ∧ r.data.toList = L ∧ Grew w w') :
    ∃ (r : ByteArray) (q : Int), (∀ w, Calls P f args w fun e w' => e = .returned (.tuple #[.string r, .int .i64 q]) ∧ Grew w w') ∧ (r = if lim then ⟨#[]⟩ else ⟨L.toArray⟩) ∧ q = if lim then z else 0 := by
  by_cases h : lim
  · exact ⟨⟨#[]⟩, z, hf1 h, by rw [if_pos h], by rw [if_pos h]⟩
  · refine ⟨⟨L.toArray⟩, 0, fun w => (hf2 h w).mono ?_, by rw [if_neg h], by rw [if_neg h]⟩
    rintro e w' ⟨r, he, hr, hg⟩
    have : r = ⟨L.toArray⟩ := str_ext (by rw [hr])
    rw [this] at he
    exact ⟨he, hg⟩

theorem tell2 {f g : FuncId} {args : Array Value} (lim : Prop) [Decidable lim] (z : Int) (L : List UInt8)
    (hf1 : lim → ∀ w, Calls Tryd.prog f args w fun e w' => e = .returned (.tuple #[.string ⟨#[]⟩, .int .i64 z]) ∧ Grew w w')
    (hf2 : ¬ lim → ∀ w, Calls Tryd.prog f args w fun e w' => ∃ r : ByteArray, e = .returned (.tuple #[.string r, .int .i64 0]) ∧ r.data.toList = L ∧ Grew w w')
    (hg1 : lim → ∀ w, Calls Tryd.prog g args w fun e w' => e = .returned (.tuple #[.string ⟨#[]⟩, .int .i64 z]) ∧ Grew w w')
    (hg2 : ¬ lim → ∀ w, Calls Tryd.prog g args w fun e w' => ∃ r : ByteArray, e = .returned (.tuple #[.string r, .int .i64 0]) ∧ r.data.toList = L ∧ Grew w w') :
    ∃ (r : ByteArray) (q : Int), (∀ w, Calls Tryd.prog f args w fun e w' => e = .returned (.tuple #[.string r, .int .i64 q]) ∧ Grew w w') ∧ (∀ w, Calls Tryd.prog g args w fun e w' => e = .returned (.tuple #[.string r, .int .i64 q]) ∧ Grew w w') := by
  obtain ⟨r, q, h1, h2, h3⟩ := tell_text lim z L hf1 hf2
  obtain ⟨r', q', k1, k2, k3⟩ := tell_text lim z L hg1 hg2
  obtain rfl : r = r' := h2.trans k2.symm
  obtain rfl : q = q' := h3.trans k3.symm
  exact ⟨r, q, h1, k1⟩

set_option maxHeartbeats 1000000 in
theorem TextsTell_walk (t o : ByteArray) (n : Int) (m : Int) (w : World) (ht : t.size ≤ maxLen) (ho : o.size ≤ maxLen) (hn0 : (Lit.int .i64 n).wf = true) (hm : w.cell? ⟨0, 0, none⟩ = some (.int .i64 m)) :
    Calls Tryd.prog 4 #[.string t, .string o, .int .i64 n] w fun e w' => e = .returned (.bool true) ∧ Grew w w' := by
  have hn := bd_i64 hn0
  clear hn0
  obtain ⟨r1, q1, a1, b1⟩ := tell2 (f := 11) (g := 12) (65536 < t.size) 4 (Lib.trimRightS t.data.toList [32, 9]) (fun h w => Trim_much t w ht h) (fun h w => Trim_ok t w (by omega)) (fun h w => RTrim_much t w ht h) (fun h w => RTrim_ok t w (by omega))
  obtain ⟨r2, q2, a2, b2⟩ := tell2 (f := 13) (g := 14) (65536 < t.size) 4 t.data.toList.reverse (fun h w => Reverse_much t w ht h) (fun h w => Reverse_ok t w (by omega)) (fun h w => RReverse_much t w ht h) (fun h w => RReverse_ok t w (by omega))
  obtain ⟨r3, q3, a3, b3⟩ := tell2 (f := 15) (g := 16) (65536 < t.size) 4 (rotL t.data.toList n) (fun h w => Rotate_much t n w ht h) (fun h w => Rotate_ok t n w (by omega) hn) (fun h w => RRotate_much t n w ht h) (fun h w => RRotate_ok t n w (by omega) hn)
  obtain ⟨x4, q4, a4, b4⟩ : ∃ x q : Int, (∀ w, Calls Tryd.prog 17 #[.string t, .string o] w fun e w' => e = .returned (.tuple #[.int .i64 x, .int .i64 q]) ∧ Grew w w') ∧ (∀ w, Calls Tryd.prog 18 #[.string t, .string o] w fun e w' => e = .returned (.tuple #[.int .i64 x, .int .i64 q]) ∧ Grew w w') := by
    by_cases h : 65536 < t.size ∨ 65536 < o.size
    · exact ⟨0, 4, fun w => Compare_much t o w ht ho h, fun w => RCompare_much t o w ht ho h⟩
    · exact ⟨_, 0, fun w => Compare_ok t o _ w (by omega) (by omega) rfl, fun w => RCompare_ok t o w (by omega) (by omega)⟩
  obtain ⟨x5, q5, a5, b5⟩ : ∃ x q : Int, (∀ w, w.cell? ⟨0, 0, none⟩ = some (.int .i64 m) → Calls Tryd.prog 19 #[.string t, .string o] w fun e w' => e = .returned (.tuple #[.int .i64 x, .int .i64 q]) ∧ Grew w w') ∧ (∀ w, Calls Tryd.prog 20 #[.string t, .string o] w fun e w' => e = .returned (.tuple #[.int .i64 x, .int .i64 q]) ∧ Grew w w') := by
    by_cases h : 65536 < t.size ∨ 65536 < o.size
    · exact ⟨0, 4, fun w _ => Count_much t o w ht ho h, fun w => RCount_much t o w ht ho h⟩
    · by_cases h0 : o.size = 0
      · exact ⟨0, 8, fun w _ => Count_fit t o w (by omega) h0, fun w => RCount_fit t o w (by omega) h0⟩
      · exact ⟨_, 0, fun w hm => Count_ok t o m w (by omega) (by omega) (by omega) hm, fun w => RCount_ok t o w (by omega) (by omega) (by omega)⟩
  have HM := hidd hm
  clear hm hn ht ho
  go_enter Tryd.func4, Tryd.ntmps4
  go_wp2_with fail
  refine (a1 w).mono ?_; rintro e w1 ⟨rfl, G1⟩
  go_wp2_with fail
  refine (b1 w1).mono ?_; rintro e w2 ⟨rfl, G2⟩
  go_wp2_with fail
  refine (a2 w2).mono ?_; rintro e w3 ⟨rfl, G3⟩
  go_wp2_with fail
  refine (b2 w3).mono ?_; rintro e w4 ⟨rfl, G4⟩
  go_wp2_with fail
  refine (a3 w4).mono ?_; rintro e w5 ⟨rfl, G5⟩
  go_wp2_with fail
  refine (b3 w5).mono ?_; rintro e w6 ⟨rfl, G6⟩
  go_wp2_with fail
  refine (a4 w6).mono ?_; rintro e w7 ⟨rfl, G7⟩
  go_wp2_with fail
  refine (b4 w7).mono ?_; rintro e w8 ⟨rfl, G8⟩
  go_wp2_with fail
  replace G1 := hidd (((((((G1.trans G2).trans G3).trans G4).trans G5).trans G6).trans G7).trans G8)
  refine (a5 w8 (G1.out.keeps HM.out)).mono ?_; rintro e w9 ⟨rfl, G9⟩
  go_wp2_with fail
  refine (b5 w9).mono ?_; rintro e w10 ⟨rfl, G10⟩
  go_wp2_with fail
  go_ret
  exact ⟨rfl, (G1.out.trans G9).trans G10⟩
end Go.Proofs.YtgkchdjogfdjaaaDoor
