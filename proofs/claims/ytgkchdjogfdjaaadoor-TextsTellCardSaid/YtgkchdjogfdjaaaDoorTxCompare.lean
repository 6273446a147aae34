/- texts.Compare: at every two texts. -/
import Derived.Test.YtgkchdjogfdjaaaDoorTxLong
import Derived.Test.YtgkchdjogfdjaaaDoorTxCmpL
import Derived.Test.YtgkchdjogfdjaaaDoorShelfB
namespace Go.Proofs.YtgkchdjogfdjaaaDoor
open Go.RowKit
set_option linter.unusedVariables false

theorem Compare_much (s t : ByteArray) (w : World) (hs : s.size ≤ maxLen) (ht : t.size ≤ maxLen) (h : 65536 < s.size ∨ 65536 < t.size) :
    Calls Tryd.prog 17 #[.string s, .string t] w fun e w' => e = .returned (.tuple #[.int .i64 0, .int .i64 4]) ∧ Grew w w' := by
  have hd : (decide (65536 < s.size) || decide (65536 < t.size)) = true := by simpa using h
  go_enter Tryd.func17, Tryd.ntmps17
  go_wp2_with fail
  refine (long_2 s t w 9 hs ht).mono ?_; rintro e w1 ⟨rfl, rfl⟩
  rw [hd]
  go_wp2_with fail
  go_ret2
  exact ⟨rfl, (Grew.refl _).alloc _⟩

theorem Compare_ok (s t : ByteArray) (x : Int) (w : World) (hs : s.size ≤ 65536) (ht : t.size ≤ 65536) (hx : Lib.compareBytes s.data.toList t.data.toList = x) :
    Calls Tryd.prog 17 #[.string s, .string t] w fun e w' => e = .returned (.tuple #[.int .i64 x, .int .i64 0]) ∧ Grew w w' := by
  have hd : (decide (65536 < s.size) || decide (65536 < t.size)) = false := by simp; omega
  have HX := hidd hx
  clear hx
  go_enter Tryd.func17, Tryd.ntmps17
  go_wp2_with fail
  refine (long_2 s t w 9 (by unfold maxLen; omega) (by unfold maxLen; omega)).mono ?_; rintro e w1 ⟨rfl, rfl⟩
  rw [hd]
  go_wp2_with fail
  refine (Tryd.strings_Compare s t _).mono ?_; rintro e w1 ⟨rfl, rfl⟩
  rw [HX.out]
  go_wp2_with fail
  go_ret2
  exact ⟨rfl, (Grew.refl _).alloc _⟩

theorem Compare_any (s t : ByteArray) (w : World) (hs : s.size ≤ maxLen) (ht : t.size ≤ maxLen) :
    Calls Tryd.prog 17 #[.string s, .string t] w fun e w' => ∃ x k : Int, e = .returned (.tuple #[.int .i64 x, .int .i64 k]) ∧ Grew w w' := by
  by_cases h : 65536 < s.size ∨ 65536 < t.size
  · exact (Compare_much s t w hs ht h).mono fun e w' ⟨h1, h2⟩ => ⟨_, _, h1, h2⟩
  · exact (Compare_ok s t _ w (by omega) (by omega) rfl).mono fun e w' ⟨h1, h2⟩ => ⟨_, _, h1, h2⟩
end Go.Proofs.YtgkchdjogfdjaaaDoor
