/- texts.Trim: at every text. -/
import Derived.Test.YtgkchdjogfdjaaaDoorTxLong
import Derived.Test.YtgkchdjogfdjaaaDoorShelfB
import Derived.Shelf.Strings.SlTrimAscii
namespace Go.Proofs.YtgkchdjogfdjaaaDoor
open Go.RowKit
set_option linter.unusedVariables false

theorem trimRight_blanks (s : ByteArray) (w : World) (hs : s.size ≤ 9223372036854775807) :
    Calls Tryd.prog 26 #[.string s, .string ⟨#[32, 9]⟩] w fun e w' => e = .returned (.string ⟨(Lib.trimRightS s.data.toList [32, 9]).toArray⟩) ∧ Below w.heap.size w w' :=
  Any.strings_TrimRight_laid Tryd.lays162 (by kernel_rfl) s ⟨#[32, 9]⟩ w hs (by decide) (ascii_of_all (by decide))

theorem Trim_much (s : ByteArray) (w : World) (hs : s.size ≤ maxLen) (h : 65536 < s.size) :
    Calls Tryd.prog 11 #[.string s] w fun e w' => e = .returned (.tuple #[.string ⟨#[]⟩, .int .i64 4]) ∧ Grew w w' := by
  have hd : decide (65536 < s.size) = true := by simpa using h
  go_enter Tryd.func11, Tryd.ntmps11
  go_wp2_with fail
  refine (long_1 s w 9 hs).mono ?_; rintro e w1 ⟨rfl, rfl⟩
  rw [hd]
  go_wp2_with fail
  go_ret2
  exact ⟨rfl, (Grew.refl _).alloc _⟩

theorem Trim_ok (s : ByteArray) (w : World) (h : s.size ≤ 65536) :
    Calls Tryd.prog 11 #[.string s] w fun e w' => ∃ r : ByteArray, e = .returned (.tuple #[.string r, .int .i64 0]) ∧ r.data.toList = Lib.trimRightS s.data.toList [32, 9] ∧ Grew w w' := by
  have hd : decide (65536 < s.size) = false := by simpa using h
  go_enter Tryd.func11, Tryd.ntmps11
  go_wp2_with fail
  refine (long_1 s w 9 (by unfold maxLen; omega)).mono ?_; rintro e w1 ⟨rfl, rfl⟩
  rw [hd]
  go_wp2_with fail
  refine (trimRight_blanks s _ (by omega)).mono ?_; rintro e w2 ⟨rfl, G2⟩
  go_wp2_with fail
  go_ret2
  exact ⟨_, rfl, str_mk _, ((Grew.refl w).alloc _).trans (Below.mono G2 (by simp))⟩
end Go.Proofs.YtgkchdjogfdjaaaDoor
