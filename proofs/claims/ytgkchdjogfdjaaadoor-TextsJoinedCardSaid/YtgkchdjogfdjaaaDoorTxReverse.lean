/- texts.Reverse, and the laws' own closed fact alive: at every text. -/
import Derived.Test.YtgkchdjogfdjaaaDoorBytes
import Derived.Test.YtgkchdjogfdjaaaDoorTxLong
namespace Go.Proofs.YtgkchdjogfdjaaaDoor
open Go.RowKit
set_option linter.unusedVariables false

theorem Reverse_much (s : ByteArray) (w : World) (hs : s.size ≤ maxLen) (h : 65536 < s.size) :
    Calls Tryd.prog 13 #[.string s] w fun e w' => e = .returned (.tuple #[.string ⟨#[]⟩, .int .i64 4]) ∧ Grew w w' := by
  have hd : decide (65536 < s.size) = true := by simpa using h
  go_enter Tryd.func13, Tryd.ntmps13
  go_wp2_with fail
  refine (long_1 s w 9 hs).mono ?_; rintro e w1 ⟨rfl, rfl⟩
  rw [hd]
  go_wp2_with fail
  go_ret2
  exact ⟨rfl, (Grew.refl _).alloc _⟩

theorem Reverse_ok (s : ByteArray) (w : World) (h : s.size ≤ 65536) :
    Calls Tryd.prog 13 #[.string s] w fun e w' => ∃ r : ByteArray, e = .returned (.tuple #[.string r, .int .i64 0]) ∧ r.data.toList = s.data.toList.reverse ∧ Grew w w' := by
  have hd : decide (65536 < s.size) = false := by simpa using h
  have hb := fun w : World => bytesOf w s
  go_enter Tryd.func13, Tryd.ntmps13
  go_wp2_with fail
  refine (long_1 s w 9 (by unfold maxLen; omega)).mono ?_; rintro e w1 ⟨rfl, rfl⟩
  rw [hd]
  go_wp2_with fail
  have hl : s.data.toList.length = s.size := rfl
  have hB0 := bytesAt_row (w.alloc (.cells #[.string s] 9)) s (grownCap (w.alloc (Obj.cells #[Value.string s] 9)) s.size 0 5) 5
  rw [World.size_alloc] at hB0
  refine (rev_bytes s.data.toList (w.heap.size + 1) 0 _ _ hB0.drew (by rw [hl]; omega)).mono ?_
  rintro e w2 ⟨rfl, hB, hbel⟩
  have hconv : ∀ cap, (convert 36 9 (.slice (some ⟨w.heap.size + 1, 0, none⟩) s.size cap)).run Tryd.prog w2 = .ok (.string ⟨s.data.toList.reverse.toArray⟩) w2 := fun cap => by
    have := hB.conv (cap := cap)
    rwa [List.length_reverse, hl] at this
  go_wp2_with fail
  go_ret2
  exact ⟨_, rfl, str_mk _, ((((Grew.refl w).alloc _).alloc _).drew).below hbel (by omega)⟩

theorem alive_true (w : World) : Calls Tryd.prog 21 #[] w fun e w' => e = .returned (.bool true) ∧ Grew w w' := by
  go_enter Tryd.func21, Tryd.ntmps21
  go_wp2_with fail
  refine (Reverse_ok _ w (by decide)).mono ?_
  rintro e w1 ⟨r, rfl, hr, hg⟩
  have he : r.toList = [99, 98, 97] := by rw [Lib.toList_data, hr]; rfl
  clear hr
  go_wp2_with fail
  go_ret
  exact ⟨rfl, hg⟩
end Go.Proofs.YtgkchdjogfdjaaaDoor
