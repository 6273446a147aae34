/- pats.wrong, some kinds. -/
import Derived.Test.YtkkdpafkafjfgaaDoorAlScPat
namespace Go.Proofs.YtkkdpafkafjfgaaDoor
open Go.RowKit
set_option linter.unusedVariables false
set_option maxRecDepth 100000 in
set_option maxHeartbeats 4000000 in
theorem wrong_lit_more {w : World} {b o : Nat} {k : Int} {t : ByteArray} {n : Int} {m : ByteArray} {L : Nat} (h : Seen w b o k t n m L) (hk : k = 1) (hs : t.size ≤ 65536) (hl : 0 < L) : Told w b o 5 := by
  obtain ⟨c0, c1, c2, c3, ⟨a, c, c4⟩, hL, hk2, hn2, ht, hm⟩ := h
  have e1 : decide (65536 < (t.size : Int)) = false := decide_eq_false (by omega)
  clear hs
  have e8 : decide ((L : Int) < 0) = false := decide_eq_false (by omega)
  have e9 : decide ((0 : Int) < (L : Int)) = true := decide_eq_true (by omega)
  have e7 : decide (0 < L) = true := decide_eq_true hl
  rcases hk with rfl
  all_goals
    unfold Told
    go_enter Tryd.func56, Tryd.ntmps56
    go_wp2_with fail
    go_ret
    exact ⟨rfl, rfl⟩
set_option maxRecDepth 100000 in
set_option maxHeartbeats 4000000 in
theorem wrong_lit_ok {w : World} {b o : Nat} {k : Int} {t : ByteArray} {n : Int} {m : ByteArray} {L : Nat} (h : Seen w b o k t n m L) (hk : k = 1) (hs : t.size ≤ 65536) (hl : 0 ≤ L) (hl2 : L ≤ 0) : Told w b o 0 := by
  obtain ⟨c0, c1, c2, c3, ⟨a, c, c4⟩, hL, hk2, hn2, ht, hm⟩ := h
  have e1 : decide (65536 < (t.size : Int)) = false := decide_eq_false (by omega)
  clear hs
  obtain rfl : L = 0 := by omega
  clear hl hl2 hL
  rcases hk with rfl
  all_goals
    unfold Told
    go_enter Tryd.func56, Tryd.ntmps56
    go_wp2_with fail
    go_ret
    exact ⟨rfl, rfl⟩
set_option maxRecDepth 100000 in
set_option maxHeartbeats 4000000 in
theorem wrong_cat_few {w : World} {b o : Nat} {k : Int} {t : ByteArray} {n : Int} {m : ByteArray} {L : Nat} (h : Seen w b o k t n m L) (hk : k = 18 ∨ k = 19) (hl : L < 2) : Told w b o 5 := by
  obtain ⟨c0, c1, c2, c3, ⟨a, c, c4⟩, hL, hk2, hn2, ht, hm⟩ := h
  have e8 : decide ((L : Int) < 2) = true := decide_eq_true (by omega)
  clear hl
  rcases hk with rfl | rfl
  all_goals
    unfold Told
    go_enter Tryd.func56, Tryd.ntmps56
    go_wp2_with fail
    go_ret
    exact ⟨rfl, rfl⟩
set_option maxRecDepth 100000 in
set_option maxHeartbeats 4000000 in
theorem wrong_cat_more {w : World} {b o : Nat} {k : Int} {t : ByteArray} {n : Int} {m : ByteArray} {L : Nat} (h : Seen w b o k t n m L) (hk : k = 18 ∨ k = 19) (hl : 4096 < L) : Told w b o 5 := by
  obtain ⟨c0, c1, c2, c3, ⟨a, c, c4⟩, hL, hk2, hn2, ht, hm⟩ := h
  have e8 : decide ((L : Int) < 2) = false := decide_eq_false (by omega)
  have e9 : decide ((4096 : Int) < (L : Int)) = true := decide_eq_true (by omega)
  clear hl
  rcases hk with rfl | rfl
  all_goals
    unfold Told
    go_enter Tryd.func56, Tryd.ntmps56
    go_wp2_with fail
    go_ret
    exact ⟨rfl, rfl⟩
set_option maxRecDepth 100000 in
set_option maxHeartbeats 4000000 in
theorem wrong_cat_ok {w : World} {b o : Nat} {k : Int} {t : ByteArray} {n : Int} {m : ByteArray} {L : Nat} (h : Seen w b o k t n m L) (hk : k = 18 ∨ k = 19) (hl : 2 ≤ L) (hl2 : L ≤ 4096) : Told w b o 0 := by
  obtain ⟨c0, c1, c2, c3, ⟨a, c, c4⟩, hL, hk2, hn2, ht, hm⟩ := h
  have e8 : decide ((L : Int) < 2) = false := decide_eq_false (by omega)
  have e9 : decide ((4096 : Int) < (L : Int)) = false := decide_eq_false (by omega)
  clear hl hl2
  rcases hk with rfl | rfl
  all_goals
    unfold Told
    go_enter Tryd.func56, Tryd.ntmps56
    go_wp2_with fail
    go_ret
    exact ⟨rfl, rfl⟩
set_option maxRecDepth 100000 in
set_option maxHeartbeats 4000000 in
theorem wrong_arbno_few {w : World} {b o : Nat} {k : Int} {t : ByteArray} {n : Int} {m : ByteArray} {L : Nat} (h : Seen w b o k t n m L) (hk : k = 20) (hl : L < 1) : Told w b o 5 := by
  obtain ⟨c0, c1, c2, c3, ⟨a, c, c4⟩, hL, hk2, hn2, ht, hm⟩ := h
  have e8 : decide ((L : Int) < 1) = true := decide_eq_true (by omega)
  clear hl
  rcases hk with rfl
  all_goals
    unfold Told
    go_enter Tryd.func56, Tryd.ntmps56
    go_wp2_with fail
    go_ret
    exact ⟨rfl, rfl⟩
set_option maxRecDepth 100000 in
set_option maxHeartbeats 4000000 in
theorem wrong_arbno_more {w : World} {b o : Nat} {k : Int} {t : ByteArray} {n : Int} {m : ByteArray} {L : Nat} (h : Seen w b o k t n m L) (hk : k = 20) (hl : 1 < L) : Told w b o 5 := by
  obtain ⟨c0, c1, c2, c3, ⟨a, c, c4⟩, hL, hk2, hn2, ht, hm⟩ := h
  have e8 : decide ((L : Int) < 1) = false := decide_eq_false (by omega)
  have e9 : decide ((1 : Int) < (L : Int)) = true := decide_eq_true (by omega)
  clear hl
  rcases hk with rfl
  all_goals
    unfold Told
    go_enter Tryd.func56, Tryd.ntmps56
    go_wp2_with fail
    go_ret
    exact ⟨rfl, rfl⟩
set_option maxRecDepth 100000 in
set_option maxHeartbeats 4000000 in
theorem wrong_arbno_ok {w : World} {b o : Nat} {k : Int} {t : ByteArray} {n : Int} {m : ByteArray} {L : Nat} (h : Seen w b o k t n m L) (hk : k = 20) (hl : 1 ≤ L) (hl2 : L ≤ 1) : Told w b o 0 := by
  obtain ⟨c0, c1, c2, c3, ⟨a, c, c4⟩, hL, hk2, hn2, ht, hm⟩ := h
  have e8 : decide ((L : Int) < 1) = false := decide_eq_false (by omega)
  have e9 : decide ((1 : Int) < (L : Int)) = false := decide_eq_false (by omega)
  clear hl hl2
  rcases hk with rfl
  all_goals
    unfold Told
    go_enter Tryd.func56, Tryd.ntmps56
    go_wp2_with fail
    go_ret
    exact ⟨rfl, rfl⟩
set_option maxRecDepth 100000 in
set_option maxHeartbeats 4000000 in
theorem wrong_empty {w : World} {b o : Nat} {k : Int} {t : ByteArray} {n : Int} {m : ByteArray} {L : Nat} (h : Seen w b o k t n m L) (hk : k = 3 ∨ k = 4 ∨ k = 5 ∨ k = 6 ∨ k = 7) (hs : t.size = 0) : Told w b o 8 := by
  obtain ⟨c0, c1, c2, c3, ⟨a, c, c4⟩, hL, hk2, hn2, ht, hm⟩ := h
  have e1 : decide (65536 < (t.size : Int)) = false := decide_eq_false (by omega)
  have e2 : t.toList = [] := by rw [Lib.toList_data]; exact List.eq_nil_of_length_eq_zero (by rw [← size_data]; exact hs)
  have H2 := hidd hs
  clear hs
  rcases hk with rfl | rfl | rfl | rfl | rfl
  all_goals
    unfold Told
    go_enter Tryd.func56, Tryd.ntmps56
    go_wp2_with fail
    go_ret
    exact ⟨rfl, rfl⟩
end Go.Proofs.YtkkdpafkafjfgaaDoor
namespace Go.Proofs.YtkkdpafkafjfgaaDoor
open Go.RowKit
set_option linter.unusedVariables false
set_option maxRecDepth 100000 in
set_option maxHeartbeats 4000000 in
theorem wrong_low {w : World} {b o : Nat} {k : Int} {t : ByteArray} {n : Int} {m : ByteArray} {L : Nat} (h : Seen w b o k t n m L) (hk : k = 2 ∨ k = 8 ∨ k = 9 ∨ k = 10 ∨ k = 11) (hs : n < 0) : Told w b o 3 := by
  obtain ⟨c0, c1, c2, c3, ⟨a, c, c4⟩, hL, hk2, hn2, ht, hm⟩ := h
  have e1 : decide (n < 0) = true := decide_eq_true hs
  clear hs
  rcases hk with rfl | rfl | rfl | rfl | rfl
  all_goals
    unfold Told
    go_enter Tryd.func56, Tryd.ntmps56
    go_wp2_with fail
    go_ret
    exact ⟨rfl, rfl⟩
set_option maxRecDepth 100000 in
set_option maxHeartbeats 4000000 in
theorem wrong_high {w : World} {b o : Nat} {k : Int} {t : ByteArray} {n : Int} {m : ByteArray} {L : Nat} (h : Seen w b o k t n m L) (hk : k = 2 ∨ k = 8 ∨ k = 9 ∨ k = 10 ∨ k = 11) (hs : 65536 < n) : Told w b o 3 := by
  obtain ⟨c0, c1, c2, c3, ⟨a, c, c4⟩, hL, hk2, hn2, ht, hm⟩ := h
  have e1 : decide (n < 0) = false := decide_eq_false (by omega)
  have e2 : decide (65536 < n) = true := decide_eq_true hs
  clear hs
  rcases hk with rfl | rfl | rfl | rfl | rfl
  all_goals
    unfold Told
    go_enter Tryd.func56, Tryd.ntmps56
    go_wp2_with fail
    go_ret
    exact ⟨rfl, rfl⟩
set_option maxRecDepth 100000 in
set_option maxHeartbeats 4000000 in
theorem wrong_num_more {w : World} {b o : Nat} {k : Int} {t : ByteArray} {n : Int} {m : ByteArray} {L : Nat} (h : Seen w b o k t n m L) (hk : k = 2 ∨ k = 8 ∨ k = 9 ∨ k = 10 ∨ k = 11) (hs0 : 0 ≤ n) (hs : n ≤ 65536) (hl : 0 < L) : Told w b o 5 := by
  obtain ⟨c0, c1, c2, c3, ⟨a, c, c4⟩, hL, hk2, hn2, ht, hm⟩ := h
  have e1 : decide (n < 0) = false := decide_eq_false (by omega)
  have e2 : decide (65536 < n) = false := decide_eq_false (by omega)
  clear hs hs0
  have e8 : decide ((L : Int) < 0) = false := decide_eq_false (by omega)
  have e9 : decide ((0 : Int) < (L : Int)) = true := decide_eq_true (by omega)
  have e7 : decide (0 < L) = true := decide_eq_true hl
  rcases hk with rfl | rfl | rfl | rfl | rfl
  all_goals
    unfold Told
    go_enter Tryd.func56, Tryd.ntmps56
    go_wp2_with fail
    go_ret
    exact ⟨rfl, rfl⟩
set_option maxRecDepth 100000 in
set_option maxHeartbeats 4000000 in
theorem wrong_num_ok {w : World} {b o : Nat} {k : Int} {t : ByteArray} {n : Int} {m : ByteArray} {L : Nat} (h : Seen w b o k t n m L) (hk : k = 2 ∨ k = 8 ∨ k = 9 ∨ k = 10 ∨ k = 11) (hs0 : 0 ≤ n) (hs : n ≤ 65536) (hl : 0 ≤ L) (hl2 : L ≤ 0) : Told w b o 0 := by
  obtain ⟨c0, c1, c2, c3, ⟨a, c, c4⟩, hL, hk2, hn2, ht, hm⟩ := h
  have e1 : decide (n < 0) = false := decide_eq_false (by omega)
  have e2 : decide (65536 < n) = false := decide_eq_false (by omega)
  clear hs hs0
  obtain rfl : L = 0 := by omega
  clear hl hl2 hL
  rcases hk with rfl | rfl | rfl | rfl | rfl
  all_goals
    unfold Told
    go_enter Tryd.func56, Tryd.ntmps56
    go_wp2_with fail
    go_ret
    exact ⟨rfl, rfl⟩
end Go.Proofs.YtkkdpafkafjfgaaDoor
