/- pats.wrong, some kinds. -/
import Derived.Test.YtkkdpafkafjfgaaDoorAlScPat
namespace Go.Proofs.YtkkdpafkafjfgaaDoor
open Go.RowKit
set_option linter.unusedVariables false
set_option maxRecDepth 100000 in
set_option maxHeartbeats 4000000 in
theorem wrong_set_more {w : World} {b o : Nat} {k : Int} {t : ByteArray} {n : Int} {m : ByteArray} {L : Nat} (h : Seen w b o k t n m L) (hk : k = 3 ∨ k = 4 ∨ k = 5 ∨ k = 6 ∨ k = 7) (hs : t.size ≤ 65536) (hs0 : 0 < t.size) (hl : 0 < L) : Told w b o 5 := by
  obtain ⟨c0, c1, c2, c3, ⟨a, c, c4⟩, hL, hk2, hn2, ht, hm⟩ := h
  have e1 : decide (65536 < (t.size : Int)) = false := decide_eq_false (by omega)
  have e2 : t.toList.isEmpty = false := by
    rw [Lib.toList_data, ← Bool.not_eq_true, List.isEmpty_iff]
    intro e; have := size_data t; rw [e, List.length_nil] at this; omega
  clear hs hs0
  have e8 : decide ((L : Int) < 0) = false := decide_eq_false (by omega)
  have e9 : decide ((0 : Int) < (L : Int)) = true := decide_eq_true (by omega)
  have e7 : decide (0 < L) = true := decide_eq_true hl
  rcases hk with rfl | rfl | rfl | rfl | rfl
  all_goals
    unfold Told
    go_enter Tryd.func56, Tryd.ntmps56
    go_wp2_with fail
    go_ret
    exact ⟨rfl, rfl⟩
set_option maxRecDepth 100000 in
set_option maxHeartbeats 4000000 in
theorem wrong_set_ok {w : World} {b o : Nat} {k : Int} {t : ByteArray} {n : Int} {m : ByteArray} {L : Nat} (h : Seen w b o k t n m L) (hk : k = 3 ∨ k = 4 ∨ k = 5 ∨ k = 6 ∨ k = 7) (hs : t.size ≤ 65536) (hs0 : 0 < t.size) (hl : 0 ≤ L) (hl2 : L ≤ 0) : Told w b o 0 := by
  obtain ⟨c0, c1, c2, c3, ⟨a, c, c4⟩, hL, hk2, hn2, ht, hm⟩ := h
  have e1 : decide (65536 < (t.size : Int)) = false := decide_eq_false (by omega)
  have e2 : t.toList.isEmpty = false := by
    rw [Lib.toList_data, ← Bool.not_eq_true, List.isEmpty_iff]
    intro e; have := size_data t; rw [e, List.length_nil] at this; omega
  clear hs hs0
  obtain rfl : L = 0 := by omega
  clear hl hl2 hL
  rcases hk with rfl | rfl | rfl | rfl | rfl
  all_goals
    unfold Told
    go_enter Tryd.func56, Tryd.ntmps56
    go_wp2_with fail
    go_ret
    exact ⟨rfl, rfl⟩
end Go.Proofs.YtkkdpafkafjfgaaDoor
namespace Go.Proofs.YtkkdpafkafjfgaaDoor
open Go.RowKit
set_option linter.unusedVariables false
set_option maxRecDepth 100000 in
set_option maxHeartbeats 4000000 in
theorem wrong_name {w : World} {b o : Nat} {k : Int} {t : ByteArray} {n : Int} {m : ByteArray} {L : Nat} (h : Seen w b o k t n m L) (hk : k = 21 ∨ k = 22 ∨ k = 23 ∨ k = 24) (hs : named m = false) : Told w b o 7 := by
  obtain ⟨c0, c1, c2, c3, ⟨a, c, c4⟩, hL, hk2, hn2, ht, hm⟩ := h
  have HN := hidd hs
  clear hs
  rcases hk with rfl | rfl | rfl | rfl
  all_goals
    unfold Told
    go_enter Tryd.func56, Tryd.ntmps56
    go_wp2_with fail
    refine (Named_any m w hm).mono ?_; rintro e w2 ⟨rfl, rfl⟩
    rw [HN.out]
    go_wp2_with fail
    go_ret
    exact ⟨rfl, rfl⟩
set_option maxRecDepth 100000 in
set_option maxHeartbeats 4000000 in
theorem wrong_give_few {w : World} {b o : Nat} {k : Int} {t : ByteArray} {n : Int} {m : ByteArray} {L : Nat} (h : Seen w b o k t n m L) (hk : k = 21 ∨ k = 22) (hs : named m = true) (hl : L < 1) : Told w b o 5 := by
  obtain ⟨c0, c1, c2, c3, ⟨a, c, c4⟩, hL, hk2, hn2, ht, hm⟩ := h
  have HN := hidd hs
  clear hs
  have e8 : decide ((L : Int) < 1) = true := decide_eq_true (by omega)
  clear hl
  rcases hk with rfl | rfl
  all_goals
    unfold Told
    go_enter Tryd.func56, Tryd.ntmps56
    go_wp2_with fail
    refine (Named_any m w hm).mono ?_; rintro e w2 ⟨rfl, rfl⟩
    rw [HN.out]
    go_wp2_with fail
    go_ret
    exact ⟨rfl, rfl⟩
set_option maxRecDepth 100000 in
set_option maxHeartbeats 4000000 in
theorem wrong_give_more {w : World} {b o : Nat} {k : Int} {t : ByteArray} {n : Int} {m : ByteArray} {L : Nat} (h : Seen w b o k t n m L) (hk : k = 21 ∨ k = 22) (hs : named m = true) (hl : 1 < L) : Told w b o 5 := by
  obtain ⟨c0, c1, c2, c3, ⟨a, c, c4⟩, hL, hk2, hn2, ht, hm⟩ := h
  have HN := hidd hs
  clear hs
  have e8 : decide ((L : Int) < 1) = false := decide_eq_false (by omega)
  have e9 : decide ((1 : Int) < (L : Int)) = true := decide_eq_true (by omega)
  clear hl
  rcases hk with rfl | rfl
  all_goals
    unfold Told
    go_enter Tryd.func56, Tryd.ntmps56
    go_wp2_with fail
    refine (Named_any m w hm).mono ?_; rintro e w2 ⟨rfl, rfl⟩
    rw [HN.out]
    go_wp2_with fail
    go_ret
    exact ⟨rfl, rfl⟩
set_option maxRecDepth 100000 in
set_option maxHeartbeats 4000000 in
theorem wrong_give_ok {w : World} {b o : Nat} {k : Int} {t : ByteArray} {n : Int} {m : ByteArray} {L : Nat} (h : Seen w b o k t n m L) (hk : k = 21 ∨ k = 22) (hs : named m = true) (hl : 1 ≤ L) (hl2 : L ≤ 1) : Told w b o 0 := by
  obtain ⟨c0, c1, c2, c3, ⟨a, c, c4⟩, hL, hk2, hn2, ht, hm⟩ := h
  have HN := hidd hs
  clear hs
  have e8 : decide ((L : Int) < 1) = false := decide_eq_false (by omega)
  have e9 : decide ((1 : Int) < (L : Int)) = false := decide_eq_false (by omega)
  clear hl hl2
  rcases hk with rfl | rfl
  all_goals
    unfold Told
    go_enter Tryd.func56, Tryd.ntmps56
    go_wp2_with fail
    refine (Named_any m w hm).mono ?_; rintro e w2 ⟨rfl, rfl⟩
    rw [HN.out]
    go_wp2_with fail
    go_ret
    exact ⟨rfl, rfl⟩
set_option maxRecDepth 100000 in
set_option maxHeartbeats 4000000 in
theorem wrong_call_more {w : World} {b o : Nat} {k : Int} {t : ByteArray} {n : Int} {m : ByteArray} {L : Nat} (h : Seen w b o k t n m L) (hk : k = 23 ∨ k = 24) (hs : named m = true) (hl : 0 < L) : Told w b o 5 := by
  obtain ⟨c0, c1, c2, c3, ⟨a, c, c4⟩, hL, hk2, hn2, ht, hm⟩ := h
  have HN := hidd hs
  clear hs
  have e8 : decide ((L : Int) < 0) = false := decide_eq_false (by omega)
  have e9 : decide ((0 : Int) < (L : Int)) = true := decide_eq_true (by omega)
  have e7 : decide (0 < L) = true := decide_eq_true hl
  rcases hk with rfl | rfl
  all_goals
    unfold Told
    go_enter Tryd.func56, Tryd.ntmps56
    go_wp2_with fail
    refine (Named_any m w hm).mono ?_; rintro e w2 ⟨rfl, rfl⟩
    rw [HN.out]
    go_wp2_with fail
    go_ret
    exact ⟨rfl, rfl⟩
set_option maxRecDepth 100000 in
set_option maxHeartbeats 4000000 in
theorem wrong_call_ok {w : World} {b o : Nat} {k : Int} {t : ByteArray} {n : Int} {m : ByteArray} {L : Nat} (h : Seen w b o k t n m L) (hk : k = 23 ∨ k = 24) (hs : named m = true) (hl : 0 ≤ L) (hl2 : L ≤ 0) : Told w b o 0 := by
  obtain ⟨c0, c1, c2, c3, ⟨a, c, c4⟩, hL, hk2, hn2, ht, hm⟩ := h
  have HN := hidd hs
  clear hs
  obtain rfl : L = 0 := by omega
  clear hl hl2 hL
  rcases hk with rfl | rfl
  all_goals
    unfold Told
    go_enter Tryd.func56, Tryd.ntmps56
    go_wp2_with fail
    refine (Named_any m w hm).mono ?_; rintro e w2 ⟨rfl, rfl⟩
    rw [HN.out]
    go_wp2_with fail
    go_ret
    exact ⟨rfl, rfl⟩
set_option maxRecDepth 100000 in
set_option maxHeartbeats 4000000 in
theorem wrong_plain_more {w : World} {b o : Nat} {k : Int} {t : ByteArray} {n : Int} {m : ByteArray} {L : Nat} (h : Seen w b o k t n m L) (hk : k = 12 ∨ k = 13 ∨ k = 14 ∨ k = 15 ∨ k = 16 ∨ k = 17) (hl : 0 < L) : Told w b o 5 := by
  obtain ⟨c0, c1, c2, c3, ⟨a, c, c4⟩, hL, hk2, hn2, ht, hm⟩ := h
  have e8 : decide ((L : Int) < 0) = false := decide_eq_false (by omega)
  have e9 : decide ((0 : Int) < (L : Int)) = true := decide_eq_true (by omega)
  have e7 : decide (0 < L) = true := decide_eq_true hl
  rcases hk with rfl | rfl | rfl | rfl | rfl | rfl
  all_goals
    unfold Told
    go_enter Tryd.func56, Tryd.ntmps56
    go_wp2_with fail
    go_ret
    exact ⟨rfl, rfl⟩
set_option maxRecDepth 100000 in
set_option maxHeartbeats 4000000 in
theorem wrong_plain_ok {w : World} {b o : Nat} {k : Int} {t : ByteArray} {n : Int} {m : ByteArray} {L : Nat} (h : Seen w b o k t n m L) (hk : k = 12 ∨ k = 13 ∨ k = 14 ∨ k = 15 ∨ k = 16 ∨ k = 17) (hl : 0 ≤ L) (hl2 : L ≤ 0) : Told w b o 0 := by
  obtain ⟨c0, c1, c2, c3, ⟨a, c, c4⟩, hL, hk2, hn2, ht, hm⟩ := h
  obtain rfl : L = 0 := by omega
  clear hl hl2 hL
  rcases hk with rfl | rfl | rfl | rfl | rfl | rfl
  all_goals
    unfold Told
    go_enter Tryd.func56, Tryd.ntmps56
    go_wp2_with fail
    go_ret
    exact ⟨rfl, rfl⟩
end Go.Proofs.YtkkdpafkafjfgaaDoor
