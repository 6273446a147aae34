/- pats.wrong, some kinds. -/
import Derived.Test.YtkkdpafkafjfgaaDoorAgScPat
import Derived.Test.YtkkdpafkafjfgaaDoorAgAuEx
import Derived.DeepKeys5
namespace Go.Proofs.YtkkdpafkafjfgaaDoor
open Go.RowKit
set_option linter.unusedVariables false
set_option maxRecDepth 100000 in
set_option maxHeartbeats 4000000 in
theorem wrong_set_more {w : World} {b o : Nat} {k : Int} {t : ByteArray} {n : Int} {m : ByteArray} {L : Nat} (h : Seen w b o k t n m L) (hk : k = 3 ∨ k = 4 ∨ k = 5 ∨ k = 6 ∨ k = 7) (hs : t.size ≤ 65536) (hs0 : 0 < t.size) (hl : 0 < L) : Told w b o 5 := by
  obtain ⟨c0, c1, c2, c3, ⟨a, c, c4⟩, hL, hk2, hn2, ht, hm⟩ := h
  have e1 : decide (65536 < (t.size : Int)) = false := decide_eq_false (by omega)
  have e2 : t.toList.isEmpty = false := by
    rw [Lib.toList_data, ← Bool.not_eq_true, List.isEmpty_iff]
    intro e; have := size_data t; rw [e, List.length_nil] at this; omega
  clear hs hs0
  have e8 : decide ((L : Int) < 0) = false := decide_eq_false (by omega)
  have e9 : decide ((0 : Int) < (L : Int)) = true := decide_eq_true (by omega)
  have e7 : decide (0 < L) = true := decide_eq_true hl
  rcases hk with rfl | rfl | rfl | rfl | rfl
  all_goals
    unfold Told
    go_enter Tryd.func56, Tryd.ntmps56
    go_wp2_with fail
    go_ret
    exact ⟨rfl, rfl⟩
set_option maxRecDepth 100000 in
set_option maxHeartbeats 4000000 in
theorem wrong_set_ok {w : World} {b o : Nat} {k : Int} {t : ByteArray} {n : Int} {m : ByteArray} {L : Nat} (h : Seen w b o k t n m L) (hk : k = 3 ∨ k = 4 ∨ k = 5 ∨ k = 6 ∨ k = 7) (hs : t.size ≤ 65536) (hs0 : 0 < t.size) (hl : 0 ≤ L) (hl2 : L ≤ 0) : Told w b o 0 := by
  obtain ⟨c0, c1, c2, c3, ⟨a, c, c4⟩, hL, hk2, hn2, ht, hm⟩ := h
  have e1 : decide (65536 < (t.size : Int)) = false := decide_eq_false (by omega)
  have e2 : t.toList.isEmpty = false := by
    rw [Lib.toList_data, ← Bool.not_eq_true, List.isEmpty_iff]
    intro e; have := size_data t; rw [e, List.length_nil] at this; omega
  clear hs hs0
  obtain rfl : L = 0 := by omega
  clear hl hl2 hL
  rcases hk with rfl | rfl | rfl | rfl | rfl
  all_goals
    unfold Told
    go_enter Tryd.func56, Tryd.ntmps56
    go_wp2_with fail
    go_ret
    exact ⟨rfl, rfl⟩
end Go.Proofs.YtkkdpafkafjfgaaDoor
namespace Go.Proofs.YtkkdpafkafjfgaaDoor
open Go.RowKit
set_option linter.unusedVariables false
set_option maxRecDepth 100000 in
set_option maxHeartbeats 4000000 in
theorem wrong_name {w : World} {b o : Nat} {k : Int} {t : ByteArray} {n : Int} {m : ByteArray} {L : Nat} (h : Seen w b o k t n m L) (hk : k = 21 ∨ k = 22 ∨ k = 23 ∨ k = 24) (hs : named m = false) : Told w b o 7 := by
  obtain ⟨c0, c1, c2, c3, ⟨a, c, c4⟩, hL, hk2, hn2, ht, hm⟩ := h
  have HN := hidd hs
  clear hs
  rcases hk with rfl | rfl | rfl | rfl
  all_goals
    unfold Told
    go_enter Tryd.func56, Tryd.ntmps56
    go_wp2_with fail
    refine (Named_any m w hm).mono ?_; rintro e w2 ⟨rfl, rfl⟩
    rw [HN.out]
    go_wp2_with fail
    go_ret
    exact ⟨rfl, rfl⟩
set_option maxRecDepth 100000 in
set_option maxHeartbeats 4000000 in
theorem wrong_give_few {w : World} {b o : Nat} {k : Int} {t : ByteArray} {n : Int} {m : ByteArray} {L : Nat} (h : Seen w b o k t n m L) (hk : k = 21 ∨ k = 22) (hs : named m = true) (hl : L < 1) : Told w b o 5 := by
  obtain ⟨c0, c1, c2, c3, ⟨a, c, c4⟩, hL, hk2, hn2, ht, hm⟩ := h
  have HN := hidd hs
  clear hs
  have e8 : decide ((L : Int) < 1) = true := decide_eq_true (by omega)
  clear hl
  rcases hk with rfl | rfl
  all_goals
    unfold Told
    go_enter Tryd.func56, Tryd.ntmps56
    go_wp2_with fail
    refine (Named_any m w hm).mono ?_; rintro e w2 ⟨rfl, rfl⟩
    rw [HN.out]
    go_wp2_with fail
    go_ret
    exact ⟨rfl, rfl⟩
set_option maxRecDepth 100000 in
set_option maxHeartbeats 4000000 in
theorem wrong_give_more {w : World} {b o : Nat} {k : Int} {t : ByteArray} {n : Int} {m : ByteArray} {L : Nat} (h : Seen w b o k t n m L) (hk : k = 21 ∨ k = 22) (hs : named m = true) (hl : 1 < L) : Told w b o 5 := by
  obtain ⟨c0, c1, c2, c3, ⟨a, c, c4⟩, hL, hk2, hn2, ht, hm⟩ := h
  have HN := hidd hs
  clear hs
  have e8 : decide ((L : Int) < 1) = false := decide_eq_false (by omega)
  have e9 : decide ((1 : Int) < (L : Int)) = true := decide_eq_true (by omega)
  clear hl
  rcases hk with rfl | rfl
  all_goals
    unfold Told
    go_enter Tryd.func56, Tryd.ntmps56
    go_wp2_with fail
    refine (Named_any m w hm).mono ?_; rintro e w2 ⟨rfl, rfl⟩
    rw [HN.out]
    go_wp2_with fail
    go_ret
    exact ⟨rfl, rfl⟩
set_option maxRecDepth 100000 in
set_option maxHeartbeats 4000000 in
theorem wrong_give_ok {w : World} {b o : Nat} {k : Int} {t : ByteArray} {n : Int} {m : ByteArray} {L : Nat} (h : Seen w b o k t n m L) (hk : k = 21 ∨ k = 22) (hs : named m = true) (hl : 1 ≤ L) (hl2 : L ≤ 1) : Told w b o 0 := by
  obtain ⟨c0, c1, c2, c3, ⟨a, c, c4⟩, hL, hk2, hn2, ht, hm⟩ := h
  have HN := hidd hs
  clear hs
  have e8 : decide ((L : Int) < 1) = false := decide_eq_false (by omega)
  have e9 : decide ((1 : Int) < (L : Int)) = false := decide_eq_false (by omega)
  clear hl hl2
  rcases hk with rfl | rfl
  all_goals
    unfold Told
    go_enter Tryd.func56, Tryd.ntmps56
    go_wp2_with fail
    refine (Named_any m w hm).mono ?_; rintro e w2 ⟨rfl, rfl⟩
    rw [HN.out]
    go_wp2_with fail
    go_ret
    exact ⟨rfl, rfl⟩
set_option maxRecDepth 100000 in
set_option maxHeartbeats 4000000 in
theorem wrong_call_more {w : World} {b o : Nat} {k : Int} {t : ByteArray} {n : Int} {m : ByteArray} {L : Nat} (h : Seen w b o k t n m L) (hk : k = 23 ∨ k = 24) (hs : named m = true) (hl : 0 < L) : Told w b o 5 := by
  obtain ⟨c0, c1, c2, c3, ⟨a, c, c4⟩, hL, hk2, hn2, ht, hm⟩ := h
  have HN := hidd hs
  clear hs
  have e8 : decide ((L : Int) < 0) = false := decide_eq_false (by omega)
  have e9 : decide ((0 : Int) < (L : Int)) = true := decide_eq_true (by omega)
  have e7 : decide (0 < L) = true := decide_eq_true hl
  rcases hk with rfl | rfl
  all_goals
    unfold Told
    go_enter Tryd.func56, Tryd.ntmps56
    go_wp2_with fail
    refine (Named_any m w hm).mono ?_; rintro e w2 ⟨rfl, rfl⟩
    rw [HN.out]
    go_wp2_with fail
    go_ret
    exact ⟨rfl, rfl⟩
set_option maxRecDepth 100000 in
set_option maxHeartbeats 4000000 in
theorem wrong_call_ok {w : World} {b o : Nat} {k : Int} {t : ByteArray} {n : Int} {m : ByteArray} {L : Nat} (h : Seen w b o k t n m L) (hk : k = 23 ∨ k = 24) (hs : named m = true) (hl : 0 ≤ L) (hl2 : L ≤ 0) : Told w b o 0 := by
  obtain ⟨c0, c1, c2, c3, ⟨a, c, c4⟩, hL, hk2, hn2, ht, hm⟩ := h
  have HN := hidd hs
  clear hs
  obtain rfl : L = 0 := by omega
  clear hl hl2 hL
  rcases hk with rfl | rfl
  all_goals
    unfold Told
    go_enter Tryd.func56, Tryd.ntmps56
    go_wp2_with fail
    refine (Named_any m w hm).mono ?_; rintro e w2 ⟨rfl, rfl⟩
    rw [HN.out]
    go_wp2_with fail
    go_ret
    exact ⟨rfl, rfl⟩
set_option maxRecDepth 100000 in
set_option maxHeartbeats 4000000 in
theorem wrong_plain_more {w : World} {b o : Nat} {k : Int} {t : ByteArray} {n : Int} {m : ByteArray} {L : Nat} (h : Seen w b o k t n m L) (hk : k = 12 ∨ k = 13 ∨ k = 14 ∨ k = 15 ∨ k = 16 ∨ k = 17) (hl : 0 < L) : Told w b o 5 := by
  obtain ⟨c0, c1, c2, c3, ⟨a, c, c4⟩, hL, hk2, hn2, ht, hm⟩ := h
  have e8 : decide ((L : Int) < 0) = false := decide_eq_false (by omega)
  have e9 : decide ((0 : Int) < (L : Int)) = true := decide_eq_true (by omega)
  have e7 : decide (0 < L) = true := decide_eq_true hl
  rcases hk with rfl | rfl | rfl | rfl | rfl | rfl
  all_goals
    unfold Told
    go_enter Tryd.func56, Tryd.ntmps56
    go_wp2_with fail
    go_ret
    exact ⟨rfl, rfl⟩
set_option maxRecDepth 100000 in
set_option maxHeartbeats 4000000 in
theorem wrong_plain_ok {w : World} {b o : Nat} {k : Int} {t : ByteArray} {n : Int} {m : ByteArray} {L : Nat} (h : Seen w b o k t n m L) (hk : k = 12 ∨ k = 13 ∨ k = 14 ∨ k = 15 ∨ k = 16 ∨ k = 17) (hl : 0 ≤ L) (hl2 : L ≤ 0) : Told w b o 0 := by
  obtain ⟨c0, c1, c2, c3, ⟨a, c, c4⟩, hL, hk2, hn2, ht, hm⟩ := h
  obtain rfl : L = 0 := by omega
  clear hl hl2 hL
  rcases hk with rfl | rfl | rfl | rfl | rfl | rfl
  all_goals
    unfold Told
    go_enter Tryd.func56, Tryd.ntmps56
    go_wp2_with fail
    go_ret
    exact ⟨rfl, rfl⟩
end Go.Proofs.YtkkdpafkafjfgaaDoor

namespace Go.Proofs.YtkkdpafkafjfgaaDoor
open Go.RowKit RR
set_option linter.unusedVariables false
set_option maxRecDepth 100000
theorem mapM_some {α β : Type} {f : α → Option β} {g : α → β} : ∀ {l : List α}, (∀ x ∈ l, f x = some (g x)) → l.mapM f = some (l.map g)
  | [], _ => rfl
  | x :: l, h => by
    rw [List.mapM_cons, h x (by simp), mapM_some fun y hy => h y (by simp [hy])]; rfl
theorem keyOf_row {P : Program} {k e : TypeId} {n : Nat} (hu : P.underlying k = some (.array n e)) (he : P.underlying e = some (.int .i64)) (hkt : P.keyType k = true) (hce : P.cellsOf e = 1) (hck : P.cellsOf k = n) (hp : ∃ m, P.types.size = m + 1) (f : Nat → Int) (hf : ∀ i, i < n → (Lit.int .i64 (f i)).wf = true) :
    ∃ y, keyOf P k (.agg ((List.range n).map fun i => Value.int .i64 (f i)).toArray) = some y := by
  obtain ⟨m, hm⟩ := hp
  have hsz : ((List.range n).map fun i => Value.int .i64 (f i)).length = n := by simp
  unfold keyOf
  rw [hu]
  dsimp only
  have h1 : (P.keyType k && (Value.agg ((List.range n).map fun i => Value.int .i64 (f i)).toArray).formed P k) = true := by
    rw [hkt]; unfold Value.formed; rw [hu]; simp [hck]
  rw [if_pos h1]
  have h2 : P.keyLits (P.types.size + 1) k (Value.agg ((List.range n).map fun i => Value.int .i64 (f i)).toArray).cells.toList = some (((List.range n).map fun i => [Lit.int .i64 (f i)]).flatten) := by
    show P.keyLits (P.types.size + 1) k ((List.range n).map fun i => Value.int .i64 (f i)) = _
    unfold Program.keyLits
    rw [hu]
    dsimp only
    rw [if_pos (by rw [hsz, hck])]
    rw [mapM_some (g := fun i => [Lit.int .i64 (f i)]) fun i hi => ?_]
    · rfl
    · have hi := List.mem_range.1 hi
      rw [hce, Nat.mul_one]
      have e1 : (List.drop i ((List.range n).map fun i => Value.int .i64 (f i))).take 1 = [Value.int .i64 (f i)] := by
        rw [List.drop_eq_getElem_cons (by rw [hsz]; exact hi), List.take_succ_cons, List.take_zero]
        simp
      rw [e1, hm]
      unfold Program.keyLits
      rw [he]
      dsimp only
      rw [if_pos ⟨rfl, hf i hi⟩]
  rw [h2]
  exact ⟨_, rfl⟩
theorem types_pos : ∃ m, Tryd.prog.types.size = m + 1 := ⟨Tryd.prog.types.size - 1, by have : 0 < Tryd.prog.types.size := of_decide_eq_true (by kernel_rfl); omega⟩
def twoV (x : Nat × Nat) : Value := .agg #[.int .i64 (x.1 : Nat), .int .i64 (x.2 : Nat)]
theorem key_two {a b : Nat} (ha : a ≤ 9223372036854775807) (hb : b ≤ 9223372036854775807) : ∃ y, keyOf Tryd.prog 161 (.agg #[.int .i64 (a : Nat), .int .i64 (b : Nat)]) = some y := by
  have := keyOf_row (P := Tryd.prog) (k := 161) (e := 3) (n := 2) Tryd.underlying161 Tryd.underlying3 (by kernel_rfl) (by kernel_rfl) (by kernel_rfl) types_pos (fun i => if i = 0 then (a : Int) else (b : Int)) (fun i _ => by split; exact wf_i64 ha; exact wf_i64 hb)
  exact this
def enc2 : Enc Tryd.prog 161 (Nat × Nat) where
  enc := twoV
  D x := x.1 ≤ 9223372036854775807 ∧ x.2 ≤ 9223372036854775807
  key x h := key_two h.1 h.2
  inj x y _ _ h := by
    obtain ⟨a, b⟩ := x
    obtain ⟨c, d⟩ := y
    unfold twoV at h
    simp only [Value.agg.injEq, Array.mk.injEq, List.cons.injEq, Value.int.injEq, true_and, and_true] at h
    rw [Int.ofNat_inj.1 h.1, Int.ofNat_inj.1 h.2]
theorem key2 : Maps.Keyed Tryd.prog 161 := Maps.Keyed.of_law (deep_law_laid laidOutA (m := 3) (by decide) (of_decide_eq_true (by kernel_rfl)) (by kernel_rfl) (by kernel_rfl))
theorem info_twox : ∃ i0, Tryd.prog.info? 161 = some i0 ∧ i0.zero = some (.agg #[.int .i64 0, .int .i64 0]) ∧ i0.size = 2 ∧ i0.bytes = 16 := info_parts (show (Tryd.prog.info? 161).map (fun i => (i.zero, i.size, i.bytes)) = some (some (.agg #[.int .i64 0, .int .i64 0]), 2, 16) by kernel_rfl)
end Go.Proofs.YtkkdpafkafjfgaaDoor
