/- pats.wrong, some kinds. -/
import Derived.Test.YtkkdpafkafjfgaaDoorMkScPat
import Derived.Test.YtkkdpafkafjfgaaDoorMkPAuK
import Derived.Test.YtkkdpafkafjfgaaDoorMkPGlZ
import Derived.Test.YtkkdpafkafjfgaaDoorMkPBase
import Derived.Lib.Builder
import Derived.Lib.Strings
import Derived.Lib.Slices
import Derived.Lib.Walk
import Derived.OwnWalk
import Derived.Laws.Externs
import Derived.Test.YtkkdpafkafjfgaaDoorMkShelfB
import Derived.Test.YtkkdpafkafjfgaaDoorMkPStBits
namespace Go.Proofs.YtkkdpafkafjfgaaDoor
open Go.RowKit
set_option linter.unusedVariables false
set_option maxRecDepth 100000 in
set_option maxHeartbeats 4000000 in
theorem wrong_lit_more {w : World} {b o : Nat} {k : Int} {t : ByteArray} {n : Int} {m : ByteArray} {L : Nat} (h : Seen w b o k t n m L) (hk : k = 1) (hs : t.size ≤ 65536) (hl : 0 < L) : Told w b o 5 := by
  obtain ⟨c0, c1, c2, c3, ⟨a, c, c4⟩, hL, hk2, hn2, ht, hm⟩ := h
  have e1 : decide (65536 < (t.size : Int)) = false := decide_eq_false (by omega)
  clear hs
  have e8 : decide ((L : Int) < 0) = false := decide_eq_false (by omega)
  have e9 : decide ((0 : Int) < (L : Int)) = true := decide_eq_true (by omega)
  have e7 : decide (0 < L) = true := decide_eq_true hl
  rcases hk with rfl
  all_goals
    unfold Told
    go_enter Tryd.func56, Tryd.ntmps56
    go_wp2_with fail
    go_ret
    exact ⟨rfl, rfl⟩
set_option maxRecDepth 100000 in
set_option maxHeartbeats 4000000 in
theorem wrong_lit_ok {w : World} {b o : Nat} {k : Int} {t : ByteArray} {n : Int} {m : ByteArray} {L : Nat} (h : Seen w b o k t n m L) (hk : k = 1) (hs : t.size ≤ 65536) (hl : 0 ≤ L) (hl2 : L ≤ 0) : Told w b o 0 := by
  obtain ⟨c0, c1, c2, c3, ⟨a, c, c4⟩, hL, hk2, hn2, ht, hm⟩ := h
  have e1 : decide (65536 < (t.size : Int)) = false := decide_eq_false (by omega)
  clear hs
  obtain rfl : L = 0 := by omega
  clear hl hl2 hL
  rcases hk with rfl
  all_goals
    unfold Told
    go_enter Tryd.func56, Tryd.ntmps56
    go_wp2_with fail
    go_ret
    exact ⟨rfl, rfl⟩
set_option maxRecDepth 100000 in
set_option maxHeartbeats 4000000 in
theorem wrong_cat_few {w : World} {b o : Nat} {k : Int} {t : ByteArray} {n : Int} {m : ByteArray} {L : Nat} (h : Seen w b o k t n m L) (hk : k = 18 ∨ k = 19) (hl : L < 2) : Told w b o 5 := by
  obtain ⟨c0, c1, c2, c3, ⟨a, c, c4⟩, hL, hk2, hn2, ht, hm⟩ := h
  have e8 : decide ((L : Int) < 2) = true := decide_eq_true (by omega)
  clear hl
  rcases hk with rfl | rfl
  all_goals
    unfold Told
    go_enter Tryd.func56, Tryd.ntmps56
    go_wp2_with fail
    go_ret
    exact ⟨rfl, rfl⟩
set_option maxRecDepth 100000 in
set_option maxHeartbeats 4000000 in
theorem wrong_cat_more {w : World} {b o : Nat} {k : Int} {t : ByteArray} {n : Int} {m : ByteArray} {L : Nat} (h : Seen w b o k t n m L) (hk : k = 18 ∨ k = 19) (hl : 4096 < L) : Told w b o 5 := by
  obtain ⟨c0, c1, c2, c3, ⟨a, c, c4⟩, hL, hk2, hn2, ht, hm⟩ := h
  have e8 : decide ((L : Int) < 2) = false := decide_eq_false (by omega)
  have e9 : decide ((4096 : Int) < (L : Int)) = true := decide_eq_true (by omega)
  clear hl
  rcases hk with rfl | rfl
  all_goals
    unfold Told
    go_enter Tryd.func56, Tryd.ntmps56
    go_wp2_with fail
    go_ret
    exact ⟨rfl, rfl⟩
set_option maxRecDepth 100000 in
set_option maxHeartbeats 4000000 in
theorem wrong_cat_ok {w : World} {b o : Nat} {k : Int} {t : ByteArray} {n : Int} {m : ByteArray} {L : Nat} (h : Seen w b o k t n m L) (hk : k = 18 ∨ k = 19) (hl : 2 ≤ L) (hl2 : L ≤ 4096) : Told w b o 0 := by
  obtain ⟨c0, c1, c2, c3, ⟨a, c, c4⟩, hL, hk2, hn2, ht, hm⟩ := h
  have e8 : decide ((L : Int) < 2) = false := decide_eq_false (by omega)
  have e9 : decide ((4096 : Int) < (L : Int)) = false := decide_eq_false (by omega)
  clear hl hl2
  rcases hk with rfl | rfl
  all_goals
    unfold Told
    go_enter Tryd.func56, Tryd.ntmps56
    go_wp2_with fail
    go_ret
    exact ⟨rfl, rfl⟩
set_option maxRecDepth 100000 in
set_option maxHeartbeats 4000000 in
theorem wrong_arbno_few {w : World} {b o : Nat} {k : Int} {t : ByteArray} {n : Int} {m : ByteArray} {L : Nat} (h : Seen w b o k t n m L) (hk : k = 20) (hl : L < 1) : Told w b o 5 := by
  obtain ⟨c0, c1, c2, c3, ⟨a, c, c4⟩, hL, hk2, hn2, ht, hm⟩ := h
  have e8 : decide ((L : Int) < 1) = true := decide_eq_true (by omega)
  clear hl
  rcases hk with rfl
  all_goals
    unfold Told
    go_enter Tryd.func56, Tryd.ntmps56
    go_wp2_with fail
    go_ret
    exact ⟨rfl, rfl⟩
set_option maxRecDepth 100000 in
set_option maxHeartbeats 4000000 in
theorem wrong_arbno_more {w : World} {b o : Nat} {k : Int} {t : ByteArray} {n : Int} {m : ByteArray} {L : Nat} (h : Seen w b o k t n m L) (hk : k = 20) (hl : 1 < L) : Told w b o 5 := by
  obtain ⟨c0, c1, c2, c3, ⟨a, c, c4⟩, hL, hk2, hn2, ht, hm⟩ := h
  have e8 : decide ((L : Int) < 1) = false := decide_eq_false (by omega)
  have e9 : decide ((1 : Int) < (L : Int)) = true := decide_eq_true (by omega)
  clear hl
  rcases hk with rfl
  all_goals
    unfold Told
    go_enter Tryd.func56, Tryd.ntmps56
    go_wp2_with fail
    go_ret
    exact ⟨rfl, rfl⟩
set_option maxRecDepth 100000 in
set_option maxHeartbeats 4000000 in
theorem wrong_arbno_ok {w : World} {b o : Nat} {k : Int} {t : ByteArray} {n : Int} {m : ByteArray} {L : Nat} (h : Seen w b o k t n m L) (hk : k = 20) (hl : 1 ≤ L) (hl2 : L ≤ 1) : Told w b o 0 := by
  obtain ⟨c0, c1, c2, c3, ⟨a, c, c4⟩, hL, hk2, hn2, ht, hm⟩ := h
  have e8 : decide ((L : Int) < 1) = false := decide_eq_false (by omega)
  have e9 : decide ((1 : Int) < (L : Int)) = false := decide_eq_false (by omega)
  clear hl hl2
  rcases hk with rfl
  all_goals
    unfold Told
    go_enter Tryd.func56, Tryd.ntmps56
    go_wp2_with fail
    go_ret
    exact ⟨rfl, rfl⟩
set_option maxRecDepth 100000 in
set_option maxHeartbeats 4000000 in
theorem wrong_empty {w : World} {b o : Nat} {k : Int} {t : ByteArray} {n : Int} {m : ByteArray} {L : Nat} (h : Seen w b o k t n m L) (hk : k = 3 ∨ k = 4 ∨ k = 5 ∨ k = 6 ∨ k = 7) (hs : t.size = 0) : Told w b o 8 := by
  obtain ⟨c0, c1, c2, c3, ⟨a, c, c4⟩, hL, hk2, hn2, ht, hm⟩ := h
  have e1 : decide (65536 < (t.size : Int)) = false := decide_eq_false (by omega)
  have e2 : t.toList = [] := by rw [Lib.toList_data]; exact List.eq_nil_of_length_eq_zero (by rw [← size_data]; exact hs)
  have H2 := hidd hs
  clear hs
  rcases hk with rfl | rfl | rfl | rfl | rfl
  all_goals
    unfold Told
    go_enter Tryd.func56, Tryd.ntmps56
    go_wp2_with fail
    go_ret
    exact ⟨rfl, rfl⟩
end Go.Proofs.YtkkdpafkafjfgaaDoor
namespace Go.Proofs.YtkkdpafkafjfgaaDoor
open Go.RowKit
set_option linter.unusedVariables false
set_option maxRecDepth 100000 in
set_option maxHeartbeats 4000000 in
theorem wrong_low {w : World} {b o : Nat} {k : Int} {t : ByteArray} {n : Int} {m : ByteArray} {L : Nat} (h : Seen w b o k t n m L) (hk : k = 2 ∨ k = 8 ∨ k = 9 ∨ k = 10 ∨ k = 11) (hs : n < 0) : Told w b o 3 := by
  obtain ⟨c0, c1, c2, c3, ⟨a, c, c4⟩, hL, hk2, hn2, ht, hm⟩ := h
  have e1 : decide (n < 0) = true := decide_eq_true hs
  clear hs
  rcases hk with rfl | rfl | rfl | rfl | rfl
  all_goals
    unfold Told
    go_enter Tryd.func56, Tryd.ntmps56
    go_wp2_with fail
    go_ret
    exact ⟨rfl, rfl⟩
set_option maxRecDepth 100000 in
set_option maxHeartbeats 4000000 in
theorem wrong_high {w : World} {b o : Nat} {k : Int} {t : ByteArray} {n : Int} {m : ByteArray} {L : Nat} (h : Seen w b o k t n m L) (hk : k = 2 ∨ k = 8 ∨ k = 9 ∨ k = 10 ∨ k = 11) (hs : 65536 < n) : Told w b o 3 := by
  obtain ⟨c0, c1, c2, c3, ⟨a, c, c4⟩, hL, hk2, hn2, ht, hm⟩ := h
  have e1 : decide (n < 0) = false := decide_eq_false (by omega)
  have e2 : decide (65536 < n) = true := decide_eq_true hs
  clear hs
  rcases hk with rfl | rfl | rfl | rfl | rfl
  all_goals
    unfold Told
    go_enter Tryd.func56, Tryd.ntmps56
    go_wp2_with fail
    go_ret
    exact ⟨rfl, rfl⟩
set_option maxRecDepth 100000 in
set_option maxHeartbeats 4000000 in
theorem wrong_num_more {w : World} {b o : Nat} {k : Int} {t : ByteArray} {n : Int} {m : ByteArray} {L : Nat} (h : Seen w b o k t n m L) (hk : k = 2 ∨ k = 8 ∨ k = 9 ∨ k = 10 ∨ k = 11) (hs0 : 0 ≤ n) (hs : n ≤ 65536) (hl : 0 < L) : Told w b o 5 := by
  obtain ⟨c0, c1, c2, c3, ⟨a, c, c4⟩, hL, hk2, hn2, ht, hm⟩ := h
  have e1 : decide (n < 0) = false := decide_eq_false (by omega)
  have e2 : decide (65536 < n) = false := decide_eq_false (by omega)
  clear hs hs0
  have e8 : decide ((L : Int) < 0) = false := decide_eq_false (by omega)
  have e9 : decide ((0 : Int) < (L : Int)) = true := decide_eq_true (by omega)
  have e7 : decide (0 < L) = true := decide_eq_true hl
  rcases hk with rfl | rfl | rfl | rfl | rfl
  all_goals
    unfold Told
    go_enter Tryd.func56, Tryd.ntmps56
    go_wp2_with fail
    go_ret
    exact ⟨rfl, rfl⟩
set_option maxRecDepth 100000 in
set_option maxHeartbeats 4000000 in
theorem wrong_num_ok {w : World} {b o : Nat} {k : Int} {t : ByteArray} {n : Int} {m : ByteArray} {L : Nat} (h : Seen w b o k t n m L) (hk : k = 2 ∨ k = 8 ∨ k = 9 ∨ k = 10 ∨ k = 11) (hs0 : 0 ≤ n) (hs : n ≤ 65536) (hl : 0 ≤ L) (hl2 : L ≤ 0) : Told w b o 0 := by
  obtain ⟨c0, c1, c2, c3, ⟨a, c, c4⟩, hL, hk2, hn2, ht, hm⟩ := h
  have e1 : decide (n < 0) = false := decide_eq_false (by omega)
  have e2 : decide (65536 < n) = false := decide_eq_false (by omega)
  clear hs hs0
  obtain rfl : L = 0 := by omega
  clear hl hl2 hL
  rcases hk with rfl | rfl | rfl | rfl | rfl
  all_goals
    unfold Told
    go_enter Tryd.func56, Tryd.ntmps56
    go_wp2_with fail
    go_ret
    exact ⟨rfl, rfl⟩
end Go.Proofs.YtkkdpafkafjfgaaDoor

namespace Go.Proofs.YtkkdpafkafjfgaaDoor
set_option linter.unusedVariables false
set_option linter.unusedSectionVars false
section
variable {α β : Type} [DecidableEq α] [DecidableEq β]
end
end Go.Proofs.YtkkdpafkafjfgaaDoor

namespace Go.Proofs.YtkkdpafkafjfgaaDoor
open Go.RowKit
set_option linter.unusedVariables false
end Go.Proofs.YtkkdpafkafjfgaaDoor

namespace Go.Proofs.YtkkdpafkafjfgaaDoor
open Go.RowKit
set_option linter.unusedVariables false
end Go.Proofs.YtkkdpafkafjfgaaDoor

namespace Go.Proofs.YtkkdpafkafjfgaaDoor
open Go.RowKit
set_option linter.unusedVariables false
end Go.Proofs.YtkkdpafkafjfgaaDoor

namespace Go.Proofs.YtkkdpafkafjfgaaDoor
open Go.RowKit
set_option linter.unusedVariables false
set_option maxRecDepth 100000
theorem run_zero {t : TypeId} {z : Value} (h : (Tryd.prog.info? t).map (·.zero) = some (some z)) (w : World) : (zeroValue t).run Tryd.prog w = .ok z w := by
  cases hq : Tryd.prog.info? t with
  | none => rw [hq] at h; cases h
  | some i =>
    have hs : i.zero = some z := by simpa [hq] using h
    simp [zeroValue, typeInfo, hq, hs]
def encI : Enc Tryd.prog 3 Nat := encNat Tryd.underlying3
theorem keyI : Maps.Keyed Tryd.prog 3 := Maps.int_keyed Tryd.underlying3
theorem intsI : ∃ i0, Tryd.prog.info? 3 = some i0 ∧ i0.zero = some (.int .i64 0) ∧ i0.size = 1 ∧ i0.bytes = 8 := info_parts (show (Tryd.prog.info? 3).map (fun i => (i.zero, i.size, i.bytes)) = some (some (.int .i64 0), 1, 8) by kernel_rfl)
section
variable {w wr w' : World} {A : Aut} {na : Option Addr} {nc : Nat} {ea : Option Addr} {ec mb : Nat} {L : List (Nat × List UInt8)} {i k : Nat} {qv qv' : Value}
end
end Go.Proofs.YtkkdpafkafjfgaaDoor

namespace Go.Proofs.YtkkdpafkafjfgaaDoor
open Go.RowKit
set_option linter.unusedVariables false
theorem info_i64 : (Tryd.prog.info? 3).map (fun i => (i.zero, i.size, i.bytes)) = some (some (.int .i64 0), 1, 8) := by kernel_rfl
theorem make_ints (n : Nat) (hn : n ≤ 8192) (w : World) : ∃ w', (Instr.makeSlice 37 (.int .i64 (n : Int)) (.int .i64 (n : Int))).run Tryd.prog w = .ok (.slice (some ⟨w.heap.size, 0, none⟩) n n) w' ∧ ArrAt w' w.heap.size 0 n (fun _ => .int .i64 0) ∧ Grew w w' := by
  obtain ⟨i0, hi, hz0, hz1, hz2⟩ := info_parts info_i64
  exact make_row 37 3 i0 (.int .i64 0) Tryd.underlying37 hi hz0 hz1 rfl n (by rw [hz2]; omega) (by unfold maxLen; omega) w
end Go.Proofs.YtkkdpafkafjfgaaDoor

namespace Go.Proofs.YtkkdpafkafjfgaaDoor
open Go.RowKit
set_option linter.unusedVariables false
theorem run_index_rowA (f : Nat → Int) {i : Nat} (hi : i < 256) (w : World) : (Instr.index 26 (.agg (rowI f)) (.int .i64 i)).run Tryd.prog w = .ok (.int .i64 (f i)) w :=
  run_index_arrA Tryd.underlying26 info_int Tryd.underlying3 rfl hi (rowI_get f hi) w
end Go.Proofs.YtkkdpafkafjfgaaDoor

namespace Go.Proofs.YtkkdpafkafjfgaaDoor
set_option linter.unusedVariables false
def InF (g : Gl) : Prop := ∀ q, g.fo.getD q 0 < 2 ^ g.sets.length
theorem InF.join {g : Gl} (h : InF g) {a b : Nat} (hb : b < 2 ^ g.sets.length) : InF (g.join a b) := fun q => by
  rw [join_getD]
  show _ < 2 ^ g.sets.length
  split
  · split
    · exact Nat.or_lt_two_pow (h q) hb
    · exact h q
  · exact Nat.two_pow_pos _
theorem InF.one {g : Gl} (h : InF g) (s : Nat → Bool) : InF (g.one s).2 := by
  unfold Gl.one
  split
  · exact h
  · intro q
    show (g.fo ++ [0]).getD q 0 < 2 ^ (g.sets ++ [s]).length
    rw [getD_snoc0]
    exact Nat.lt_of_lt_of_le (h q) (Nat.pow_le_pow_right (n := 2) (by decide) (by simp))
theorem InF.op2 {c : Bool} {o k : Part} {g : Gl} (h : InF g) (hk : InG g k) : InF (op2 c o k g).2 := by
  cases c
  · exact h
  · exact h.join hk.first
def InC (b : Builder) : Prop := ∀ g, Fits g → InF g → InF (b g).2
theorem lit_inF : ∀ (l : List (Nat → Bool)) (o : Part) (g : Gl), Fits g → InG g o → InF g → InF (litG l o g).2
  | [], o, g, hf, ho, h => h
  | s :: l, o, g, hf, ho, h => by
    rw [litG]
    split
    · exact h
    · have h1 := one_in g s
      have h2 := one_fits hf s
      have h3 := op2_fits (c := true) h2.1 (ho.small hf) h2.2
      exact lit_inF l _ _ h3.1 (op2_in (c := true) (ho.mono h1.1) h1.2) ((h.one s).op2 (c := true) h1.2)
theorem kids_inF (c : Bool) : ∀ (l : List Builder), (∀ b ∈ l, InB b ∧ InC b) → ∀ (o : Part) (g : Gl), Fits g → InG g o → InF g → InF (kidsG c l o g).2
  | [], _, o, g, hf, ho, h => h
  | b :: l, hb, o, g, hf, ho, h => by
    obtain ⟨h1, h2, h3⟩ := (hb b (by simp)).1 g hf
    have hF := (hb b (by simp)).2 g hf h
    rw [kidsG]
    cases e : (b g).1 with
    | none => exact hF
    | some k =>
      have hk := h3 k e
      have h4 := op2_fits (c := c) h1 (ho.small hf) (hk.small h1)
      exact kids_inF c l (fun b hb' => hb b (by simp [hb'])) _ _ h4.1 (op2_in (c := c) (ho.mono h2) hk) (hF.op2 hk)
theorem head_inF (c : Bool) {l : List Builder} (h : ∀ b ∈ l, InB b ∧ InC b) : InC (headG c l) := fun g hf hg => by
  cases l with
  | nil => exact hg
  | cons b l =>
    obtain ⟨h1, h2, h3⟩ := (h b (by simp)).1 g hf
    have hF := (h b (by simp)).2 g hf hg
    rw [headG]
    cases e : (b g).1 with
    | none => exact hF
    | some k => exact kids_inF c l (fun b hb' => h b (by simp [hb'])) k _ h1 (h3 k e) hF
theorem star_inF {b : Builder} (h : InB b) (hc : InC b) : InC (fun g => starG (b g)) := fun g hf hg => by
  obtain ⟨h1, h2, h3⟩ := h g hf
  have hF := hc g hf hg
  cases e : (b g).1 with
  | none =>
    have : starG (b g) = (none, (b g).2) := by unfold starG; rw [e]
    dsimp only; rw [this]; exact hF
  | some k =>
    have : starG (b g) = (some (againP k), (b g).2.join k.last k.first) := by unfold starG; rw [e]
    dsimp only; rw [this]
    exact hF.join (h3 k e).first
theorem buildK_inF {k : Int} {t : ByteArray} {n : Int} {bs : List Builder} (h : ∀ b ∈ bs, InB b ∧ InC b) : InC (buildK k t n bs) := fun g hf hg => by
  unfold buildK
  split
  · exact lit_inF _ _ g hf (in0 g true) hg
  split
  · exact hg.one _
  split
  · exact hg.one _
  split
  · exact star_inF (b := fun g => someG (g.one allB)) (fun g hf => ⟨(one_fits hf _).1, (one_in g _).1, fun o e => by cases e; exact (one_in g _).2⟩) (fun g hf hg => hg.one _) g hf hg
  split
  · exact hg
  split
  · exact head_inF true h g hf hg
  split
  · exact head_inF false h g hf hg
  split
  · exact star_inF (head_in false fun b hb => (h b hb).1) (head_inF false h) g hf hg
  · exact hg
mutual
theorem build_inF : ∀ p : Pat, InC (buildP p)
  | .mk k t n m l => by rw [buildP]; exact buildK_inF fun b hb => ⟨buildL_in l b hb, buildL_inF l b hb⟩
theorem buildL_inF : ∀ (l : List Pat), ∀ b ∈ buildL l, InC b
  | [], b, h => by rw [buildL] at h; cases h
  | p :: l, b, h => by
    rw [buildL] at h
    cases h with
    | head => exact build_inF p
    | tail _ h => exact buildL_inF l b h
end
theorem inF0 : InF gl0 := fun q => by simp [gl0]
theorem may_lt {g : Gl} (h : InF g) {o : Part} (ho : InG g o) (s : Nat) : mayG g o s < 2 ^ g.sets.length := by
  unfold mayG
  split
  · exact ho.first
  · refine Nat.lt_pow_two_of_testBit _ fun i hi => ?_
    rw [Bool.eq_false_iff]
    intro hb
    rw [fold_or, Nat.zero_testBit] at hb
    rcases hb with hb | ⟨q, _, _, h3⟩
    · cases hb
    · rw [Nat.testBit_lt_two_pow (Nat.lt_of_lt_of_le (h q) (Nat.pow_le_pow_right (n := 2) (by decide) hi))] at h3; cases h3
theorem st_lt2 {g : Gl} (h : InF g) {o : Part} (ho : InG g o) (s c : Nat) : stG g o s c < 2 ^ g.sets.length := by
  refine Nat.lt_pow_two_of_testBit _ fun i hi => ?_
  rw [Bool.eq_false_iff]
  intro hb
  have h2 := ((st_bit g o s c i).1 hb).2.1
  unfold bit at h2
  rw [Nat.testBit_lt_two_pow (Nat.lt_of_lt_of_le (may_lt h ho s) (Nat.pow_le_pow_right (n := 2) (by decide) hi))] at h2; cases h2
end Go.Proofs.YtkkdpafkafjfgaaDoor
