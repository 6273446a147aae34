/- The document's In, texts, numbers: is a kind one of some? -/
import Derived.Test.YtglfdfeideeeaaaDoorScPat
import Derived.Test.YtglfdfeideeeaaaDoorPScInv
namespace Go.Proofs.YtglfdfeideeeaaaDoor
open Go.RowKit
set_option linter.unusedVariables false
def intCells (l : List Int) : Array Value := (l.map fun n => Value.int .i64 n).toArray
set_option maxRecDepth 100000 in
set_option maxHeartbeats 1000000 in
theorem In_any (k : Int) (l : List Int) (b : Nat) (w : World) (hb : w.heap[b]? = some (.cells (intCells l) 3 (0, 0))) (hl : l.length ≤ 100) :
    Calls Tryd.prog 65 #[.int .i64 k, .slice (some ⟨b, 0, none⟩) l.length l.length] w fun e w' => e = .returned (.bool (l.contains k)) ∧ w' = w := by
  have HB : Hid (∀ i (h : i < l.length), w.cell? ⟨b, i, none⟩ = some (.int .i64 (l[i]'h))) := fun i h => by
    unfold World.cell?
    dsimp only
    rw [hb]
    simp [intCells, h]
  clear hb
  obtain ⟨n, hn⟩ : ∃ n, l.length = n := ⟨_, rfl⟩
  rw [hn] at hl ⊢
  have HN := hidd hn
  clear hn
  go_enter Tryd.func65, Tryd.ntmps65
  go_wp2_with fail
  go_loopw [6, 9] (fun u6 u9 wr => ∃ i : Nat, u9 = .int .i64 i ∧ i ≤ n ∧ Hid (∀ j (h : j < l.length), j < i → l[j]'h ≠ k) ∧ wr = w) (fun _ u9 _ => n - (intOf u9).toNat)
  case atStart => exact ⟨0, rfl, Nat.zero_le _, fun j h hj => by omega, rfl⟩
  case round =>
    obtain ⟨i, rfl, hi, HJ, rfl⟩ := hrel
    by_cases hlt : i < n
    · have d1 : decide ((i : Int) < (n : Int)) = true := decide_eq_true (by omega)
      have d2 : decide (i < n) = true := decide_eq_true hlt
      have hil : i < l.length := by rw [HN.out]; exact hlt
      have c0 := HB.out i hil
      by_cases hc : l[i]'hil = k
      · rw [hc] at c0
        have e0 : (k == k) = true := by simp
        have HF : Hid (l.contains k = true) := by
          have : k ∈ l := by rw [← hc]; exact List.getElem_mem hil
          rw [Hid]; simpa using this
        clear hc
        go_wp2_with fail
        go_ret
        rw [HF.out]
        exact ⟨rfl, rfl⟩
      · have e0 : (l[i]'hil == k) = false := by rw [beq_eq_false_iff_ne]; exact hc
        have HJ2 : Hid (∀ j (h : j < l.length), j < i + 1 → l[j]'h ≠ k) := fun j h hj => by
          by_cases e : j = i
          · subst e; exact hc
          · exact HJ.out j h (by omega)
        clear hc
        obtain ⟨x, hx⟩ : ∃ x, l[i]'hil = x := ⟨_, rfl⟩
        rw [hx] at c0 e0
        clear hx
        go_wp2_with fail
        go_roundw
        case rel => exact ⟨i + 1, by go_num, by omega, HJ2, trivial⟩
        case measure => simp [intOf]; omega
    · have d1 : decide ((i : Int) < (n : Int)) = false := decide_eq_false (by omega)
      have d2 : decide (i < n) = false := decide_eq_false hlt
      have HF : Hid (l.contains k = false) := by
        rw [Hid, ← Bool.not_eq_true]
        intro h
        have h : k ∈ l := by simpa using h
        obtain ⟨j, hj, e⟩ := List.getElem_of_mem h
        exact HJ.out j hj (by have := HN.out; omega) e
      go_wp2_with fail
      go_ret
      rw [HF.out]
      exact ⟨rfl, rfl⟩
def isTx (k : Int) : Bool := [(3 : Int), 4, 5, 6, 7].contains k
def isNb (k : Int) : Bool := [(2 : Int), 8, 9, 10, 11].contains k
set_option maxRecDepth 100000 in
theorem texts_any (k : Int) (w : World) : Calls Tryd.prog 63 #[.int .i64 k] w fun e w' => e = .returned (.bool (isTx k)) ∧ Grew w w' := by
  have HI := hidd (In_any k [3, 4, 5, 6, 7] w.heap.size (w.alloc (.cells (intCells [3, 4, 5, 6, 7]) 3)) (heap_alloc_new w _) (by decide))
  have HR : Hid (isTx k = [(3 : Int), 4, 5, 6, 7].contains k) := rfl
  obtain ⟨r, hr⟩ : ∃ r, [(3 : Int), 4, 5, 6, 7].contains k = r := ⟨_, rfl⟩
  rw [hr] at HI HR
  clear hr
  go_enter Tryd.func63, Tryd.ntmps63
  go_wp2_with (go_at_call 65; refine HI.out.mono ?_; rintro e w' ⟨rfl, rfl⟩)
  go_ret
  exact ⟨by rw [HR.out]; rfl, (Grew.refl _).alloc _⟩
set_option maxRecDepth 100000 in
theorem numbers_any (k : Int) (w : World) : Calls Tryd.prog 64 #[.int .i64 k] w fun e w' => e = .returned (.bool (isNb k)) ∧ Grew w w' := by
  have HI := hidd (In_any k [2, 8, 9, 10, 11] w.heap.size (w.alloc (.cells (intCells [2, 8, 9, 10, 11]) 3)) (heap_alloc_new w _) (by decide))
  have HR : Hid (isNb k = [(2 : Int), 8, 9, 10, 11].contains k) := rfl
  obtain ⟨r, hr⟩ : ∃ r, [(2 : Int), 8, 9, 10, 11].contains k = r := ⟨_, rfl⟩
  rw [hr] at HI HR
  clear hr
  go_enter Tryd.func64, Tryd.ntmps64
  go_wp2_with (go_at_call 65; refine HI.out.mono ?_; rintro e w' ⟨rfl, rfl⟩)
  go_ret
  exact ⟨by rw [HR.out]; rfl, (Grew.refl _).alloc _⟩
end Go.Proofs.YtglfdfeideeeaaaDoor
namespace Go.Proofs.YtglfdfeideeeaaaDoor
open Go.RowKit
set_option linter.unusedVariables false
theorem named_loop (l : List UInt8) (k : Nat) (h : k < l.length) : nameFrom l (k + 1) = (nameFrom l k && nameByte k (l[k]'h)) := by
  rw [nameFrom_succ, List.getD_eq_getElem?_getD, List.getElem?_eq_getElem h]; rfl
set_option maxRecDepth 100000 in
set_option maxHeartbeats 4000000 in
theorem NamedR_any (t : ByteArray) (w : World) (ht : t.size ≤ maxLen) :
    Calls Tryd.prog 66 #[.string t] w fun e w' => e = .returned (.bool (named t)) ∧ Grew w w' := by
  unfold maxLen at ht
  have hconv := bytesOf w t
  have hb := bytesAt_row w.drew t (grownCap w t.size 0 5) 5
  obtain ⟨w1, hw1⟩ : ∃ w1, w.drew.alloc (.cells (bytesRow t (grownCap w t.size 0 5)) 5 ((bytesRow t (grownCap w t.size 0 5)).size, (bytesRow t (grownCap w t.size 0 5)).size + 1)) = w1 := ⟨_, rfl⟩
  have HG : Hid (Grew w w1) := hw1 ▸ ((Grew.refl w).drew.alloc _)
  rw [hw1] at hconv hb
  generalize grownCap w t.size 0 5 = cap at hconv
  have HB : Hid (∀ j (hj : j < t.size), w1.cell? ⟨w.heap.size, j, none⟩ = some (.int .u8 (t.data.toList[j]'hj).toNat)) := fun j hj => by
    have := (hb j (by simpa using hj)).1
    rw [Nat.zero_add] at this
    show w1.cell? ⟨w.drew.heap.size, j, none⟩ = _
    rw [this]; simp [encB]
    rw [getElem!_pos t.data j hj]
  clear hb hw1
  have HN : Hid (named t = (decide (1 ≤ t.size) && (decide (t.size ≤ 16) && nameFrom t.data.toList t.size))) := rfl
  go_enter Tryd.func66, Tryd.ntmps66
  go_wp2_with fail
  go_loop [3, 4, 5, 6, 10] (fun _ _ _ _ u => ∃ k : Nat, k ≤ t.size ∧ u = .int .i64 k ∧ Hid (nameFrom t.data.toList k = true)) (fun _ _ _ _ u => t.size - (intOf u).toNat)
  case atStart => exact ⟨0, Nat.zero_le _, rfl, rfl⟩
  case round =>
    obtain ⟨k, hk, rfl, HA⟩ := hrel
    by_cases hlt : k < t.size
    · have hc0 := HB.out k hlt
      have hl : k < t.data.toList.length := hlt
      have HS := hidd (named_loop t.data.toList k hl)
      have HX : Hid (nameByte k (t.data.toList[k]'hl) = false → nameFrom t.data.toList t.size = false) := fun h => nameFrom_false (k := k) (by rw [List.getD_eq_getElem?_getD, List.getElem?_eq_getElem hl]; exact h) hlt
      have HBy : Hid (nameByte k (t.data.toList[k]'hl) = ((decide (65 ≤ (t.data.toList[k]'hl).toNat) && decide ((t.data.toList[k]'hl).toNat ≤ 90)) || (decide (0 < k) && (decide (48 ≤ (t.data.toList[k]'hl).toNat) && decide ((t.data.toList[k]'hl).toNat ≤ 57))))) := rfl
      have hmb := (t.data.toList[k]'hl).toNat_lt
      generalize t.data.toList[k] = c at hc0 HS HX HBy hmb
      obtain ⟨m, hm⟩ : ∃ m, c.toNat = m := ⟨_, rfl⟩
      rw [hm] at hc0 HBy hmb
      clear hm HB
      have hc : ((m < 48 ∨ (48 ≤ m ∧ m ≤ 57)) ∨ ((57 < m ∧ m < 65) ∨ (65 ≤ m ∧ m ≤ 90)) ∨ 90 < m) := by omega
      have hz : k = 0 ∨ 0 < k := by omega
      rcases hz with hz | hz
      all_goals
        rcases hc with (hc | ⟨hc, hc'⟩) | (⟨hc, hc'⟩ | ⟨hc, hc'⟩) | hc
        all_goals
          have g1 : decide ((65 : Int) ≤ (m : Int)) = decide (65 ≤ m) := by rw [decide_eq_decide]; omega
          have g2 : decide ((m : Int) ≤ 90) = decide (m ≤ 90) := by rw [decide_eq_decide]; omega
          have g3 : decide ((48 : Int) ≤ (m : Int)) = decide (48 ≤ m) := by rw [decide_eq_decide]; omega
          have g4 : decide ((m : Int) ≤ 57) = decide (m ≤ 57) := by rw [decide_eq_decide]; omega
          have g5 : decide ((0 : Int) < (k : Int)) = decide (0 < k) := by rw [decide_eq_decide]; omega
          have HH := hidd HBy.out
          have HHH : Hid (nameByte k c = false ∨ nameByte k c = true) := by rw [Hid]; cases nameByte k c <;> simp
          first | rw [decide_eq_true (show 65 ≤ m by omega)] at g1 | rw [decide_eq_false (show ¬ (65 ≤ m) by omega)] at g1
          first | rw [decide_eq_true (show m ≤ 90 by omega)] at g2 | rw [decide_eq_false (show ¬ (m ≤ 90) by omega)] at g2
          first | rw [decide_eq_true (show 48 ≤ m by omega)] at g3 | rw [decide_eq_false (show ¬ (48 ≤ m) by omega)] at g3
          first | rw [decide_eq_true (show m ≤ 57 by omega)] at g4 | rw [decide_eq_false (show ¬ (m ≤ 57) by omega)] at g4
          first | rw [decide_eq_true (show 0 < k by omega)] at g5 | rw [decide_eq_false (show ¬ (0 < k) by omega)] at g5
          have g6 : decide (0 < k) = decide ((0 : Int) < (k : Int)) := by rw [decide_eq_decide]; omega
          rw [g5] at g6
          have HZ := hidd hz
          clear hz
          go_wp2_with fail
          first
          | (go_ret; refine ⟨ret_bool ?_, HG.out⟩; rw [HN.out, HX.out (by rw [HH.out]; have := HZ.out; simp; omega)]; simp)
          | (go_round
             case rel => exact ⟨k + 1, by omega, by go_num, by rw [Hid, HS.out, HA.out, HH.out]; have := HZ.out; simp; omega⟩
             case measure => simp [intOf]; omega)
    · obtain rfl : k = t.size := by omega
      have k1 : decide ((1 : Int) ≤ (t.size : Int)) = decide (1 ≤ t.size) := by rw [decide_eq_decide]; omega
      have k2 : decide ((t.size : Int) ≤ 16) = decide (t.size ≤ 16) := by rw [decide_eq_decide]; omega
      have HH := HA
      by_cases h1 : 1 ≤ t.size
      · rw [decide_eq_true h1] at k1
        have k3 : decide (1 ≤ t.size) = true := decide_eq_true h1
        by_cases h2 : t.size ≤ 16
        · rw [decide_eq_true h2] at k2
          have k4 : decide (t.size ≤ 16) = true := decide_eq_true h2
          go_wp2_with fail
          go_ret
          exact ⟨ret_bool (by rw [HN.out, HH.out, k3, k4]; rfl), HG.out⟩
        · rw [decide_eq_false h2] at k2
          have k4 : decide (t.size ≤ 16) = false := decide_eq_false h2
          go_wp2_with fail
          go_ret
          exact ⟨ret_bool (by rw [HN.out, k4]; simp), HG.out⟩
      · rw [decide_eq_false h1] at k1
        have k3 : decide (1 ≤ t.size) = false := decide_eq_false h1
        go_wp2_with fail
        go_ret
        exact ⟨ret_bool (by rw [HN.out, k3]; rfl), HG.out⟩
end Go.Proofs.YtglfdfeideeeaaaDoor
