/- The reference's Much: whether one of some texts has more than 65536 bytes: at every list that lies in memory. -/
import Derived.Test.YtgkchdjogfdjaaaDoorBase
namespace Go.Proofs.YtgkchdjogfdjaaaDoor
open Go.RowKit
set_option linter.unusedVariables false

def muchB (l : List ByteArray) : Bool := l.any fun s => decide (65536 < s.size)

theorem muchB_hit (l : List ByteArray) (k : Nat) (h : k < l.length) (h2 : 65536 < (l.getD k ByteArray.empty).size) : muchB l = true := by
  unfold muchB
  rw [List.any_eq_true]
  refine ⟨l[k], List.getElem_mem h, ?_⟩
  simp [List.getD_eq_getElem?_getD, List.getElem?_eq_getElem h] at h2
  simpa using h2
theorem muchB_none (l : List ByteArray) (h : ∀ j, j < l.length → ¬ 65536 < (l.getD j ByteArray.empty).size) : muchB l = false := by
  unfold muchB
  rw [List.any_eq_false]
  intro s hs
  obtain ⟨j, hj, rfl⟩ := List.getElem_of_mem hs
  have := h j hj
  simp [List.getD_eq_getElem?_getD, List.getElem?_eq_getElem hj] at this
  simpa using this

theorem much_any (l : List ByteArray) (b off cap : Nat) (w : World) (hl : l.length ≤ 1000) (hs : ∀ j, j < l.length → (l.getD j ByteArray.empty).size ≤ maxLen)
    (hc : ∀ j, j < l.length → w.cell? ⟨b, off + j, none⟩ = some (.string (l.getD j ByteArray.empty))) :
    Calls Tryd.prog 24 #[.slice (some ⟨b, off, none⟩) l.length cap] w fun e w' => e = .returned (.bool (muchB l)) ∧ w = w' := by
  have HC := hidd hc
  have HS := hidd hs
  clear hc hs
  go_enter Tryd.func24, Tryd.ntmps24
  go_wp2
  go_loop [7] (fun i => ∃ k : Nat, k ≤ l.length ∧ i = .int .i64 k ∧ Hid (∀ j, j < k → ¬ 65536 < (l.getD j ByteArray.empty).size)) (fun i => l.length - (intOf i).toNat)
  case atStart => exact ⟨0, Nat.zero_le _, rfl, fun j hj => absurd hj (by omega)⟩
  case round =>
    obtain ⟨k, hk, rfl, hn⟩ := hrel
    by_cases hlt : k < l.length
    · have hcell := HC.out k hlt
      have hsz := HS.out k hlt
      obtain ⟨s, hs⟩ : ∃ s, s = l.getD k ByteArray.empty := ⟨_, rfl⟩
      rw [← hs] at hcell hsz
      have HSs := hidd hs
      clear hs
      unfold maxLen at hsz
      go_wp2
      · have h2 : 65536 < s.size := by omega
        go_ret
        refine ⟨?_, rfl⟩
        rw [muchB_hit l k hlt (by rw [← HSs.out]; exact h2)]; rfl
      · have h2 : ¬ 65536 < s.size := by omega
        go_round
        case rel => exact ⟨k + 1, by omega, by go_num, fun j hj => by
          by_cases e : j = k
          · subst e; rw [← HSs.out]; exact h2
          · exact hn.out j (by omega)⟩
        case measure => simp [intOf]; omega
    · go_wp2
      go_ret
      refine ⟨?_, rfl⟩
      rw [muchB_none l (fun j hj => hn.out j (by omega))]; rfl

/-- long of one text. -/
theorem much_1 (s : ByteArray) (w : World) (t : TypeId) (hs : s.size ≤ maxLen) :
    Calls Tryd.prog 24 #[.slice (some ⟨w.heap.size, 0, none⟩) 1 1] (w.alloc (.cells #[.string s] t)) fun e w' => e = .returned (.bool (decide (65536 < s.size))) ∧ w.alloc (.cells #[.string s] t) = w' := by
  have h := much_any [s] w.heap.size 0 1 (w.alloc (.cells #[.string s] t)) (by simp) (by intro j hj; simp at hj; subst hj; simpa using hs)
    (by intro j hj; simp at hj; subst hj; simp [World.cell?_alloc_mark])
  simpa [muchB] using h
/-- long of two texts. -/
theorem much_2 (s u : ByteArray) (w : World) (t : TypeId) (hs : s.size ≤ maxLen) (hu : u.size ≤ maxLen) :
    Calls Tryd.prog 24 #[.slice (some ⟨w.heap.size, 0, none⟩) 2 2] (w.alloc (.cells #[.string s, .string u] t)) fun e w' => e = .returned (.bool (decide (65536 < s.size) || decide (65536 < u.size))) ∧ w.alloc (.cells #[.string s, .string u] t) = w' := by
  have h := much_any [s, u] w.heap.size 0 2 (w.alloc (.cells #[.string s, .string u] t)) (by simp)
    (by intro j hj; match j, hj with | 0, _ => simpa using hs | 1, _ => simpa using hu)
    (by intro j hj; rw [Nat.zero_add, World.cell?_alloc_mark]; match j, hj with | 0, _ => simp | 1, _ => simp)
  simpa [muchB] using h
/-- long of three texts. -/
theorem much_3 (s u v : ByteArray) (w : World) (t : TypeId) (hs : s.size ≤ maxLen) (hu : u.size ≤ maxLen) (hv : v.size ≤ maxLen) :
    Calls Tryd.prog 24 #[.slice (some ⟨w.heap.size, 0, none⟩) 3 3] (w.alloc (.cells #[.string s, .string u, .string v] t)) fun e w' => e = .returned (.bool (decide (65536 < s.size) || (decide (65536 < u.size) || decide (65536 < v.size)))) ∧ w.alloc (.cells #[.string s, .string u, .string v] t) = w' := by
  have h := much_any [s, u, v] w.heap.size 0 3 (w.alloc (.cells #[.string s, .string u, .string v] t)) (by simp)
    (by intro j hj; match j, hj with | 0, _ => simpa using hs | 1, _ => simpa using hu | 2, _ => simpa using hv)
    (by intro j hj; rw [Nat.zero_add, World.cell?_alloc_mark]; match j, hj with | 0, _ => simp | 1, _ => simp | 2, _ => simp)
  simpa [muchB] using h
end Go.Proofs.YtgkchdjogfdjaaaDoor
