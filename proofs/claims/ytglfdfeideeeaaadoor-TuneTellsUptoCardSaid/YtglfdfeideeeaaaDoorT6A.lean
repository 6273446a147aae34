/- The document's small helpers of chapter 6: bytes, lit, meets. Conditions: the texts' own bounds. -/
import Derived.Test.YtglfdfeideeeaaaDoorTnRight
import Derived.Test.YtglfdfeideeeaaaDoorStRText
import Derived.Test.YtglfdfeideeeaaaDoorPScInv
import Derived.Deep.QuietTactic
namespace Go.Proofs.YtglfdfeideeeaaaDoor
open Go.RowKit
set_option linter.unusedVariables false
theorem bytes6_any (t : ByteArray) (w : World) (ht : t.size ≤ maxLen) : Calls Tryd.prog 46 #[.string t] w fun e w' => e = .returned (.string (spell t)) ∧ Grew w w' := by
  have H1 := hidd (ROf_any t w ht)
  have H2 := hidd (RText_any (setOf t.data.toList))
  clear ht
  unfold setV at H1 H2
  go_enter Tryd.func46, Tryd.ntmps46
  go_wp2_with fail
  refine H1.out.mono ?_; rintro e w1 ⟨rfl, g1⟩
  have G1 := hidd g1
  clear g1
  go_wp2_with fail
  refine (H2.out w1).mono ?_; rintro e w2 ⟨rfl, g2⟩
  have G2 := hidd (G1.out.trans g2)
  clear g2
  go_wp2_with fail
  go_ret
  exact ⟨rfl, G2.out⟩
theorem meets_step {a b : ByteArray} : (!apartB a b) = true ↔ ∃ i, ∃ (h : i < a.size), ∃ j, ∃ (k : j < b.size), a[i]'h = b[j]'k := by
  unfold apartB
  constructor
  · intro h
    have h : ¬ (a.data.toList.all fun c => !b.data.toList.contains c) = true := by simpa using h
    rw [List.all_eq_true] at h
    have ⟨c, hc, hb⟩ : ∃ c ∈ a.data.toList, c ∈ b.data.toList := by
      refine Classical.byContradiction fun hn => h fun c hc => ?_
      have : c ∉ b.data.toList := fun hb => hn ⟨c, hc, hb⟩
      simpa using this
    obtain ⟨i, hi, e⟩ := List.getElem_of_mem hc
    obtain ⟨j, hj, e2⟩ := List.getElem_of_mem hb
    exact ⟨i, hi, j, hj, by show a.data.toList[i] = b.data.toList[j]; rw [e, e2]⟩
  · rintro ⟨i, hi, j, hj, e⟩
    rw [Bool.not_eq_true', ← Bool.not_eq_true, List.all_eq_true]
    intro h
    have h1 := h (a.data.toList[i]'hi) (List.getElem_mem _)
    have h2 : a.data.toList[i]'hi ∈ b.data.toList := by
      have : a.data.toList[i]'hi = b.data.toList[j]'hj := e
      rw [this]; exact List.getElem_mem _
    rw [List.contains_iff_mem.2 h2] at h1
    simp at h1
set_option maxRecDepth 100000 in
set_option maxHeartbeats 4000000 in
theorem meets_any (a b : ByteArray) (w : World) (ha : a.size ≤ maxLen) (hb : b.size ≤ maxLen) : Calls Tryd.prog 50 #[.string a, .string b] w fun e w' => e = .returned (.bool (!apartB a b)) ∧ Grew w w' := by
  unfold maxLen at ha hb
  have hconv := bytesOf w a
  obtain ⟨w1, hw1⟩ : ∃ w1, w.drew.alloc (.cells (bytesRow a (grownCap w a.size 0 5)) 5 ((bytesRow a (grownCap w a.size 0 5)).size, (bytesRow a (grownCap w a.size 0 5)).size + 1)) = w1 := ⟨_, rfl⟩
  have HG : Hid (Grew w w1) := hw1 ▸ ((Grew.refl w).drew.alloc _)
  rw [hw1] at hconv
  generalize grownCap w a.size 0 5 = cap at hconv
  clear hw1
  go_enter Tryd.func50, Tryd.ntmps50
  go_wp2_with fail
  clear hconv
  obtain ⟨wo, rfl⟩ : ∃ wo, wo = w := ⟨_, rfl⟩
  go_loopw [5, 6, 10] (fun _ _ u10 wr => ∃ i : Nat, u10 = .int .i64 i ∧ i ≤ a.size ∧ Hid (∀ k (h : k < a.size), k < i → ∀ j (h2 : j < b.size), a[k]'h ≠ b[j]'h2) ∧ Hid (Grew wo wr)) (fun _ _ u10 _ => a.size - (intOf u10).toNat)
  case atStart => exact ⟨0, rfl, Nat.zero_le _, fun k h hk => by omega, HG.out⟩
  case round =>
    obtain ⟨i, rfl, hi, HJ, HGr⟩ := hrel
    clear HG
    by_cases hlt : i < a.size
    · have d1 : decide ((i : Int) < (a.size : Int)) = true := decide_eq_true (by omega)
      have d2 : decide (i < a.size) = true := decide_eq_true hlt
      have hconv := bytesOf wr b
      obtain ⟨w2, hw2⟩ : ∃ w2, wr.drew.alloc (.cells (bytesRow b (grownCap wr b.size 0 5)) 5 ((bytesRow b (grownCap wr b.size 0 5)).size, (bytesRow b (grownCap wr b.size 0 5)).size + 1)) = w2 := ⟨_, rfl⟩
      have HG2 : Hid (Grew wo w2) := HGr.out.trans (hw2 ▸ ((Grew.refl wr).drew.alloc _))
      rw [hw2] at hconv
      generalize grownCap wr b.size 0 5 = cap2 at hconv
      clear hw2
      go_wp2_with fail
      clear hconv
      obtain ⟨wq, rfl⟩ : ∃ wq, wq = wr := ⟨_, rfl⟩
      go_loopw [6, 16] (fun _ u16 wr => ∃ j : Nat, u16 = .int .i64 j ∧ j ≤ b.size ∧ Hid (∀ k (h : k < b.size), k < j → a[i]'hlt ≠ b[k]'h) ∧ Hid (Grew wo wr)) (fun _ u16 _ => b.size - (intOf u16).toNat)
      case atStart => exact ⟨0, rfl, Nat.zero_le _, fun k h hk => by omega, HG2.out⟩
      case round =>
        obtain ⟨j, rfl, hj, HJ2, HGr2⟩ := hrel
        clear HG2 HGr
        by_cases hlj : j < b.size
        · have s1 : decide ((j : Int) < (b.size : Int)) = true := decide_eq_true (by omega)
          have s2 : decide (j < b.size) = true := decide_eq_true hlj
          by_cases hc : a[i]'hlt = b[j]'hlj
          · have e0 : (((a[i]'hlt).toNat : Int) == ((b[j]'hlj).toNat : Int)) = true := by rw [hc]; simp
            have e1 : (a[i]'hlt).toNat = (b[j]'hlj).toNat := by rw [hc]
            have HF : Hid ((!apartB a b) = true) := meets_step.2 ⟨i, hlt, j, hlj, hc⟩
            clear hc
            go_wp2_with fail
            go_quiet (fail)
            go_wp2_with fail
            go_ret
            rw [HF.out]
            exact ⟨rfl, HGr2.out.drewN _⟩
          · have e0 : (((a[i]'hlt).toNat : Int) == ((b[j]'hlj).toNat : Int)) = false := by
              rw [beq_eq_false_iff_ne]; intro e; exact hc (UInt8.toNat_inj.1 (by omega))
            have HJ3 : Hid (∀ k (h : k < b.size), k < j + 1 → a[i]'hlt ≠ b[k]'h) := fun k h hk => by
              by_cases e : k = j
              · subst e; exact hc
              · exact HJ2.out k h (by omega)
            clear hc
            go_wp2_with fail
            go_quiet (fail)
            go_wp2_with fail
            go_roundw
            case rel => exact ⟨j + 1, by go_num, by omega, HJ3, HGr2.out.drewN _⟩
            case measure => simp [intOf]; omega
        · have s1 : decide ((j : Int) < (b.size : Int)) = false := decide_eq_false (by omega)
          have s2 : decide (j < b.size) = false := decide_eq_false hlj
          have HJ3 : Hid (∀ k (h : k < a.size), k < i + 1 → ∀ j (h2 : j < b.size), a[k]'h ≠ b[j]'h2) := fun k h hk j' h2 => by
            by_cases e : k = i
            · subst e; exact HJ2.out j' h2 (by omega)
            · exact HJ.out k h (by omega) j' h2
          go_wp2_with fail
          go_roundw
          case rel => exact ⟨i + 1, by go_num, by omega, HJ3, HGr2.out⟩
          case measure => simp [intOf]; omega
    · have d1 : decide ((i : Int) < (a.size : Int)) = false := decide_eq_false (by omega)
      have d2 : decide (i < a.size) = false := decide_eq_false hlt
      have HF : Hid ((!apartB a b) = false) := by
        rw [Hid, ← Bool.not_eq_true]
        intro h
        obtain ⟨k, hk, j, hj, e⟩ := meets_step.1 h
        exact HJ.out k hk (by omega) j hj e
      go_wp2_with fail
      go_ret
      rw [HF.out]
      exact ⟨rfl, HGr.out⟩
end Go.Proofs.YtglfdfeideeeaaaDoor
