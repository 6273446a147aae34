/- scanfailbig: twin. -/
import Derived.Test.YthhcpocgfmlbeaaDoorBgG
import Derived.Test.YthhcpocgfmlbeaaDoorOwn
import Derived.Deep.RegionHeld3
import Derived.Deep.Upon
namespace Go.Proofs.YthhcpocgfmlbeaaDoor
open Go.RowKit
set_option linter.unusedVariables false
theorem addr_to (b o j : Nat) : (⟨b, o, none⟩ : Addr).add j = ⟨b, o + j, none⟩ := by
  unfold Addr.add; split
  · next h0 => subst h0; rfl
  · rfl
theorem twin_run {w : World} {p : Option Addr} {A n c : Nat} (h : WordsAt w (.slice p n c) A n) (h0 : 0 < n) (hn : n ≤ 1099511627776) (ty : TypeId) :
    ∃ v w', (Builtin.append_ #[54, 54] ty #[.slice none 0 0, .slice p n c]).run Tryd.prog w = .ok v w' ∧ Grew w w' ∧ ∃ p' c', v = .slice p' n c' ∧ WordsAt w' (.slice p' n c') A n := by
  obtain ⟨b, o, rfl, hc⟩ := h.words h0
  obtain ⟨i0, hi, hz0, hz1, hz2⟩ := info_parts info_u32
  obtain ⟨v, w', h1, h2, h3, _⟩ := run_append_own_wide (P := Tryd.prog) w w.heap.size 54 ty 103 i0 (.int .u32 0) 1 4 Tryd.underlying54 hi hz0 hz1 hz2 rfl (by decide) (.slice none 0 0) 0 [] (World.ownsRow_nil w w.heap.size 103 1) ⟨b, o, none⟩ n c ((List.range n).map fun j => .int .u32 (dg A j : Nat)) (by simp)
    (fun j u hj => by
      have hlt : j < n := by have := (List.getElem?_eq_some_iff.1 hj).1; simpa using this
      rw [addr_to, hc j hlt]
      simp [hlt] at hj
      rw [hj])
    (fun u hu => by
      obtain ⟨j, _, rfl⟩ := List.mem_map.1 hu
      rfl) (by unfold maxLen; omega) (by omega) (Nat.le_refl _)
  have hg : Grew w w' := Grew.of_grownBy h3
  rw [Nat.zero_add, List.nil_append] at h2
  have hO : Own 103 w' w.heap.size v ((List.range n).map fun j => .int .u32 (dg A j : Nat)) := by
    unfold Own; rw [List.length_map, List.length_range]; exact h2
  rcases hO.shape with ⟨_, h5⟩ | ⟨g, cap, h4, h5, h6, h7, h8, h9⟩
  · have := congrArg List.length h5; simp at this; omega
  · rw [List.length_map, List.length_range] at h4 h7 h9
    refine ⟨v, w', h1, hg, some ⟨g, 0, none⟩, cap, h4, wordsAt_arr (f := fun j => dg A j) h.fits (fun j hj => rfl) (h9.congr fun j hj => ?_) h7 (by unfold maxLen at h8; omega)⟩
    simp [List.getD_eq_getElem?_getD, hj]
set_option maxRecDepth 100000 in
set_option maxHeartbeats 1000000 in
theorem twin_any {w : World} {p : Option Addr} {A n c : Nat} (h : WordsAt w (.slice p n c) A n) (hn : n ≤ 1099511627776) :
    Calls Tryd.prog 55 #[.slice p n c] w fun e w' => Grew w w' ∧ ∃ p' c', e = .returned (.slice p' n c') ∧ WordsAt w' (.slice p' n c') A n := by
  by_cases h0 : n = 0
  · subst h0
    have hA : A = 0 := by have := h.fits; simp at this; exact this
    have HA := hidd hA
    obtain ⟨i0, hi, hz0, hz1, hz2⟩ := info_parts info_u32
    have hap := run_append_nothing (P := Tryd.prog) w 54 54 54 103 i0 Tryd.underlying54 hi none 0 0 (Nat.le_refl 0) (.slice p 0 c) (by
      cases p with
      | none => exact Src.ofNil w Tryd.underlying54 c
      | some a => exact Src.ofSlice w Tryd.underlying54 a 0 c [] (by simp) (fun j u hj => by simp at hj) (fun u hu => by cases hu))
    clear h hA hi hz0 hz1 hz2
    go_enter Tryd.func55, Tryd.ntmps55
    go_wp2_with (at_builtin; refine wpList_append_eq rfl rfl rfl rfl hap ?_)
    go_ret
    exact ⟨Grew.refl _, none, 0, rfl, by rw [HA.out]; exact wordsAt_nil _ (by omega)⟩
  · obtain ⟨v, w', hap, hg, p', c', rfl, hw⟩ := twin_run h (by omega) hn 54
    have HW := hidd (And.intro hg hw)
    clear h hg hw
    go_enter Tryd.func55, Tryd.ntmps55
    go_wp2_with (at_builtin; refine wpList_append_eq rfl rfl rfl rfl hap ?_)
    go_ret
    exact ⟨HW.out.1, p', c', rfl, HW.out.2⟩
end Go.Proofs.YthhcpocgfmlbeaaDoor
