/- The reference's Same at two lists of the same texts: true. -/
import Derived.Test.YtgkchdjogfdjaaaDoorTxStrs
namespace Go.Proofs.YtgkchdjogfdjaaaDoor
open Go.RowKit
set_option linter.unusedVariables false

theorem StrsArg.shut0 {w : World} {v : Value} (h : StrsArg w v []) : ∃ a c, v = .slice a 0 c := by
  rcases h with ⟨a, c, h, _⟩ | ⟨b, o, c, h, h0, _⟩
  · exact ⟨a, c, h⟩
  · simp at h0
theorem StrsArg.shut1 {w : World} {v : Value} {l : List ByteArray} (h : StrsArg w v l) (h0 : 0 < l.length) : ∃ (b o cap : Nat), v = .slice (some ⟨b, o, none⟩) l.length cap ∧ l.length ≤ cap ∧ cap ≤ maxLen ∧ ∀ i, i < l.length → w.cell? ⟨b, o + i, none⟩ = some (.string (l.getD i ByteArray.empty)) := by
  rcases h with ⟨a, c, h, e⟩ | ⟨b, o, c, h, _, h2, h3, h4⟩
  · rw [e] at h0; simp at h0
  · exact ⟨b, o, c, h, h2, h3, h4⟩

theorem Same_eq (u v : Value) (l : List ByteArray) (w : World) (h1 : StrsArg w u l) (h2 : StrsArg w v l) :
    Calls Tryd.prog 8 #[u, v] w fun e w' => e = .returned (.bool true) ∧ Grew w w' := by
  rcases Nat.eq_zero_or_pos l.length with h0 | h0
  · have e0 := List.eq_nil_of_length_eq_zero h0
    subst e0
    obtain ⟨a, c, rfl⟩ := h1.shut0
    obtain ⟨a', c', rfl⟩ := h2.shut0
    clear h0 h1 h2
    go_enter Tryd.func8, Tryd.ntmps8
    go_wp2_with fail
    go_loop [5, 13] (fun _ u => u = .int .i64 0) (fun _ _ => 0)
    case atStart => rfl
    case round =>
      obtain rfl := hrel
      go_wp2_with fail
      go_ret
      exact ⟨rfl, Grew.refl _⟩
  · obtain ⟨b, o, c, rfl, hc1, hc2, H1⟩ := h1.shut1 h0
    obtain ⟨b', o', c', rfl, hd1, hd2, H2⟩ := h2.shut1 h0
    have hmax : l.length ≤ maxLen := by omega
    have HC1 := hidd H1
    have HC2 := hidd H2
    clear H1 H2 h1 h2
    unfold maxLen at hmax
    go_enter Tryd.func8, Tryd.ntmps8
    go_wp2_with fail
    go_loopw [5, 13] (fun _ u wr => ∃ k : Nat, k ≤ l.length ∧ u = .int .i64 k ∧ Hid (Grew w wr)) (fun _ u _ => l.length - (intOf u).toNat)
    case atStart => exact ⟨0, by omega, rfl, Grew.refl _⟩
    case round =>
      obtain ⟨k, hk, rfl, HG⟩ := hrel
      by_cases hlt : k < l.length
      · have c1 := HG.out.keeps (HC1.out k hlt)
        have c2 := HG.out.keeps (HC2.out k hlt)
        obtain ⟨x, hx⟩ : ∃ x, l.getD k ByteArray.empty = x := ⟨_, rfl⟩
        rw [hx] at c1 c2
        clear hx
        go_wp2_with fail
        go_quiet (fail)
        go_wp2_with fail
        go_roundw
        case rel => exact ⟨k + 1, by omega, by go_num, HG.out.drewN _⟩
        case measure => simp [intOf]; omega
      · go_wp2_with fail
        go_ret
        exact ⟨rfl, HG.out⟩
end Go.Proofs.YtgkchdjogfdjaaaDoor
