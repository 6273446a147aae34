/- What a slice of tokens holds; the document's Same at two slices of the same tokens. No condition. -/
import Derived.Test.YtlpjoakdhblbaaaDoorLxMem
import Derived.Laws.StructEq
namespace Go.Proofs.YtlpjoakdhblbaaaDoor
open Go.RowKit
set_option linter.unusedVariables false
def tok0 : Tok := (0, [], 0)
/-- The slice v holds these tokens. -/
def ToksV (w : World) (v : Value) (l : List Tok) : Prop :=
  (∃ a c, v = .slice a 0 c ∧ l = []) ∨ ∃ b c : Nat, v = .slice (some ⟨b, 0, none⟩) l.length c ∧ 0 < l.length ∧ l.length ≤ c ∧ c ≤ maxLen ∧
    ∀ i, i < l.length → w.cell? ⟨b, i * 3, none⟩ = some (.int .i64 (l.getD i tok0).1) ∧ w.cell? ⟨b, i * 3 + 1, none⟩ = some (.string (txt (l.getD i tok0).2.1)) ∧ w.cell? ⟨b, i * 3 + 2, none⟩ = some (.int .i64 (l.getD i tok0).2.2)
theorem ToksV.kept {w w' : World} (g : Grew w w') {v : Value} {l : List Tok} (h : ToksV w v l) : ToksV w' v l := by
  rcases h with h | ⟨b, c, h1, h2, h3, h4, h5⟩
  · exact Or.inl h
  · exact Or.inr ⟨b, c, h1, h2, h3, h4, fun i hi => ⟨g.keeps (h5 i hi).1, g.keeps (h5 i hi).2.1, g.keeps (h5 i hi).2.2⟩⟩
theorem ToksV.len {w : World} {v : Value} {l : List Tok} (h : ToksV w v l) : ∃ a c, v = .slice a l.length c ∧ l.length ≤ c ∧ l.length ≤ 9223372036854775807 := by
  rcases h with ⟨a, c, h, e⟩ | ⟨b, c, h, h0, h1, h2, _⟩
  · exact ⟨a, c, by rw [e]; exact h, by rw [e]; simp, by rw [e]; simp⟩
  · exact ⟨_, c, h, h1, by unfold maxLen at h2; omega⟩
theorem toksV_nil (w : World) : ToksV w (.slice none 0 0) [] := Or.inl ⟨_, _, rfl, rfl⟩
theorem cells_tok : ∀ (l : List Tok) (i : Nat) (x : Tok), l[i]? = some x → (toksC l)[i * 3]? = some (.int .i64 x.1) ∧ (toksC l)[i * 3 + 1]? = some (.string (txt x.2.1)) ∧ (toksC l)[i * 3 + 2]? = some (.int .i64 x.2.2)
  | [], i, x, h => by simp at h
  | y :: l, 0, x, h => by
    simp at h; subst h
    exact ⟨rfl, rfl, rfl⟩
  | y :: l, i + 1, x, h => by
    have e : toksC (y :: l) = .int .i64 y.1 :: .string (txt y.2.1) :: .int .i64 y.2.2 :: toksC l := rfl
    have := cells_tok l i x (by simpa using h)
    rw [e, show (i + 1) * 3 = i * 3 + 1 + 1 + 1 by omega]
    exact ⟨by simpa using this.1, by simpa using this.2.1, by simpa using this.2.2⟩
theorem ToksV.of_own {w : World} {B : Nat} {v : Value} {l : List Tok} (h : OwnT w B v l) : ToksV w v l := by
  have h0 := h
  rcases h.2 with ⟨h1, h2⟩ | ⟨g, cap, cur, h1, h2, h3, h4, h5, h6, h7⟩
  · exact Or.inl ⟨_, _, h1, List.eq_nil_of_length_eq_zero h2⟩
  · subst h1
    rcases Nat.eq_zero_or_pos l.length with hz | hz
    · exact Or.inl ⟨_, _, by rw [hz], List.eq_nil_of_length_eq_zero hz⟩
    · refine Or.inr ⟨g, cap, rfl, hz, h4, h5, fun i hi => ?_⟩
      obtain ⟨e1, e2, e3⟩ := cells_tok l i (l.getD i tok0) (by rw [List.getD_eq_getElem?_getD, List.getElem?_eq_getElem hi]; rfl)
      have hlen := toksC_length l
      have k1 := World.ownsRow.cellAt h0 (i * 3) (by omega)
      have k2 := World.ownsRow.cellAt h0 (i * 3 + 1) (by omega)
      have k3 := World.ownsRow.cellAt h0 (i * 3 + 2) (by omega)
      rw [k1, k2, k3]
      rw [List.getD_eq_getElem?_getD, e1, List.getD_eq_getElem?_getD, e2, List.getD_eq_getElem?_getD, e3]
      exact ⟨rfl, rfl, rfl⟩
theorem ToksV.at {w : World} {a : Option Addr} {n c : Nat} {l : List Tok} (h : ToksV w (.slice a n c) l) {k : Nat} (hk : k < l.length) : ∃ b : Nat, a = some ⟨b, 0, none⟩ ∧ w.cell? ⟨b, k * 3, none⟩ = some (.int .i64 (l.getD k tok0).1) ∧ w.cell? ⟨b, k * 3 + 1, none⟩ = some (.string (txt (l.getD k tok0).2.1)) ∧ w.cell? ⟨b, k * 3 + 2, none⟩ = some (.int .i64 (l.getD k tok0).2.2) := by
  rcases h with ⟨_, _, e, e2⟩ | ⟨b, c, e, _, _, _, h⟩
  · rw [e2] at hk; simp at hk
  · cases e; exact ⟨b, rfl, h k hk⟩
theorem tok_held : Tryd.prog.stoodInHeld 32 = false := by kernel_rfl
theorem tok_guard : Tryd.prog.eqGuardType Tryd.prog.depth 32 = false := by kernel_rfl
theorem text_eq {a b : ByteArray} (h : a = b) : (a.toList == b.toList) = true := by subst h; simp
set_option maxRecDepth 100000 in
set_option maxHeartbeats 1000000 in
theorem Same_any {w : World} {va vb : Value} {l : List Tok} (ha : ToksV w va l) (hb : ToksV w vb l) :
    Calls Tryd.prog 8 #[va, vb] w fun e w' => e = .returned (.bool true) ∧ Grew w w' := by
  obtain ⟨pa, ca, rfl, hca, hna⟩ := ha.len
  obtain ⟨pb, cb, rfl, hcb, hnb⟩ := hb.len
  have HA := hidd ha
  have HB := hidd hb
  clear ha hb
  go_enter Tryd.func8, Tryd.ntmps8
  go_wp2_with fail
  go_loopw [5, 13] (fun _ u wr => ∃ k : Nat, k ≤ l.length ∧ u = .int .i64 k ∧ Hid (∃ n, wr = w.drewN n)) (fun _ u _ => l.length - (intOf u).toNat)
  case atStart => exact ⟨0, Nat.zero_le _, rfl, 0, rfl⟩
  case round =>
    obtain ⟨k, hk, rfl, HG0⟩ := hrel
    obtain ⟨nd, rfl⟩ := HG0.out
    clear HG0
    by_cases hlt : k < l.length
    · obtain ⟨ba, rfl, a0, a1, a2⟩ := HA.out.at hlt
      obtain ⟨bb, rfl, b0, b1, b2⟩ := HB.out.at hlt
      obtain ⟨⟨x1, x2, x3⟩, hx⟩ : ∃ x, l.getD k tok0 = x := ⟨_, rfl⟩
      rw [hx] at a0 a1 a2 b0 b1 b2
      clear hx
      dsimp only at a0 a1 a2 b0 b1 b2
      have hs := tok_held
      have hg := tok_guard
      have f1 := text_eq (rfl : txt x2 = txt x2)
      go_wp2_with fail
      go_quiet (fail)
      go_wp2_with fail
      go_roundw
      case rel => exact ⟨k + 1, by omega, by go_num, _, rfl⟩
      case measure => simp [intOf]; omega
    · have HG := hidd ((Grew.refl w).drewN nd)
      go_wp2_with fail
      go_ret
      exact ⟨rfl, HG.out⟩
end Go.Proofs.YtlpjoakdhblbaaaDoor
