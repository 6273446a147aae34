/- The document's Base: of any number in any base. -/
import Derived.Test.YthhcpocgfmlbeaaDoorBgN
import Derived.Test.YthhcpocgfmlbeaaDoorFmI
import Derived.Test.YthhcpocgfmlbeaaDoorTxEmpty
namespace Go.Proofs.YthhcpocgfmlbeaaDoor
open Go.RowKit
set_option linter.unusedVariables false
set_option maxRecDepth 100000 in
theorem Sign_any {w : World} {x : Nat} {z : Int} (h : IntAt w x z) :
    Calls Tryd.prog 35 #[.pointer (some ⟨x, 0, none⟩)] w fun e w' => e = .returned (.int .i64 (if z < 0 then -1 else if z = 0 then 0 else 1)) ∧ w' = w := by
  obtain ⟨p, c, hh, hp⟩ := h
  obtain ⟨⟨k0, k1⟩, _⟩ := two_cells hh
  by_cases h0 : z = 0
  · subst h0
    rw [show ((0 : Int)).natAbs = 0 from rfl, nw_zero] at k1
    clear hh hp
    go_enter Tryd.func35, Tryd.ntmps35
    go_wp2_with fail
    go_ret
    exact ⟨rfl, rfl⟩
  · obtain ⟨n, hn⟩ : ∃ n, nw z.natAbs = n + 1 := ⟨nw (z.natAbs / B32), nw_pos (by omega)⟩
    rw [hn] at k1
    have e0 : (((n + 1 : Nat) : Int) == 0) = false := by rw [beq_eq_false_iff_ne]; omega
    have e1 : ((n : Int) + 1 == 0) = false := by rw [beq_eq_false_iff_ne]; omega
    by_cases hz : z < 0
    · rw [decide_eq_true hz] at k0
      have HR := hidd (if_pos hz : (if z < 0 then (-1 : Int) else if z = 0 then 0 else 1) = -1)
      rw [HR.out]
      clear hh hp hn hz h0
      go_enter Tryd.func35, Tryd.ntmps35
      go_wp2_with fail
      go_ret
      exact ⟨rfl, rfl⟩
    · rw [decide_eq_false hz] at k0
      have HR : Hid ((if z < 0 then (-1 : Int) else if z = 0 then 0 else 1) = 1) := by rw [Hid, if_neg hz, if_neg h0]
      rw [HR.out]
      clear hh hp hn hz h0
      go_enter Tryd.func35, Tryd.ntmps35
      go_wp2_with fail
      go_ret
      exact ⟨rfl, rfl⟩
theorem enc_dig : ∀ d : Nat, d < 36 → Utf8.encode ((digB d).toNat : Int) = ⟨#[digB d]⟩ := by
  have : ∀ d : Fin 36, (Utf8.encode ((digB d.val).toNat : Int)).data = #[digB d.val] := by decide +kernel
  intro d hd
  have h := this ⟨d, hd⟩
  show Utf8.encode ((digB d).toNat : Int) = ⟨#[digB d]⟩
  cases hx : Utf8.encode ((digB d).toNat : Int) with
  | mk data => rw [hx] at h; exact congrArg ByteArray.mk h
theorem idx_dig (d : Nat) (hd : d < 36) (W : World) : (Instr.index 9 (.string digsT) (.int .i64 (d : Int))).run Tryd.prog W = .ok (.int .u8 ((digB d).toNat : Int)) W := by
  have h := digsT_get d hd
  have hlt : d < digsT.size := by show d < 36; exact hd
  have hg : digsT[d]'hlt = digB d := by
    have h2 := (Array.getElem?_eq_some_iff.1 h).2
    exact h2
  simp only [go_sem, Tryd.underlying9]
  simp [hlt, hg]
/-- How far the numeral has come; in the end all of it stands there. -/
def BsSt (b u0 u : Nat) (L : List UInt8) : Prop := (FmSt b u0 u L ∧ (L = [] ∨ 1 ≤ u)) ∨ (u = 0 ∧ L = radix b u0)
theorem BsSt.step {b u0 u : Nat} {L : List UInt8} (hb : 2 ≤ b) (h : FmSt b u0 u L) (hL : L = [] ∨ 1 ≤ u) : BsSt b u0 (u / b) (digB (u % b) :: L) := by
  by_cases hu : b ≤ u
  · exact Or.inl ⟨h.step hb hu, Or.inr (Nat.div_pos hu (by omega))⟩
  · have h1 : u / b = 0 := Nat.div_eq_of_lt (by omega)
    have h2 : u % b = u := Nat.mod_eq_of_lt (by omega)
    rw [h1, h2]
    exact Or.inr ⟨rfl, h.last (by omega)⟩
end Go.Proofs.YthhcpocgfmlbeaaDoor
