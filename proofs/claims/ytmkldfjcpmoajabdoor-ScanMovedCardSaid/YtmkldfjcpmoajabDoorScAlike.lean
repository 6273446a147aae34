/- What the laws' own helpers answer, and what they come to. Plain. -/
import Derived.Test.YtmkldfjcpmoajabDoorScTell
namespace Go.Proofs.YtmkldfjcpmoajabDoor
open Tr
set_option linter.unusedVariables false
section
variable (R : List Rule) (s : ByteArray)
/-- What all ways are told as. -/
def allT (p : Pat) (a : Int) : List Way × Bool × Int := waysOf R p s a 4096 20000
def allOk (r : List Way × Bool × Int) : Bool := decide (r.2.2 = 0) && decide (r.1.length < 4096)
def alikeB (p q : Pat) (a : Int) : Bool := !allOk (allT R s p a) || (!allOk (allT R s q a) || ((allT R s p a).2.1 == (allT R s q a).2.1 && decide ((allT R s p a).1 = (allT R s q a).1)))
theorem allOk_parts {r : List Way × Bool × Int} (h : allOk r = true) : r.2.2 = 0 ∧ r.1.length < 4096 := by
  unfold allOk at h
  rw [Bool.and_eq_true] at h
  exact ⟨of_decide_eq_true h.1, of_decide_eq_true h.2⟩
theorem allOk_some {p : Pat} {a : Int} (h : allOk (allT R s p a) = true) : ∃ n : Nat, a = n ∧ n ≤ s.size ∧ askErr R p s 20000 = 0 ∧ allOf R s p n = some ((allT R s p a).1, (allT R s p a).2.1) := by
  obtain ⟨h1, h2⟩ := allOk_parts h
  unfold allT waysOf at h1 h2 ⊢
  by_cases h0 : askErr R p s 20000 = 0
  · rw [if_pos h0] at h1 h2 ⊢
    by_cases hr : a < 0 ∨ (s.size : Int) < a ∨ (4096 : Int) < 0 ∨ (4096 : Int) < 4096
    · rw [if_pos hr] at h1; cases h1
    · rw [if_neg hr] at h1 h2 ⊢
      obtain ⟨n, rfl⟩ : ∃ n : Nat, a = n := ⟨a.toNat, by omega⟩
      refine ⟨n, rfl, by omega, h0, ?_⟩
      rw [Int.toNat_natCast] at h1 h2 ⊢
      unfold allOf
      change (match tell 20000 4096 0 (den R s 20001 p n []) with | (l, c, e) => if e = 0 ∧ l.length < 4096 then some (l, c) else none) = some ((tell 20000 4096 0 (den R s 20001 p n [])).1, (tell 20000 4096 0 (den R s 20001 p n [])).2.1)
      change (tell 20000 4096 0 (den R s 20001 p n [])).2.2 = 0 at h1
      change (tell 20000 4096 0 (den R s 20001 p n [])).1.length < 4096 at h2
      generalize tell 20000 4096 0 (den R s 20001 p n []) = r at h1 h2 ⊢
      obtain ⟨l, c, e⟩ := r
      dsimp only at h1 h2 ⊢
      rw [if_pos ⟨h1, h2⟩]
  · rw [if_neg h0] at h1; exact absurd h1 h0
/-- What can be told is told whole. -/
theorem all_whole {p : Pat} {n : Nat} (h : allOk (allT R s p n) = true) : whole (den R s 20001 p n []) ∧ wden R s 20001 p n [] = listTr (allT R s p n).1 (allT R s p n).2.1 ∧ n ≤ s.size ∧ askErr R p s 20000 = 0 := by
  obtain ⟨m, e, h1, h2, h3⟩ := allOk_some R s h
  obtain rfl : n = m := by omega
  exact ⟨(allOf_some R s h3).1, (allOf_some R s h3).2, h1, h2⟩
/-- Patterns of which one ends, at this place, where the other one does. -/
theorem alike_at {p q : Pat} {a : Int} (h : ∀ n : Nat, a = n → n ≤ s.size → askErr R p s 20000 = 0 → askErr R q s 20000 = 0 → ∃ m, le (wden R s 20001 p n []) (wden R s m q n [])) : alikeB R s p q a = true := by
  unfold alikeB
  by_cases h1 : allOk (allT R s p a) = true
  · by_cases h2 : allOk (allT R s q a) = true
    · obtain ⟨n, rfl, hn, ha, h3⟩ := allOk_some R s h1
      obtain ⟨n', e, _, ha2, h4⟩ := allOk_some R s h2
      obtain rfl : n = n' := by omega
      obtain ⟨m, hm⟩ := h n rfl hn ha ha2
      obtain ⟨w1, w2⟩ := allOf_some R s h3
      obtain ⟨k1, k2⟩ := allOf_some R s h4
      have h5 : le (wden R s 20001 p n []) (wden R s (max m 20001) q n []) := le_trans _ _ _ hm (wden_le R s (by omega) q n [])
      have h6 := eq_of_le h5 (whole_ways.2 w1)
      have h7 : wden R s (max m 20001) q n [] = wden R s 20001 q n [] := by unfold wden; rw [allOf_deep R s h4 (by omega)]
      rw [h7] at h6
      unfold wden at h6
      rw [k2, w2] at h6
      obtain ⟨e1, e2⟩ := listTr_inj h6
      rw [h1, h2, e1, e2]
      simp
    · simp [h2]
  · simp [h1]
theorem alike_within {p q : Pat} (a : Int) (h : Within R s p q) : alikeB R s p q a = true := alike_at R s fun n _ _ _ _ => h 20001 n []
theorem wayL_list (g : List Gift) : ∀ l : List Nat, wayL g l = listTr (l.map fun a => (a, g)) false
  | [] => rfl
  | a :: l => by rw [wayL, wayL_list g l]; rfl
theorem tell_wayL (fuel : Nat) (g : List Gift) : ∀ (l : List Nat) (m k : Nat), l.length < m → tell fuel m k (wayL g l) = (l.map fun a => (a, g), false, 0)
  | [], m + 1, k, _ => rfl
  | a :: l, m + 1, k, h => by
    rw [wayL, tell, tell_wayL fuel g l m k (by simpa using h)]; rfl
/-- A node by itself whose ends are these: all is told. -/
theorem all_node {p : Pat} {n : Nat} {l : List Nat} (h0 : askErr R p s 20000 = 0) (hn : n ≤ s.size) (h : den R s 20001 p n [] = tick (wayL [] l)) (hl : l.length < 4096) : allT R s p n = (l.map fun a => (a, []), false, 0) ∧ allOk (allT R s p n) = true := by
  have e : allT R s p n = (l.map fun a => (a, []), false, 0) := by
    unfold allT waysOf
    rw [if_pos h0, if_neg (by omega)]
    show tell 20000 4096 0 (den R s 20001 p ((n : Int).toNat) []) = _
    rw [Int.toNat_natCast, h, tell, if_neg (by omega)]
    exact tell_wayL 20000 [] l 4096 _ hl
  refine ⟨e, ?_⟩
  rw [e]
  simp [allOk, hl]
/-- .. whatever is told of it. -/
theorem all_node_of {p : Pat} {n : Nat} {l : List Nat} (h : wden R s 20001 p n [] = wayL [] l) (hk : allOk (allT R s p n) = true) : (allT R s p n).1 = l.map fun a => (a, []) := by
  obtain ⟨_, h2, _⟩ := all_whole R s hk
  rw [h, wayL_list] at h2
  exact (listTr_inj h2).1.symm
end
end Go.Proofs.YtmkldfjcpmoajabDoor
