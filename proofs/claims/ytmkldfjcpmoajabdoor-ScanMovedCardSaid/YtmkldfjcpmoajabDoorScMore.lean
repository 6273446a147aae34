/- The machine beside what its caller makes: new ones, gifts laid aside, a row of the caller's own that grows. -/
import Derived.Test.YtmkldfjcpmoajabDoorScList
import Derived.Test.YtmkldfjcpmoajabDoorScInv
namespace Go.Proofs.YtmkldfjcpmoajabDoor
open Go.RowKit
set_option linter.unusedVariables false
section
variable {X : Far} {w0 w w1 w2 : World} {bm : Nat} {rv : Value} {s : ByteArray} {fuel : Nat} {m : MS} {p : Pat}

/-- A machine that has done nothing yet. -/
def MS.zero : MS := ⟨[], [], 0, [], false⟩
theorem mac_new (w : World) (rv : Value) (s : ByteArray) (fuel : Nat) :
    MacRep (fun _ => none) w w.heap.size rv s fuel MS.zero (w.alloc (.cells (macCells rv s fuel 0 (.slice none 0 0) (.slice none 0 0) none false) 63)) :=
  ⟨.slice none 0 0, .slice none 0 0, none, [], ⟨heap_alloc_new w _, rfl, ⟨rfl, .inl ⟨rfl, rfl⟩⟩, rfl, ⟨rfl, .inl ⟨rfl, rfl⟩⟩, (Grew.refl w).alloc _, Nat.le_refl _, fun b cs e => by cases e⟩⟩
theorem inv_begin {L ways : Nat} (hI : m.choices = [] ∨ True) (ht : m.ticks ≤ fuel) (hf : fuel ≤ NN) (hp : errW p = 0) {a : Nat} (ha : a ≤ L) (hsd : m.said.length ≤ (m.ticks + ways) * NN) (hc : m.cut = false) :
    Inv L fuel ways none { m with given := [], choices := [⟨[⟨0, p, 0⟩], a, []⟩] } := by
  refine ⟨ht, hf, ⟨⟨⟨ha, ?_, ?_, ?_, ?_, ?_, ?_⟩, ⟨_, _, rfl, Or.inl rfl, fun h => by dsimp only at h; omega⟩⟩, trivial⟩, fun h => ?_, hsd⟩
  · rw [cnt_cons, cnt_nil]; simp
  · rw [cnt_cons, cnt_nil]; simp
  · intro t ht
    simp at ht; subst ht; exact Nat.zero_le _
  · intro t ht
    simp at ht; subst ht; exact ⟨by simp, hp, fun h => by simp at h⟩
  · intro t ht
    simp at ht
  · rw [wt_cons, wt_nil]; simp
  · rw [show ({ m with given := [], choices := [⟨[⟨0, p, 0⟩], a, []⟩] } : MS).cut = m.cut from rfl, hc] at h; cases h

/-- A block of gifts of the caller's own is laid aside. -/
def Far.add (X : Far) (b : Nat) (cs : Array Value) : Far := fun x => if x = b then some cs else X x
theorem MacRep.more (h : MacRep X w0 bm rv s fuel m w1) (g : Grew w1 w2) {b : Nat} {cs : Array Value} (hb : w2.heap[b]? = some (.cells cs 41 (0, 0))) (hlt : w1.heap.size ≤ b) : MacRep (X.add b cs) w0 bm rv s fuel m w2 := by
  obtain ⟨sv, cv, gp, vs, h⟩ := h
  have h2 := h.kept g
  refine ⟨sv, cv, gp, vs, ⟨h2.mac, h2.given, h2.own, h2.chs, h2.said, h2.grew, h2.hbm, fun x c e => ?_⟩⟩
  unfold Far.add at e
  by_cases hx : x = b
  · rw [if_pos hx] at e
    cases e
    subst hx
    refine ⟨hb, fun e2 => ?_⟩
    have := (World.ownsRow.lt h.said x e2).2
    omega
  · rw [if_neg hx] at e
    exact h2.far x c e
theorem MacRep.far_lt (h : MacRep X w0 bm rv s fuel m w) {b : Nat} {cs : Array Value} (e : X b = some cs) : b < w.heap.size := by
  obtain ⟨sv, cv, gp, vs, h⟩ := h
  exact lt_of_block (h.far b cs e).1
/-- A slice of gifts in a block that was laid aside. -/
def GiftsIn (X : Far) (B : Nat) (v : Value) (l : List Gift) : Prop :=
  (v = .slice none 0 0 ∧ l = []) ∨ ∃ g cap cur, v = .slice (some ⟨g, 0, none⟩) l.length cap ∧ X g = some cur ∧ B ≤ g ∧ l.length ≤ cap ∧ cap ≤ maxLen ∧ cur.size = cap * 2 ∧ cur.toList.take (l.length * 2) = saidCells l
theorem GiftsIn.own {B : Nat} {v : Value} {l : List Gift} (h : GiftsIn X B v l) (hm : MacRep X w0 bm rv s fuel m w) : w.ownsRow B 41 2 v l.length (saidCells l) := by
  obtain ⟨sv, cv, gp, vs, hm⟩ := hm
  refine ⟨saidCells_length l, ?_⟩
  rcases h with ⟨rfl, rfl⟩ | ⟨g, cap, cur, rfl, h1, h2, h3, h4, h5, h6⟩
  · exact .inl ⟨rfl, rfl⟩
  · exact .inr ⟨g, cap, cur, rfl, h2, (hm.far g cur h1).1, h3, h4, h5, h6⟩
theorem GiftsIn.mono {X' : Far} {B : Nat} {v : Value} {l : List Gift} (h : GiftsIn X B v l) (hX : ∀ b cs, X b = some cs → X' b = some cs) : GiftsIn X' B v l := by
  rcases h with h | ⟨g, cap, cur, rfl, h1, h2⟩
  · exact .inl h
  · exact .inr ⟨g, cap, cur, rfl, hX g cur h1, h2⟩
/-- The slice that 'list' has made is laid aside. -/
theorem MacRep.aside (h : MacRep X w0 bm rv s fuel m w1) (g : Grew w1 w2) {v : Value} {l : List Gift} (ho : w2.ownsRow w1.heap.size 41 2 v l.length (saidCells l)) (hB : w0.heap.size ≤ w1.heap.size) :
    ∃ X', MacRep X' w0 bm rv s fuel m w2 ∧ GiftsIn X' w0.heap.size v l ∧ ∀ b cs, X b = some cs → X' b = some cs := by
  rcases ho.2 with ⟨rfl, h0⟩ | ⟨b, cap, cur, rfl, a1, a2, a3, a4, a5, a6⟩
  · have e : l = [] := List.eq_nil_of_length_eq_zero h0
    obtain ⟨sv, cv, gp, vs, h⟩ := h
    exact ⟨X, ⟨sv, cv, gp, vs, h.kept g⟩, .inl ⟨rfl, e⟩, fun _ _ e => e⟩
  · refine ⟨X.add b cur, h.more g a2 a1, .inr ⟨b, cap, cur, rfl, by unfold Far.add; rw [if_pos rfl], by omega, a3, a4, a5, a6⟩, fun c cs e => ?_⟩
    have := h.far_lt e
    unfold Far.add
    rw [if_neg (by omega)]; exact e

/-- Blocks of what is to be done and of gifts given stay. -/
theorem TodoAt.kept2 {w' : World} (g : ∀ (b : Nat) (cs : Array Value), w.heap[b]? = some (.cells cs 74 (0, 0)) → w'.heap[b]? = some (.cells cs 74 (0, 0))) : ∀ {k : List Todo} {p : Option Addr}, TodoAt w0 w p k → TodoAt w0 w' p k
  | [], _, h => h
  | t :: k, p, ⟨b, nb, no, q, h1, h2, h3, h4⟩ => ⟨b, nb, no, q, h1, g _ _ h2, h3, h4.kept2 g⟩
theorem GiftsR.kept2 {w' : World} (g : ∀ (b : Nat) (cs : Array Value), w.heap[b]? = some (.cells cs 83 (0, 0)) → w'.heap[b]? = some (.cells cs 83 (0, 0))) : ∀ {l : List Gift} {p : Option Addr}, GiftsR w p l → GiftsR w' p l
  | [], _, h => h
  | x :: l, p, ⟨b, q, h1, h2, h3⟩ => ⟨b, q, h1, g _ _ h2, h3.kept2 g⟩
theorem ChsAt.kept2 {w' : World} (g : ∀ (b : Nat) (cs : Array Value), w.heap[b]? = some (.cells cs 74 (0, 0)) → w'.heap[b]? = some (.cells cs 74 (0, 0)))
    (g2 : ∀ (b : Nat) (cs : Array Value), w.heap[b]? = some (.cells cs 83 (0, 0)) → w'.heap[b]? = some (.cells cs 83 (0, 0))) : ∀ {cs : List Ch} {vs : List Value}, ChsAt w0 w cs vs → ChsAt w0 w' cs vs
  | [], _, h => h
  | c :: cs, vs, ⟨us, kp, gp, h1, h2, h3, h4⟩ => ⟨us, kp, gp, h1, h2.kept2 g g2, h3.kept2 g, GiftsR.kept2 g2 h4⟩
/-- A row of ways of the caller's own grows. -/
theorem MacRep.grown {w' : World} (h : MacRep X w0 bm rv s fuel m w) {B n : Nat} {v : Value} {xs : List Value} (ho : w.ownsRow B 33 2 v n xs) (hB : w0.heap.size ≤ B) (g : w.grownBy w' v.ownBlock) : MacRep X w0 bm rv s fuel m w' := by
  obtain ⟨sv, cv, gp, vs, h⟩ := h
  have stays : ∀ (t : TypeId), t ≠ 33 → ∀ (b : Nat) (cs : Array Value), w.heap[b]? = some (.cells cs t (0, 0)) → w'.heap[b]? = some (.cells cs t (0, 0)) := fun t ht b cs hb => by
    rw [g.block b (lt_of_block hb) (Ne.symm (ownBlock_ne ho hb ht))]; exact hb
  refine ⟨sv, cv, gp, vs, ⟨stays _ (by decide) _ _ h.mac, GiftsR.kept2 (stays _ (by decide)) h.given, World.ownsRow.kept h.own g (ownBlock_ne2 h.own ho (by decide)), h.chs.kept2 (stays _ (by decide)) (stays _ (by decide)), World.ownsRow.kept h.said g (ownBlock_ne2 h.said ho (by decide)), h.grew.grown g (fun b hb => Nat.le_trans hB (World.ownsRow.lt ho b hb).1), h.hbm, h.far.grown g (fun b cs e => ownBlock_ne ho (h.far b cs e).1 (by decide))⟩⟩
end
end Go.Proofs.YtmkldfjcpmoajabDoor
