/- pats.wrong: what is wrong with a node by itself: at every node. -/
import Derived.Test.YtmkldfjcpmoajabDoorScPat
import Derived.Test.YtmkldfjcpmoajabDoorScNamed
namespace Go.Proofs.YtmkldfjcpmoajabDoor
open Go.RowKit
set_option linter.unusedVariables false

def manyErr (n lo hi : Nat) : Int := if n < lo ∨ hi < n then 5 else 0
/-- What is wrong with a node by itself. -/
def nodeErr (p : Pat) : Int :=
  if p.kind < 1 ∨ 24 < p.kind then 1
  else if p.kind = 1 then (if 65536 < p.text.size then 4 else manyErr p.kids.length 0 0)
  else if p.kind = 3 ∨ p.kind = 4 ∨ p.kind = 5 ∨ p.kind = 6 ∨ p.kind = 7 then (if 65536 < p.text.size then 4 else if p.text.size = 0 then 8 else manyErr p.kids.length 0 0)
  else if p.kind = 2 ∨ p.kind = 8 ∨ p.kind = 9 ∨ p.kind = 10 ∨ p.kind = 11 then (if p.n < 0 ∨ 65536 < p.n then 3 else manyErr p.kids.length 0 0)
  else if p.kind = 18 ∨ p.kind = 19 then manyErr p.kids.length 2 4096
  else if p.kind = 20 then manyErr p.kids.length 1 1
  else if p.kind = 21 ∨ p.kind = 22 then (if named p.name = false then 7 else manyErr p.kids.length 1 1)
  else if p.kind = 23 ∨ p.kind = 24 then (if named p.name = false then 7 else manyErr p.kids.length 0 0)
  else manyErr p.kids.length 0 0

theorem KidsAt.len {w : World} {v : Value} {l : List Pat} (h : KidsAt w v l) : ∃ a c, v = .slice a l.length c ∧ l.length ≤ 9223372036854775807 := by
  rcases h with ⟨a, c, h, e⟩ | ⟨b, o, c, h, h0, h1, h2, _⟩
  · exact ⟨a, c, by rw [e]; exact h, by rw [e]; simp⟩
  · exact ⟨_, c, h, by unfold maxLen at h2; omega⟩

/-- The node's cells as a walk wants them. -/
structure Seen (w : World) (b o : Nat) (k : Int) (t : ByteArray) (n : Int) (m : ByteArray) (L : Nat) : Prop where
  c0 : w.cell? ⟨b, o, none⟩ = some (.int .i64 k)
  c1 : w.cell? ⟨b, o + 1, none⟩ = some (.string t)
  c2 : w.cell? ⟨b, o + 2, none⟩ = some (.int .i64 n)
  c3 : w.cell? ⟨b, o + 3, none⟩ = some (.string m)
  c4 : ∃ a c, w.cell? ⟨b, o + 4, none⟩ = some (.slice a L c)
  hL : L ≤ 9223372036854775807
  hk : -9223372036854775808 ≤ k ∧ k ≤ 9223372036854775807
  hn : -9223372036854775808 ≤ n ∧ n ≤ 9223372036854775807
  ht : t.size ≤ 9223372036854775807
  hm : m.size ≤ maxLen
theorem NodeAt.seen {w : World} {b o : Nat} {p : Pat} {v : Value} (h : NodeAt w b o p v) (k : KidsAt w v p.kids) : Seen w b o p.kind p.text p.n p.name p.kids.length := by
  obtain ⟨a, c, rfl, hl⟩ := k.len
  exact ⟨h.c0, h.c1, h.c2, h.c3, ⟨a, c, h.c4⟩, hl, h.hk, h.hn, by have := h.ht; unfold maxLen at this; exact this, h.hm⟩

abbrev Told (w : World) (b o : Nat) (E : Int) : Prop := Calls Tryd.prog 34 #[.pointer (some ⟨b, o, none⟩)] w fun e w' => e = .returned (.int .i64 E) ∧ w = w'

set_option maxRecDepth 100000 in
set_option maxHeartbeats 4000000 in
theorem wrong_none {w : World} {b o : Nat} {k : Int} {t : ByteArray} {n : Int} {m : ByteArray} {L : Nat} (h : Seen w b o k t n m L) (hk : k < 1 ∨ 24 < k) : Told w b o 1 := by
  obtain ⟨c0, c1, c2, c3, ⟨a, c, c4⟩, hL, hk2, hn2, ht, hm⟩ := h
  rcases hk with hk | hk
  · have e1 : decide (k < 1) = true := by simpa using hk
    clear hk
    unfold Told
    go_enter Tryd.func34, Tryd.ntmps34
    go_wp2_with fail
    go_ret
    exact ⟨rfl, rfl⟩
  · have e1 : decide (k < 1) = false := by simp; omega
    have e2 : decide (24 < k) = true := by simpa using hk
    unfold Told
    go_enter Tryd.func34, Tryd.ntmps34
    go_wp2_with fail
    go_ret
    exact ⟨rfl, rfl⟩

set_option maxRecDepth 100000 in
set_option maxHeartbeats 4000000 in
theorem wrong_text {w : World} {b o : Nat} {k : Int} {t : ByteArray} {n : Int} {m : ByteArray} {L : Nat} (h : Seen w b o k t n m L) (hk : k = 1 ∨ k = 3 ∨ k = 4 ∨ k = 5 ∨ k = 6 ∨ k = 7) (hs : 65536 < t.size) : Told w b o 4 := by
  obtain ⟨c0, c1, c2, c3, ⟨a, c, c4⟩, hL, hk2, hn2, ht, hm⟩ := h
  have e1 : decide (65536 < (t.size : Int)) = true := by simp; omega
  clear hs
  rcases hk with rfl | rfl | rfl | rfl | rfl | rfl
  all_goals
    unfold Told
    go_enter Tryd.func34, Tryd.ntmps34
    go_wp2_with fail
    go_ret
    exact ⟨rfl, rfl⟩

end Go.Proofs.YtmkldfjcpmoajabDoor
