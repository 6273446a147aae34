/- Patterns as they lie in memory. No condition. -/
import Derived.Test.YtmkldfjcpmoajabDoorOwn
import Derived.Test.YtmkldfjcpmoajabDoorScDen
import Derived.OneCell
namespace Go.Proofs.YtmkldfjcpmoajabDoor
open Go.RowKit
set_option linter.unusedVariables false

def Pat.zero : Pat := .mk 0 ByteArray.empty 0 ByteArray.empty []
theorem Pat.kid_eq (p : Pat) (i : Nat) : p.kid i = p.kids.getD i Pat.zero := rfl

/-- The node p with all that hangs on it lies at b, o. -/
inductive PatAt (w : World) : Nat → Nat → Pat → Prop where
  | leaf (b o : Nat) (k : Int) (t : ByteArray) (n : Int) (m : ByteArray) (a : Option Addr) (c : Nat)
      (c0 : w.cell? ⟨b, o, none⟩ = some (.int .i64 k)) (c1 : w.cell? ⟨b, o + 1, none⟩ = some (.string t)) (c2 : w.cell? ⟨b, o + 2, none⟩ = some (.int .i64 n)) (c3 : w.cell? ⟨b, o + 3, none⟩ = some (.string m))
      (c4 : w.cell? ⟨b, o + 4, none⟩ = some (.slice a 0 c)) (hk : -9223372036854775808 ≤ k ∧ k ≤ 9223372036854775807) (hn : -9223372036854775808 ≤ n ∧ n ≤ 9223372036854775807) (ht : t.size ≤ maxLen) (hm : m.size ≤ maxLen) :
      PatAt w b o (.mk k t n m [])
  | node (b o : Nat) (k : Int) (t : ByteArray) (n : Int) (m : ByteArray) (l : List Pat) (b' o' c : Nat)
      (c0 : w.cell? ⟨b, o, none⟩ = some (.int .i64 k)) (c1 : w.cell? ⟨b, o + 1, none⟩ = some (.string t)) (c2 : w.cell? ⟨b, o + 2, none⟩ = some (.int .i64 n)) (c3 : w.cell? ⟨b, o + 3, none⟩ = some (.string m))
      (c4 : w.cell? ⟨b, o + 4, none⟩ = some (.slice (some ⟨b', o', none⟩) l.length c)) (hk : -9223372036854775808 ≤ k ∧ k ≤ 9223372036854775807) (hn : -9223372036854775808 ≤ n ∧ n ≤ 9223372036854775807) (ht : t.size ≤ maxLen) (hm : m.size ≤ maxLen)
      (h0 : 0 < l.length) (hc : l.length ≤ c) (hc' : c ≤ maxLen) (hl : ∀ i, i < l.length → PatAt w b' (o' + i * 5) (l.getD i Pat.zero)) :
      PatAt w b o (.mk k t n m l)
/-- The slice v holds the kids l. -/
def KidsAt (w : World) (v : Value) (l : List Pat) : Prop :=
  (∃ a c, v = .slice a 0 c ∧ l = []) ∨ ∃ b o c : Nat, v = .slice (some ⟨b, o, none⟩) l.length c ∧ 0 < l.length ∧ l.length ≤ c ∧ c ≤ maxLen ∧ ∀ i, i < l.length → PatAt w b (o + i * 5) (l.getD i Pat.zero)
/-- A node's own cells. -/
structure NodeAt (w : World) (b o : Nat) (p : Pat) (v : Value) : Prop where
  c0 : w.cell? ⟨b, o, none⟩ = some (.int .i64 p.kind)
  c1 : w.cell? ⟨b, o + 1, none⟩ = some (.string p.text)
  c2 : w.cell? ⟨b, o + 2, none⟩ = some (.int .i64 p.n)
  c3 : w.cell? ⟨b, o + 3, none⟩ = some (.string p.name)
  c4 : w.cell? ⟨b, o + 4, none⟩ = some v
  hk : -9223372036854775808 ≤ p.kind ∧ p.kind ≤ 9223372036854775807
  hn : -9223372036854775808 ≤ p.n ∧ p.n ≤ 9223372036854775807
  ht : p.text.size ≤ maxLen
  hm : p.name.size ≤ maxLen
theorem PatAt.open {w : World} {b o : Nat} {p : Pat} (h : PatAt w b o p) : ∃ v, NodeAt w b o p v ∧ KidsAt w v p.kids := by
  cases h with
  | leaf _ _ k t n m a c c0 c1 c2 c3 c4 hk hn ht hm => exact ⟨_, ⟨c0, c1, c2, c3, c4, hk, hn, ht, hm⟩, Or.inl ⟨a, c, rfl, rfl⟩⟩
  | node _ _ k t n m l b' o' c c0 c1 c2 c3 c4 hk hn ht hm h0 hc hc' hl => exact ⟨_, ⟨c0, c1, c2, c3, c4, hk, hn, ht, hm⟩, Or.inr ⟨b', o', c, rfl, h0, hc, hc', hl⟩⟩
theorem PatAt.shut {w : World} {b o : Nat} {p : Pat} {v : Value} (h : NodeAt w b o p v) (k : KidsAt w v p.kids) : PatAt w b o p := by
  obtain ⟨kd, t, n, m, l⟩ := p
  rcases k with ⟨a, c, rfl, e⟩ | ⟨b', o', c, rfl, h0, hc, hc', hl⟩
  · have e : l = [] := e
    subst e
    exact .leaf b o kd t n m a c h.c0 h.c1 h.c2 h.c3 h.c4 h.hk h.hn h.ht h.hm
  · exact .node b o kd t n m l b' o' c h.c0 h.c1 h.c2 h.c3 h.c4 h.hk h.hn h.ht h.hm h0 hc hc' hl
theorem PatAt.kept {w w' : World} (g : Grew w w') {b o : Nat} {p : Pat} (h : PatAt w b o p) : PatAt w' b o p := by
  induction h with
  | leaf b o k t n m a c c0 c1 c2 c3 c4 hk hn ht hm => exact .leaf b o k t n m a c (g.keeps c0) (g.keeps c1) (g.keeps c2) (g.keeps c3) (g.keeps c4) hk hn ht hm
  | node b o k t n m l b' o' c c0 c1 c2 c3 c4 hk hn ht hm h0 hc hc' hl ih => exact .node b o k t n m l b' o' c (g.keeps c0) (g.keeps c1) (g.keeps c2) (g.keeps c3) (g.keeps c4) hk hn ht hm h0 hc hc' ih
theorem KidsAt.kept {w w' : World} (g : Grew w w') {v : Value} {l : List Pat} (h : KidsAt w v l) : KidsAt w' v l := by
  rcases h with h | ⟨b, o, c, h1, h2, h3, h4, h5⟩
  · exact Or.inl h
  · exact Or.inr ⟨b, o, c, h1, h2, h3, h4, fun i hi => (h5 i hi).kept g⟩
theorem NodeAt.kept {w w' : World} (g : Grew w w') {b o : Nat} {p : Pat} {v : Value} (h : NodeAt w b o p v) : NodeAt w' b o p v :=
  ⟨g.keeps h.c0, g.keeps h.c1, g.keeps h.c2, g.keeps h.c3, g.keeps h.c4, h.hk, h.hn, h.ht, h.hm⟩
theorem NodeAt.lt {w : World} {b o : Nat} {p : Pat} {v : Value} (h : NodeAt w b o p v) : b < w.heap.size := lt_of_cell h.c0

/-- The value v is the pattern p. -/
structure PatV (w : World) (kv : Value) (p : Pat) : Prop where
  kids : KidsAt w kv p.kids
  hk : -9223372036854775808 ≤ p.kind ∧ p.kind ≤ 9223372036854775807
  hn : -9223372036854775808 ≤ p.n ∧ p.n ≤ 9223372036854775807
  ht : p.text.size ≤ maxLen
  hm : p.name.size ≤ maxLen
def Pat.cells (p : Pat) (kv : Value) : Array Value := #[.int .i64 p.kind, .string p.text, .int .i64 p.n, .string p.name, kv]
theorem PatV.kept {w w' : World} (g : Grew w w') {kv : Value} {p : Pat} (h : PatV w kv p) : PatV w' kv p := ⟨h.kids.kept g, h.hk, h.hn, h.ht, h.hm⟩
/-- A value put into a box. -/
theorem PatV.box {w : World} {kv : Value} {p : Pat} (h : PatV w kv p) (t : TypeId) : PatAt (w.alloc (.cells (p.cells kv) t)) w.heap.size 0 p :=
  .shut ⟨by rw [World.cell?_alloc_mark]; rfl, by rw [World.cell?_alloc_mark]; rfl, by rw [World.cell?_alloc_mark]; rfl, by rw [World.cell?_alloc_mark]; rfl, by rw [World.cell?_alloc_mark]; rfl, h.hk, h.hn, h.ht, h.hm⟩ (h.kids.kept ((Grew.refl w).alloc _))
theorem PatAt.value {w : World} {b o : Nat} {p : Pat} (h : PatAt w b o p) : ∃ kv, NodeAt w b o p kv ∧ PatV w kv p := by
  obtain ⟨v, h1, h2⟩ := h.open
  exact ⟨v, h1, h2, h1.hk, h1.hn, h1.ht, h1.hm⟩

/-! How many nodes, and how deep; as the program counts them. -/
mutual
def sizeW : Pat → Nat → Nat → Nat → Bool × Nat × Nat
  | .mk _ _ _ _ l, d, N, D => if N + 1 ≤ 4096 ∧ d ≤ 200 then sizeL l (d + 1) (N + 1) (max D d) else (false, N + 1, max D d)
def sizeL : List Pat → Nat → Nat → Nat → Bool × Nat × Nat
  | [], _, N, D => (true, N, D)
  | p :: l, d, N, D => (match sizeW p d N D with | (true, N', D') => sizeL l d N' D' | r => r)
end
end Go.Proofs.YtmkldfjcpmoajabDoor
