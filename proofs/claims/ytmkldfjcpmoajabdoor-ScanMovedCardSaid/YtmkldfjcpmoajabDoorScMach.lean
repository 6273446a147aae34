/- The machine that goes through all ways: its steps; and that it tells what the pattern's form says. Plain. -/
import Derived.Test.YtmkldfjcpmoajabDoorScDen
namespace Go.Proofs.YtmkldfjcpmoajabDoor
open Tr
set_option linter.unusedVariables false

/-- What is to be done: 0 come to a node, 1 a byte more, 2 the next break, 3 brackets, 4 once more, 5 behind the kid, 6 give, 7 say, 8 fence. -/
structure Todo where
  op : Nat
  node : Pat
  start : Nat
structure Ch where
  k : List Todo
  at_ : Nat
  given : List Gift
/-- All that the machine turns. -/
structure MS where
  choices : List Ch
  given : List Gift
  ticks : Nat
  said : List Gift
  cut : Bool
namespace MS
def later (m : MS) (k : List Todo) (a : Nat) : MS := { m with choices := ⟨k, a, m.given⟩ :: m.choices }
def shut (m : MS) : MS := { m with cut := true, choices := [] }
def speak (m : MS) (g : Gift) : MS := { m with said := m.said ++ [g] }
end MS

/-- Where the first byte stands that is in a set, or is not. -/
def idx (l t : List UInt8) (b : Bool) : Option Nat := l.findIdx? (fun c => t.contains c == b)
/-- How long the shortest piece is whose brackets are in pairs. -/
def pairLen : List UInt8 → Nat → Option Nat
  | [], _ => none
  | c :: l, d =>
    if c = 40 then (pairLen l (d + 1)).map (· + 1)
    else if c = 41 then (match d with | 0 => none | 1 => some 1 | d + 2 => (pairLen l (d + 1)).map (· + 1))
    else if d = 0 then some 1 else (pairLen l d).map (· + 1)

section
variable (R : List Rule) (s : ByteArray)
/-- What was begun goes on: what is to be done then, and where; none: there is no such way. -/
def resume (t : Todo) (k : List Todo) (a : Nat) (m : MS) : Option (List Todo × Nat) × MS :=
  let l := s.data.toList
  if t.op = 8 then (none, m.shut)
  else if t.op = 1 then (some (k, a), if a < l.length then m.later (⟨1, t.node, 0⟩ :: k) (a + 1) else m)
  else if t.op = 2 then (match idx (l.drop a) t.node.bytes true with | none => (none, m) | some n => (some (k, a + n), m.later (⟨2, t.node, 0⟩ :: k) (a + n + 1)))
  else if t.op = 3 then (match pairLen (l.drop a) 0 with | none => (none, m) | some n => (some (k, a + n), m.later (⟨3, t.node, 0⟩ :: k) (a + n)))
  else if t.op = 4 then (some (⟨0, t.node.kid 0, 0⟩ :: ⟨5, t.node, a⟩ :: k, a), m)
  else if t.op = 5 then (if a = t.start then (none, m) else (some (k, a), m.later (⟨4, t.node, 0⟩ :: k) a))
  else if t.op = 6 then (some (k, a), { m with given := m.given ++ [(t.node.name, s.extract t.start a)] })
  else (some (k, a), m.speak (t.node.name, s.extract t.start a))

def kidsK (l : List Pat) (k : List Todo) : List Todo := l.map (fun p => ⟨0, p, 0⟩) ++ k
/-- A node that has others in it, or many ways: what is to be done then; none: another kind. -/
def enter (p : Pat) (a : Nat) (k : List Todo) (m : MS) : Option (List Todo) × MS :=
  if p.kind = 7 then (some (⟨2, p, 0⟩ :: k), m)
  else if p.kind = 13 then (some (⟨1, p, 0⟩ :: k), m)
  else if p.kind = 14 then (some (⟨3, p, 0⟩ :: k), m)
  else if p.kind = 18 then (some (kidsK p.kids k), m)
  else if p.kind = 19 then (some (⟨0, p.kid 0, 0⟩ :: k), { m with choices := (p.kids.drop 1).map (fun q => ⟨⟨0, q, 0⟩ :: k, a, m.given⟩) ++ m.choices })
  else if p.kind = 20 then (some k, m.later (⟨4, p, 0⟩ :: k) a)
  else if p.kind = 21 then (some (⟨0, p.kid 0, 0⟩ :: ⟨6, p, a⟩ :: k), m)
  else if p.kind = 22 then (some (⟨0, p.kid 0, 0⟩ :: ⟨7, p, a⟩ :: k), m)
  else if p.kind = 24 then (match ruleOf R p.name with | some q => (some (⟨0, q, 0⟩ :: k), m) | none => (none, m))
  else (none, m)
/-- A piece that has one end at most. -/
def leave (p : Pat) (a : Nat) (m : MS) : Option Nat × MS :=
  if p.kind = 23 then (some a, m.speak (p.name, digText a))
  else if p.kind = 16 then (some a, m.later [⟨8, p, 0⟩] a)
  else if p.kind = 17 then (none, m.shut)
  else (endAt s.data.toList p a, m)
/-- Is it of a kind that 'enter' takes? -/
def inner (p : Pat) : Bool := p.kind = 7 || p.kind = 13 || p.kind = 14 || p.kind = 18 || p.kind = 19 || p.kind = 20 || p.kind = 21 || p.kind = 22 || p.kind = 24

/-- What comes of looking for the next way. -/
inductive Out where
  | found (a : Nat) (m : MS)
  | over (m : MS)
  | fuel
  | name

/-- So many steps at most; the state: what is to be done, and where ('none': nothing, the last choice is the next). -/
def runs (fuel : Nat) : Nat → Option (List Todo × Nat) → MS → Option Out
  | 0, _, _ => none
  | c + 1, none, m => (match m.choices with | [] => some (.over m) | x :: cs => runs fuel c (some (x.k, x.at_)) { m with choices := cs, given := x.given })
  | c + 1, some ([], a), m => some (.found a m)
  | c + 1, some (t :: k, a), m =>
    if t.op = 0 then
      (if m.ticks = fuel then some .fuel
       else
        (let m := { m with ticks := m.ticks + 1 }
         if inner t.node then
          (match enter R t.node a k m with
           | (some k', m') => runs fuel c (some (k', a)) m'
           | (none, _) => some .name)
         else
          (match leave s t.node a m with
           | (some b, m') => runs fuel c (some (k, b)) m'
           | (none, m') => runs fuel c none m')))
    else (match resume s t k a m with | (x, m') => runs fuel c x m')
end

/-! What a list of what is to be done tells, where it is looked at deep enough for so many nodes (r) more. -/
section
variable (R : List Rule) (s : ByteArray)
def Means : Nat → List Todo → (Nat → List Gift → Tr) → Prop
  | r, [], F => F = one
  | r, t :: k, F =>
    let l := s.data.toList
    if t.op = 0 then ∃ n G, r < n ∧ (∀ q, q < r → Means q k G) ∧ F = fun a g => bind (den R s n t.node a g) G
    else if t.op = 8 then F = fun _ _ => stop .cut
    else ∃ G, Means r k G ∧
      (if t.op = 1 then F = fun a g => bind (wayL g (mores l.length a)) G
       else if t.op = 2 then F = fun a g => bind (wayL g (breaks t.node.bytes (l.drop a) a)) G
       else if t.op = 3 then F = fun a g => bind (wayL g (pairEnds (l.drop a) 0 a)) G
       else if t.op = 4 then ∃ n c, r < n ∧ r < c ∧ F = fun a g => bind (star (den R s n (t.node.kid 0)) c a g) G
       else if t.op = 5 then ∃ n c, r < n ∧ r < c ∧ F = fun a g => if a = t.start then naught else seq (G a g) (bind (star (den R s n (t.node.kid 0)) c a g) G)
       else if t.op = 6 then F = fun a g => G a (g ++ [(t.node.name, s.extract t.start a)])
       else F = fun a g => say (t.node.name, s.extract t.start a) (G a g))
theorem Means.mono : ∀ {k : List Todo} {r q : Nat} {F : Nat → List Gift → Tr}, Means R s r k F → q ≤ r → Means R s q k F
  | [], r, q, F, h, _ => h
  | t :: k, r, q, F, h, hq => by
    unfold Means at h ⊢
    dsimp only at h ⊢
    split at h
    · rename_i h0
      rw [if_pos h0]
      obtain ⟨n, G, h1, h2, h3⟩ := h
      exact ⟨n, G, by omega, fun x hx => h2 x (by omega), h3⟩
    · rename_i h0
      rw [if_neg h0]
      split at h
      · rename_i h8
        rw [if_pos h8]; exact h
      · rename_i h8
        rw [if_neg h8]
        obtain ⟨G, hG, h⟩ := h
        refine ⟨G, hG.mono hq, ?_⟩
        split at h
        · rename_i e; rw [if_pos e]; exact h
        rename_i e1; rw [if_neg e1]
        split at h
        · rename_i e; rw [if_pos e]; exact h
        rename_i e2; rw [if_neg e2]
        split at h
        · rename_i e; rw [if_pos e]; exact h
        rename_i e3; rw [if_neg e3]
        split at h
        · rename_i e; rw [if_pos e]
          obtain ⟨n, c, a1, a2, a3⟩ := h
          exact ⟨n, c, by omega, by omega, a3⟩
        rename_i e4; rw [if_neg e4]
        split at h
        · rename_i e; rw [if_pos e]
          obtain ⟨n, c, a1, a2, a3⟩ := h
          exact ⟨n, c, by omega, by omega, a3⟩
        rename_i e5; rw [if_neg e5]
        exact h
/-- What choices tell, the first one first. -/
def MeansC : Nat → List Ch → Tr → Prop
  | r, [], T => T = naught
  | r, c :: cs, T => ∃ F U, Means R s r c.k F ∧ MeansC r cs U ∧ T = seq (F c.at_ c.given) U
theorem MeansC.mono : ∀ {cs : List Ch} {r q : Nat} {T : Tr}, MeansC R s r cs T → q ≤ r → MeansC R s q cs T
  | [], _, _, _, h, _ => h
  | c :: cs, r, q, T, ⟨F, U, h1, h2, h3⟩, hq => ⟨F, U, Means.mono R s h1 hq, MeansC.mono h2 hq, h3⟩
/-- What a state tells. -/
def Tells (r : Nat) : Option (List Todo × Nat) → MS → Tr → Prop
  | none, m, T => MeansC R s r m.choices T
  | some (k, a), m, T => ∃ F U, Means R s r k F ∧ MeansC R s r m.choices U ∧ T = seq (F a m.given) U
end
end Go.Proofs.YtmkldfjcpmoajabDoor
