/- What a search tells, one thing behind the other (a node come to, a gift told at once, a way): lists with an end, put one behind the other, or into one another. Plain. -/
import Derived.Lib.ItoaNum
namespace Go.Proofs.YtkkdpafkafjfgaaDoor
set_option linter.unusedVariables false
abbrev Gift := ByteArray × ByteArray
inductive Mark where
  | done | cut | deep | name
deriving DecidableEq
inductive Tr where
  | stop (m : Mark)
  | tick (t : Tr)
  | say (g : Gift) (t : Tr)
  | way (a : Nat) (g : List Gift) (t : Tr)
namespace Tr
def seq : Tr → Tr → Tr
  | stop m, u => if m = .done then u else stop m
  | tick t, u => tick (seq t u)
  | say g t, u => say g (seq t u)
  | way a g t, u => way a g (seq t u)
def bind : Tr → (Nat → List Gift → Tr) → Tr
  | stop m, f => stop m
  | tick t, f => tick (bind t f)
  | say g t, f => say g (bind t f)
  | way a g t, f => seq (f a g) (bind t f)
def one (a : Nat) (g : List Gift) : Tr := way a g (stop .done)
def naught : Tr := stop .done
theorem seq_done (u : Tr) : seq (stop .done) u = u := by simp [seq]
theorem seq_naught (u : Tr) : seq naught u = u := by simp [naught, seq]
theorem seq_stop {m : Mark} (h : m ≠ .done) (u : Tr) : seq (stop m) u = stop m := by simp [seq, h]
theorem seq_right : ∀ t : Tr, seq t (stop .done) = t
  | stop m => by
    by_cases h : m = .done
    · subst h; rfl
    · rw [seq_stop h]
  | tick t => by rw [seq, seq_right t]
  | say g t => by rw [seq, seq_right t]
  | way a g t => by rw [seq, seq_right t]
theorem seq_assoc (u v : Tr) : ∀ t : Tr, seq (seq t u) v = seq t (seq u v)
  | stop m => by
    by_cases h : m = .done
    · subst h; rw [seq_done, seq_done]
    · rw [seq_stop h, seq_stop h, seq_stop h]
  | tick t => by rw [seq, seq, seq, seq_assoc u v t]
  | say g t => by rw [seq, seq, seq, seq_assoc u v t]
  | way a g t => by rw [seq, seq, seq, seq_assoc u v t]
theorem bind_seq (f : Nat → List Gift → Tr) (u : Tr) : ∀ t : Tr, bind (seq t u) f = seq (bind t f) (bind u f)
  | stop m => by
    by_cases h : m = .done
    · subst h; rw [seq_done, bind, seq_done]
    · rw [seq_stop h, bind, seq_stop h]
  | tick t => by rw [seq, bind, bind, seq, bind_seq f u t]
  | say g t => by rw [seq, bind, bind, seq, bind_seq f u t]
  | way a g t => by rw [seq, bind, bind, bind_seq f u t, seq_assoc]
theorem bind_assoc (f h : Nat → List Gift → Tr) : ∀ t : Tr, bind (bind t f) h = bind t (fun a g => bind (f a g) h)
  | stop m => by rw [bind, bind, bind]
  | tick t => by rw [bind, bind, bind, bind_assoc f h t]
  | say g t => by rw [bind, bind, bind, bind_assoc f h t]
  | way a g t => by rw [bind, bind, bind_seq, bind_assoc f h t]
theorem one_bind (f : Nat → List Gift → Tr) (a : Nat) (g : List Gift) : bind (one a g) f = f a g := by rw [one, bind, bind, seq_right]
theorem none_bind (f : Nat → List Gift → Tr) : bind naught f = naught := rfl
theorem bind_congr {f h : Nat → List Gift → Tr} (e : ∀ a g, f a g = h a g) (t : Tr) : bind t f = bind t h := by rw [show f = h from funext fun a => funext fun g => e a g]
def le : Tr → Tr → Prop
  | stop m, u => m = .deep ∨ u = stop m
  | tick t, u => ∃ v, u = tick v ∧ le t v
  | say g t, u => ∃ v, u = say g v ∧ le t v
  | way a g t, u => ∃ v, u = way a g v ∧ le t v
theorem le_refl : ∀ t : Tr, le t t
  | stop m => Or.inr rfl
  | tick t => ⟨t, rfl, le_refl t⟩
  | say g t => ⟨t, rfl, le_refl t⟩
  | way a g t => ⟨t, rfl, le_refl t⟩
theorem le_trans : ∀ t u v : Tr, le t u → le u v → le t v
  | stop m, u, v, h, k => by
    rcases h with h | rfl
    · exact Or.inl h
    · exact k
  | tick t, u, v, ⟨x, e, h⟩, k => by
    subst e; obtain ⟨y, rfl, k⟩ := k; exact ⟨y, rfl, le_trans t x y h k⟩
  | say g t, u, v, ⟨x, e, h⟩, k => by
    subst e; obtain ⟨y, rfl, k⟩ := k; exact ⟨y, rfl, le_trans t x y h k⟩
  | way a g t, u, v, ⟨x, e, h⟩, k => by
    subst e; obtain ⟨y, rfl, k⟩ := k; exact ⟨y, rfl, le_trans t x y h k⟩
def whole : Tr → Prop
  | stop m => m ≠ .deep
  | tick t => whole t
  | say _ t => whole t
  | way _ _ t => whole t
def ways : Tr → Tr
  | stop m => stop m
  | tick t => ways t
  | say _ t => ways t
  | way a g t => way a g (ways t)
end Tr
end Go.Proofs.YtkkdpafkafjfgaaDoor
namespace Go.Proofs.YtkkdpafkafjfgaaDoor
open Go
set_option linter.unusedVariables false
inductive Pat where
  | mk (kind : Int) (text : ByteArray) (n : Int) (name : ByteArray) (kids : List Pat)
namespace Pat
def kind : Pat → Int | mk k _ _ _ _ => k
def text : Pat → ByteArray | mk _ t _ _ _ => t
def n : Pat → Int | mk _ _ n _ _ => n
def name : Pat → ByteArray | mk _ _ _ m _ => m
def kids : Pat → List Pat | mk _ _ _ _ l => l
def bytes (p : Pat) : List UInt8 := p.text.data.toList
def num (p : Pat) : Nat := p.n.toNat
def kid (p : Pat) (i : Nat) : Pat := p.kids.getD i (mk 0 ByteArray.empty 0 ByteArray.empty [])
end Pat
abbrev Rule := ByteArray × Pat
def digText (n : Nat) : ByteArray := ⟨(Lib.decDigits n).toArray⟩
def endAt (s : List UInt8) (p : Pat) (at_ : Nat) : Option Nat :=
  if p.kind = 1 then (if p.bytes.isPrefixOf (s.drop at_) then some (at_ + p.bytes.length) else none)
  else if p.kind = 2 then (if at_ + p.num ≤ s.length then some (at_ + p.num) else none)
  else if p.kind = 3 then (match s[at_]? with | some c => if p.bytes.contains c then some (at_ + 1) else none | none => none)
  else if p.kind = 4 then (match s[at_]? with | some c => if p.bytes.contains c then none else some (at_ + 1) | none => none)
  else if p.kind = 5 then (let n := ((s.drop at_).takeWhile p.bytes.contains).length; if 0 < n then some (at_ + n) else none)
  else if p.kind = 6 then (let n := ((s.drop at_).takeWhile (fun c => !p.bytes.contains c)).length; if at_ + n < s.length then some (at_ + n) else none)
  else if p.kind = 8 then (if at_ ≤ p.num ∧ p.num ≤ s.length then some p.num else none)
  else if p.kind = 9 then (if at_ + p.num ≤ s.length then some (s.length - p.num) else none)
  else if p.kind = 10 then (if at_ = p.num then some at_ else none)
  else if p.kind = 11 then (if at_ + p.num = s.length then some at_ else none)
  else if p.kind = 12 then some s.length
  else none
def breaks (t : List UInt8) : List UInt8 → Nat → List Nat
  | [], _ => []
  | c :: l, a => if t.contains c then a :: breaks t l (a + 1) else breaks t l (a + 1)
def pairEnds : List UInt8 → Nat → Nat → List Nat
  | [], _, _ => []
  | c :: l, d, a =>
    if c = 40 then pairEnds l (d + 1) (a + 1)
    else if c = 41 then (match d with | 0 => [] | 1 => (a + 1) :: pairEnds l 0 (a + 1) | d + 2 => pairEnds l (d + 1) (a + 1))
    else if d = 0 then (a + 1) :: pairEnds l 0 (a + 1) else pairEnds l d (a + 1)
def mores (len a : Nat) : List Nat := List.range' a (len - a + 1)
open Tr
def wayL (g : List Gift) : List Nat → Tr
  | [] => naught
  | a :: l => way a g (wayL g l)
def alts (D : Pat → Nat → List Gift → Tr) : List Pat → Nat → List Gift → Tr
  | [], _, _ => naught
  | p :: l, a, g => seq (D p a g) (alts D l a g)
def cats (D : Pat → Nat → List Gift → Tr) : List Pat → Nat → List Gift → Tr
  | [], a, g => one a g
  | p :: l, a, g => bind (D p a g) (cats D l)
def star (D : Nat → List Gift → Tr) : Nat → Nat → List Gift → Tr
  | 0, _, _ => stop .deep
  | c + 1, a, g => bind (D a g) (fun e h => if e = a then naught else seq (one e h) (star D c e h))
def sameText (a b : ByteArray) : Bool := a.data.toList == b.data.toList
def ruleOf (R : List Rule) (name : ByteArray) : Option Pat := (R.find? (fun r => sameText r.1 name)).map (·.2)
def node (R : List Rule) (s : ByteArray) (D : Pat → Nat → List Gift → Tr) (c : Nat) (p : Pat) (a : Nat) (g : List Gift) : Tr :=
  let l := s.data.toList
  if p.kind = 7 then wayL g (breaks p.bytes (l.drop a) a)
  else if p.kind = 13 then wayL g (mores l.length a)
  else if p.kind = 14 then wayL g (pairEnds (l.drop a) 0 a)
  else if p.kind = 15 then naught
  else if p.kind = 16 then way a g (stop .cut)
  else if p.kind = 17 then stop .cut
  else if p.kind = 18 then cats D p.kids a g
  else if p.kind = 19 then alts D (p.kid 0 :: p.kids.drop 1) a g
  else if p.kind = 20 then seq (one a g) (star (D (p.kid 0)) c a g)
  else if p.kind = 21 then bind (D (p.kid 0) a g) (fun e h => one e (h ++ [(p.name, s.extract a e)]))
  else if p.kind = 22 then bind (D (p.kid 0) a g) (fun e h => say (p.name, s.extract a e) (one e h))
  else if p.kind = 23 then say (p.name, digText a) (one a g)
  else if p.kind = 24 then (match ruleOf R p.name with | some q => D q a g | none => stop .name)
  else wayL g (endAt l p a).toList
def den (R : List Rule) (s : ByteArray) : Nat → Pat → Nat → List Gift → Tr
  | 0, _, _, _ => stop .deep
  | n + 1, p, a, g => tick (node R s (den R s n) n p a g)
end Go.Proofs.YtkkdpafkafjfgaaDoor
namespace Go.Proofs.YtkkdpafkafjfgaaDoor
open Tr
set_option linter.unusedVariables false
structure Todo where
  op : Nat
  node : Pat
  start : Nat
structure Ch where
  k : List Todo
  at_ : Nat
  given : List Gift
structure MS where
  choices : List Ch
  given : List Gift
  ticks : Nat
  said : List Gift
  cut : Bool
namespace MS
def later (m : MS) (k : List Todo) (a : Nat) : MS := { m with choices := ⟨k, a, m.given⟩ :: m.choices }
def shut (m : MS) : MS := { m with cut := true, choices := [] }
def speak (m : MS) (g : Gift) : MS := { m with said := m.said ++ [g] }
end MS
def idx (l t : List UInt8) (b : Bool) : Option Nat := l.findIdx? (fun c => t.contains c == b)
def pairLen : List UInt8 → Nat → Option Nat
  | [], _ => none
  | c :: l, d =>
    if c = 40 then (pairLen l (d + 1)).map (· + 1)
    else if c = 41 then (match d with | 0 => none | 1 => some 1 | d + 2 => (pairLen l (d + 1)).map (· + 1))
    else if d = 0 then some 1 else (pairLen l d).map (· + 1)
section
variable (R : List Rule) (s : ByteArray)
def resume (t : Todo) (k : List Todo) (a : Nat) (m : MS) : Option (List Todo × Nat) × MS :=
  let l := s.data.toList
  if t.op = 8 then (none, m.shut)
  else if t.op = 1 then (some (k, a), if a < l.length then m.later (⟨1, t.node, 0⟩ :: k) (a + 1) else m)
  else if t.op = 2 then (match idx (l.drop a) t.node.bytes true with | none => (none, m) | some n => (some (k, a + n), m.later (⟨2, t.node, 0⟩ :: k) (a + n + 1)))
  else if t.op = 3 then (match pairLen (l.drop a) 0 with | none => (none, m) | some n => (some (k, a + n), m.later (⟨3, t.node, 0⟩ :: k) (a + n)))
  else if t.op = 4 then (some (⟨0, t.node.kid 0, 0⟩ :: ⟨5, t.node, a⟩ :: k, a), m)
  else if t.op = 5 then (if a = t.start then (none, m) else (some (k, a), m.later (⟨4, t.node, 0⟩ :: k) a))
  else if t.op = 6 then (some (k, a), { m with given := m.given ++ [(t.node.name, s.extract t.start a)] })
  else (some (k, a), m.speak (t.node.name, s.extract t.start a))
def kidsK (l : List Pat) (k : List Todo) : List Todo := l.map (fun p => ⟨0, p, 0⟩) ++ k
def enter (p : Pat) (a : Nat) (k : List Todo) (m : MS) : Option (List Todo) × MS :=
  if p.kind = 7 then (some (⟨2, p, 0⟩ :: k), m)
  else if p.kind = 13 then (some (⟨1, p, 0⟩ :: k), m)
  else if p.kind = 14 then (some (⟨3, p, 0⟩ :: k), m)
  else if p.kind = 18 then (some (kidsK p.kids k), m)
  else if p.kind = 19 then (some (⟨0, p.kid 0, 0⟩ :: k), { m with choices := (p.kids.drop 1).map (fun q => ⟨⟨0, q, 0⟩ :: k, a, m.given⟩) ++ m.choices })
  else if p.kind = 20 then (some k, m.later (⟨4, p, 0⟩ :: k) a)
  else if p.kind = 21 then (some (⟨0, p.kid 0, 0⟩ :: ⟨6, p, a⟩ :: k), m)
  else if p.kind = 22 then (some (⟨0, p.kid 0, 0⟩ :: ⟨7, p, a⟩ :: k), m)
  else if p.kind = 24 then (match ruleOf R p.name with | some q => (some (⟨0, q, 0⟩ :: k), m) | none => (none, m))
  else (none, m)
def leave (p : Pat) (a : Nat) (m : MS) : Option Nat × MS :=
  if p.kind = 23 then (some a, m.speak (p.name, digText a))
  else if p.kind = 16 then (some a, m.later [⟨8, p, 0⟩] a)
  else if p.kind = 17 then (none, m.shut)
  else (endAt s.data.toList p a, m)
def inner (p : Pat) : Bool := p.kind = 7 || p.kind = 13 || p.kind = 14 || p.kind = 18 || p.kind = 19 || p.kind = 20 || p.kind = 21 || p.kind = 22 || p.kind = 24
inductive Out where
  | found (a : Nat) (m : MS)
  | over (m : MS)
  | fuel
  | name
def runs (fuel : Nat) : Nat → Option (List Todo × Nat) → MS → Option Out
  | 0, _, _ => none
  | c + 1, none, m => (match m.choices with | [] => some (.over m) | x :: cs => runs fuel c (some (x.k, x.at_)) { m with choices := cs, given := x.given })
  | c + 1, some ([], a), m => some (.found a m)
  | c + 1, some (t :: k, a), m =>
    if t.op = 0 then
      (if m.ticks = fuel then some .fuel
       else
        (let m := { m with ticks := m.ticks + 1 }
         if inner t.node then
          (match enter R t.node a k m with
           | (some k', m') => runs fuel c (some (k', a)) m'
           | (none, _) => some .name)
         else
          (match leave s t.node a m with
           | (some b, m') => runs fuel c (some (k, b)) m'
           | (none, m') => runs fuel c none m')))
    else (match resume s t k a m with | (x, m') => runs fuel c x m')
end
section
variable (R : List Rule) (s : ByteArray)
def Means : Nat → List Todo → (Nat → List Gift → Tr) → Prop
  | r, [], F => F = one
  | r, t :: k, F =>
    let l := s.data.toList
    if t.op = 0 then ∃ n G, r < n ∧ (∀ q, q < r → Means q k G) ∧ F = fun a g => bind (den R s n t.node a g) G
    else if t.op = 8 then F = fun _ _ => stop .cut
    else ∃ G, Means r k G ∧
      (if t.op = 1 then F = fun a g => bind (wayL g (mores l.length a)) G
       else if t.op = 2 then F = fun a g => bind (wayL g (breaks t.node.bytes (l.drop a) a)) G
       else if t.op = 3 then F = fun a g => bind (wayL g (pairEnds (l.drop a) 0 a)) G
       else if t.op = 4 then ∃ n c, r < n ∧ r < c ∧ F = fun a g => bind (star (den R s n (t.node.kid 0)) c a g) G
       else if t.op = 5 then ∃ n c, r < n ∧ r < c ∧ F = fun a g => if a = t.start then naught else seq (G a g) (bind (star (den R s n (t.node.kid 0)) c a g) G)
       else if t.op = 6 then F = fun a g => G a (g ++ [(t.node.name, s.extract t.start a)])
       else F = fun a g => say (t.node.name, s.extract t.start a) (G a g))
theorem Means.mono : ∀ {k : List Todo} {r q : Nat} {F : Nat → List Gift → Tr}, Means R s r k F → q ≤ r → Means R s q k F
  | [], r, q, F, h, _ => h
  | t :: k, r, q, F, h, hq => by
    unfold Means at h ⊢
    dsimp only at h ⊢
    split at h
    · rename_i h0
      rw [if_pos h0]
      obtain ⟨n, G, h1, h2, h3⟩ := h
      exact ⟨n, G, by omega, fun x hx => h2 x (by omega), h3⟩
    · rename_i h0
      rw [if_neg h0]
      split at h
      · rename_i h8
        rw [if_pos h8]; exact h
      · rename_i h8
        rw [if_neg h8]
        obtain ⟨G, hG, h⟩ := h
        refine ⟨G, hG.mono hq, ?_⟩
        split at h
        · rename_i e; rw [if_pos e]; exact h
        rename_i e1; rw [if_neg e1]
        split at h
        · rename_i e; rw [if_pos e]; exact h
        rename_i e2; rw [if_neg e2]
        split at h
        · rename_i e; rw [if_pos e]; exact h
        rename_i e3; rw [if_neg e3]
        split at h
        · rename_i e; rw [if_pos e]
          obtain ⟨n, c, a1, a2, a3⟩ := h
          exact ⟨n, c, by omega, by omega, a3⟩
        rename_i e4; rw [if_neg e4]
        split at h
        · rename_i e; rw [if_pos e]
          obtain ⟨n, c, a1, a2, a3⟩ := h
          exact ⟨n, c, by omega, by omega, a3⟩
        rename_i e5; rw [if_neg e5]
        exact h
def MeansC : Nat → List Ch → Tr → Prop
  | r, [], T => T = naught
  | r, c :: cs, T => ∃ F U, Means R s r c.k F ∧ MeansC r cs U ∧ T = seq (F c.at_ c.given) U
theorem MeansC.mono : ∀ {cs : List Ch} {r q : Nat} {T : Tr}, MeansC R s r cs T → q ≤ r → MeansC R s q cs T
  | [], _, _, _, h, _ => h
  | c :: cs, r, q, T, ⟨F, U, h1, h2, h3⟩, hq => ⟨F, U, Means.mono R s h1 hq, MeansC.mono h2 hq, h3⟩
def Tells (r : Nat) : Option (List Todo × Nat) → MS → Tr → Prop
  | none, m, T => MeansC R s r m.choices T
  | some (k, a), m, T => ∃ F U, Means R s r k F ∧ MeansC R s r m.choices U ∧ T = seq (F a m.given) U
end
end Go.Proofs.YtkkdpafkafjfgaaDoor
namespace Go.Proofs.YtkkdpafkafjfgaaDoor
open Tr
set_option linter.unusedVariables false
inductive Obs where
  | found (a : Nat) (g : List Gift) (ticks : Nat) (said : List Gift) (rest : Tr)
  | over (cut : Bool) (ticks : Nat) (said : List Gift)
  | fuel
  | name
  | deep
def first (fuel : Nat) : Nat → List Gift → Tr → Obs
  | k, sd, .stop .done => .over false k sd
  | k, sd, .stop .cut => .over true k sd
  | k, sd, .stop .deep => .deep
  | k, sd, .stop .name => .name
  | k, sd, .tick t => if k = fuel then .fuel else first fuel (k + 1) sd t
  | k, sd, .say g t => first fuel k (sd ++ [g]) t
  | k, sd, .way a g t => .found a g k sd t
section
variable (R : List Rule) (s : ByteArray)
def Agree (fuel : Nat) : Obs → Out → Prop
  | .found a g k sd T, o => ∃ m, o = .found a m ∧ m.given = g ∧ m.ticks = k ∧ m.said = sd ∧ m.cut = false ∧ k ≤ fuel ∧ MeansC R s (fuel - k) m.choices T
  | .over b k sd, o => ∃ m, o = .over m ∧ m.cut = b ∧ m.ticks = k ∧ m.said = sd
  | .fuel, o => o = .fuel
  | .name, o => o = .name
  | .deep, o => False
def most (L : Nat) : List Todo → Nat
  | [] => 1
  | t :: k => if t.op = 0 then 1 else (L + 1) * (most L k + 4) + 1
def cost (L : Nat) : List Todo → Nat → Nat
  | [], _ => 1
  | t :: k, a => if t.op = 0 then 1 else if t.op = 8 then 1 else if t.op = 4 then 2 else if t.op = 5 then most L k + 4 else if t.op = 6 ∨ 7 ≤ t.op then most L k + 1 else (L - a + 1) * (most L k + 4) + 1
theorem cost_le (L : Nat) (k : List Todo) (a : Nat) : cost L k a ≤ most L k := by
  cases k with
  | nil => exact Nat.le_refl _
  | cons t k =>
    have h1 : most L k + 4 ≤ (L + 1) * (most L k + 4) := by rw [Nat.add_mul]; omega
    have h2 : (L - a + 1) * (most L k + 4) ≤ (L + 1) * (most L k + 4) := Nat.mul_le_mul_right _ (by omega)
    rw [cost, most]
    by_cases h0 : t.op = 0
    · rw [if_pos h0, if_pos h0]; exact Nat.le_refl _
    rw [if_neg h0, if_neg h0]
    repeat' split
    all_goals omega
def costC (L : Nat) : List Ch → Nat
  | [] => 0
  | c :: cs => cost L c.k c.at_ + 1 + costC L cs
def load (L : Nat) : Option (List Todo × Nat) → MS → Nat
  | none, m => costC L m.choices
  | some (k, a), m => cost L k a + costC L m.choices
theorem idx_none {t : List UInt8} : ∀ {l : List UInt8} {a : Nat}, idx l t true = none → breaks t l a = []
  | [], _, _ => rfl
  | c :: l, a, h => by
    unfold idx at h
    rw [List.findIdx?_cons] at h
    by_cases e : t.contains c = true
    · rw [if_pos (by rw [e]; rfl)] at h; cases h
    · rw [if_neg (by simpa using e)] at h
      rw [breaks, if_neg e]
      exact idx_none (by simpa [idx] using h)
theorem idx_some {t : List UInt8} : ∀ {l : List UInt8} {a n : Nat}, idx l t true = some n → n < l.length ∧ breaks t l a = (a + n) :: breaks t (l.drop (n + 1)) (a + n + 1)
  | [], _, _, h => by cases h
  | c :: l, a, n, h => by
    unfold idx at h
    rw [List.findIdx?_cons] at h
    by_cases e : t.contains c = true
    · rw [if_pos (by rw [e]; rfl)] at h
      obtain rfl : n = 0 := by cases h; rfl
      exact ⟨by simp, by rw [breaks, if_pos e]; simp⟩
    · rw [if_neg (by simpa using e)] at h
      obtain ⟨k, hk, rfl⟩ : ∃ k, idx l t true = some k ∧ n = k + 1 := by
        cases hh : List.findIdx? (fun c => t.contains c == true) l with
        | none => rw [hh] at h; cases h
        | some k => rw [hh] at h; cases h; exact ⟨k, hh, rfl⟩
      obtain ⟨h1, h2⟩ := idx_some (a := a + 1) hk
      exact ⟨by simp; omega, by rw [breaks, if_neg e, h2]; simp only [List.drop_succ_cons]; rw [show a + 1 + k = a + (k + 1) by omega]⟩
theorem pairLen_none : ∀ {l : List UInt8} {d a : Nat}, pairLen l d = none → pairEnds l d a = []
  | [], _, _, _ => rfl
  | c :: l, d, a, h => by
    unfold pairLen at h
    rw [pairEnds.eq_def (c :: l) d a]
    dsimp only
    split at h
    · rename_i e; rw [if_pos e]; exact pairLen_none (by simpa using h)
    rename_i e; rw [if_neg e]
    split at h
    · rename_i e; rw [if_pos e]
      match d, h with
      | 0, h => rfl
      | d + 2, h => exact pairLen_none (by simpa using h)
    rename_i e2; rw [if_neg e2]
    split at h
    · cases h
    · rename_i e3; rw [if_neg e3]; exact pairLen_none (by simpa using h)
theorem pairLen_some : ∀ {l : List UInt8} {d a n : Nat}, pairLen l d = some n → 0 < n ∧ n ≤ l.length ∧ pairEnds l d a = (a + n) :: pairEnds (l.drop n) 0 (a + n)
  | [], _, _, _, h => by cases h
  | c :: l, d, a, n, h => by
    unfold pairLen at h
    rw [pairEnds.eq_def (c :: l) d a]
    dsimp only
    have back : ∀ {d' : Nat}, (pairLen l d').map (· + 1) = some n → 0 < n ∧ n ≤ (c :: l).length ∧ pairEnds l d' (a + 1) = (a + n) :: pairEnds ((c :: l).drop n) 0 (a + n) := by
      intro d' h
      cases hk : pairLen l d' with
      | none => rw [hk] at h; cases h
      | some k =>
        rw [hk] at h
        obtain rfl : k + 1 = n := by simpa using h
        obtain ⟨h1, h2, h3⟩ := pairLen_some (a := a + 1) hk
        exact ⟨by omega, by simp; omega, by rw [h3, List.drop_succ_cons, show a + 1 + k = a + (k + 1) by omega]⟩
    split at h
    · rename_i e; rw [if_pos e]; exact back h
    rename_i e; rw [if_neg e]
    split at h
    · rename_i e; rw [if_pos e]
      match d, h with
      | 1, h =>
        obtain rfl : 1 = n := by simpa using h
        exact ⟨by omega, by simp, by simp⟩
      | d + 2, h => exact back h
    rename_i e2; rw [if_neg e2]
    split at h
    · rename_i e3; rw [if_pos e3]
      obtain rfl : 1 = n := by simpa using h
      exact ⟨by omega, by simp, by simp⟩
    · rename_i e3; rw [if_neg e3]; exact back h
theorem mores_last {L a : Nat} (h : ¬ a < L) : mores L a = [a] := by
  unfold mores
  rw [show L - a + 1 = 1 by omega]; rfl
theorem mores_more {L a : Nat} (h : a < L) : mores L a = a :: mores L (a + 1) := by
  unfold mores
  rw [show L - a + 1 = (L - (a + 1) + 1) + 1 by omega, List.range'_succ]
theorem kidsK_means {r n : Nat} (hn : r < n) {k : List Todo} {G : Nat → List Gift → Tr} (h : Means R s r k G) : ∀ l : List Pat, Means R s r (kidsK l k) (fun a g => bind (cats (den R s n) l a g) G)
  | [] => by
    have : (fun a g => bind (cats (den R s n) [] a g) G) = G := by
      funext a g; exact one_bind G a g
    rw [this]; exact h
  | p :: l => by
    show Means R s r (⟨0, p, 0⟩ :: kidsK l k) _
    unfold Means
    exact ⟨n, _, hn, fun q hq => Means.mono R s (kidsK_means hn h l) (by omega), by funext a g; exact Tr.bind_assoc _ _ _⟩
theorem enter_means {r n : Nat} (hn : r < n) (p : Pat) {k : List Todo} {G : Nat → List Gift → Tr} (h : Means R s r k G) : Means R s r (⟨0, p, 0⟩ :: k) (fun a g => bind (den R s n p a g) G) :=
  ⟨n, G, hn, fun q hq => Means.mono R s h (by omega), rfl⟩
theorem alts_means {r n : Nat} (hn : r < n) {k : List Todo} {G : Nat → List Gift → Tr} (h : Means R s r k G) (a : Nat) (g : List Gift) {cs : List Ch} {U : Tr} (hU : MeansC R s r cs U) :
    ∀ l : List Pat, MeansC R s r (l.map (fun q => ⟨⟨0, q, 0⟩ :: k, a, g⟩) ++ cs) (seq (bind (alts (den R s n) l a g) G) U)
  | [] => by
    show MeansC R s r cs (seq (bind naught G) U)
    rw [none_bind, seq_naught]; exact hU
  | p :: l => by
    refine ⟨_, _, enter_means R s hn p h, alts_means hn h a g hU l, ?_⟩
    show seq (bind (seq (den R s n p a g) (alts (den R s n) l a g)) G) U = _
    rw [bind_seq, Tr.seq_assoc]
theorem MeansC.mk {r : Nat} {k : List Todo} {F : Nat → List Gift → Tr} {cs : List Ch} {U : Tr} (hF : Means R s r k F) (hU : MeansC R s r cs U) (a : Nat) (g : List Gift) : MeansC R s r (⟨k, a, g⟩ :: cs) (seq (F a g) U) := ⟨F, U, hF, hU, rfl⟩
def TellsX (r : Nat) (st : Option (List Todo × Nat)) (m : MS) (T : Tr) : Prop :=
  if m.cut = true then st = none ∧ m.choices = [] ∧ T = stop .cut else Tells R s r st m T
theorem TellsX.of {r : Nat} {st : Option (List Todo × Nat)} {m : MS} {T : Tr} (hc : m.cut = false) (h : Tells R s r st m T) : TellsX R s r st m T := by
  unfold TellsX; rw [if_neg (by rw [hc]; simp)]; exact h
theorem TellsX.shut (r : Nat) (m : MS) : TellsX R s r none m.shut (stop .cut) := by
  unfold TellsX; rw [if_pos (show m.shut.cut = true from rfl)]; exact ⟨rfl, rfl, rfl⟩
def Goes (fuel : Nat) (st : Option (List Todo × Nat)) (m : MS) (T : Tr) : Prop := ∃ c o, runs R s fuel c st m = some o ∧ Agree R s fuel (first fuel m.ticks m.said T) o
theorem resume_goes {fuel r : Nat} {t : Todo} {k : List Todo} {a : Nat} {m : MS} {T : Tr} (h0 : t.op ≠ 0) (hc : m.cut = false) (hT : Tells R s r (some (t :: k, a)) m T)
    (ih : ∀ st m' T', load s.size st m' < load s.size (some (t :: k, a)) m → TellsX R s r st m' T' → m'.ticks = m.ticks → Goes R s fuel st m' T') : Goes R s fuel (some (t :: k, a)) m T := by
  have go : ∀ st m' T', resume s t k a m = (st, m') → first fuel m'.ticks m'.said T' = first fuel m.ticks m.said T → load s.size st m' < load s.size (some (t :: k, a)) m → TellsX R s r st m' T' → m'.ticks = m.ticks → Goes R s fuel (some (t :: k, a)) m T := by
    intro st m' T' e1 e2 hl hX ht
    obtain ⟨c, o, hr, ha⟩ := ih st m' T' hl hX ht
    refine ⟨c + 1, o, ?_, by rw [← e2]; exact ha⟩
    rw [runs, if_neg h0, e1]; exact hr
  have hL : s.data.toList.length = s.size := rfl
  have hcp := fun k a => cost_le s.size k a
  obtain ⟨F, U, hF, hU, rfl⟩ := hT
  unfold Means at hF
  dsimp only at hF
  rw [if_neg h0] at hF
  have hload : load s.size (some (t :: k, a)) m = cost s.size (t :: k) a + costC s.size m.choices := rfl
  rw [cost, if_neg h0] at hload
  unfold resume at go
  dsimp only at go
  by_cases h8 : t.op = 8
  · rw [if_pos h8] at hF hload go
    subst hF
    refine go _ _ _ rfl rfl ?_ (TellsX.shut R s r m) rfl
    show 0 < _; omega
  rw [if_neg h8] at hF hload go
  obtain ⟨G, hG, hF⟩ := hF
  by_cases h1 : t.op = 1
  · rw [if_pos h1] at hF go
    rw [if_neg (by omega), if_neg (by omega), if_neg (by omega)] at hload
    subst hF
    by_cases hlt : a < s.data.toList.length
    · rw [if_pos hlt] at go
      refine go _ _ _ rfl rfl ?_ (TellsX.of R s hc ⟨G, seq (bind (wayL m.given (mores s.data.toList.length (a + 1))) G) U, hG, MeansC.mk R s (F := fun a g => bind (wayL g (mores s.data.toList.length a)) G) ?_ hU (a + 1) m.given, ?_⟩) rfl
      · show cost s.size k a + (cost s.size (⟨1, t.node, 0⟩ :: k) (a + 1) + 1 + costC s.size m.choices) < _
        rw [hload]
        have h2 := hcp k a
        have e : cost s.size (⟨1, t.node, 0⟩ :: k) (a + 1) = (s.size - (a + 1) + 1) * (most s.size k + 4) + 1 := by simp [cost]
        have e2 : s.size - a + 1 = (s.size - (a + 1) + 1) + 1 := by omega
        rw [e, e2, Nat.add_mul (s.size - (a + 1) + 1) 1]
        omega
      · unfold Means; simp only [if_neg (show ¬ (1 = 0) by omega), if_neg (show ¬ (1 = 8) by omega), if_true]; exact ⟨G, hG, rfl⟩
      · dsimp only; rw [mores_more hlt]; show seq (bind (way a m.given _) G) U = _; rw [Tr.bind, Tr.seq_assoc]; rfl
    · rw [if_neg hlt] at go
      refine go _ _ _ rfl rfl ?_ (TellsX.of R s hc ⟨G, U, hG, hU, ?_⟩) rfl
      · show cost s.size k a + _ < _
        rw [hload]
        have h2 := hcp k a
        have h3 : most s.size k + 4 ≤ (s.size - a + 1) * (most s.size k + 4) := by rw [Nat.add_mul]; omega
        omega
      · dsimp only; rw [mores_last hlt]; show seq (bind (way a m.given naught) G) U = _; rw [Tr.bind, none_bind, naught, seq_right]
  rw [if_neg h1] at hF go
  by_cases h2 : t.op = 2
  · rw [if_pos h2] at hF go
    rw [if_neg (by omega), if_neg (by omega), if_neg (by omega)] at hload
    subst hF
    cases hi : idx (s.data.toList.drop a) t.node.bytes true with
    | none =>
      rw [hi] at go
      refine go _ _ U rfl ?_ ?_ (TellsX.of R s hc hU) rfl
      · dsimp only; rw [idx_none hi]; show _ = first _ _ _ (seq (bind naught G) U); rw [none_bind, seq_naught]
      · show costC s.size m.choices < _; rw [hload]; omega
    | some n =>
      rw [hi] at go
      obtain ⟨hn, hb⟩ := idx_some (a := a) hi
      rw [List.length_drop] at hn
      refine go _ _ _ rfl rfl ?_ (TellsX.of R s hc ⟨G, seq (bind (wayL m.given (breaks t.node.bytes (s.data.toList.drop (a + n + 1)) (a + n + 1))) G) U, hG, MeansC.mk R s (F := fun a g => bind (wayL g (breaks t.node.bytes (s.data.toList.drop a) a)) G) ?_ hU (a + n + 1) m.given, ?_⟩) rfl
      · show cost s.size k (a + n) + (cost s.size (⟨2, t.node, 0⟩ :: k) (a + n + 1) + 1 + costC s.size m.choices) < _
        rw [hload]
        have h2 := hcp k (a + n)
        have e : cost s.size (⟨2, t.node, 0⟩ :: k) (a + n + 1) = (s.size - (a + n + 1) + 1) * (most s.size k + 4) + 1 := by simp [cost]
        have e2 : (s.size - (a + n + 1) + 1) * (most s.size k + 4) ≤ (s.size - a) * (most s.size k + 4) := Nat.mul_le_mul_right _ (by omega)
        rw [e, Nat.add_mul (s.size - a) 1]
        omega
      · unfold Means; simp only [if_neg (show ¬ (2 = 0) by omega), if_neg (show ¬ (2 = 8) by omega), if_neg (show ¬ (2 = 1) by omega), if_true]; exact ⟨G, hG, rfl⟩
      · dsimp only; rw [hb, List.drop_drop]; show seq (bind (way (a + n) m.given _) G) U = _; rw [Tr.bind, Tr.seq_assoc]; rfl
  rw [if_neg h2] at hF go
  by_cases h3 : t.op = 3
  · rw [if_pos h3] at hF go
    rw [if_neg (by omega), if_neg (by omega), if_neg (by omega)] at hload
    subst hF
    cases hi : pairLen (s.data.toList.drop a) 0 with
    | none =>
      rw [hi] at go
      refine go _ _ U rfl ?_ ?_ (TellsX.of R s hc hU) rfl
      · dsimp only; rw [pairLen_none hi]; show _ = first _ _ _ (seq (bind naught G) U); rw [none_bind, seq_naught]
      · show costC s.size m.choices < _; rw [hload]; omega
    | some n =>
      rw [hi] at go
      obtain ⟨hn0, hn, hb⟩ := pairLen_some (a := a) hi
      rw [List.length_drop] at hn
      refine go _ _ _ rfl rfl ?_ (TellsX.of R s hc ⟨G, seq (bind (wayL m.given (pairEnds (s.data.toList.drop (a + n)) 0 (a + n))) G) U, hG, MeansC.mk R s (F := fun a g => bind (wayL g (pairEnds (s.data.toList.drop a) 0 a)) G) ?_ hU (a + n) m.given, ?_⟩) rfl
      · show cost s.size k (a + n) + (cost s.size (⟨3, t.node, 0⟩ :: k) (a + n) + 1 + costC s.size m.choices) < _
        rw [hload]
        have h2 := hcp k (a + n)
        have e : cost s.size (⟨3, t.node, 0⟩ :: k) (a + n) = (s.size - (a + n) + 1) * (most s.size k + 4) + 1 := by simp [cost]
        have e2 : (s.size - (a + n) + 1) * (most s.size k + 4) ≤ (s.size - a) * (most s.size k + 4) := Nat.mul_le_mul_right _ (by omega)
        rw [e, Nat.add_mul (s.size - a) 1]
        omega
      · unfold Means; simp only [if_neg (show ¬ (3 = 0) by omega), if_neg (show ¬ (3 = 8) by omega), if_neg (show ¬ (3 = 1) by omega), if_neg (show ¬ (3 = 2) by omega), if_true]; exact ⟨G, hG, rfl⟩
      · dsimp only; rw [hb, List.drop_drop]; show seq (bind (way (a + n) m.given _) G) U = _; rw [Tr.bind, Tr.seq_assoc]; rfl
  rw [if_neg h3] at hF go
  by_cases h4 : t.op = 4
  · rw [if_pos h4] at hF hload go
    obtain ⟨n, c, hn, hcc, rfl⟩ := hF
    obtain ⟨c, rfl⟩ : ∃ d, c = d + 1 := ⟨c - 1, by omega⟩
    refine go _ _ _ rfl rfl ?_ (TellsX.of R s hc ⟨_, U, ⟨n, fun e h => if e = a then naught else seq (G e h) (bind (star (den R s n (t.node.kid 0)) c e h) G), hn, fun q hq => ?_, rfl⟩, hU, ?_⟩) rfl
    · show cost s.size (⟨0, _, _⟩ :: _) _ + _ < _
      rw [hload]; simp [cost]
    · unfold Means; simp only [if_neg (show ¬ (5 = 0) by omega), if_neg (show ¬ (5 = 8) by omega), if_neg (show ¬ (5 = 1) by omega), if_neg (show ¬ (5 = 2) by omega), if_neg (show ¬ (5 = 3) by omega), if_neg (show ¬ (5 = 4) by omega), if_true]
      exact ⟨G, Means.mono R s hG (by omega), n, c, by omega, by omega, rfl⟩
    · dsimp only
      rw [star, Tr.bind_assoc]
      congr 1
      refine bind_congr (fun e h => ?_) _
      split
      · rfl
      · rw [bind_seq, one_bind]
  rw [if_neg h4] at hF hload go
  by_cases h5 : t.op = 5
  · rw [if_pos h5] at hF hload go
    obtain ⟨n, c, hn, hcc, rfl⟩ := hF
    by_cases ha : a = t.start
    · rw [if_pos ha] at go
      refine go _ _ U rfl ?_ ?_ (TellsX.of R s hc hU) rfl
      · dsimp only; rw [if_pos ha, seq_naught]
      · show costC s.size m.choices < _; rw [hload]; omega
    · rw [if_neg ha] at go
      refine go _ _ _ rfl rfl ?_ (TellsX.of R s hc ⟨G, seq (bind (star (den R s n (t.node.kid 0)) c a m.given) G) U, hG, MeansC.mk R s (F := fun a g => bind (star (den R s n (t.node.kid 0)) c a g) G) ?_ hU a m.given, ?_⟩) rfl
      · show cost s.size k a + (cost s.size (⟨4, t.node, 0⟩ :: k) a + 1 + costC s.size m.choices) < _
        rw [hload]
        have h2 := hcp k a
        have e : cost s.size (⟨4, t.node, 0⟩ :: k) a = 2 := by simp [cost]
        rw [e]; omega
      · unfold Means; simp only [if_neg (show ¬ (4 = 0) by omega), if_neg (show ¬ (4 = 8) by omega), if_neg (show ¬ (4 = 1) by omega), if_neg (show ¬ (4 = 2) by omega), if_neg (show ¬ (4 = 3) by omega), if_true]
        exact ⟨G, hG, n, c, hn, hcc, rfl⟩
      · dsimp only; rw [if_neg ha, Tr.seq_assoc]; rfl
  rw [if_neg h5] at hF hload go
  by_cases h6 : t.op = 6
  · rw [if_pos h6] at hF go
    rw [if_pos (Or.inl h6)] at hload
    subst hF
    refine go _ _ _ rfl rfl ?_ (TellsX.of R s hc ⟨G, U, hG, hU, rfl⟩) rfl
    show cost s.size k a + costC s.size m.choices < _
    rw [hload]
    have h2 := hcp k a
    omega
  · rw [if_neg h6] at hF go
    rw [if_pos (Or.inr (by omega))] at hload
    subst hF
    refine go _ _ _ rfl rfl ?_ (TellsX.of R s hc ⟨G, U, hG, hU, rfl⟩) rfl
    show cost s.size k a + costC s.size m.choices < _
    rw [hload]
    have h2 := hcp k a
    omega
theorem inner_false {p : Pat} (h : inner p = false) : p.kind ≠ 7 ∧ p.kind ≠ 13 ∧ p.kind ≠ 14 ∧ p.kind ≠ 18 ∧ p.kind ≠ 19 ∧ p.kind ≠ 20 ∧ p.kind ≠ 21 ∧ p.kind ≠ 22 ∧ p.kind ≠ 24 := by
  simp only [inner, Bool.or_eq_false_iff, decide_eq_false_iff_not] at h
  obtain ⟨⟨⟨⟨⟨⟨⟨⟨h1, h2⟩, h3⟩, h4⟩, h5⟩, h6⟩, h7⟩, h8⟩, h9⟩ := h
  exact ⟨h1, h2, h3, h4, h5, h6, h7, h8, h9⟩
theorem enter_goes {fuel r : Nat} {t : Todo} {k : List Todo} {a : Nat} {m : MS} {T : Tr} (h0 : t.op = 0) (hc : m.cut = false) (hT : Tells R s (r + 1) (some (t :: k, a)) m T) (hr : m.ticks + (r + 1) = fuel)
    (ih : ∀ st m' T', TellsX R s r st m' T' → m'.ticks = m.ticks + 1 → Goes R s fuel st m' T') : Goes R s fuel (some (t :: k, a)) m T := by
  obtain ⟨F, U, hF, hU, rfl⟩ := hT
  unfold Means at hF
  dsimp only at hF
  rw [if_pos h0] at hF
  obtain ⟨n, G, hn, hG, rfl⟩ := hF
  obtain ⟨n, rfl⟩ : ∃ k, n = k + 1 := ⟨n - 1, by omega⟩
  have hU : MeansC R s r m.choices U := MeansC.mono R s hU (by omega)
  have hG : Means R s r k G := hG r (by omega)
  have hn' : r < n := by omega
  have hne : ¬ m.ticks = fuel := by omega
  obtain ⟨m1, hm1⟩ : ∃ m1 : MS, m1 = { m with ticks := m.ticks + 1 } := ⟨_, rfl⟩
  have c1 : m1.choices = m.choices := by rw [hm1]
  have c2 : m1.given = m.given := by rw [hm1]
  have c3 : m1.ticks = m.ticks + 1 := by rw [hm1]
  have c4 : m1.said = m.said := by rw [hm1]
  have c5 : m1.cut = false := by rw [hm1]; exact hc
  obtain ⟨T1, hT1⟩ : ∃ T1, T1 = seq (Tr.bind (node R s (den R s n) n t.node a m.given) G) U := ⟨_, rfl⟩
  have hfirst : ∀ {sd}, first fuel m.ticks sd (seq ((fun a g => Tr.bind (den R s (n + 1) t.node a g) G) a m.given) U) = first fuel (m.ticks + 1) sd T1 := by
    intro sd
    rw [hT1]
    show first fuel m.ticks sd (tick (seq (Tr.bind (node R s (den R s n) n t.node a m.given) G) U)) = _
    rw [first, if_neg hne]
  have goI : ∀ k' m' T', inner t.node = true → enter R t.node a k m1 = (some k', m') → first fuel m'.ticks m'.said T' = first fuel m1.ticks m1.said T1 → TellsX R s r (some (k', a)) m' T' → m'.ticks = m1.ticks → Goes R s fuel (some (t :: k, a)) m (seq ((fun a g => Tr.bind (den R s (n + 1) t.node a g) G) a m.given) U) := by
    intro k' m' T' hin e1 e2 hX ht
    obtain ⟨c, o, hr, ha⟩ := ih _ m' T' hX (by rw [ht, c3])
    refine ⟨c + 1, o, ?_, by rw [hfirst, ← c4, ← c3, ← e2]; exact ha⟩
    rw [runs, if_pos h0, if_neg hne]
    dsimp only
    rw [if_pos hin, ← hm1, e1]; exact hr
  have goL : ∀ x m' T', inner t.node = false → leave s t.node a m1 = (x, m') → first fuel m'.ticks m'.said T' = first fuel m1.ticks m1.said T1 → TellsX R s r (x.map (fun b => (k, b))) m' T' → m'.ticks = m1.ticks → Goes R s fuel (some (t :: k, a)) m (seq ((fun a g => Tr.bind (den R s (n + 1) t.node a g) G) a m.given) U) := by
    intro x m' T' hin e1 e2 hX ht
    obtain ⟨c, o, hr, ha⟩ := ih _ m' T' hX (by rw [ht, c3])
    refine ⟨c + 1, o, ?_, by rw [hfirst, ← c4, ← c3, ← e2]; exact ha⟩
    rw [runs, if_pos h0, if_neg hne]
    dsimp only
    rw [if_neg (by rw [hin]; simp), ← hm1, e1]
    cases x with
    | none => exact hr
    | some b => exact hr
  cases hin : inner t.node with
  | true =>
    have goI := fun k' m' T' => goI k' m' T' hin
    unfold enter at goI
    unfold node at hT1
    dsimp only at hT1
    have wk : ∀ (o : Nat) (L : Nat → Nat → List Nat), Means R s r (⟨o, t.node, 0⟩ :: k) (fun a g => Tr.bind (wayL g (L a a)) G) → T1 = seq (Tr.bind (wayL m.given (L a a)) G) U → TellsX R s r (some (⟨o, t.node, 0⟩ :: k, a)) m1 T1 := by
      intro o L h1 h2
      exact TellsX.of R s c5 ⟨_, U, h1, by rw [c1]; exact hU, by rw [h2, c2]⟩
    by_cases h7 : t.node.kind = 7
    · rw [if_pos h7] at goI hT1
      refine goI _ _ T1 rfl rfl (wk 2 (fun a b => breaks t.node.bytes (s.data.toList.drop a) b) ?_ hT1) rfl
      unfold Means; simp only [if_neg (show ¬ (2 = 0) by omega), if_neg (show ¬ (2 = 8) by omega), if_neg (show ¬ (2 = 1) by omega), if_true]; exact ⟨G, hG, rfl⟩
    rw [if_neg h7] at goI hT1
    by_cases h13 : t.node.kind = 13
    · rw [if_pos h13] at goI hT1
      refine goI _ _ T1 rfl rfl (wk 1 (fun a b => mores s.data.toList.length a) ?_ hT1) rfl
      unfold Means; simp only [if_neg (show ¬ (1 = 0) by omega), if_neg (show ¬ (1 = 8) by omega), if_true]; exact ⟨G, hG, rfl⟩
    rw [if_neg h13] at goI hT1
    by_cases h14 : t.node.kind = 14
    · rw [if_pos h14] at goI hT1
      refine goI _ _ T1 rfl rfl (wk 3 (fun a b => pairEnds (s.data.toList.drop a) 0 b) ?_ hT1) rfl
      unfold Means; simp only [if_neg (show ¬ (3 = 0) by omega), if_neg (show ¬ (3 = 8) by omega), if_neg (show ¬ (3 = 1) by omega), if_neg (show ¬ (3 = 2) by omega), if_true]; exact ⟨G, hG, rfl⟩
    rw [if_neg h14] at goI hT1
    by_cases h15 : t.node.kind = 15
    · simp [inner, h15] at hin
    by_cases h16 : t.node.kind = 16
    · simp [inner, h16] at hin
    by_cases h17 : t.node.kind = 17
    · simp [inner, h17] at hin
    rw [if_neg h15, if_neg h16, if_neg h17] at hT1
    by_cases h18 : t.node.kind = 18
    · rw [if_pos h18] at goI hT1
      exact goI _ _ T1 rfl rfl (TellsX.of R s c5 ⟨_, U, kidsK_means R s hn' hG t.node.kids, by rw [c1]; exact hU, by rw [hT1, c2]⟩) rfl
    rw [if_neg h18] at goI hT1
    by_cases h19 : t.node.kind = 19
    · rw [if_pos h19] at goI hT1
      refine goI _ _ T1 rfl rfl (TellsX.of R s c5 ⟨_, seq (Tr.bind (alts (den R s n) (t.node.kids.drop 1) a m.given) G) U, enter_means R s hn' (t.node.kid 0) hG, ?_, ?_⟩) rfl
      · show MeansC R s r (_ ++ m1.choices) _
        rw [c1, c2]
        exact alts_means R s hn' hG a m.given hU _
      · show T1 = seq (Tr.bind (den R s n (t.node.kid 0) a m1.given) G) _
        rw [hT1, c2, alts, bind_seq, Tr.seq_assoc]
    rw [if_neg h19] at goI hT1
    by_cases h20 : t.node.kind = 20
    · rw [if_pos h20] at goI hT1
      refine goI _ _ T1 rfl rfl (TellsX.of R s (by exact c5) ⟨G, seq (Tr.bind (star (den R s n (t.node.kid 0)) n a m.given) G) U, hG, ?_, ?_⟩) rfl
      · show MeansC R s r (⟨_, a, m1.given⟩ :: m1.choices) _
        rw [c1, c2]
        refine MeansC.mk R s (F := fun a g => Tr.bind (star (den R s n (t.node.kid 0)) n a g) G) ?_ hU a m.given
        unfold Means; simp only [if_neg (show ¬ (4 = 0) by omega), if_neg (show ¬ (4 = 8) by omega), if_neg (show ¬ (4 = 1) by omega), if_neg (show ¬ (4 = 2) by omega), if_neg (show ¬ (4 = 3) by omega), if_true]
        exact ⟨G, hG, n, n, hn', hn', rfl⟩
      · show T1 = seq (G a m1.given) _
        rw [hT1, c2, bind_seq, one_bind, Tr.seq_assoc]
    rw [if_neg h20] at goI hT1
    by_cases h21 : t.node.kind = 21
    · rw [if_pos h21] at goI hT1
      refine goI _ _ T1 rfl rfl (TellsX.of R s c5 ⟨_, U, enter_means R s hn' (t.node.kid 0) (G := fun e h => G e (h ++ [(t.node.name, s.extract a e)])) ?_, by rw [c1]; exact hU, ?_⟩) rfl
      · unfold Means; simp only [if_neg (show ¬ (6 = 0) by omega), if_neg (show ¬ (6 = 8) by omega), if_neg (show ¬ (6 = 1) by omega), if_neg (show ¬ (6 = 2) by omega), if_neg (show ¬ (6 = 3) by omega), if_neg (show ¬ (6 = 4) by omega), if_neg (show ¬ (6 = 5) by omega), if_true]
        exact ⟨G, hG, rfl⟩
      · rw [hT1, c2, Tr.bind_assoc]
        congr 1
        exact bind_congr (fun e h => by rw [one_bind]) _
    rw [if_neg h21] at goI hT1
    by_cases h22 : t.node.kind = 22
    · rw [if_pos h22] at goI hT1
      refine goI _ _ T1 rfl rfl (TellsX.of R s c5 ⟨_, U, enter_means R s hn' (t.node.kid 0) (G := fun e h => say (t.node.name, s.extract a e) (G e h)) ?_, by rw [c1]; exact hU, ?_⟩) rfl
      · unfold Means; simp only [if_neg (show ¬ (7 = 0) by omega), if_neg (show ¬ (7 = 8) by omega), if_neg (show ¬ (7 = 1) by omega), if_neg (show ¬ (7 = 2) by omega), if_neg (show ¬ (7 = 3) by omega), if_neg (show ¬ (7 = 4) by omega), if_neg (show ¬ (7 = 5) by omega), if_neg (show ¬ (7 = 6) by omega)]
        exact ⟨G, hG, rfl⟩
      · rw [hT1, c2, Tr.bind_assoc]
        congr 1
        refine bind_congr (fun e h => ?_) _
        rw [Tr.bind, one_bind]
    rw [if_neg h22] at goI hT1
    by_cases h24 : t.node.kind = 24
    · rw [if_pos h24] at goI
      rw [if_neg (by rw [h24]; omega), if_pos h24] at hT1
      cases hq : ruleOf R t.node.name with
      | some q =>
        rw [hq] at goI hT1
        exact goI _ _ T1 rfl rfl (TellsX.of R s c5 ⟨_, U, enter_means R s hn' q hG, by rw [c1]; exact hU, by rw [hT1, c2]⟩) rfl
      | none =>
        rw [hq] at hT1
        refine ⟨1, .name, ?_, ?_⟩
        · rw [runs, if_pos h0, if_neg hne]
          dsimp only
          rw [if_pos hin]
          unfold enter
          rw [if_neg h7, if_neg h13, if_neg h14, if_neg h18, if_neg h19, if_neg h20, if_neg h21, if_neg h22, if_pos h24, hq]
        · rw [hfirst, hT1]; exact rfl
    · simp [inner, h7, h13, h14, h18, h19, h20, h21, h22, h24] at hin
  | false =>
    have goL := fun x m' T' => goL x m' T' hin
    obtain ⟨h7, h13, h14, h18, h19, h20, h21, h22, h24⟩ := inner_false hin
    unfold leave at goL
    unfold node at hT1
    dsimp only at hT1
    rw [if_neg h7, if_neg h13, if_neg h14, if_neg h18, if_neg h19, if_neg h20, if_neg h21, if_neg h22, if_neg h24] at hT1
    by_cases h23 : t.node.kind = 23
    · rw [if_pos h23] at goL
      rw [if_neg (by rw [h23]; omega), if_neg (by rw [h23]; omega), if_neg (by rw [h23]; omega), if_pos h23] at hT1
      refine goL _ _ (seq (G a m.given) U) rfl ?_ (TellsX.of R s (by exact c5) ⟨G, U, hG, by exact (by rw [c1]; exact hU : MeansC R s r m1.choices U), ?_⟩) rfl
      · rw [hT1, Tr.bind, one_bind]; rfl
      · show _ = seq (G a m1.given) U; rw [c2]
    rw [if_neg h23] at goL hT1
    by_cases h16 : t.node.kind = 16
    · rw [if_pos h16] at goL
      rw [if_neg (by rw [h16]; omega), if_pos h16] at hT1
      refine goL _ _ T1 rfl rfl (TellsX.of R s (by exact c5) ⟨G, stop .cut, hG, ?_, ?_⟩) rfl
      · show MeansC R s r (⟨_, a, m1.given⟩ :: m1.choices) _
        rw [c1]
        refine ⟨fun _ _ => stop .cut, U, ?_, hU, rfl⟩
        unfold Means; simp only [if_neg (show ¬ (8 = 0) by omega), if_true]
      · show T1 = seq (G a m1.given) _
        rw [hT1, c2, Tr.bind, Tr.bind, Tr.seq_assoc]; rfl
    rw [if_neg h16] at goL hT1
    by_cases h17 : t.node.kind = 17
    · rw [if_pos h17] at goL
      rw [if_neg (by rw [h17]; omega), if_pos h17] at hT1
      refine goL _ _ T1 rfl rfl ?_ rfl
      rw [hT1]; exact TellsX.shut R s r m1
    rw [if_neg h17] at goL hT1
    by_cases h15 : t.node.kind = 15
    · rw [if_pos h15, none_bind, seq_naught] at hT1
      have he : endAt s.data.toList t.node a = none := by unfold endAt; rw [h15]; rfl
      rw [he] at goL
      exact goL _ _ T1 rfl rfl (TellsX.of R s c5 (by rw [hT1]; show MeansC R s r m1.choices U; rw [c1]; exact hU)) rfl
    rw [if_neg h15] at hT1
    cases he : endAt s.data.toList t.node a with
    | none =>
      rw [he] at goL hT1
      exact goL _ _ T1 rfl rfl (TellsX.of R s c5 (by rw [hT1]; show MeansC R s r m1.choices _; rw [c1]; exact hU)) rfl
    | some b =>
      rw [he] at goL hT1
      refine goL _ _ T1 rfl rfl (TellsX.of R s c5 ⟨G, U, hG, by rw [c1]; exact hU, ?_⟩) rfl
      rw [hT1, c2]
      show seq (seq (G b m.given) (Tr.bind naught G)) U = _
      rw [none_bind, naught, seq_right]
theorem step {fuel : Nat} (r f : Nat) (ihf : ∀ (st : Option (List Todo × Nat)) (m : MS) (T : Tr), load s.size st m < f → TellsX R s r st m T → m.ticks + r = fuel → Goes R s fuel st m T)
    (ihr : ∀ r', r = r' + 1 → ∀ (st : Option (List Todo × Nat)) (m : MS) (T : Tr), TellsX R s r' st m T → m.ticks + r' = fuel → Goes R s fuel st m T) :
    ∀ (st : Option (List Todo × Nat)) (m : MS) (T : Tr), load s.size st m ≤ f → TellsX R s r st m T → m.ticks + r = fuel → Goes R s fuel st m T := by
  intro st m T hl hX hr
  cases hc : m.cut with
  | true =>
    unfold TellsX at hX
    rw [if_pos hc] at hX
    obtain ⟨rfl, h1, rfl⟩ := hX
    exact ⟨1, .over m, by rw [runs, h1], m, rfl, hc, rfl, rfl⟩
  | false =>
    unfold TellsX at hX
    rw [if_neg (by rw [hc]; simp)] at hX
    match st, hX, hl with
    | none, hX, hl =>
      cases hcs : m.choices with
      | nil =>
        have hX : MeansC R s r m.choices T := hX
        rw [hcs] at hX
        obtain rfl : T = naught := hX
        exact ⟨1, .over m, by rw [runs, hcs], m, rfl, hc, rfl, rfl⟩
      | cons x cs =>
        have hX : MeansC R s r m.choices T := hX
        rw [hcs] at hX
        obtain ⟨F, U, h1, h2, rfl⟩ := hX
        obtain ⟨c, o, h3, h4⟩ := ihf (some (x.k, x.at_)) { m with choices := cs, given := x.given } (seq (F x.at_ x.given) U) (by
          have : load s.size none m = cost s.size x.k x.at_ + 1 + costC s.size cs := by show costC s.size m.choices = _; rw [hcs]; rfl
          show cost s.size x.k x.at_ + costC s.size cs < f
          omega) (TellsX.of R s hc ⟨F, U, h1, h2, rfl⟩) hr
        exact ⟨c + 1, o, by rw [runs, hcs]; exact h3, h4⟩
    | some ([], a), hX, hl =>
      obtain ⟨F, U, h1, h2, rfl⟩ := hX
      have h1 : F = one := h1
      subst h1
      refine ⟨1, .found a m, by rw [runs], ?_⟩
      show Agree R s fuel (first fuel m.ticks m.said (way a m.given (seq naught U))) _
      rw [first, seq_naught]
      exact ⟨m, rfl, rfl, rfl, rfl, hc, by omega, by rw [show fuel - m.ticks = r by omega]; exact h2⟩
    | some (t :: k, a), hX, hl =>
      by_cases h0 : t.op = 0
      · by_cases hr0 : r = 0
        · obtain ⟨F, U, hF, hU, rfl⟩ := hX
          unfold Means at hF
          dsimp only at hF
          rw [if_pos h0] at hF
          obtain ⟨n, G, hn, hG, rfl⟩ := hF
          obtain ⟨n, rfl⟩ : ∃ k, n = k + 1 := ⟨n - 1, by omega⟩
          have hf : m.ticks = fuel := by omega
          refine ⟨1, .fuel, by rw [runs, if_pos h0, if_pos hf], ?_⟩
          show Agree R s fuel (first fuel m.ticks m.said (tick _)) _
          rw [first, if_pos hf]; exact rfl
        · obtain ⟨r', rfl⟩ : ∃ k, r = k + 1 := ⟨r - 1, by omega⟩
          exact enter_goes R s h0 hc hX hr (fun st m' T' h1 h2 => ihr r' rfl st m' T' h1 (by omega))
      · exact resume_goes R s h0 hc hX (fun st m' T' h1 h2 h3 => ihf st m' T' (by omega) h2 (by omega))
end
end Go.Proofs.YtkkdpafkafjfgaaDoor
namespace Go.Proofs.YtkkdpafkafjfgaaDoor
open Tr
set_option linter.unusedVariables false
abbrev Way := Nat × List Gift
def tell (fuel : Nat) : Nat → Nat → Tr → List Way × Bool × Int
  | 0, _, _ => ([], false, 0)
  | m + 1, k, .stop .done => ([], false, 0)
  | m + 1, k, .stop .cut => ([], true, 0)
  | m + 1, k, .stop .deep => ([], false, 99)
  | m + 1, k, .stop .name => ([], false, 7)
  | m + 1, k, .tick t => if k = fuel then ([], false, 10) else tell fuel (m + 1) (k + 1) t
  | m + 1, k, .say g t => tell fuel (m + 1) k t
  | m + 1, k, .way a g t => (match tell fuel m k t with | (l, c, e) => if e = 0 then ((a, g) :: l, c, 0) else ([], false, e))
section
variable (R : List Rule) (s : ByteArray)
end
end Go.Proofs.YtkkdpafkafjfgaaDoor
