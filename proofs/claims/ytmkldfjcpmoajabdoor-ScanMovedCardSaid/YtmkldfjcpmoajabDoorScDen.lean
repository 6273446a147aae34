/- What looking for a pattern tells: by the pattern's form. Plain. -/
import Derived.Test.YtmkldfjcpmoajabDoorScTr
import Derived.Lib.ItoaNum
namespace Go.Proofs.YtmkldfjcpmoajabDoor
open Go
set_option linter.unusedVariables false

inductive Pat where
  | mk (kind : Int) (text : ByteArray) (n : Int) (name : ByteArray) (kids : List Pat)
namespace Pat
def kind : Pat → Int | mk k _ _ _ _ => k
def text : Pat → ByteArray | mk _ t _ _ _ => t
def n : Pat → Int | mk _ _ n _ _ => n
def name : Pat → ByteArray | mk _ _ _ m _ => m
def kids : Pat → List Pat | mk _ _ _ _ l => l
def bytes (p : Pat) : List UInt8 := p.text.data.toList
def num (p : Pat) : Nat := p.n.toNat
def kid (p : Pat) (i : Nat) : Pat := p.kids.getD i (mk 0 ByteArray.empty 0 ByteArray.empty [])
end Pat
abbrev Rule := ByteArray × Pat

def lastText (s : ByteArray) (a b : Nat) : ByteArray := s.extract a b
/-- The digits of a place. -/
def digText (n : Nat) : ByteArray := ⟨(Lib.decDigits n).toArray⟩

/-- Where a piece ends that has one end at most. -/
def endAt (s : List UInt8) (p : Pat) (at_ : Nat) : Option Nat :=
  if p.kind = 1 then (if p.bytes.isPrefixOf (s.drop at_) then some (at_ + p.bytes.length) else none)
  else if p.kind = 2 then (if at_ + p.num ≤ s.length then some (at_ + p.num) else none)
  else if p.kind = 3 then (match s[at_]? with | some c => if p.bytes.contains c then some (at_ + 1) else none | none => none)
  else if p.kind = 4 then (match s[at_]? with | some c => if p.bytes.contains c then none else some (at_ + 1) | none => none)
  else if p.kind = 5 then (let n := ((s.drop at_).takeWhile p.bytes.contains).length; if 0 < n then some (at_ + n) else none)
  else if p.kind = 6 then (let n := ((s.drop at_).takeWhile (fun c => !p.bytes.contains c)).length; if at_ + n < s.length then some (at_ + n) else none)
  else if p.kind = 8 then (if at_ ≤ p.num ∧ p.num ≤ s.length then some p.num else none)
  else if p.kind = 9 then (if at_ + p.num ≤ s.length then some (s.length - p.num) else none)
  else if p.kind = 10 then (if at_ = p.num then some at_ else none)
  else if p.kind = 11 then (if at_ + p.num = s.length then some at_ else none)
  else if p.kind = 12 then some s.length
  else none
/-- The places of bytes that break. -/
def breaks (t : List UInt8) : List UInt8 → Nat → List Nat
  | [], _ => []
  | c :: l, a => if t.contains c then a :: breaks t l (a + 1) else breaks t l (a + 1)
/-- The ends of pieces whose brackets are in pairs. -/
def pairEnds : List UInt8 → Nat → Nat → List Nat
  | [], _, _ => []
  | c :: l, d, a =>
    if c = 40 then pairEnds l (d + 1) (a + 1)
    else if c = 41 then (match d with | 0 => [] | 1 => (a + 1) :: pairEnds l 0 (a + 1) | d + 2 => pairEnds l (d + 1) (a + 1))
    else if d = 0 then (a + 1) :: pairEnds l 0 (a + 1) else pairEnds l d (a + 1)
def mores (len a : Nat) : List Nat := List.range' a (len - a + 1)

open Tr
/-- Ways at places. -/
def wayL (g : List Gift) : List Nat → Tr
  | [] => naught
  | a :: l => way a g (wayL g l)
/-- Each of some, one beside the other. -/
def alts (D : Pat → Nat → List Gift → Tr) : List Pat → Nat → List Gift → Tr
  | [], _, _ => naught
  | p :: l, a, g => seq (D p a g) (alts D l a g)
/-- One behind the other. -/
def cats (D : Pat → Nat → List Gift → Tr) : List Pat → Nat → List Gift → Tr
  | [], a, g => one a g
  | p :: l, a, g => bind (D p a g) (cats D l)
/-- Once more, and so on. -/
def star (D : Nat → List Gift → Tr) : Nat → Nat → List Gift → Tr
  | 0, _, _ => stop .deep
  | c + 1, a, g => bind (D a g) (fun e h => if e = a then naught else seq (one e h) (star D c e h))
def sameText (a b : ByteArray) : Bool := a.data.toList == b.data.toList
theorem sameText_iff {a b : ByteArray} : sameText a b = true ↔ a = b := by
  unfold sameText
  rw [beq_iff_eq]
  refine ⟨fun h => ?_, fun h => by rw [h]⟩
  cases a; cases b; simp at h; simpa using h
def ruleOf (R : List Rule) (name : ByteArray) : Option Pat := (R.find? (fun r => sameText r.1 name)).map (·.2)

/-- A node by the way its kids go. -/
def node (R : List Rule) (s : ByteArray) (D : Pat → Nat → List Gift → Tr) (c : Nat) (p : Pat) (a : Nat) (g : List Gift) : Tr :=
  let l := s.data.toList
  if p.kind = 7 then wayL g (breaks p.bytes (l.drop a) a)
  else if p.kind = 13 then wayL g (mores l.length a)
  else if p.kind = 14 then wayL g (pairEnds (l.drop a) 0 a)
  else if p.kind = 15 then naught
  else if p.kind = 16 then way a g (stop .cut)
  else if p.kind = 17 then stop .cut
  else if p.kind = 18 then cats D p.kids a g
  else if p.kind = 19 then alts D (p.kid 0 :: p.kids.drop 1) a g
  else if p.kind = 20 then seq (one a g) (star (D (p.kid 0)) c a g)
  else if p.kind = 21 then bind (D (p.kid 0) a g) (fun e h => one e (h ++ [(p.name, s.extract a e)]))
  else if p.kind = 22 then bind (D (p.kid 0) a g) (fun e h => say (p.name, s.extract a e) (one e h))
  else if p.kind = 23 then say (p.name, digText a) (one a g)
  else if p.kind = 24 then (match ruleOf R p.name with | some q => D q a g | none => stop .name)
  else wayL g (endAt l p a).toList
/-- What looking for a pattern tells, so deep. -/
def den (R : List Rule) (s : ByteArray) : Nat → Pat → Nat → List Gift → Tr
  | 0, _, _, _ => stop .deep
  | n + 1, p, a, g => tick (node R s (den R s n) n p a g)

theorem wayL_le (g : List Gift) (l : List Nat) : le (wayL g l) (wayL g l) := le_refl _
theorem alts_le {D E : Pat → Nat → List Gift → Tr} (h : ∀ p a g, le (D p a g) (E p a g)) : ∀ l a g, le (alts D l a g) (alts E l a g)
  | [], _, _ => le_refl _
  | p :: l, a, g => le_seq (alts_le h l a g) (h p a g)
theorem cats_le {D E : Pat → Nat → List Gift → Tr} (h : ∀ p a g, le (D p a g) (E p a g)) : ∀ l a g, le (cats D l a g) (cats E l a g)
  | [], _, _ => le_refl _
  | p :: l, a, g => le_bind (cats_le h l) (h p a g)
theorem star_le {D E : Nat → List Gift → Tr} (h : ∀ a g, le (D a g) (E a g)) : ∀ {c d : Nat}, c ≤ d → ∀ a g, le (star D c a g) (star E d a g)
  | 0, d, _, a, g => le_deep _
  | c + 1, d, hc, a, g => by
    obtain ⟨d, rfl⟩ : ∃ k, d = k + 1 := ⟨d - 1, by omega⟩
    refine le_bind (fun e k => ?_) (h a g)
    split
    · exact le_refl _
    · exact le_seq (star_le h (by omega) e k) (le_refl _)
theorem le_ite {c : Prop} [Decidable c] {x y u v : Tr} (h : le x u) (k : le y v) : le (if c then x else y) (if c then u else v) := by
  split
  · exact h
  · exact k
theorem late_ite {n : Nat} {c : Prop} [Decidable c] {x y : Tr} (h : late n x) (k : late n y) : late n (if c then x else y) := by
  split
  · exact h
  · exact k
theorem node_le {R : List Rule} {s : ByteArray} {D E : Pat → Nat → List Gift → Tr} (h : ∀ p a g, le (D p a g) (E p a g)) {c d : Nat} (hc : c ≤ d) (p : Pat) (a : Nat) (g : List Gift) :
    le (node R s D c p a g) (node R s E d p a g) := by
  unfold node
  refine le_ite (le_refl _) (le_ite (le_refl _) (le_ite (le_refl _) (le_ite (le_refl _) (le_ite (le_refl _) (le_ite (le_refl _) (le_ite (cats_le h _ _ _) (le_ite (alts_le h _ _ _) (le_ite (le_seq (star_le (h _) hc a g) (le_refl _)) (le_ite (le_bind (fun _ _ => le_refl _) (h _ _ _)) (le_ite (le_bind (fun _ _ => le_refl _) (h _ _ _)) (le_ite (le_refl _) (le_ite ?_ (le_refl _)))))))))))))
  split
  · exact h _ _ _
  · exact le_refl _
theorem den_le (R : List Rule) (s : ByteArray) : ∀ {n m : Nat}, n ≤ m → ∀ p a g, le (den R s n p a g) (den R s m p a g)
  | 0, m, _, p, a, g => le_deep _
  | n + 1, m, h, p, a, g => by
    obtain ⟨m, rfl⟩ : ∃ k, m = k + 1 := ⟨m - 1, by omega⟩
    exact ⟨_, rfl, node_le (den_le R s (by omega)) (by omega) p a g⟩

theorem wayL_late (n : Nat) (g : List Gift) : ∀ l, late n (wayL g l)
  | [] => fun h => by cases h
  | a :: l => wayL_late n g l
theorem one_late (n a : Nat) (g : List Gift) : late n (one a g) := fun h => by cases h
theorem say_late (n : Nat) (x : Gift) (a : Nat) (g : List Gift) : late n (say x (one a g)) := fun h => by cases h
theorem none_late (n : Nat) : late n naught := fun h => by cases h
theorem alts_late {n : Nat} {D : Pat → Nat → List Gift → Tr} (h : ∀ p a g, late n (D p a g)) : ∀ l a g, late n (alts D l a g)
  | [], _, _ => none_late n
  | p :: l, a, g => late_seq (h p a g) (alts_late h l a g)
theorem cats_late {n : Nat} {D : Pat → Nat → List Gift → Tr} (h : ∀ p a g, late n (D p a g)) : ∀ l a g, late n (cats D l a g)
  | [], a, g => one_late n a g
  | p :: l, a, g => late_bind (h p a g) (cats_late h l)
/-- Each telling of D begins with a node. -/
theorem star_late {n : Nat} {D : Nat → List Gift → Tr} (h : ∀ a g, ∃ t, D a g = tick t ∧ late (n - 1) t) : ∀ {c : Nat}, c ≤ n → ∀ a g, late c (star D c a g)
  | 0, _, a, g => fun _ => rfl
  | c + 1, hc, a, g => by
    obtain ⟨t, e, ht⟩ := h a g
    rw [star, e]
    show late c (bind t _)
    refine late_bind (late_mono ht (by omega)) (fun e k => ?_)
    split
    · exact none_late _
    · exact late_seq (one_late _ _ _) (star_late h (by omega) e k)
theorem den_late (R : List Rule) (s : ByteArray) : ∀ n p a g, late n (den R s n p a g)
  | 0, p, a, g => fun _ => rfl
  | n + 1, p, a, g => by
    have ih := den_late R s n
    have hs : ∀ q a g, late n (star (den R s n q) n a g) := by
      intro q a g
      cases n with
      | zero => exact fun _ => rfl
      | succ k => exact star_late (n := k + 1) (fun a g => ⟨_, rfl, by have := ih q a g; exact this⟩) (Nat.le_refl _) a g
    show late n (node R s (den R s n) n p a g)
    unfold node
    refine late_ite (wayL_late _ _ _) (late_ite (wayL_late _ _ _) (late_ite (wayL_late _ _ _) (late_ite (none_late _) (late_ite (fun h => by cases h) (late_ite (fun h => by cases h) (late_ite (cats_late ih _ _ _) (late_ite (alts_late ih _ _ _) (late_ite (late_seq (one_late _ _ _) (hs _ _ _)) (late_ite (late_bind (ih _ _ _) (fun _ _ => one_late _ _ _)) (late_ite (late_bind (ih _ _ _) (fun _ _ => say_late _ _ _ _)) (late_ite (say_late _ _ _ _) (late_ite ?_ (wayL_late _ _ _)))))))))))))
    split
    · exact ih _ _ _
    · exact fun h => by cases h
end Go.Proofs.YtmkldfjcpmoajabDoor
