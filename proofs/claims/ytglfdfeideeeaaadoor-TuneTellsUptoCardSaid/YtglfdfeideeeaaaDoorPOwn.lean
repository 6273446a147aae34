/- Slices that a call itself has made by append, elements of one cell: what an append leaves of them. No condition but the append's own bound on bytes. -/
import Derived.Test.YtglfdfeideeeaaaDoorPBase
import Derived.Deep.DeepAppendWide
import Derived.Lib.ItoaNum
namespace Go.Proofs.YtglfdfeideeeaaaDoor
open Go.RowKit
set_option linter.unusedVariables false
def Own (e : TypeId) (w : World) (B : Nat) (v : Value) (xs : List Value) : Prop := w.ownsRow B e 1 v xs.length xs
theorem Own.nil (e : TypeId) (w : World) (B : Nat) : Own e w B (.slice none 0 0) [] := World.ownsRow_nil w B e 1
theorem Own.alloc {e : TypeId} {w : World} {B : Nat} {v : Value} {xs : List Value} (h : Own e w B v xs) (o : Obj) : Own e (w.alloc o) B v xs := World.ownsRow.alloc h o
theorem Own.drew {e : TypeId} {w : World} {B : Nat} {v : Value} {xs : List Value} (h : Own e w B v xs) : Own e w.drew B v xs := h
theorem Own.drewN {e : TypeId} {w : World} {B : Nat} {v : Value} {xs : List Value} (h : Own e w B v xs) (n : Nat) : Own e (w.drewN n) B v xs := h
theorem Own.kept {e : TypeId} {w w' : World} {B : Nat} {v : Value} {xs : List Value} (h : Own e w B v xs) (g : Grew w w') : Own e w' B v xs :=
  World.ownsRow.kept h ⟨g.os, g.tape, g.output, g.size, fun k hk _ => g.block k hk⟩ (row := none) (by cases v.ownBlock <;> simp)
theorem Own.mono {e : TypeId} {w : World} {B B' : Nat} {v : Value} {xs : List Value} (h : Own e w B v xs) (hB : B' ≤ B) : Own e w B' v xs := by
  refine ⟨h.1, ?_⟩
  rcases h.2 with h | ⟨g, cap, cur, h1, h2, h3⟩
  · exact .inl h
  · exact .inr ⟨g, cap, cur, h1, by omega, h3⟩
theorem Own.shape {e : TypeId} {w : World} {B : Nat} {v : Value} {xs : List Value} (h : Own e w B v xs) :
    (v = .slice none 0 0 ∧ xs = []) ∨ ∃ g cap, v = .slice (some ⟨g, 0, none⟩) xs.length cap ∧ B ≤ g ∧ g < w.heap.size ∧ xs.length ≤ cap ∧ cap ≤ maxLen ∧ ArrAt w g 0 xs.length (fun j => xs.getD j undef) := by
  have h0 := h
  rcases h.2 with ⟨h1, h2⟩ | ⟨g, cap, cur, h1, h2, h3, h4, h5, h6, h7⟩
  · exact .inl ⟨h1, List.eq_nil_of_length_eq_zero h2⟩
  · subst h1
    refine .inr ⟨g, cap, rfl, h2, (Array.getElem?_eq_some_iff.1 h3).1, h4, h5, fun j hj => ⟨?_, ?_⟩⟩
    · rw [Nat.zero_add, World.ownsRow.cellAt h0 j (by omega)]
      simp [List.getD_eq_getElem?_getD, List.getElem?_eq_getElem hj]
    · rw [World.ownsRow.frozenAt h0]
theorem Own.len {e : TypeId} {w : World} {B : Nat} {v : Value} {xs : List Value} (h : Own e w B v xs) : ∃ ad cap, v = .slice ad xs.length cap := by
  rcases h.shape with ⟨h1, h2⟩ | ⟨g, cap, h1, _⟩
  · exact ⟨none, 0, by rw [h1, h2]; rfl⟩
  · exact ⟨_, _, h1⟩
theorem Own.append {t e : TypeId} {i : TypeInfo} {z : Value} {bytes : Nat} (ht : Tryd.prog.underlying t = some (.slice e)) (hi : Tryd.prog.info? e = some i) (hz : i.zero = some z) (hs : i.size = 1) (hb : i.bytes = bytes) (hc : z.cells.size = 1)
    {w : World} {B : Nat} {v : Value} {xs : List Value} (h : Own e w B v xs) (hB : B ≤ w.heap.size) (x : Value) (hx : x.oneCell' = true) (hl : (xs.length + 1) * bytes ≤ 140737488355328) (hm : xs.length + 1 ≤ maxLen) (ty t' : TypeId) :
    ∃ v' w', (Builtin.append_ #[t, t] ty #[v, .slice (some ⟨w.heap.size, 0, none⟩) 1 1]).run Tryd.prog (w.alloc (.cells #[x] t')) = .ok v' w' ∧ Own e w' B v' (xs ++ [x]) ∧ Below B w w' := by
  obtain ⟨v', w', h1, h2, h3, _⟩ := run_append_own (P := Tryd.prog) (w.alloc (.cells #[x] t')) B t ty e i z 1 bytes ht hi hz hs hb hc (by decide) v xs.length xs (World.ownsRow.alloc h _) ⟨w.heap.size, 0, none⟩ 1 1 [x] rfl
    (by
      intro j u hj
      match j, hj with
      | 0, hj =>
        simp at hj; subst hj
        have e0 : (⟨w.heap.size, 0, none⟩ : Addr).add 0 = ⟨w.heap.size, 0, none⟩ := rfl
        rw [e0, World.cell?_alloc_mark]; rfl)
    (by intro u hu; simp at hu; subst hu; exact hx) hm hl (by simp; omega)
  refine ⟨v', w', h1, ?_, ?_⟩
  · unfold Own; rw [List.length_append]; exact h2
  · exact ((Below.refl B w).alloc hB _).grown h3 (by simp; omega) (fun k hk => (World.ownsRow.lt h k hk).1)
section
variable {P : Program} (w : World)
end
theorem wpList_append_eq {ops : Array Oper} {rest : List Oper} {o : Oper} {a : Act} {Q : Exit → Act → World → Prop} {w w' : World} (hgd : o.guard = none) {s x : Operand} {t t2 : TypeId}
    (ho : o.op = .call { callee := .builtin .append, args := #[s, x], argTypes := #[t, t2] }) {v u v' : Value} (hs : a.eval s = v) (hx : a.eval x = u)
    (hr : (Builtin.append_ #[t, t2] o.type #[v, u]).run Tryd.prog w = .ok v' w') (h : wpList Tryd.prog ops Q rest (a.put o.dst v') w') : wpList Tryd.prog ops Q (o :: rest) a w := by
  refine wpList_plain hgd fun _ hK => ?_
  unfold Oper.wp execOp
  simp only [ho, resolve, invoke, builtin, Sem.run_bind, Sem.run_pure, Result.andThen_ok, List.map_toArray, List.map_cons, List.map_nil, hs, hx, hr]
  exact hK _ _ h
theorem own_byte {w : World} {B : Nat} {v : Value} {xs : List Value} (h : Own 5 w B v xs) (hB : B ≤ w.heap.size) (b : Int) (hl : xs.length + 1 ≤ 140737488355328) (ty t' : TypeId) :
    ∃ v' w', (Builtin.append_ #[69, 69] ty #[v, .slice (some ⟨w.heap.size, 0, none⟩) 1 1]).run Tryd.prog (w.alloc (.cells #[.int .u8 b] t')) = .ok v' w' ∧ Own 5 w' B v' (xs ++ [.int .u8 b]) ∧ Below B w w' := by
  obtain ⟨i0, hi, hz0, hz1, hz2⟩ := info_parts info_u8
  exact h.append Tryd.underlying69 hi hz0 hz1 hz2 rfl hB (.int .u8 b) rfl (by omega) (by unfold maxLen; omega) ty t'
theorem own_string {w : World} {B : Nat} {v : Value} (l : List UInt8) (h : Own 5 w B v (l.map fun b => .int .u8 b.toNat)) :
    (convert 69 9 v).run Tryd.prog w = .ok (.string ⟨l.toArray⟩) w := by
  rcases h.shape with ⟨rfl, h2⟩ | ⟨g, cap, rfl, _, _, _, _, hA⟩
  · have : l = [] := by simpa using h2
    subst this
    rw [run_convert_bytes_string (P := Tryd.prog) w 69 9 5 none 0 0 Tryd.underlying69 Tryd.underlying5 Tryd.underlying9]
    rfl
  · rw [List.length_map] at hA ⊢
    exact string_arr l rfl _ hA (fun j hj => by simp [List.getD_eq_getElem?_getD, List.getElem?_eq_getElem hj]) cap
end Go.Proofs.YtglfdfeideeeaaaDoor

namespace Go.Proofs.YtglfdfeideeeaaaDoor
set_option linter.unusedVariables false
abbrev Gift := ByteArray × ByteArray
inductive Mark where
  | done | cut | deep | name
deriving DecidableEq
inductive Tr where
  | stop (m : Mark)
  | tick (t : Tr)
  | say (g : Gift) (t : Tr)
  | way (a : Nat) (g : List Gift) (t : Tr)
namespace Tr
def seq : Tr → Tr → Tr
  | stop m, u => if m = .done then u else stop m
  | tick t, u => tick (seq t u)
  | say g t, u => say g (seq t u)
  | way a g t, u => way a g (seq t u)
def bind : Tr → (Nat → List Gift → Tr) → Tr
  | stop m, f => stop m
  | tick t, f => tick (bind t f)
  | say g t, f => say g (bind t f)
  | way a g t, f => seq (f a g) (bind t f)
def one (a : Nat) (g : List Gift) : Tr := way a g (stop .done)
def naught : Tr := stop .done
def le : Tr → Tr → Prop
  | stop m, u => m = .deep ∨ u = stop m
  | tick t, u => ∃ v, u = tick v ∧ le t v
  | say g t, u => ∃ v, u = say g v ∧ le t v
  | way a g t, u => ∃ v, u = way a g v ∧ le t v
theorem le_refl : ∀ t : Tr, le t t
  | stop m => Or.inr rfl
  | tick t => ⟨t, rfl, le_refl t⟩
  | say g t => ⟨t, rfl, le_refl t⟩
  | way a g t => ⟨t, rfl, le_refl t⟩
theorem le_trans : ∀ t u v : Tr, le t u → le u v → le t v
  | stop m, u, v, h, k => by
    rcases h with h | rfl
    · exact Or.inl h
    · exact k
  | tick t, u, v, ⟨x, e, h⟩, k => by
    subst e; obtain ⟨y, rfl, k⟩ := k; exact ⟨y, rfl, le_trans t x y h k⟩
  | say g t, u, v, ⟨x, e, h⟩, k => by
    subst e; obtain ⟨y, rfl, k⟩ := k; exact ⟨y, rfl, le_trans t x y h k⟩
  | way a g t, u, v, ⟨x, e, h⟩, k => by
    subst e; obtain ⟨y, rfl, k⟩ := k; exact ⟨y, rfl, le_trans t x y h k⟩
def whole : Tr → Prop
  | stop m => m ≠ .deep
  | tick t => whole t
  | say _ t => whole t
  | way _ _ t => whole t
def ways : Tr → Tr
  | stop m => stop m
  | tick t => ways t
  | say _ t => ways t
  | way a g t => way a g (ways t)
end Tr
end Go.Proofs.YtglfdfeideeeaaaDoor
namespace Go.Proofs.YtglfdfeideeeaaaDoor
open Go
set_option linter.unusedVariables false
inductive Pat where
  | mk (kind : Int) (text : ByteArray) (n : Int) (name : ByteArray) (kids : List Pat)
namespace Pat
def kind : Pat → Int | mk k _ _ _ _ => k
def text : Pat → ByteArray | mk _ t _ _ _ => t
def n : Pat → Int | mk _ _ n _ _ => n
def name : Pat → ByteArray | mk _ _ _ m _ => m
def kids : Pat → List Pat | mk _ _ _ _ l => l
def bytes (p : Pat) : List UInt8 := p.text.data.toList
def num (p : Pat) : Nat := p.n.toNat
def kid (p : Pat) (i : Nat) : Pat := p.kids.getD i (mk 0 ByteArray.empty 0 ByteArray.empty [])
end Pat
abbrev Rule := ByteArray × Pat
def digText (n : Nat) : ByteArray := ⟨(Lib.decDigits n).toArray⟩
def endAt (s : List UInt8) (p : Pat) (at_ : Nat) : Option Nat :=
  if p.kind = 1 then (if p.bytes.isPrefixOf (s.drop at_) then some (at_ + p.bytes.length) else none)
  else if p.kind = 2 then (if at_ + p.num ≤ s.length then some (at_ + p.num) else none)
  else if p.kind = 3 then (match s[at_]? with | some c => if p.bytes.contains c then some (at_ + 1) else none | none => none)
  else if p.kind = 4 then (match s[at_]? with | some c => if p.bytes.contains c then none else some (at_ + 1) | none => none)
  else if p.kind = 5 then (let n := ((s.drop at_).takeWhile p.bytes.contains).length; if 0 < n then some (at_ + n) else none)
  else if p.kind = 6 then (let n := ((s.drop at_).takeWhile (fun c => !p.bytes.contains c)).length; if at_ + n < s.length then some (at_ + n) else none)
  else if p.kind = 8 then (if at_ ≤ p.num ∧ p.num ≤ s.length then some p.num else none)
  else if p.kind = 9 then (if at_ + p.num ≤ s.length then some (s.length - p.num) else none)
  else if p.kind = 10 then (if at_ = p.num then some at_ else none)
  else if p.kind = 11 then (if at_ + p.num = s.length then some at_ else none)
  else if p.kind = 12 then some s.length
  else none
def breaks (t : List UInt8) : List UInt8 → Nat → List Nat
  | [], _ => []
  | c :: l, a => if t.contains c then a :: breaks t l (a + 1) else breaks t l (a + 1)
def pairEnds : List UInt8 → Nat → Nat → List Nat
  | [], _, _ => []
  | c :: l, d, a =>
    if c = 40 then pairEnds l (d + 1) (a + 1)
    else if c = 41 then (match d with | 0 => [] | 1 => (a + 1) :: pairEnds l 0 (a + 1) | d + 2 => pairEnds l (d + 1) (a + 1))
    else if d = 0 then (a + 1) :: pairEnds l 0 (a + 1) else pairEnds l d (a + 1)
def mores (len a : Nat) : List Nat := List.range' a (len - a + 1)
open Tr
def wayL (g : List Gift) : List Nat → Tr
  | [] => naught
  | a :: l => way a g (wayL g l)
def alts (D : Pat → Nat → List Gift → Tr) : List Pat → Nat → List Gift → Tr
  | [], _, _ => naught
  | p :: l, a, g => seq (D p a g) (alts D l a g)
def cats (D : Pat → Nat → List Gift → Tr) : List Pat → Nat → List Gift → Tr
  | [], a, g => one a g
  | p :: l, a, g => bind (D p a g) (cats D l)
def star (D : Nat → List Gift → Tr) : Nat → Nat → List Gift → Tr
  | 0, _, _ => stop .deep
  | c + 1, a, g => bind (D a g) (fun e h => if e = a then naught else seq (one e h) (star D c e h))
def sameText (a b : ByteArray) : Bool := a.data.toList == b.data.toList
def ruleOf (R : List Rule) (name : ByteArray) : Option Pat := (R.find? (fun r => sameText r.1 name)).map (·.2)
def node (R : List Rule) (s : ByteArray) (D : Pat → Nat → List Gift → Tr) (c : Nat) (p : Pat) (a : Nat) (g : List Gift) : Tr :=
  let l := s.data.toList
  if p.kind = 7 then wayL g (breaks p.bytes (l.drop a) a)
  else if p.kind = 13 then wayL g (mores l.length a)
  else if p.kind = 14 then wayL g (pairEnds (l.drop a) 0 a)
  else if p.kind = 15 then naught
  else if p.kind = 16 then way a g (stop .cut)
  else if p.kind = 17 then stop .cut
  else if p.kind = 18 then cats D p.kids a g
  else if p.kind = 19 then alts D (p.kid 0 :: p.kids.drop 1) a g
  else if p.kind = 20 then seq (one a g) (star (D (p.kid 0)) c a g)
  else if p.kind = 21 then bind (D (p.kid 0) a g) (fun e h => one e (h ++ [(p.name, s.extract a e)]))
  else if p.kind = 22 then bind (D (p.kid 0) a g) (fun e h => say (p.name, s.extract a e) (one e h))
  else if p.kind = 23 then say (p.name, digText a) (one a g)
  else if p.kind = 24 then (match ruleOf R p.name with | some q => D q a g | none => stop .name)
  else wayL g (endAt l p a).toList
end Go.Proofs.YtglfdfeideeeaaaDoor
namespace Go.Proofs.YtglfdfeideeeaaaDoor
open Tr
set_option linter.unusedVariables false
structure Todo where
  op : Nat
  node : Pat
  start : Nat
structure Ch where
  k : List Todo
  at_ : Nat
  given : List Gift
structure MS where
  choices : List Ch
  given : List Gift
  ticks : Nat
  said : List Gift
  cut : Bool
namespace MS
def later (m : MS) (k : List Todo) (a : Nat) : MS := { m with choices := ⟨k, a, m.given⟩ :: m.choices }
def shut (m : MS) : MS := { m with cut := true, choices := [] }
end MS
def idx (l t : List UInt8) (b : Bool) : Option Nat := l.findIdx? (fun c => t.contains c == b)
section
variable (R : List Rule) (s : ByteArray)
end
section
variable (R : List Rule) (s : ByteArray)
end
end Go.Proofs.YtglfdfeideeeaaaDoor
namespace Go.Proofs.YtglfdfeideeeaaaDoor
open Tr
set_option linter.unusedVariables false
inductive Obs where
  | found (a : Nat) (g : List Gift) (ticks : Nat) (said : List Gift) (rest : Tr)
  | over (cut : Bool) (ticks : Nat) (said : List Gift)
  | fuel
  | name
  | deep
def first (fuel : Nat) : Nat → List Gift → Tr → Obs
  | k, sd, .stop .done => .over false k sd
  | k, sd, .stop .cut => .over true k sd
  | k, sd, .stop .deep => .deep
  | k, sd, .stop .name => .name
  | k, sd, .tick t => if k = fuel then .fuel else first fuel (k + 1) sd t
  | k, sd, .say g t => first fuel k (sd ++ [g]) t
  | k, sd, .way a g t => .found a g k sd t
section
variable (R : List Rule) (s : ByteArray)
def most (L : Nat) : List Todo → Nat
  | [] => 1
  | t :: k => if t.op = 0 then 1 else (L + 1) * (most L k + 4) + 1
end
end Go.Proofs.YtglfdfeideeeaaaDoor
namespace Go.Proofs.YtglfdfeideeeaaaDoor
open Tr
set_option linter.unusedVariables false
section
variable (R : List Rule) (s : ByteArray)
end
end Go.Proofs.YtglfdfeideeeaaaDoor
