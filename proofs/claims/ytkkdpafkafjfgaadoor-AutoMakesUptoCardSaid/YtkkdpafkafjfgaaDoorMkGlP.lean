/- The places of a pattern, which may follow which, and what an automaton of them takes. Plain. -/
import Derived.Test.YtkkdpafkafjfgaaDoorMkScTr
namespace Go.Proofs.YtkkdpafkafjfgaaDoor
set_option linter.unusedVariables false
def Acc (F : Nat → Nat → Prop) (S : Nat → UInt8 → Prop) (E : Nat → Prop) : Nat → List UInt8 → Prop
  | q, [] => E q
  | q, c :: l => ∃ r, F q r ∧ S r c ∧ Acc F S E r l
def Start (F : Nat → Nat → Prop) (S : Nat → UInt8 → Prop) (E B : Nat → Prop) (z : Prop) : List UInt8 → Prop
  | [] => z
  | c :: l => ∃ r, B r ∧ S r c ∧ Acc F S E r l
theorem acc_congr {F G : Nat → Nat → Prop} {S T : Nat → UInt8 → Prop} {E H D : Nat → Prop} (hF : ∀ q r, D q → (F q r ↔ G q r)) (hS : ∀ q c, D q → (S q c ↔ T q c)) (hE : ∀ q, D q → (E q ↔ H q)) (hD : ∀ q r, D q → F q r → D r) :
    ∀ (l : List UInt8) (q : Nat), D q → (Acc F S E q l ↔ Acc G T H q l)
  | [], q, hq => hE q hq
  | c :: l, q, hq => by
    refine ⟨fun ⟨r, h1, h2, h3⟩ => ?_, fun ⟨r, h1, h2, h3⟩ => ?_⟩
    · have hr := hD q r hq h1
      exact ⟨r, (hF q r hq).1 h1, (hS r c hr).1 h2, (acc_congr hF hS hE hD l r hr).1 h3⟩
    · have h1' := (hF q r hq).2 h1
      have hr := hD q r hq h1'
      exact ⟨r, h1', (hS r c hr).2 h2, (acc_congr hF hS hE hD l r hr).2 h3⟩
theorem start_congr {F G : Nat → Nat → Prop} {S T : Nat → UInt8 → Prop} {E H D B C : Nat → Prop} {z : Prop} (hF : ∀ q r, D q → (F q r ↔ G q r)) (hS : ∀ q c, D q → (S q c ↔ T q c)) (hE : ∀ q, D q → (E q ↔ H q)) (hD : ∀ q r, D q → F q r → D r) (hB : ∀ q, B q ↔ C q) (hBD : ∀ q, B q → D q) :
    ∀ (l : List UInt8), Start F S E B z l ↔ Start G T H C z l
  | [] => Iff.rfl
  | c :: l => by
    refine ⟨fun ⟨r, h1, h2, h3⟩ => ?_, fun ⟨r, h1, h2, h3⟩ => ?_⟩
    · have hr := hBD r h1
      exact ⟨r, (hB r).1 h1, (hS r c hr).1 h2, (acc_congr hF hS hE hD l r hr).1 h3⟩
    · have h1' := (hB r).2 h1
      have hr := hBD r h1'
      exact ⟨r, h1', (hS r c hr).2 h2, (acc_congr hF hS hE hD l r hr).2 h3⟩
structure Gl where
  sets : List (Nat → Bool)
  fo : List Nat
  much : Bool
structure Part where
  first : Nat
  last : Nat
  null : Bool
def part0 : Part := ⟨0, 0, false⟩
def gl0 : Gl := ⟨[], [], false⟩
def Gl.one (g : Gl) (s : Nat → Bool) : Part × Gl :=
  if g.sets.length = 12 then (part0, ⟨g.sets, g.fo, true⟩) else (⟨2 ^ g.sets.length, 2 ^ g.sets.length, false⟩, ⟨g.sets ++ [s], g.fo ++ [0], g.much⟩)
def Gl.join (g : Gl) (last first : Nat) : Gl := ⟨g.sets, g.fo.mapIdx fun i f => if last.testBit i then f ||| first else f, g.much⟩
def thenP (a b : Part) : Part := ⟨if a.null then a.first ||| b.first else a.first, if b.null then b.last ||| a.last else b.last, a.null && b.null⟩
def altP2 (a b : Part) : Part := ⟨a.first ||| b.first, a.last ||| b.last, a.null || b.null⟩
def againP (a : Part) : Part := ⟨a.first, a.last, true⟩
def op2 (c : Bool) (o k : Part) (g : Gl) : Part × Gl := if c then (thenP o k, g.join o.last k.first) else (altP2 o k, g)
def litG : List (Nat → Bool) → Part → Gl → Part × Gl
  | [], o, g => (o, g)
  | s :: l, o, g => if g.much then (o, g) else litG l (op2 true o (g.one s).1 (g.one s).2).1 (op2 true o (g.one s).1 (g.one s).2).2
abbrev Builder := Gl → Option Part × Gl
def kidsG (c : Bool) : List Builder → Part → Builder
  | [], o, g => (some o, g)
  | b :: l, o, g => match (b g).1 with
    | none => (none, (b g).2)
    | some k => kidsG c l (op2 c o k (b g).2).1 (op2 c o k (b g).2).2
def headG (c : Bool) : List Builder → Builder
  | [], g => (some part0, g)
  | b :: l, g => match (b g).1 with
    | none => (none, (b g).2)
    | some k => kidsG c l k (b g).2
def allB : Nat → Bool := fun _ => true
def one1 (c : UInt8) : Nat → Bool := fun b => b == c.toNat
def someB (t : ByteArray) : Nat → Bool := fun b => t.data.toList.any fun c => b == c.toNat
def notB (f : Nat → Bool) : Nat → Bool := fun b => !f b
def starG (b : Option Part × Gl) : Option Part × Gl :=
  match b.1 with
  | none => (none, b.2)
  | some k => (some (againP k), b.2.join k.last k.first)
def litsOf (k : Int) (t : ByteArray) (n : Int) : List (Nat → Bool) := if k = 1 then t.data.toList.map one1 else List.replicate n.toNat allB
def someG (x : Part × Gl) : Option Part × Gl := (some x.1, x.2)
def buildK (k : Int) (t : ByteArray) (n : Int) (bs : List Builder) : Builder := fun g =>
  if k = 1 ∨ k = 2 then someG (litG (litsOf k t n) ⟨0, 0, true⟩ g)
  else if k = 3 then someG (g.one (someB t))
  else if k = 4 then someG (g.one (notB (someB t)))
  else if k = 13 then starG (someG (g.one allB))
  else if k = 15 then (some part0, g)
  else if k = 18 then headG true bs g
  else if k = 19 then headG false bs g
  else if k = 20 then starG (headG false bs g)
  else (none, g)
mutual
def buildP : Pat → Builder
  | .mk k t n m l => buildK k t n (buildL l)
def buildL : List Pat → List Builder
  | [] => []
  | p :: l => buildP p :: buildL l
end
theorem buildL_map : ∀ l : List Pat, buildL l = l.map buildP
  | [] => rfl
  | p :: l => by rw [buildL, buildL_map l]; rfl
theorem buildP_eq (p : Pat) : buildP p = buildK p.kind p.text p.n (p.kids.map buildP) := by cases p; rw [buildP, buildL_map]; rfl
abbrev Lang := List UInt8 → Prop
def catL2 (A B : Lang) : Lang := fun l => ∃ a b, l = a ++ b ∧ A a ∧ B b
inductive StarL (A : Lang) : Lang
  | nil : StarL A []
  | cons {a b : List UInt8} : A a → StarL A b → StarL A (a ++ b)
def opL (c : Bool) (A B : Lang) : Lang := fun l => if c then catL2 A B l else A l ∨ B l
def opsL (c : Bool) : List Lang → Lang
  | [] => fun l => if c then l = [] else False
  | a :: r => opL c a (opsL c r)
def langK (k : Int) (t : ByteArray) (n : Int) (rs : List Lang) : Lang := fun l =>
  if k = 1 then l = t.data.toList
  else if k = 2 then l.length = n.toNat
  else if k = 3 then ∃ c ∈ t.data.toList, l = [c]
  else if k = 4 then ∃ c, c ∉ t.data.toList ∧ l = [c]
  else if k = 13 then True
  else if k = 18 then opsL true rs l
  else if k = 19 then opsL false rs l
  else if k = 20 then StarL (opsL false rs) l
  else False
mutual
def langP : Pat → Lang
  | .mk k t n m l => langK k t n (langL l)
def langL : List Pat → List Lang
  | [] => []
  | p :: l => langP p :: langL l
end
def fol (g : Gl) (q r : Nat) : Prop := (g.fo.getD q 0).testBit r = true
def hasB (g : Gl) (q : Nat) (c : UInt8) : Prop := (g.sets.getD q (fun _ => false)) c.toNat = true
def bit (m q : Nat) : Prop := m.testBit q = true
def GStart (g : Gl) (o : Part) : Lang := Start (fol g) (hasB g) (bit o.last) (bit o.first) (o.null = true)
structure Frag (g : Gl) (lo hi : Nat) (o : Part) (L : Lang) : Prop where
  le : lo ≤ hi
  fit : hi ≤ g.sets.length
  len : g.fo.length = g.sets.length
  inF : ∀ q r, lo ≤ q → q < hi → fol g q r → lo ≤ r ∧ r < hi
  first : ∀ r, bit o.first r → lo ≤ r ∧ r < hi
  last : ∀ r, bit o.last r → lo ≤ r ∧ r < hi
  lang : ∀ l, GStart g o l ↔ L l
theorem Frag.congr {g g' : Gl} {lo hi : Nat} {o : Part} {L : Lang} (h : Frag g lo hi o L) (h1 : hi ≤ g'.sets.length) (h2 : g'.fo.length = g'.sets.length) (hf : ∀ q, lo ≤ q → q < hi → g'.fo.getD q 0 = g.fo.getD q 0) (hs : ∀ q, lo ≤ q → q < hi → g'.sets.getD q (fun _ => false) = g.sets.getD q (fun _ => false)) : Frag g' lo hi o L := by
  have hF : ∀ q r, lo ≤ q ∧ q < hi → (fol g' q r ↔ fol g q r) := fun q r hq => by unfold fol; rw [hf q hq.1 hq.2]
  refine ⟨h.le, h1, h2, fun q r hq1 hq2 hr => h.inF q r hq1 hq2 ((hF q r ⟨hq1, hq2⟩).1 hr), h.first, h.last, fun l => ?_⟩
  rw [← h.lang l]
  exact start_congr (D := fun q => lo ≤ q ∧ q < hi) hF (fun q c hq => by unfold hasB; rw [hs q hq.1 hq.2]) (fun q _ => Iff.rfl) (fun q r hq hr => h.inF q r hq.1 hq.2 ((hF q r hq).1 hr)) (fun q => Iff.rfl) (fun q hq => h.first q hq) l
theorem Frag.as {g : Gl} {lo hi : Nat} {o : Part} {L M : Lang} (h : Frag g lo hi o L) (e : ∀ l, L l ↔ M l) : Frag g lo hi o M := ⟨h.le, h.fit, h.len, h.inF, h.first, h.last, fun l => (h.lang l).trans (e l)⟩
theorem bit_or {a b q : Nat} : bit (a ||| b) q ↔ bit a q ∨ bit b q := by unfold bit; rw [Nat.testBit_or, Bool.or_eq_true]
theorem not_bit0 (q : Nat) : ¬ bit 0 q := by unfold bit; rw [Nat.zero_testBit]; exact Bool.false_ne_true
theorem bit_pow {n q : Nat} : bit (2 ^ n) q ↔ q = n := by unfold bit; rw [Nat.testBit_two_pow]; simp [eq_comm]
theorem join_len (g : Gl) (a b : Nat) : (g.join a b).fo.length = g.fo.length := by simp [Gl.join]
theorem join_getD (g : Gl) (a b q : Nat) : (g.join a b).fo.getD q 0 = if q < g.fo.length then (if a.testBit q then g.fo.getD q 0 ||| b else g.fo.getD q 0) else 0 := by
  unfold Gl.join
  simp only [List.getD_eq_getElem?_getD, List.getElem?_mapIdx]
  by_cases h : q < g.fo.length
  · rw [if_pos h, List.getElem?_eq_getElem h]; rfl
  · rw [if_neg h, List.getElem?_eq_none (by omega)]; rfl
theorem fol_join {g : Gl} {a b q r : Nat} (h : q < g.fo.length) : fol (g.join a b) q r ↔ fol g q r ∨ (bit a q ∧ bit b r) := by
  unfold fol; rw [join_getD, if_pos h]
  by_cases ha : a.testBit q
  · rw [if_pos ha, Nat.testBit_or, Bool.or_eq_true]
    exact ⟨fun h => h.elim Or.inl (fun k => Or.inr ⟨ha, k⟩), fun h => h.elim Or.inl (fun k => Or.inr k.2)⟩
  · rw [if_neg ha]
    exact ⟨Or.inl, fun h => h.elim id (fun k => absurd k.1 ha)⟩
theorem Frag.cat {g : Gl} {lo mid hi : Nat} {a b : Part} {A B : Lang} (h : Frag g lo mid a A) (k : Frag g mid hi b B) : Frag (g.join a.last b.first) lo hi (thenP a b) (catL2 A B) := by
  have hlen : g.fo.length = g.sets.length := h.len
  have hle1 := h.le
  have hle2 := k.le
  have hfit := k.fit
  have hJ : ∀ q r, q < hi → (fol (g.join a.last b.first) q r ↔ fol g q r ∨ (bit a.last q ∧ bit b.first r)) := fun q r hq => fol_join (by omega)
  have hB : ∀ q r, mid ≤ q ∧ q < hi → (fol (g.join a.last b.first) q r ↔ fol g q r) := fun q r hq => by
    rw [hJ q r hq.2]
    exact ⟨fun x => x.elim id (fun y => absurd (h.last q y.1).2 (by omega)), Or.inl⟩
  have eL : ∀ q, bit (thenP a b).last q ↔ bit b.last q ∨ (b.null = true ∧ bit a.last q) := fun q => by
    unfold thenP; dsimp only
    cases hb : b.null
    · simp
    · simp [bit_or]
  have eF : ∀ q, bit (thenP a b).first q ↔ bit a.first q ∨ (a.null = true ∧ bit b.first q) := fun q => by
    unfold thenP; dsimp only
    cases ha : a.null
    · simp
    · simp [bit_or]
  have inB : ∀ (l : List UInt8) q, mid ≤ q ∧ q < hi → (Acc (fol (g.join a.last b.first)) (hasB (g.join a.last b.first)) (bit (thenP a b).last) q l ↔ Acc (fol g) (hasB g) (bit b.last) q l) :=
    acc_congr (D := fun q => mid ≤ q ∧ q < hi) hB (fun q c _ => Iff.rfl) (fun q hq => by
      rw [eL]
      exact ⟨fun x => x.elim id (fun y => absurd (h.last q y.2).2 (by omega)), Or.inl⟩) (fun q r hq hr => k.inF q r hq.1 hq.2 ((hB q r hq).1 hr))
  have inA : ∀ (l : List UInt8) q, lo ≤ q → q < mid → (Acc (fol (g.join a.last b.first)) (hasB (g.join a.last b.first)) (bit (thenP a b).last) q l ↔ ∃ x y, l = x ++ y ∧ Acc (fol g) (hasB g) (bit a.last) q x ∧ GStart g b y) := by
    intro l
    induction l with
    | nil =>
      intro q hq1 hq2
      show bit (thenP a b).last q ↔ _
      rw [eL]
      constructor
      · rintro (x | ⟨z, x⟩)
        · exact absurd (k.last q x).1 (by omega)
        · exact ⟨[], [], rfl, x, z⟩
      · rintro ⟨x, y, e, h1, h2⟩
        obtain ⟨rfl, rfl⟩ := List.append_eq_nil_iff.1 e.symm
        exact Or.inr ⟨h2, h1⟩
    | cons c l ih =>
      intro q hq1 hq2
      constructor
      · rintro ⟨r, h1, h2, h3⟩
        rcases (hJ q r (by omega)).1 h1 with hf | ⟨hl, hb⟩
        · obtain ⟨hr1, hr2⟩ := h.inF q r hq1 hq2 hf
          obtain ⟨x, y, rfl, k1, k2⟩ := (ih r hr1 hr2).1 h3
          exact ⟨c :: x, y, rfl, ⟨r, hf, h2, k1⟩, k2⟩
        · exact ⟨[], c :: l, rfl, hl, r, hb, h2, (inB l r (k.first r hb)).1 h3⟩
      · rintro ⟨x, y, e, h1, h2⟩
        cases x with
        | nil =>
          rw [List.nil_append] at e; subst e
          obtain ⟨r, hb, hs, ha⟩ := h2
          exact ⟨r, (hJ q r (by omega)).2 (Or.inr ⟨h1, hb⟩), hs, (inB l r (k.first r hb)).2 ha⟩
        | cons d x =>
          rw [List.cons_append] at e
          obtain ⟨rfl, rfl⟩ := List.cons.inj e
          obtain ⟨r, hf, hs, ha⟩ := h1
          obtain ⟨hr1, hr2⟩ := h.inF q r hq1 hq2 hf
          exact ⟨r, (hJ q r (by omega)).2 (Or.inl hf), hs, (ih r hr1 hr2).2 ⟨x, y, rfl, ha, h2⟩⟩
  refine ⟨by omega, k.fit, by rw [join_len]; exact hlen, fun q r hq1 hq2 hr => ?_, fun r hr => ?_, fun r hr => ?_, fun l => ?_⟩
  · rcases (hJ q r hq2).1 hr with hf | ⟨hl, hb⟩
    · by_cases hm : q < mid
      · have := h.inF q r hq1 hm hf; omega
      · have := k.inF q r (by omega) hq2 hf; omega
    · have := k.first r hb; omega
  · rcases (eF r).1 hr with x | ⟨_, x⟩
    · have := h.first r x; omega
    · have := k.first r x; omega
  · rcases (eL r).1 hr with x | ⟨_, x⟩
    · have := k.last r x; omega
    · have := h.last r x; omega
  · have hAB : catL2 A B l ↔ catL2 (GStart g a) (GStart g b) l :=
      ⟨fun ⟨x, y, e, h1, h2⟩ => ⟨x, y, e, (h.lang x).2 h1, (k.lang y).2 h2⟩, fun ⟨x, y, e, h1, h2⟩ => ⟨x, y, e, (h.lang x).1 h1, (k.lang y).1 h2⟩⟩
    rw [hAB]
    cases l with
    | nil =>
      show ((thenP a b).null = true) ↔ _
      unfold thenP; dsimp only
      rw [Bool.and_eq_true]
      exact ⟨fun ⟨x, y⟩ => ⟨[], [], rfl, x, y⟩, fun ⟨x, y, e, h1, h2⟩ => by obtain ⟨rfl, rfl⟩ := List.append_eq_nil_iff.1 e.symm; exact ⟨h1, h2⟩⟩
    | cons c l =>
      constructor
      · rintro ⟨r, h1, h2, h3⟩
        rcases (eF r).1 h1 with hf | ⟨hn, hb⟩
        · obtain ⟨hr1, hr2⟩ := h.first r hf
          obtain ⟨x, y, rfl, k1, k2⟩ := (inA l r hr1 hr2).1 h3
          exact ⟨c :: x, y, rfl, ⟨r, hf, h2, k1⟩, k2⟩
        · exact ⟨[], c :: l, rfl, hn, r, hb, h2, (inB l r (k.first r hb)).1 h3⟩
      · rintro ⟨x, y, e, h1, h2⟩
        cases x with
        | nil =>
          rw [List.nil_append] at e; subst e
          obtain ⟨r, hb, hs, ha⟩ := h2
          exact ⟨r, (eF r).2 (Or.inr ⟨h1, hb⟩), hs, (inB l r (k.first r hb)).2 ha⟩
        | cons d x =>
          rw [List.cons_append] at e
          obtain ⟨rfl, rfl⟩ := List.cons.inj e
          obtain ⟨r, hf, hs, ha⟩ := h1
          obtain ⟨hr1, hr2⟩ := h.first r hf
          exact ⟨r, (eF r).2 (Or.inl hf), hs, (inA _ r hr1 hr2).2 ⟨x, y, rfl, ha, h2⟩⟩
theorem Frag.alt {g : Gl} {lo mid hi : Nat} {a b : Part} {A B : Lang} (h : Frag g lo mid a A) (k : Frag g mid hi b B) : Frag g lo hi (altP2 a b) (fun l => A l ∨ B l) := by
  have hle1 := h.le
  have hle2 := k.le
  have eL : ∀ q, bit (altP2 a b).last q ↔ bit a.last q ∨ bit b.last q := fun q => bit_or
  have eF : ∀ q, bit (altP2 a b).first q ↔ bit a.first q ∨ bit b.first q := fun q => bit_or
  have inA : ∀ (l : List UInt8) q, lo ≤ q ∧ q < mid → (Acc (fol g) (hasB g) (bit (altP2 a b).last) q l ↔ Acc (fol g) (hasB g) (bit a.last) q l) :=
    acc_congr (D := fun q => lo ≤ q ∧ q < mid) (fun _ _ _ => Iff.rfl) (fun _ _ _ => Iff.rfl) (fun q hq => by
      rw [eL]; exact ⟨fun x => x.elim id (fun y => absurd (k.last q y).1 (by omega)), Or.inl⟩) (fun q r hq hr => h.inF q r hq.1 hq.2 hr)
  have inB : ∀ (l : List UInt8) q, mid ≤ q ∧ q < hi → (Acc (fol g) (hasB g) (bit (altP2 a b).last) q l ↔ Acc (fol g) (hasB g) (bit b.last) q l) :=
    acc_congr (D := fun q => mid ≤ q ∧ q < hi) (fun _ _ _ => Iff.rfl) (fun _ _ _ => Iff.rfl) (fun q hq => by
      rw [eL]; exact ⟨fun x => x.elim (fun y => absurd (h.last q y).2 (by omega)) id, Or.inr⟩) (fun q r hq hr => k.inF q r hq.1 hq.2 hr)
  refine ⟨by omega, k.fit, h.len, fun q r hq1 hq2 hr => ?_, fun r hr => ?_, fun r hr => ?_, fun l => ?_⟩
  · by_cases hm : q < mid
    · have := h.inF q r hq1 hm hr; omega
    · have := k.inF q r (by omega) hq2 hr; omega
  · rcases (eF r).1 hr with x | x
    · have := h.first r x; omega
    · have := k.first r x; omega
  · rcases (eL r).1 hr with x | x
    · have := h.last r x; omega
    · have := k.last r x; omega
  · rw [← h.lang l, ← k.lang l]
    cases l with
    | nil => show ((a.null || b.null) = true) ↔ _; rw [Bool.or_eq_true]; exact Iff.rfl
    | cons c l =>
      constructor
      · rintro ⟨r, h1, h2, h3⟩
        rcases (eF r).1 h1 with hf | hf
        · exact Or.inl ⟨r, hf, h2, (inA l r (h.first r hf)).1 h3⟩
        · exact Or.inr ⟨r, hf, h2, (inB l r (k.first r hf)).1 h3⟩
      · rintro (⟨r, h1, h2, h3⟩ | ⟨r, h1, h2, h3⟩)
        · exact ⟨r, (eF r).2 (Or.inl h1), h2, (inA l r (h.first r h1)).2 h3⟩
        · exact ⟨r, (eF r).2 (Or.inr h1), h2, (inB l r (k.first r h1)).2 h3⟩
theorem Frag.star {g : Gl} {lo hi : Nat} {a : Part} {A : Lang} (h : Frag g lo hi a A) : Frag (g.join a.last a.first) lo hi (againP a) (StarL A) := by
  have hlen : g.fo.length = g.sets.length := h.len
  have hfit := h.fit
  have hJ : ∀ q r, q < hi → (fol (g.join a.last a.first) q r ↔ fol g q r ∨ (bit a.last q ∧ bit a.first r)) := fun q r hq => fol_join (by omega)
  have key : ∀ (l : List UInt8) q, lo ≤ q → q < hi → (Acc (fol (g.join a.last a.first)) (hasB (g.join a.last a.first)) (bit a.last) q l → ∃ x y, l = x ++ y ∧ Acc (fol g) (hasB g) (bit a.last) q x ∧ StarL (GStart g a) y) := by
    intro l
    induction l with
    | nil => intro q hq1 hq2 he; exact ⟨[], [], rfl, he, .nil⟩
    | cons c l ih =>
      intro q hq1 hq2
      rintro ⟨r, h1, h2, h3⟩
      rcases (hJ q r hq2).1 h1 with hf | ⟨hl, hb⟩
      · obtain ⟨hr1, hr2⟩ := h.inF q r hq1 hq2 hf
        obtain ⟨x, y, rfl, k1, k2⟩ := ih r hr1 hr2 h3
        exact ⟨c :: x, y, rfl, ⟨r, hf, h2, k1⟩, k2⟩
      · obtain ⟨hr1, hr2⟩ := h.first r hb
        obtain ⟨x, y, rfl, k1, k2⟩ := ih r hr1 hr2 h3
        exact ⟨[], c :: (x ++ y), rfl, hl, by rw [← List.cons_append]; exact .cons ⟨r, hb, h2, k1⟩ k2⟩
  -- a word of one, and then more of them
  have mono : ∀ (l : List UInt8) q, lo ≤ q → q < hi → Acc (fol g) (hasB g) (bit a.last) q l → Acc (fol (g.join a.last a.first)) (hasB (g.join a.last a.first)) (bit a.last) q l := by
    intro l
    induction l with
    | nil => intro q _ _ he; exact he
    | cons c l ih =>
      intro q hq1 hq2
      rintro ⟨r, h1, h2, h3⟩
      obtain ⟨hr1, hr2⟩ := h.inF q r hq1 hq2 h1
      exact ⟨r, (hJ q r hq2).2 (Or.inl h1), h2, ih r hr1 hr2 h3⟩
  have back : ∀ (x : List UInt8) q y, lo ≤ q → q < hi → Acc (fol g) (hasB g) (bit a.last) q x → GStart (g.join a.last a.first) (againP a) y → Acc (fol (g.join a.last a.first)) (hasB (g.join a.last a.first)) (bit a.last) q (x ++ y) := by
    intro x
    induction x with
    | nil =>
      intro q y hq1 hq2 he hy
      cases y with
      | nil => exact he
      | cons c y =>
        obtain ⟨r, hb, hs, ha⟩ := hy
        exact ⟨r, (hJ q r hq2).2 (Or.inr ⟨he, hb⟩), hs, ha⟩
    | cons c x ih =>
      intro q y hq1 hq2
      rintro ⟨r, h1, h2, h3⟩ hy
      obtain ⟨hr1, hr2⟩ := h.inF q r hq1 hq2 h1
      exact ⟨r, (hJ q r hq2).2 (Or.inl h1), h2, ih r y hr1 hr2 h3 hy⟩
  have stars : ∀ l, GStart (g.join a.last a.first) (againP a) l ↔ StarL (GStart g a) l := fun l => by
    constructor
    · cases l with
      | nil => exact fun _ => .nil
      | cons c l =>
        rintro ⟨r, h1, h2, h3⟩
        obtain ⟨hr1, hr2⟩ := h.first r h1
        obtain ⟨x, y, rfl, k1, k2⟩ := key l r hr1 hr2 h3
        rw [← List.cons_append]
        exact .cons ⟨r, h1, h2, k1⟩ k2
    · intro hs
      induction hs with
      | nil => exact rfl
      | @cons x y hx _ ih =>
        cases x with
        | nil => exact ih
        | cons c x =>
          obtain ⟨r, h1, h2, h3⟩ := hx
          obtain ⟨hr1, hr2⟩ := h.first r h1
          exact ⟨r, h1, h2, back x r y hr1 hr2 h3 ih⟩
  refine ⟨h.le, h.fit, by rw [join_len]; exact hlen, fun q r hq1 hq2 hr => ?_, h.first, h.last, fun l => ?_⟩
  · rcases (hJ q r hq2).1 hr with hf | ⟨_, hb⟩
    · exact h.inF q r hq1 hq2 hf
    · exact h.first r hb
  · rw [stars l]
    have e : ∀ {X Y : Lang}, (∀ l, X l → Y l) → ∀ l, StarL X l → StarL Y l := fun {X Y} hxy l hl => by
      induction hl with
      | nil => exact .nil
      | cons hx _ ih => exact .cons (hxy _ hx) ih
    exact ⟨e (fun l => (h.lang l).1) l, e (fun l => (h.lang l).2) l⟩
end Go.Proofs.YtkkdpafkafjfgaaDoor
