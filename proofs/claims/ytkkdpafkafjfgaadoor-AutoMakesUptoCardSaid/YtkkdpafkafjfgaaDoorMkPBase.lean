/- Small helpers of all texts of this seat: facts kept from the walk, what a call leaves of old memory. No condition. -/
import Derived.Test.YtkkdpafkafjfgaaDoorProg
import Derived.WalkKit
import Derived.WalkLawsBesides
import Derived.WalkSpells
import Derived.Outline
import Derived.BigQuiet
import Derived.Deep.QuietTactic
import Derived.Laws.IdiomStrings
import Derived.Lib.Strings
import Derived.Below
import Derived.Test.YtkkdpafkafjfgaaDoorMkAuU
import Derived.Test.YtkkdpafkafjfgaaDoorMkPAuP
namespace Go.Proofs.YtkkdpafkafjfgaaDoor
open Go.RowKit
set_option linter.unusedVariables false
theorem hidd {p : Prop} (h : p) : Hid p := h
def Grew (w w' : World) : Prop := Below w.heap.size w w'
theorem Grew.refl (w : World) : Grew w w := Below.refl _ _
theorem Grew.trans {a b c : World} (h : Grew a b) (k : Grew b c) : Grew a c := Below.trans h (Below.mono k h.size)
theorem Grew.alloc {a w : World} (h : Grew a w) (o : Obj) : Grew a (w.alloc o) := Below.alloc h h.size o
theorem Grew.drew {a w : World} (h : Grew a w) : Grew a w.drew := Below.drew h
theorem Grew.drewN {a w : World} (h : Grew a w) (n : Nat) : Grew a (w.drewN n) := below_drewN h n
theorem Grew.lt {a w : World} (h : Grew a w) : a.heap.size ≤ w.heap.size := h.size
theorem Grew.below {a w w' : World} {B : Nat} (h : Grew a w) (k : Below B w w') (hB : a.heap.size ≤ B) : Grew a w' := Below.trans h (Below.mono k hB)
theorem Grew.cell {w w' : World} (h : Grew w w') {p : Addr} (hp : p.block < w.heap.size) : w'.cell? p = w.cell? p := Below.cell h hp
theorem Grew.frozen {w w' : World} (h : Grew w w') {p : Addr} (hp : p.block < w.heap.size) : w'.frozen? p = w.frozen? p := Below.frozen h hp
theorem Grew.setCell {a w : World} (h : Grew a w) {p : Addr} (hp : a.heap.size ≤ p.block) (u : Value) : Grew a (w.setCell p u) := Below.setCell h hp u
theorem lt_of_cell {w : World} {p : Addr} {v : Value} (h : w.cell? p = some v) : p.block < w.heap.size := by
  unfold World.cell? at h
  cases hh : w.heap[p.block]? with
  | none => rw [hh] at h; simp at h
  | some o => exact (Array.getElem?_eq_some_iff.1 hh).1
theorem Grew.keeps {w w' : World} (h : Grew w w') {p : Addr} {v : Value} (hp : w.cell? p = some v) : w'.cell? p = some v := by rw [h.cell (lt_of_cell hp)]; exact hp
theorem size_data (s : ByteArray) : s.size = s.data.toList.length := Lib.size_eq s
theorem bd_i64 {n : Int} (h : (Lit.int .i64 n).wf = true) : -9223372036854775808 ≤ n ∧ n ≤ 9223372036854775807 := by
  simpa [Lit.wf, IntKind.min, IntKind.max, IntKind.signed, IntKind.bits] using h
theorem ret_bool {a b : Bool} (h : a = b) : Ending.returned (.bool a) = .returned (.bool b) := by rw [h]
end Go.Proofs.YtkkdpafkafjfgaaDoor

namespace Go.Proofs.YtkkdpafkafjfgaaDoor
set_option linter.unusedVariables false
structure Aut where
  cls : List Int
  next : List (List Int)
  ends : List Bool
structure RightA (A : Aut) : Prop where
  n0 : 0 < A.next.length
  n1 : A.next.length ≤ 8192
  ne : A.ends.length = A.next.length
  row : ∀ r ∈ A.next, r.length = (A.next.getD 0 []).length ∧ ∀ t ∈ r, 0 ≤ t ∧ t < A.next.length
  cls : ∀ c ∈ A.cls, 0 ≤ c ∧ c < (A.next.getD 0 []).length
def stepA (A : Aut) (s c : Nat) : Nat := ((A.next.getD s []).getD (A.cls.getD c 0).toNat 0).toNat
def raA (A : Aut) : RA := ⟨A.next.length, stepA A, fun s => A.ends.getD s false⟩
theorem getD_memL {α : Type} {l : List α} {k : Nat} {d : α} (h : k < l.length) : l.getD k d ∈ l := by
  rw [List.getD_eq_getElem?_getD, List.getElem?_eq_getElem h]; exact List.getElem_mem h
theorem RightA.cl {A : Aut} (h : RightA A) (hc : A.cls.length = 256) {c : Nat} (hb : c < 256) : 0 ≤ A.cls.getD c 0 ∧ A.cls.getD c 0 < (A.next.getD 0 []).length := h.cls _ (getD_memL (by omega))
theorem RightA.to {A : Aut} (h : RightA A) (hc : A.cls.length = 256) {s c : Nat} (hs : s < A.next.length) (hb : c < 256) : (A.cls.getD c 0).toNat < (A.next.getD s []).length ∧ 0 ≤ (A.next.getD s []).getD (A.cls.getD c 0).toNat 0 ∧ (A.next.getD s []).getD (A.cls.getD c 0).toNat 0 < A.next.length := by
  have h1 := h.cl hc hb
  have h2 := h.row _ (getD_memL (d := []) hs)
  have h3 : (A.cls.getD c 0).toNat < (A.next.getD s []).length := by rw [h2.1]; omega
  exact ⟨h3, h2.2 _ (getD_memL h3)⟩
theorem RightA.ok {A : Aut} (h : RightA A) (hc : A.cls.length = 256) : (raA A).Ok :=
  ⟨h.n0, fun s c hs hb => by have := h.to hc (s := s) hs hb; show stepA A s c < A.next.length; unfold stepA; omega⟩
def addTo (nx : Nat → Nat) (t : List UInt8) (l : List (Nat × List UInt8)) (c : Nat) : List (Nat × List UInt8) := if nx c ∈ l.map (·.1) then l else l ++ [(nx c, t ++ [UInt8.ofNat c])]
def addUp (nx : Nat → Nat) (t : List UInt8) (l : List (Nat × List UInt8)) (m : Nat) : List (Nat × List UInt8) := (List.range m).foldl (addTo nx t) l
def bfs (A : RA) : Nat → List (Nat × List UInt8)
  | 0 => [(0, [])]
  | i + 1 => match (bfs A i)[i]? with
    | some (s, t) => addUp (A.nx s) t (bfs A i) 256
    | none => bfs A i
theorem nodup_lt : ∀ (n : Nat) {l : List Nat}, l.Nodup → (∀ x ∈ l, x < n) → l.length ≤ n
  | 0, l, _, h => by cases l with
    | nil => simp
    | cons x l => exact absurd (h x (by simp)) (by omega)
  | n + 1, l, hd, h => by
    have h1 : (l.filter (· ≠ n)).Nodup := hd.filter _
    have h2 := nodup_lt n h1 (fun x hx => by
      obtain ⟨a, b⟩ := List.mem_filter.1 hx
      have := h x a
      simp at b
      omega)
    by_cases hm : n ∈ l
    · have h3 : l.length = (l.filter (· ≠ n)).length + 1 := by
        have e := hd.erase_eq_filter n
        have e2 := List.length_erase_of_mem hm
        rw [e] at e2
        have : 0 < l.length := List.length_pos_of_mem hm
        have e3 : (l.filter (· ≠ n)) = l.filter (· != n) := by congr 1; funext x; by_cases hx : x = n <;> simp [bne, hx]
        rw [e3]; omega
      omega
    · rw [List.filter_eq_self.2 (fun x hx => by simp; exact fun e => hm (e ▸ hx))] at h2
      omega
end Go.Proofs.YtkkdpafkafjfgaaDoor

namespace Go.Proofs.YtkkdpafkafjfgaaDoor
set_option linter.unusedVariables false
def oneL (s : Nat → Bool) : Lang := fun l => ∃ c : UInt8, s c.toNat = true ∧ l = [c]
structure LitOk (l : List (Nat → Bool)) : Prop where
  fits : ∀ o g, Fits g → SmallG o → Fits (litG l o g).2 ∧ SmallG (litG l o g).1
  much : ∀ o g, g.much = true → (litG l o g).2.much = true
  tells : ∀ g0 o g n A, Fits g → SmallG o → GoodG g0 g n o A → if 12 < g0.sets.length + (n + l.length) then (litG l o g).2.much = true else GoodG g0 (litG l o g).2 (n + l.length) (litG l o g).1 (opL true A (opsL true (l.map oneL)))
theorem lit_ok : ∀ l, LitOk l
  | [] => by
    refine ⟨fun o g hf ho => ⟨hf, ho⟩, fun o g h => h, fun g0 o g n A hf ho hg => ?_⟩
    have := hg.len
    have := hf.le
    rw [List.map_nil, unitL, if_neg (by simp; omega)]; exact hg
  | s :: l => by
    have K := lit_ok l
    have hm : ∀ o g, g.much = true → litG (s :: l) o g = (o, g) := fun o g h => by rw [litG, if_pos h]
    have hs : ∀ o g, g.much = false → litG (s :: l) o g = litG l (op2 true o (g.one s).1 (g.one s).2).1 (op2 true o (g.one s).1 (g.one s).2).2 := fun o g h => by rw [litG, h]; rfl
    refine ⟨fun o g hf ho => ?_, fun o g h => ?_, fun g0 o g n A hf ho hg => ?_⟩
    · cases h : g.much
      · rw [hs o g h]
        obtain ⟨a1, a2⟩ := op2_fits (c := true) (one_fits hf s).1 ho (one_fits hf s).2
        exact K.fits _ _ a1 a2
      · rw [hm o g h]; exact ⟨hf, ho⟩
    · rw [hm o g h]; exact h
    · rw [hs o g hg.much]
      obtain ⟨a1, a2⟩ := op2_fits (c := true) (one_fits hf s).1 ho (one_fits hf s).2
      have t := op2_good (c := true) hf hg (one_ok s) (k := (g.one s).1) rfl
      rw [List.length_cons]
      by_cases h12 : 12 < g0.sets.length + (n + 1)
      · rw [if_pos h12] at t
        rw [if_pos (by omega)]; exact K.much _ _ t
      · rw [if_neg h12] at t
        have := K.tells g0 _ _ _ _ a1 a2 t
        rw [assocL, Nat.add_assoc, Nat.add_comm 1] at this
        exact this
theorem empty_good (g : Gl) (hf : Fits g) (hm : g.much = false) : GoodG g g 0 ⟨0, 0, true⟩ (opsL true []) := by
  refine ⟨hm, rfl, Ext.refl g, Nat.le_refl _, Nat.le_refl _, hf.len, fun q r h1 h2 => by omega, fun r h => absurd h (not_bit0 r), fun r h => absurd h (not_bit0 r), fun l => ?_⟩
  cases l with
  | nil => exact ⟨fun _ => rfl, fun _ => rfl⟩
  | cons c l => exact ⟨fun ⟨r, h, _⟩ => absurd h (not_bit0 r), fun h => by cases h⟩
theorem lits_ok (l : List (Nat → Bool)) : BuildOk (fun g => someG (litG l ⟨0, 0, true⟩ g)) (opsL true (l.map oneL)) (some l.length) := by
  refine ⟨fun g => by simp [someG], fun g hf => ⟨((lit_ok l).fits _ g hf ⟨by decide, by decide⟩).1, fun o h => by cases h; exact ((lit_ok l).fits _ g hf ⟨by decide, by decide⟩).2⟩, fun g h => (lit_ok l).much _ g h, fun g o n hf hm h1 h2 => ?_⟩
  cases h1; cases h2
  have := (lit_ok l).tells g _ g 0 _ hf ⟨by decide, by decide⟩ (empty_good g hf hm)
  rw [Nat.zero_add] at this
  have e : opL true (opsL true []) (opsL true (l.map oneL)) = opsL true (l.map oneL) := by
    funext x; refine propext ?_
    show catL2 (fun l => l = []) _ x ↔ _
    exact ⟨fun ⟨a, b, e, h1, h2⟩ => by subst h1; rw [e]; exact h2, fun h => ⟨[], x, rfl, rfl, h⟩⟩
  rw [e] at this; exact this
theorem nothing_ok : BuildOk (fun g => (some part0, g)) (fun _ => False) (some 0) := by
  refine ⟨fun g => by simp, fun g hf => ⟨hf, fun o h => by cases h; exact small0⟩, fun g h => h, fun g o n hf hm h1 h2 => ?_⟩
  cases h1; cases h2
  have := hf.le
  rw [if_neg (by omega)]
  refine ⟨hm, rfl, Ext.refl g, Nat.le_refl _, Nat.le_refl _, hf.len, fun q r h1 h2 => absurd h2 (Nat.not_lt.2 h1), fun r h => absurd h (not_bit0 r), fun r h => absurd h (not_bit0 r), fun l => ?_⟩
  cases l with
  | nil => exact ⟨fun h => absurd h Bool.false_ne_true, False.elim⟩
  | cons c l => exact ⟨fun ⟨r, h, _⟩ => absurd h (not_bit0 r), False.elim⟩
theorem BuildOk.as {b : Builder} {L M : Lang} {k : Option Nat} (h : BuildOk b L k) (e : ∀ l, L l ↔ M l) : BuildOk b M k := by
  rw [← funext fun l => propext (e l)]; exact h
theorem BuildOk.asB {b c : Builder} {L : Lang} {k : Option Nat} (h : BuildOk b L k) (e : c = b) : BuildOk c L k := by rw [e]; exact h
theorem lit_lang : ∀ (t : List UInt8) (l : List UInt8), opsL true ((t.map one1).map oneL) l ↔ l = t
  | [], l => by simp [opsL]
  | c :: t, l => by
    show catL2 (oneL (one1 c)) (opsL true ((t.map one1).map oneL)) l ↔ _
    constructor
    · rintro ⟨a, b, rfl, ⟨d, h1, rfl⟩, h2⟩
      rw [(lit_lang t b).1 h2]
      have : d = c := UInt8.toNat_inj.1 (by simpa [one1] using h1)
      rw [this]; rfl
    · rintro rfl
      exact ⟨[c], t, rfl, ⟨c, by simp [one1], rfl⟩, (lit_lang t t).2 rfl⟩
theorem len_lang : ∀ (n : Nat) (l : List UInt8), opsL true ((List.replicate n allB).map oneL) l ↔ l.length = n
  | 0, l => by simp [opsL]
  | n + 1, l => by
    rw [List.replicate_succ, List.map_cons]
    show catL2 (oneL allB) (opsL true ((List.replicate n allB).map oneL)) l ↔ _
    constructor
    · rintro ⟨a, b, rfl, ⟨d, h1, rfl⟩, h2⟩
      have := (len_lang n b).1 h2
      simp; omega
    · intro h
      cases l with
      | nil => simp at h
      | cons c l => exact ⟨[c], l, rfl, ⟨c, rfl, rfl⟩, (len_lang n l).2 (by simpa using h)⟩
theorem arb_lang (l : List UInt8) : StarL (oneL allB) l := by
  induction l with
  | nil => exact .nil
  | cons c l ih => exact .cons (a := [c]) ⟨c, rfl, rfl⟩ ih
def placesK (k : Int) (t : ByteArray) (n : Int) (rs : List (Option Nat)) : Option Nat :=
  if k = 1 then some t.size else if k = 2 then some n.toNat else if k = 3 ∨ k = 4 ∨ k = 13 then some 1 else if k = 15 then some 0
  else if k = 18 ∨ k = 19 ∨ k = 20 then sumK rs else none
mutual
def placesP : Pat → Option Nat
  | .mk k t n m l => placesK k t n (placesL l)
def placesL : List Pat → List (Option Nat)
  | [] => []
  | p :: l => placesP p :: placesL l
end
theorem placesL_map : ∀ l : List Pat, placesL l = l.map placesP
  | [] => rfl
  | p :: l => by rw [placesL, placesL_map l]; rfl
theorem placesP_eq (p : Pat) : placesP p = placesK p.kind p.text p.n (p.kids.map placesP) := by cases p; rw [placesP, placesL_map]; rfl
theorem none_ok : BuildOk (fun g => (none, g)) (fun _ => False) none := ⟨fun g => by simp, fun g hf => ⟨hf, fun o h => by cases h⟩, fun g h => h, fun g o n hf hm h1 h2 => by cases h2⟩
mutual
def fullP : Pat → Prop
  | .mk k t n m l => ((k = 18 ∨ k = 19 ∨ k = 20) → 0 < l.length) ∧ fullL l
def fullL : List Pat → Prop
  | [] => True
  | p :: l => fullP p ∧ fullL l
end
theorem buildK_ok {k : Int} {t : ByteArray} {n : Int} {bs : List Builder} {Bs : List Lang} {ks : List (Option Nat)} (h : AllOk bs Bs ks) (hl : (k = 18 ∨ k = 19 ∨ k = 20) → 0 < bs.length) : BuildOk (buildK k t n bs) (langK k t n Bs) (placesK k t n ks) := by
  by_cases h1 : k = 1
  · subst h1
    have e : (placesK 1 t n ks) = some (t.data.toList.map one1).length := by simp [placesK]
    rw [e]
    exact (((lits_ok (t.data.toList.map one1)).as (lit_lang t.data.toList)).asB (by funext g; simp [buildK, litsOf])).as (fun l => by unfold langK; rw [if_pos rfl])
  by_cases h2 : k = 2
  · subst h2
    have e : (placesK 2 t n ks) = some (List.replicate n.toNat allB).length := by simp [placesK]
    rw [e]
    exact (((lits_ok (List.replicate n.toNat allB)).as (len_lang n.toNat)).asB (by funext g; simp [buildK, litsOf])).as (fun l => by unfold langK; rw [if_neg (by decide), if_pos rfl])
  by_cases h3 : k = 3
  · subst h3
    have e : (placesK 3 t n ks) = some 1 := by simp [placesK]
    rw [e]
    refine ((one_ok (someB t)).asB (by funext g; simp [buildK])).as (fun l => ?_)
    unfold langK
    rw [if_neg (by decide), if_neg (by decide), if_pos rfl]
    simp only [someB, List.any_eq_true, beq_iff_eq]
    exact ⟨fun ⟨c, ⟨d, hd, e⟩, h⟩ => ⟨c, by rw [UInt8.toNat_inj.1 e]; exact hd, h⟩, fun ⟨c, hc, h⟩ => ⟨c, ⟨c, hc, rfl⟩, h⟩⟩
  by_cases h4 : k = 4
  · subst h4
    have e : (placesK 4 t n ks) = some 1 := by simp [placesK]
    rw [e]
    refine ((one_ok (notB (someB t))).asB (by funext g; simp [buildK])).as (fun l => ?_)
    unfold langK
    rw [if_neg (by decide), if_neg (by decide), if_neg (by decide), if_pos rfl]
    simp only [notB, someB, Bool.not_eq_true', List.any_eq_false, beq_iff_eq]
    exact ⟨fun ⟨c, h, e⟩ => ⟨c, fun hc => h c hc rfl, e⟩, fun ⟨c, hc, e⟩ => ⟨c, fun d hd he => hc (by rw [UInt8.toNat_inj.1 he]; exact hd), e⟩⟩
  by_cases h13 : k = 13
  · subst h13
    have e : (placesK 13 t n ks) = some 1 := by simp [placesK]
    rw [e]
    exact ((star_ok (one_ok allB)).asB (by funext g; simp [buildK])).as (fun l => by simp only [langK]; simp; exact arb_lang l)
  by_cases h15 : k = 15
  · subst h15
    have e : (placesK 15 t n ks) = some 0 := by simp [placesK]
    rw [e]
    exact (nothing_ok.asB (by funext g; simp [buildK])).as (fun l => by simp [langK])
  by_cases h18 : k = 18
  · subst h18
    cases h with
    | nil => exact absurd (hl (Or.inl rfl)) (by simp)
    | @cons b B k1 bs Bs ks hb hr =>
      have e : (placesK 18 t n (k1 :: ks)) = sumK (k1 :: ks) := by simp [placesK]
      rw [e]
      exact ((head_ok true hb hr).asB (by funext g; simp [buildK])).as (fun l => by simp [langK])
  by_cases h19 : k = 19
  · subst h19
    cases h with
    | nil => exact absurd (hl (Or.inr (Or.inl rfl))) (by simp)
    | @cons b B k1 bs Bs ks hb hr =>
      have e : (placesK 19 t n (k1 :: ks)) = sumK (k1 :: ks) := by simp [placesK]
      rw [e]
      exact ((head_ok false hb hr).asB (by funext g; simp [buildK])).as (fun l => by simp [langK])
  by_cases h20 : k = 20
  · subst h20
    cases h with
    | nil => exact absurd (hl (Or.inr (Or.inr rfl))) (by simp)
    | @cons b B k1 bs Bs ks hb hr =>
      have e : (placesK 20 t n (k1 :: ks)) = sumK (k1 :: ks) := by simp [placesK]
      rw [e]
      exact ((star_ok (head_ok false hb hr)).asB (by funext g; simp [buildK])).as (fun l => by simp [langK])
  have e : (placesK k t n ks) = none := by simp [placesK, *]
  rw [e]
  exact (none_ok.asB (by funext g; simp [buildK, *])).as (fun l => by simp [langK, *])
mutual
theorem build_ok : ∀ p : Pat, fullP p → BuildOk (buildP p) (langP p) (placesP p)
  | .mk k t n m l, h => by
    rw [fullP] at h
    rw [buildP, langP, placesP]
    exact buildK_ok (buildL_ok l h.2) (fun hk => by rw [buildL_map, List.length_map]; exact h.1 hk)
theorem buildL_ok : ∀ l : List Pat, fullL l → AllOk (buildL l) (langL l) (placesL l)
  | [], _ => .nil
  | p :: l, h => by
    rw [fullL] at h
    exact .cons (build_ok p h.1) (buildL_ok l h.2)
end
def begin_ : Nat := 2147483648
def mayG (g : Gl) (o : Part) (s : Nat) : Nat := if s = begin_ then o.first else (List.range 12).foldl (fun m q => if s.testBit q then m ||| g.fo.getD q 0 else m) 0
def stG (g : Gl) (o : Part) (s c : Nat) : Nat := (List.range 12).foldl (fun m q => if (mayG g o s).testBit q && g.sets.getD q (fun _ => false) c then m ||| 2 ^ q else m) 0
def enG (o : Part) (s : Nat) : Bool := if s = begin_ then o.null else decide (s &&& o.last ≠ 0)
theorem fold_or {p : Nat → Bool} {f : Nat → Nat} (n : Nat) : ∀ a r, (((List.range n).foldl (fun m q => if p q then m ||| f q else m) a).testBit r = true ↔ a.testBit r = true ∨ ∃ q, q < n ∧ p q = true ∧ (f q).testBit r = true) := by
  induction n with
  | zero => intro a r; simp
  | succ n ih =>
    intro a r
    rw [List.range_succ, List.foldl_append, List.foldl_cons, List.foldl_nil]
    have h : (∃ q, q < n + 1 ∧ p q = true ∧ (f q).testBit r = true) ↔ (∃ q, q < n ∧ p q = true ∧ (f q).testBit r = true) ∨ (p n = true ∧ (f n).testBit r = true) :=
      ⟨fun ⟨q, h1, h2⟩ => if e : q = n then Or.inr (by rw [← e]; exact h2) else Or.inl ⟨q, by omega, h2⟩, fun x => x.elim (fun ⟨q, h1, h2⟩ => ⟨q, by omega, h2⟩) (fun h2 => ⟨n, by omega, h2⟩)⟩
    rw [h]
    by_cases hp : p n = true
    · rw [if_pos hp, Nat.testBit_or, Bool.or_eq_true, ih]
      simp only [hp, true_and, or_assoc]
    · rw [if_neg hp, ih]
      exact ⟨fun x => x.elim Or.inl (fun y => Or.inr (Or.inl y)), fun x => x.elim Or.inl (fun y => y.elim Or.inr (fun z => absurd z.1 hp))⟩
theorem may_bit (g : Gl) (o : Part) {s : Nat} (hs : s ≠ begin_) (r : Nat) : bit (mayG g o s) r ↔ ∃ q, q < 12 ∧ bit s q ∧ fol g q r := by
  unfold bit mayG; rw [if_neg hs, fold_or]
  rw [Nat.zero_testBit]
  exact ⟨fun x => x.elim (fun h => absurd h Bool.false_ne_true) id, Or.inr⟩
theorem st_bit (g : Gl) (o : Part) (s c r : Nat) : bit (stG g o s c) r ↔ r < 12 ∧ bit (mayG g o s) r ∧ g.sets.getD r (fun _ => false) c = true := by
  unfold bit stG; rw [fold_or]
  rw [Nat.zero_testBit]
  constructor
  · rintro (h | ⟨q, h1, h2, h3⟩)
    · exact absurd h Bool.false_ne_true
    · obtain rfl := bit_pow.1 h3
      rw [Bool.and_eq_true] at h2
      exact ⟨h1, h2.1, h2.2⟩
  · rintro ⟨h1, h2, h3⟩
    exact Or.inr ⟨r, h1, by rw [Bool.and_eq_true]; exact ⟨h2, h3⟩, bit_pow.2 rfl⟩
theorem st_lt (g : Gl) (o : Part) (s c : Nat) : stG g o s c < 4096 := by
  refine Nat.lt_pow_two_of_testBit (n := 12) _ fun i hi => ?_
  cases h : (stG g o s c).testBit i
  · rfl
  · exact absurd ((st_bit g o s c i).1 h).1 (by omega)
theorem bit_lt12 {m q : Nat} (hm : m < 4096) (h : bit m q) : q < 12 := by
  apply Classical.byContradiction; intro hn
  have : m < 2 ^ q := Nat.lt_of_lt_of_le hm (Nat.pow_le_pow_right (n := 2) (by decide) (show 12 ≤ q by omega))
  unfold bit at h
  rw [Nat.testBit_lt_two_pow this] at h
  exact Bool.false_ne_true h
theorem and_bits {a b : Nat} : a &&& b ≠ 0 ↔ ∃ q, bit a q ∧ bit b q := by
  constructor
  · intro h
    obtain ⟨q, hq⟩ := Nat.exists_testBit_of_ne_zero h
    rw [Nat.testBit_and, Bool.and_eq_true] at hq
    exact ⟨q, hq⟩
  · rintro ⟨q, h1, h2⟩ h
    have : (a &&& b).testBit q = true := by rw [Nat.testBit_and, Bool.and_eq_true]; exact ⟨h1, h2⟩
    rw [h, Nat.zero_testBit] at this
    exact Bool.false_ne_true this
def goG (g : Gl) (o : Part) (s : Nat) : List UInt8 → Nat
  | [] => s
  | c :: l => goG g o (stG g o s c.toNat) l
theorem go_small {g : Gl} (hf : Fits g) (o : Part) : ∀ (l : List UInt8) (s : Nat), s < 4096 → (enG o (goG g o s l) = true ↔ ∃ q, bit s q ∧ Acc (fol g) (hasB g) (bit o.last) q l)
  | [], s, hs => by
    have hb : s ≠ begin_ := by unfold begin_; omega
    show enG o s = true ↔ _
    unfold enG; rw [if_neg hb, decide_eq_true_eq, and_bits]; exact Iff.rfl
  | c :: l, s, hs => by
    have hb : s ≠ begin_ := by unfold begin_; omega
    rw [goG, go_small hf o l _ (st_lt g o s c.toNat)]
    constructor
    · rintro ⟨r, h1, h2⟩
      obtain ⟨_, h3, h4⟩ := (st_bit g o s c.toNat r).1 h1
      obtain ⟨q, _, h5, h6⟩ := (may_bit g o hb r).1 h3
      exact ⟨q, h5, r, h6, h4, h2⟩
    · rintro ⟨q, h5, r, h6, h4, h2⟩
      have h12 : r < 12 := by
        apply Classical.byContradiction; intro hn
        have hle := hf.le
        unfold hasB at h4
        rw [List.getD_eq_getElem?_getD, List.getElem?_eq_none (by omega)] at h4
        exact Bool.false_ne_true h4
      exact ⟨r, (st_bit g o s c.toNat r).2 ⟨h12, (may_bit g o hb r).2 ⟨q, bit_lt12 hs h5, h5, h6⟩, h4⟩, h2⟩
theorem go_begin {g : Gl} (hf : Fits g) {o : Part} (ho : SmallG o) (l : List UInt8) : enG o (goG g o begin_ l) = true ↔ GStart g o l := by
  cases l with
  | nil => show enG o begin_ = true ↔ _; unfold enG; rw [if_pos rfl]; exact Iff.rfl
  | cons c l =>
    rw [goG, go_small hf o l _ (st_lt g o begin_ c.toNat)]
    have hm : mayG g o begin_ = o.first := by unfold mayG; rw [if_pos rfl]
    constructor
    · rintro ⟨r, h1, h2⟩
      obtain ⟨_, h3, h4⟩ := (st_bit g o begin_ c.toNat r).1 h1
      rw [hm] at h3
      exact ⟨r, h3, h4, h2⟩
    · rintro ⟨r, h3, h4, h2⟩
      exact ⟨r, (st_bit g o begin_ c.toNat r).2 ⟨bit_lt12 ho.first h3, by rw [hm]; exact h3, h4⟩, h2⟩
theorem glu_lang {p : Pat} (h : fullP p) {o : Part} (ho : (buildP p gl0).1 = some o) (hm : (buildP p gl0).2.much = false) (l : List UInt8) : enG o (goG (buildP p gl0).2 o begin_ l) = true ↔ langP p l := by
  have B := build_ok p h
  obtain ⟨n, hn⟩ : ∃ n, placesP p = some n := by
    cases hp : placesP p with
    | none => rw [(B.none_iff gl0).2 hp] at ho; cases ho
    | some n => exact ⟨n, rfl⟩
  have t := B.tells gl0 o n fits0 rfl ho hn
  by_cases h12 : 12 < gl0.sets.length + n
  · rw [if_pos h12, hm] at t; cases t
  · rw [if_neg h12] at t
    rw [go_begin (B.fits gl0 fits0).1 ((B.fits gl0 fits0).2 o ho)]
    exact t.frag.lang l
theorem glu_much {p : Pat} (h : fullP p) {n : Nat} (hn : placesP p = some n) : (buildP p gl0).2.much = decide (12 < n) := by
  have B := build_ok p h
  obtain ⟨o, ho⟩ : ∃ o, (buildP p gl0).1 = some o := by
    cases hp : (buildP p gl0).1 with
    | none => rw [(B.none_iff gl0).1 hp] at hn; cases hn
    | some o => exact ⟨o, rfl⟩
  have t := B.tells gl0 o n fits0 rfl ho hn
  rw [show gl0.sets.length = 0 from rfl, Nat.zero_add] at t
  by_cases h12 : 12 < n
  · rw [if_pos h12] at t; rw [t, decide_eq_true h12]
  · rw [if_neg h12] at t; rw [t.much, decide_eq_false h12]
end Go.Proofs.YtkkdpafkafjfgaaDoor

namespace Go.Proofs.YtkkdpafkafjfgaaDoor
set_option linter.unusedVariables false
section
variable {α : Type} [DecidableEq α]
theorem fsts_congr {f g : Nat → α} : ∀ n, (∀ i, i < n → f i = g i) → fsts f n = fsts g n
  | 0, _ => rfl
  | n + 1, h => by
    have e : (List.range n).map f = (List.range n).map g := List.map_congr_left fun i hi => h i (by have := List.mem_range.1 hi; omega)
    rw [fsts, fsts, fsts_congr n (fun i hi => h i (by omega)), e, h n (by omega)]
theorem numb_congr {f g : Nat → α} {n i : Nat} (hi : i < n) (h : ∀ i, i < n → f i = g i) : numb f n i = numb g n i := by
  have e : (List.range n).map f = (List.range n).map g := List.map_congr_left fun i hi => h i (by have := List.mem_range.1 hi; omega)
  unfold numb; rw [e, h i hi]
theorem numb_fsts (f : Nat → α) (n i : Nat) : numb f n i = ((fsts f n).map f).idxOf (f i) := by unfold numb; rw [uniq_fsts]
theorem fsts_numb (f : Nat → α) {n i : Nat} (hi : i < n) : numb f n i < (fsts f n).length ∧ f ((fsts f n).getD (numb f n i) 0) = f i := by
  have h1 := idx_get (mem_of_lt f hi)
  rw [uniq_fsts] at h1
  have hl : numb f n i < (fsts f n).length := by have := numb_lt f hi; rwa [uniq_fsts, List.length_map] at this
  refine ⟨hl, ?_⟩
  rw [numb_fsts] at hl ⊢
  rw [List.getElem?_map, List.getElem?_eq_getElem hl] at h1
  rw [List.getD_eq_getElem?_getD, List.getElem?_eq_getElem hl]
  exact Option.some.inj h1
end
def colA (C : RA) (c : Nat) : List Nat := (List.range C.n).map fun s => C.nx s c
def autOf (C : RA) : Aut := ⟨(List.range 256).map fun c => (numb (colA C) 256 c : Int), (List.range C.n).map fun s => (fsts (colA C) 256).map fun c => (C.nx s c : Int), (List.range C.n).map C.en⟩
theorem colA_congr {A B : RA} (h : RaEq A B) {c : Nat} (hc : c < 256) : colA A c = colA B c := by
  unfold colA; rw [← h.n]
  exact List.map_congr_left fun s hs => h.nx s c (List.mem_range.1 hs) hc
theorem autOf_congr {A B : RA} (h : RaEq A B) : autOf A = autOf B := by
  have hf : fsts (colA A) 256 = fsts (colA B) 256 := fsts_congr 256 fun c hc => colA_congr h hc
  have e1 : (List.range 256).map (fun c => (numb (colA A) 256 c : Int)) = (List.range 256).map fun c => (numb (colA B) 256 c : Int) := List.map_congr_left fun c hc => by rw [numb_congr (List.mem_range.1 hc) fun c hc => colA_congr h hc]
  have e2 : ((List.range A.n).map fun s => (fsts (colA A) 256).map fun c => (A.nx s c : Int)) = (List.range B.n).map fun s => (fsts (colA B) 256).map fun c => (B.nx s c : Int) := by
    rw [← h.n, ← hf]
    exact List.map_congr_left fun s hs => List.map_congr_left fun c hc => by rw [h.nx s c (List.mem_range.1 hs) (fsts_lt _ _ _ hc)]
  have e3 : (List.range A.n).map A.en = (List.range B.n).map B.en := by
    rw [← h.n]
    exact List.map_congr_left fun s hs => h.en s (List.mem_range.1 hs)
  unfold autOf
  rw [e1, e2, e3]
theorem getD_map_range {α : Type} (f : Nat → α) {n i : Nat} (hi : i < n) (d : α) : ((List.range n).map f).getD i d = f i := by
  rw [List.getD_eq_getElem?_getD, List.getElem?_map, List.getElem?_range hi]; rfl
theorem getD_map_lt {α β : Type} (f : α → β) {l : List α} {i : Nat} (hi : i < l.length) (a : α) (d : β) : (l.map f).getD i d = f (l.getD i a) := by
  rw [List.getD_eq_getElem?_getD, List.getElem?_map, List.getElem?_eq_getElem hi, List.getD_eq_getElem?_getD, List.getElem?_eq_getElem hi]; rfl
theorem colA_nx {C : RA} {c d : Nat} (e : colA C c = colA C d) {s : Nat} (hs : s < C.n) : C.nx s c = C.nx s d := by
  have := congrArg (fun l : List Nat => l.getD s 0) e
  unfold colA at this
  rwa [getD_map_range _ hs, getD_map_range _ hs] at this
theorem autOf_n (C : RA) : (autOf C).next.length = C.n := by simp [autOf]
theorem autOf_ne (C : RA) : (autOf C).ends.length = C.n := by simp [autOf]
theorem autOf_c (C : RA) : (autOf C).cls.length = 256 := by simp [autOf]
theorem autOf_row {C : RA} {s : Nat} (hs : s < C.n) : (autOf C).next.getD s [] = (fsts (colA C) 256).map fun c => (C.nx s c : Int) := by
  unfold autOf; dsimp only; rw [getD_map_range _ hs]
theorem autOf_right {C : RA} (ok : C.Ok) (h : C.n ≤ 8192) : RightA (autOf C) := by
  refine ⟨by rw [autOf_n]; exact ok.pos, by rw [autOf_n]; exact h, by rw [autOf_ne, autOf_n], fun r hr => ?_, fun c hc => ?_⟩
  · rw [autOf_row ok.pos, List.length_map]
    obtain ⟨s, hs, rfl⟩ := List.mem_map.1 hr
    refine ⟨List.length_map _, fun t ht => ?_⟩
    obtain ⟨c, hc, rfl⟩ := List.mem_map.1 ht
    have := ok.nx s c (List.mem_range.1 hs) (fsts_lt _ _ _ hc)
    rw [autOf_n]; omega
  · rw [autOf_row ok.pos, List.length_map]
    obtain ⟨d, hd, rfl⟩ := List.mem_map.1 hc
    have := (fsts_numb (colA C) (List.mem_range.1 hd)).1
    omega
theorem RaEq.eqv {A B : RA} (h : RaEq A B) (ok : A.Ok) : ∀ (l : List UInt8) (s : Nat), s < A.n → A.tak s l = B.tak s l
  | [], s, hs => h.en s hs
  | c :: l, s, hs => by
    have h1 := h.nx s c.toNat hs (u8_lt c)
    have := h.eqv ok l (A.nx s c.toNat) (ok.nx s _ hs (u8_lt c))
    unfold RA.tak at this ⊢
    rw [RA.go, RA.go, this, h1]
theorem RaEq.symm {A B : RA} (h : RaEq A B) : RaEq B A := ⟨h.n.symm, fun s c hs hc => (h.nx s c (by rw [h.n]; exact hs) hc).symm, fun s hs => (h.en s (by rw [h.n]; exact hs)).symm⟩
theorem nodup_of_map {α β : Type} (f : α → β) : ∀ {l : List α}, (l.map f).Nodup → l.Nodup
  | [], _ => List.nodup_nil
  | x :: l, h => by
    rw [List.map_cons, List.nodup_cons] at h
    exact List.nodup_cons.2 ⟨fun k => h.1 (List.mem_map.2 ⟨x, k, rfl⟩), nodup_of_map f h.2⟩
def LeastOf (R : RA) (A : Aut) : Prop := ∃ C, Can C ∧ Eqv C R 0 0 ∧ A = autOf C ∧ C.n ≤ R.n
theorem LeastOf.one {R S : RA} {A B : Aut} (h : LeastOf R A) (k : LeastOf S B) (e : Eqv R S 0 0) : A = B := by
  obtain ⟨C, c1, c2, rfl, _⟩ := h
  obtain ⟨D, d1, d2, rfl, _⟩ := k
  exact autOf_congr (can_one c1 d1 (c2.trans (e.trans d2.symm)))
theorem Made.least {R : RA} {g : Nat → Nat} {ord : List Nat} {C : RA} (ok : R.Ok) (hg : Groups R g) (h : Made R g ord C) : LeastOf R (autOf C) := by
  have hc := h.can ok hg
  refine ⟨C, hc.1, hc.2, rfl, ?_⟩
  rw [h.n]
  have h1 : ord.Nodup := nodup_of_map g h.dis
  exact nodup_lt R.n h1 h.lt
end Go.Proofs.YtkkdpafkafjfgaaDoor
