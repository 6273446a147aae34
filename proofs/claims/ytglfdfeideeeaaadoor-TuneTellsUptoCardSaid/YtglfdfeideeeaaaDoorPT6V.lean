/- Kids in one pass. Plain. -/
import Derived.Test.YtglfdfeideeeaaaDoorTnRight
import Derived.Test.YtglfdfeideeeaaaDoorTnTwo
import Derived.Test.YtglfdfeideeeaaaDoorT6G
import Derived.Test.YtglfdfeideeeaaaDoorPT6Door
import Derived.Test.YtglfdfeideeeaaaDoorT6H
namespace Go.Proofs.YtglfdfeideeeaaaDoor
set_option linter.unusedVariables false
def skipK (k : Int) (p : Pat) : Bool := (k == 18 && emptyP p) || (k == 19 && failB p)
def kids6 (k : Int) (l : List Pat) : List Pat := upToP endsB ((flatP k l).filter fun p => !skipK k p)
theorem upToP_hit {f : Pat → Bool} {x : Pat} {b : List Pat} (hx : f x = true) : ∀ {a : List Pat}, (∀ y ∈ a, f y = false) → upToP f (a ++ x :: b) = a ++ [x]
  | [], _ => by rw [List.nil_append, upToP, if_pos hx]; rfl
  | y :: a, h => by
    rw [List.cons_append, upToP, if_neg (by rw [h y (by simp)]; simp), upToP_hit hx fun z hz => h z (by simp [hz])]; rfl
theorem upToP_none {f : Pat → Bool} : ∀ {a : List Pat}, (∀ y ∈ a, f y = false) → upToP f a = a
  | [], _ => rfl
  | y :: a, h => by rw [upToP, if_neg (by rw [h y (by simp)]; simp), upToP_none fun z hz => h z (by simp [hz])]
theorem upToP_congr {f g : Pat → Bool} : ∀ {a : List Pat}, (∀ y ∈ a, f y = g y) → upToP f a = upToP g a
  | [], _ => rfl
  | y :: a, h => by rw [upToP, upToP, h y (by simp), upToP_congr fun z hz => h z (by simp [hz])]
theorem kids6_cat (l : List Pat) : kids6 18 l = upToP endsB ((flatP 18 l).filter fun p => !emptyP p) := by
  unfold kids6 skipK
  simp
theorem kids6_alt (l : List Pat) : kids6 19 l = upToP abortB ((flatP 19 l).filter fun p => !failB p) := by
  have e : ((flatP 19 l).filter fun p => !skipK 19 p) = (flatP 19 l).filter fun p => !failB p := by unfold skipK; simp
  unfold kids6
  rw [e]
  refine upToP_congr fun y hy => ?_
  have h := (List.mem_filter.1 hy).2
  have h : failB y = false := by simpa using h
  unfold failB at h
  unfold endsB abortB
  rw [h, Bool.false_or]
theorem flatP_append (k : Int) (a b : List Pat) : flatP k (a ++ b) = flatP k a ++ flatP k b := by
  induction a with
  | nil => rfl
  | cons x a ih => rw [List.cons_append, flatP, flatP, ih, List.append_assoc]
end Go.Proofs.YtglfdfeideeeaaaDoor

namespace Go.Proofs.YtglfdfeideeeaaaDoor
set_option linter.unusedVariables false
def kf (k : Int) (l : List Pat) : List Pat := l.filter fun p => !skipK k p
def ownL (k : Int) (p : Pat) : List Pat := if p.kind = k then p.kids else [p]
theorem kf_append (k : Int) (a b : List Pat) : kf k (a ++ b) = kf k a ++ kf k b := List.filter_append ..
theorem kids6_eq (k : Int) (l : List Pat) : kids6 k l = upToP endsB (kf k (flatP k l)) := rfl
theorem flat_split (k : Int) {l : List Pat} {i : Nat} (h : i < l.length) : flatP k l = flatP k (l.take i) ++ (ownL k (l.getD i Pat.zero) ++ flatP k (l.drop (i + 1))) := by
  conv => lhs; rw [← List.take_append_drop i l, flatP_append]
  congr 1
  rw [List.drop_eq_getElem_cons h, flatP]
  unfold ownL
  rw [List.getD_eq_getElem?_getD, List.getElem?_eq_getElem h]
  rfl
theorem kf_skip {k : Int} {A O : List Pat} {j : Nat} (hj : j < O.length) (h : skipK k (O.getD j Pat.zero) = true) : kf k (A ++ O.take (j + 1)) = kf k (A ++ O.take j) := by
  rw [take_getD hj, ← List.append_assoc, kf_append k (A ++ O.take j)]
  have : kf k [O.getD j Pat.zero] = [] := by unfold kf; rw [List.filter_cons, h]; rfl
  rw [this, List.append_nil]
theorem kf_take {k : Int} {A O : List Pat} {j : Nat} (hj : j < O.length) (h : skipK k (O.getD j Pat.zero) = false) : kf k (A ++ O.take (j + 1)) = kf k (A ++ O.take j) ++ [O.getD j Pat.zero] := by
  rw [take_getD hj, ← List.append_assoc, kf_append k (A ++ O.take j)]
  have : kf k [O.getD j Pat.zero] = [O.getD j Pat.zero] := by unfold kf; rw [List.filter_cons, h]; rfl
  rw [this]
theorem kids_hit {k : Int} {l : List Pat} {i j : Nat} (hi : i < l.length) {O : List Pat} (hO : ownL k (l.getD i Pat.zero) = O) (hj : j < O.length) (hs : skipK k (O.getD j Pat.zero) = false) (he : endsB (O.getD j Pat.zero) = true)
    (hn : ∀ y ∈ kf k (flatP k (l.take i) ++ O.take j), endsB y = false) : kids6 k l = kf k (flatP k (l.take i) ++ O.take j) ++ [O.getD j Pat.zero] := by
  rw [kids6_eq, flat_split k hi, hO]
  have e : flatP k (l.take i) ++ (O ++ flatP k (l.drop (i + 1))) = (flatP k (l.take i) ++ O.take j) ++ (O.getD j Pat.zero :: (O.drop (j + 1) ++ flatP k (l.drop (i + 1)))) := by
    have e0 : O = O.take j ++ (O[j] :: O.drop (j + 1)) := by rw [← List.drop_eq_getElem_cons hj, List.take_append_drop]
    rw [List.getD_eq_getElem?_getD, List.getElem?_eq_getElem hj]
    conv => lhs; arg 2; arg 1; rw [e0]
    rw [List.append_assoc, List.append_assoc, List.cons_append]; rfl
  rw [e, kf_append]
  have e2 : kf k (O.getD j Pat.zero :: (O.drop (j + 1) ++ flatP k (l.drop (i + 1)))) = O.getD j Pat.zero :: kf k (O.drop (j + 1) ++ flatP k (l.drop (i + 1))) := by unfold kf; rw [List.filter_cons, hs]; rfl
  rw [e2]
  exact upToP_hit he hn
theorem kids_none {k : Int} {l : List Pat} (hn : ∀ y ∈ kf k (flatP k l), endsB y = false) : kids6 k l = kf k (flatP k l) := upToP_none hn
theorem flat_own {k : Int} {l : List Pat} {i : Nat} (h : i < l.length) : flatP k (l.take (i + 1)) = flatP k (l.take i) ++ ownL k (l.getD i Pat.zero) := flat_take k h
theorem kf_len (k : Int) {l : List Pat} {i j : Nat} (hi : i < l.length) (hn : nodesL l ≤ 4096) : (kf k (flatP k (l.take i) ++ (ownL k (l.getD i Pat.zero)).take j)).length ≤ 4096 := by
  have h1 : (kf k (flatP k (l.take i) ++ (ownL k (l.getD i Pat.zero)).take j)).length ≤ (flatP k (l.take i) ++ (ownL k (l.getD i Pat.zero)).take j).length := List.length_filter_le ..
  have h2 := flat_len k (l.take (i + 1))
  have h3 := nodes_take l (i + 1)
  rw [flat_own hi, List.length_append] at h2
  rw [List.length_append, List.length_take] at h1
  omega
theorem ends_or (p : Pat) : endsB p = (p.kind == 15 || p.kind == 17) := rfl
end Go.Proofs.YtglfdfeideeeaaaDoor

namespace Go.Proofs.YtglfdfeideeeaaaDoor
set_option linter.unusedVariables false
structure FiLike (f : Fi) (c : UInt8) (b : Bool) (r : Rf) : Prop where
  nl : f.2 = r.nl
  bg : f.1 c.toNat = b
def FiL (c : UInt8) : List Fi → List Bool → List Rf → Prop
  | [], [], [] => True
  | f :: fs, b :: bs, r :: rs => FiLike f c b r ∧ FiL c fs bs rs
  | _, _, _ => False
theorem fi_cat {c : UInt8} : ∀ {fs : List Fi} {bs : List Bool} {rs : List Rf}, FiL c fs bs rs → ∀ s : Fi, (fs.foldl catF s).2 = (s.2 && rs.all (·.nl)) ∧ (fs.foldl catF s).1 c.toNat = (s.1 c.toNat || (s.2 && begCat bs rs))
  | [], [], [], _, s => by simp [begCat]
  | f :: fs, b :: bs, r :: rs, ⟨h, k⟩, s => by
    rw [List.foldl_cons]
    obtain ⟨i1, i2⟩ := fi_cat k (catF s f)
    rw [i1, i2, List.all_cons, begCat]
    by_cases hs : s.2 = true
    · have e : catF s f = (fun i => s.1 i || f.1 i, f.2) := if_pos hs
      rw [e, hs, ← h.nl, ← h.bg]
      dsimp only
      refine ⟨by simp, ?_⟩
      cases f.1 c.toNat <;> cases f.2 <;> simp
    · have e : catF s f = s := if_neg hs
      have hs : s.2 = false := by simpa using hs
      rw [e, hs]
      simp
  | [], _ :: _, _, h, _ => h.elim
  | [], [], _ :: _, h, _ => h.elim
  | _ :: _, [], _, h, _ => h.elim
  | _ :: _, _ :: _, [], h, _ => h.elim
theorem fi_alt {c : UInt8} : ∀ {fs : List Fi} {bs : List Bool} {rs : List Rf}, FiL c fs bs rs → ∀ s : Fi, (fs.foldl altF s).2 = (s.2 || rs.any (·.nl)) ∧ (fs.foldl altF s).1 c.toNat = (s.1 c.toNat || bs.any (fun b => b))
  | [], [], [], _, s => by simp
  | f :: fs, b :: bs, r :: rs, ⟨h, k⟩, s => by
    rw [List.foldl_cons]
    obtain ⟨i1, i2⟩ := fi_alt k (altF s f)
    rw [i1, i2, List.any_cons, List.any_cons, ← h.nl, ← h.bg]
    unfold altF
    dsimp only
    exact ⟨by rw [Bool.or_assoc], by rw [Bool.or_assoc]⟩
  | [], _ :: _, _, h, _ => h.elim
  | [], [], _ :: _, h, _ => h.elim
  | _ :: _, [], _, h, _ => h.elim
  | _ :: _, _ :: _, [], h, _ => h.elim
theorem set_apart (t : ByteArray) (c : UInt8) : setOf t.data.toList c.toNat = !apartB t ⟨#[c]⟩ := by
  rw [Bool.eq_iff_iff, setOf_iff, meets_step]
  constructor
  · intro h
    obtain ⟨i, hi, e⟩ := List.getElem_of_mem h
    exact ⟨i, hi, 0, by show 0 < 1; omega, e⟩
  · rintro ⟨i, hi, j, hj, e⟩
    have hj : j < 1 := hj
    obtain rfl : j = 0 := by omega
    have e : t.data.toList[i]'hi = c := e
    rw [← e]; exact List.getElem_mem _
theorem set_head (t : ByteArray) (c : UInt8) : setOf (headB t).data.toList c.toNat = (match t.data.toList with | x :: _ => x == c | [] => false) := by
  have hd : (headB t).data.toList = t.data.toList.take 1 := by
    unfold headB
    rw [ByteArray.data_extract, Array.toList_extract]
    have := size_data t
    simp [List.extract]
  rw [hd, Bool.eq_iff_iff, setOf_iff]
  cases t.data.toList with
  | nil => simp
  | cons x l =>
    show c ∈ [x] ↔ (x == c) = true
    rw [List.mem_singleton, beq_iff_eq]
    exact ⟨fun h => h.symm, fun h => h.symm⟩
mutual
theorem first_ref (c : UInt8) : ∀ (p : Pat), errW p = 0 → FiLike (firstP p) c (begP c p) (refP p)
  | .mk k t n m l, he => by
    have hok := ((errW_iff _).1 he).1
    have hL := first_refs c l ((errW_iff _).1 he).2
    have hnum : k = 2 ∨ k = 8 ∨ k = 9 ∨ k = 10 ∨ k = 11 → 0 ≤ n ∧ n ≤ 65536 := hok.num
    have hmany : k = 18 ∨ k = 19 → 2 ≤ l.length ∧ l.length ≤ 4096 := hok.many
    have honly : k = 20 ∨ k = 21 ∨ k = 22 → l.length = 1 := hok.only
    have hk : 1 ≤ k ∧ k ≤ 24 := hok.kind
    rw [firstP, begP, refP]
    have hone : k = 20 ∨ k = 21 ∨ k = 22 → ∃ f b r, firstL l = [f] ∧ begL c l = [b] ∧ refL l = [r] ∧ FiLike f c b r := fun h => by
      have h1 := honly h
      cases l with
      | nil => simp at h1
      | cons p l =>
        have : l = [] := List.eq_nil_of_length_eq_zero (by simp at h1; simp [h1])
        subst this
        exact ⟨_, _, _, rfl, rfl, rfl, hL.1⟩
    have hall : ∀ x, allS x = true := fun x => rfl
    have hcs : k = 1 ∨ k = 2 ∨ k = 3 ∨ k = 4 ∨ k = 5 ∨ k = 6 ∨ k = 7 ∨ k = 8 ∨ k = 9 ∨ k = 10 ∨ k = 11 ∨ k = 12 ∨ k = 13 ∨ k = 14 ∨ k = 15 ∨ k = 16 ∨ k = 17 ∨ k = 18 ∨ k = 19 ∨ k = 20 ∨ k = 21 ∨ k = 22 ∨ k = 23 ∨ k = 24 := by omega
    rcases hcs with rfl | rfl | rfl | rfl | rfl | rfl | rfl | rfl | rfl | rfl | rfl | rfl | rfl | rfl | rfl | rfl | rfl | rfl | rfl | rfl | rfl | rfl | rfl | rfl
    · exact ⟨rfl, set_head t c⟩
    · have hn := (hnum (Or.inl rfl)).1
      by_cases h0 : n = 0
      · have e : firstK 2 t n (firstL l) = (emptyS, true) := if_pos h0
        rw [e]
        exact ⟨by show true = (n == 0); rw [h0]; rfl, by show false = decide (0 < n); rw [h0]; rfl⟩
      · have e : firstK 2 t n (firstL l) = (allS, false) := if_neg h0
        rw [e]
        exact ⟨by show false = (n == 0); exact (beq_eq_false_iff_ne.2 h0).symm, by show true = decide (0 < n); exact (decide_eq_true (by omega)).symm⟩
    · exact ⟨rfl, set_apart t c⟩
    · exact ⟨rfl, by show (!setOf t.data.toList c.toNat) = apartB t ⟨#[c]⟩; rw [set_apart, Bool.not_not]⟩
    · exact ⟨rfl, set_apart t c⟩
    · exact ⟨rfl, by show (!setOf t.data.toList c.toNat) = apartB t ⟨#[c]⟩; rw [set_apart, Bool.not_not]⟩
    · exact ⟨rfl, rfl⟩
    · exact ⟨rfl, rfl⟩
    · exact ⟨rfl, rfl⟩
    · exact ⟨rfl, rfl⟩
    · exact ⟨rfl, rfl⟩
    · exact ⟨rfl, rfl⟩
    · exact ⟨rfl, rfl⟩
    · refine ⟨rfl, ?_⟩
      show (true && !setOf [41] c.toNat) = (c != 41)
      rw [Bool.true_and, bne, Bool.not_inj_iff, Bool.eq_iff_iff, setOf_iff, List.mem_singleton, beq_iff_eq]
    · exact ⟨rfl, rfl⟩
    · exact ⟨rfl, rfl⟩
    · exact ⟨rfl, rfl⟩
    · obtain ⟨i1, i2⟩ := fi_cat hL (emptyS, true)
      exact ⟨by show ((firstL l).foldl catF (emptyS, true)).2 = (refL l).all (·.nl); rw [i1]; rfl, by show ((firstL l).foldl catF (emptyS, true)).1 c.toNat = begCat (begL c l) (refL l); rw [i2]; rfl⟩
    · obtain ⟨i1, i2⟩ := fi_alt hL (emptyS, false)
      exact ⟨by show ((firstL l).foldl altF (emptyS, false)).2 = (refL l).any (·.nl); rw [i1]; rfl, by show ((firstL l).foldl altF (emptyS, false)).1 c.toNat = (begL c l).any (fun b => b); rw [i2]; rfl⟩
    · obtain ⟨f, b, r, e1, e2, e3, h⟩ := hone (by omega)
      rw [e1, e2, e3]; exact ⟨rfl, h.bg⟩
    · obtain ⟨f, b, r, e1, e2, e3, h⟩ := hone (by omega)
      rw [e1, e2, e3]; exact ⟨h.nl, h.bg⟩
    · obtain ⟨f, b, r, e1, e2, e3, h⟩ := hone (by omega)
      rw [e1, e2, e3]; exact ⟨h.nl, h.bg⟩
    · exact ⟨rfl, rfl⟩
    · exact ⟨rfl, rfl⟩
theorem first_refs (c : UInt8) : ∀ (l : List Pat), (∀ q ∈ l, errW q = 0) → FiL c (firstL l) (begL c l) (refL l)
  | [], _ => trivial
  | p :: l, he => ⟨first_ref c p (he p (by simp)), first_refs c l fun q hq => he q (by simp [hq])⟩
end
end Go.Proofs.YtglfdfeideeeaaaDoor

namespace Go.Proofs.YtglfdfeideeeaaaDoor
open Go.RowKit
set_option linter.unusedVariables false
theorem begF_first {p : Pat} (he : errW p = 0) (b : Nat) (hb : b < 256) : begF p b = (firstP p).1 b := by
  have h := (first_ref (UInt8.ofNat b) p he).bg
  have e : (UInt8.ofNat b).toNat = b := by have := byte_cell6 b hb; omega
  rw [e] at h
  exact h.symm
theorem setV_q6 {f g : Nat → Bool} (h : ∀ b, b < 256 → f b = g b) : setV f = .agg #[.int .u64 (q4 g 0), .int .u64 (q4 g 1), .int .u64 (q4 g 2), .int .u64 (q4 g 3)] := by
  have hw : ∀ k, k < 4 → word f (64 * k) 64 = word g (64 * k) 64 := fun k hk => word_congr fun j hj => h _ (by omega)
  have h0 := hw 0 (by omega)
  have h1 := hw 1 (by omega)
  have h2 := hw 2 (by omega)
  have h3 := hw 3 (by omega)
  unfold setV q4
  rw [← h0, ← h1, ← h2, ← h3]
theorem FirstR_any (p : Pat) (kv : Value) (w : World) (hp : PatV w kv p) (hB : nodesP p ≤ 2000000) :
    Calls Tryd.prog 10 #[.agg (p.cells kv)] w (FirstEnd (firstOf p) w) := by
  by_cases h0 : patErr p = 0
  · refine (FirstR_ok kv p w hp hB h0).mono fun e w' ⟨h1, h2⟩ => ?_
    have he := ((patErr_iff p).1 h0).1
    have hn := (first_ref 0 p he).nl
    unfold FirstEnd firstOf
    rw [if_pos h0]
    exact ⟨by rw [h1, setV_q6 (fun b hb => begF_first he b hb), hn], h2⟩
  · refine (FirstR_bad kv p w hp hB h0).mono fun e w' ⟨h1, h2⟩ => ?_
    unfold FirstEnd firstOf
    rw [if_neg h0]
    exact ⟨by rw [h1]; simp only [q4_empty], h2⟩
end Go.Proofs.YtglfdfeideeeaaaDoor
