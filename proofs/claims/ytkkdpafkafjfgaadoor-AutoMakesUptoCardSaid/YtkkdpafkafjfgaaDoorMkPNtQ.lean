/- The sets of places that one may be at: what the table of them takes. Plain. -/
import Derived.Test.YtkkdpafkafjfgaaDoorMkNtP
import Derived.Test.YtkkdpafkafjfgaaDoorMkPAuK
import Derived.Test.YtkkdpafkafjfgaaDoorMkSlD
namespace Go.Proofs.YtkkdpafkafjfgaaDoor
set_option linter.unusedVariables false
inductive Eps (A : List NArr) (p : Nat) : Nat → Prop
  | refl : Eps A p p
  | step {a : NArr} : Eps A p a.fr → a ∈ A → a.bs = none → Eps A p a.to
theorem Eps.cons {A : List NArr} {a : NArr} {q : Nat} (h : Eps A a.to q) (ha : a ∈ A) (hb : a.bs = none) : Eps A a.fr q := by
  induction h with
  | refl => exact .step .refl ha hb
  | step _ h1 h2 ih => exact .step ih h1 h2
theorem Eps.pth {A : List NArr} {t p q : Nat} {l : List UInt8} (h : Eps A p q) (k : Pth A t q l) : Pth A t p l := by
  induction h with
  | refl => exact k
  | step _ h1 h2 ih => exact ih (.eps h1 h2 k)
theorem pth_nil {A : List NArr} {t q : Nat} {l : List UInt8} (h : Pth A t q l) (hl : l = []) : Eps A q t := by
  induction h with
  | nil => exact .refl
  | eps h1 h2 _ ih => exact (ih hl).cons h1 h2
  | byte => cases hl
theorem pth_cons {A : List NArr} {t q : Nat} {l : List UInt8} {c : UInt8} {k : List UInt8} (h : Pth A t q l) (hl : l = c :: k) : ∃ a s, a ∈ A ∧ a.bs = some s ∧ s c.toNat = true ∧ Eps A q a.fr ∧ Pth A t a.to k := by
  induction h with
  | nil => cases hl
  | eps h1 h2 _ ih =>
    obtain ⟨a, s, k1, k2, k3, k4, k5⟩ := ih hl
    exact ⟨a, s, k1, k2, k3, k4.cons h1 h2, k5⟩
  | byte h1 h2 h3 h4 _ => cases hl; exact ⟨_, _, h1, h2, h3, .refl, h4⟩
def inB (S : List Bool) (q : Nat) : Bool := S.getD q false
def onB (m : Nat) (f : Nat → Bool) : List Bool := (List.range m).map f
theorem onB_len (m : Nat) (f : Nat → Bool) : (onB m f).length = m := by unfold onB; simp
theorem onB_in {m : Nat} {f : Nat → Bool} {q : Nat} (h : q < m) : inB (onB m f) q = f q := by
  unfold inB onB
  rw [List.getD_eq_getElem?_getD, List.getElem?_map, List.getElem?_range h]; rfl
theorem inB_lt {S : List Bool} {q : Nat} (h : inB S q = true) : q < S.length := by
  unfold inB at h
  rw [List.getD_eq_getElem?_getD] at h
  rcases Nat.lt_or_ge q S.length with h' | h'
  · exact h'
  · rw [List.getElem?_eq_none h'] at h; cases h
theorem onB_eq {m : Nat} {S : List Bool} {f : Nat → Bool} (hl : S.length = m) (h : ∀ q, q < m → inB S q = f q) : S = onB m f := by
  refine List.ext_getElem? fun q => ?_
  rcases Nat.lt_or_ge q m with hq | hq
  · have := h q hq
    unfold inB onB at *
    rw [List.getD_eq_getElem?_getD, List.getElem?_eq_getElem (by omega)] at this
    rw [List.getElem?_eq_getElem (by omega), List.getElem?_map, List.getElem?_range hq]
    exact congrArg some this
  · rw [List.getElem?_eq_none (by omega), List.getElem?_eq_none (by rw [onB_len]; exact hq)]
def NArr.has (a : NArr) (c : Nat) : Bool := match a.bs with | some s => s c | none => false
open Classical in
noncomputable def closeB (N : NetP) (S : List Bool) : List Bool := onB N.places fun q => decide (∃ p, inB S p = true ∧ Eps N.arrows p q)
def targB (m : Nat) (A : List NArr) : List Bool := onB m fun q => A.any fun a => a.to == q
def stepB (N : NetP) (S : List Bool) (c : Nat) : List Bool := targB N.places (N.arrows.filter fun a => a.has c && inB S a.fr)
noncomputable def stN (N : NetP) (S : List Bool) (c : Nat) : List Bool := closeB N (stepB N S c)
noncomputable def firstN (N : NetP) : List Bool := closeB N (onB N.places fun q => q == 0)
def NetP.Ok (N : NetP) : Prop := ∀ a ∈ N.arrows, a.fr < N.places ∧ a.to < N.places
open Classical in
theorem closeB_in {N : NetP} {S : List Bool} {q : Nat} (hq : q < N.places) : inB (closeB N S) q = true ↔ ∃ p, inB S p = true ∧ Eps N.arrows p q := by
  unfold closeB
  rw [onB_in hq, decide_eq_true_iff]
theorem closeB_len (N : NetP) (S : List Bool) : (closeB N S).length = N.places := onB_len _ _
theorem eps_lt {N : NetP} (ok : N.Ok) {p q : Nat} (h : Eps N.arrows p q) (hp : p < N.places) : q < N.places := by
  induction h with
  | refl => exact hp
  | step _ h1 _ _ => exact (ok _ h1).2
theorem stepB_in {N : NetP} (ok : N.Ok) {S : List Bool} {c q : Nat} : inB (stepB N S c) q = true ↔ ∃ a ∈ N.arrows, a.has c = true ∧ inB S a.fr = true ∧ a.to = q := by
  constructor
  · intro h
    have hq := inB_lt h
    unfold stepB targB at h hq
    rw [onB_len] at hq
    rw [onB_in hq, List.any_eq_true] at h
    obtain ⟨a, ha, h1⟩ := h
    rw [List.mem_filter, Bool.and_eq_true] at ha
    exact ⟨a, ha.1, ha.2.1, ha.2.2, by simpa using h1⟩
  · rintro ⟨a, ha, h1, h2, rfl⟩
    unfold stepB targB
    rw [onB_in (ok a ha).2, List.any_eq_true]
    exact ⟨a, by rw [List.mem_filter, h1, h2]; exact ⟨ha, rfl⟩, by simp⟩
def Shut (N : NetP) (S : List Bool) : Prop := S.length = N.places ∧ ∀ p q, inB S p = true → Eps N.arrows p q → inB S q = true
theorem Eps.trans {A : List NArr} {p q r : Nat} (h : Eps A p q) (k : Eps A q r) : Eps A p r := by
  induction k with
  | refl => exact h
  | step _ h1 h2 ih => exact .step ih h1 h2
theorem closeB_shut {N : NetP} (ok : N.Ok) {S : List Bool} (hl : S.length ≤ N.places) : Shut N (closeB N S) := by
  refine ⟨closeB_len _ _, fun p q hp he => ?_⟩
  have hpl : p < N.places := by have := inB_lt hp; rwa [closeB_len] at this
  obtain ⟨r, h1, h2⟩ := (closeB_in hpl).1 hp
  have hq := eps_lt ok he hpl
  exact (closeB_in hq).2 ⟨r, h1, h2.trans he⟩
theorem stepB_len (N : NetP) (S : List Bool) (c : Nat) : (stepB N S c).length = N.places := onB_len _ _
theorem goN_lang {N : NetP} (ok : N.Ok) {t : Nat} (ht : t < N.places) : ∀ (l : List UInt8) (S : List Bool), Shut N S → (inB (goS (stN N) S l) t = true ↔ ∃ q, inB S q = true ∧ Pth N.arrows t q l)
  | [], S, hS => by
    rw [goS]
    exact ⟨fun h => ⟨t, h, .nil⟩, fun ⟨q, h1, h2⟩ => hS.2 q t h1 (pth_nil h2 rfl)⟩
  | c :: l, S, hS => by
    rw [goS, goN_lang ok ht l (stN N S c.toNat) (closeB_shut ok (Nat.le_of_eq (stepB_len N S c.toNat)))]
    constructor
    · rintro ⟨q, h1, h2⟩
      have hq : q < N.places := by have := inB_lt h1; unfold stN at this; rwa [closeB_len] at this
      obtain ⟨p, h3, h4⟩ := (closeB_in hq).1 h1
      obtain ⟨a, ha, k1, k2, rfl⟩ := (stepB_in ok).1 h3
      unfold NArr.has at k1
      cases e : a.bs with
      | none => rw [e] at k1; cases k1
      | some s => rw [e] at k1; exact ⟨a.fr, k2, .byte ha e k1 (h4.pth h2)⟩
    · rintro ⟨q, h1, h2⟩
      obtain ⟨a, s, ha, k1, k2, k3, k4⟩ := pth_cons h2 rfl
      refine ⟨a.to, ?_, k4⟩
      unfold stN
      refine (closeB_in (ok a ha).2).2 ⟨a.to, (stepB_in ok).2 ⟨a, ha, ?_, hS.2 q a.fr h1 k3, rfl⟩, .refl⟩
      unfold NArr.has; rw [k1]; exact k2
theorem net_lang {N : NetP} (ok : N.Ok) (h1 : 1 < N.places) (l : List UInt8) : inB (goS (stN N) (firstN N) l) 1 = true ↔ Pth N.arrows 1 0 l := by
  rw [goN_lang ok h1 l (firstN N) (closeB_shut ok (Nat.le_of_eq (onB_len _ _)))]
  constructor
  · rintro ⟨q, k1, k2⟩
    have hq : q < N.places := by have := inB_lt k1; unfold firstN at this; rwa [closeB_len] at this
    obtain ⟨p, k3, k4⟩ := (closeB_in hq).1 k1
    have hp := inB_lt k3
    rw [onB_len] at hp
    rw [onB_in hp] at k3
    have : p = 0 := by simpa using k3
    subst this
    exact k4.pth k2
  · intro h
    exact ⟨0, (closeB_in (by omega)).2 ⟨0, by rw [onB_in (by omega)]; rfl, .refl⟩, h⟩
def subs {α : Type} : List α → List (List α)
  | [] => [[]]
  | a :: l => subs l ++ (subs l).map (a :: ·)
theorem subs_len {α : Type} : ∀ l : List α, (subs l).length = 2 ^ l.length
  | [] => rfl
  | a :: l => by rw [subs, List.length_append, List.length_map, subs_len l, List.length_cons, Nat.pow_succ]; omega
theorem filter_subs {α : Type} (p : α → Bool) : ∀ l : List α, l.filter p ∈ subs l
  | [] => by simp [subs]
  | a :: l => by
    rw [subs, List.mem_append, List.filter_cons]
    split
    · exact Or.inr (List.mem_map.2 ⟨_, filter_subs p l, rfl⟩)
    · exact Or.inl (filter_subs p l)
noncomputable def allN (N : NetP) : List (List Bool) := firstN N :: (subs (N.arrows.filter fun a => a.bs.isSome)).map fun A => closeB N (targB N.places A)
theorem allN_len (N : NetP) : (allN N).length = 2 ^ nbytes N.arrows + 1 := by
  unfold allN nbytes; rw [List.length_cons, List.length_map, subs_len]
theorem first_allN (N : NetP) : firstN N ∈ allN N := List.mem_cons_self ..
theorem step_allN (N : NetP) (S : List Bool) (c : Nat) : stN N S c ∈ allN N := by
  refine List.mem_cons_of_mem _ (List.mem_map.2 ⟨(N.arrows.filter fun a => a.bs.isSome).filter fun a => a.has c && inB S a.fr, filter_subs _ _, ?_⟩)
  unfold stN stepB
  rw [List.filter_filter]
  congr 2
  refine List.filter_congr fun a _ => ?_
  unfold NArr.has
  cases a.bs <;> simp
theorem nodup_len {α : Type} [DecidableEq α] : ∀ (l m : List α), l.Nodup → (∀ x ∈ l, x ∈ m) → l.length ≤ m.length
  | [], m, _, _ => Nat.zero_le _
  | a :: l, m, hd, hm => by
    rw [List.nodup_cons] at hd
    have h := nodup_len l (m.erase a) hd.2 fun x hx => (List.mem_erase_of_ne fun e => hd.1 (by rw [← e]; exact hx)).2 (hm x (List.mem_cons_of_mem _ hx))
    have ha := hm a (List.mem_cons_self ..)
    rw [List.length_erase_of_mem ha] at h
    have := List.length_pos_of_mem ha
    rw [List.length_cons]; omega
def netP (p : Pat) : NetP := drawP p ⟨2, []⟩ 0 1
theorem net_ok {p : Pat} (h : makeErr p = 0) (hn : nodesP p ≤ 300) : (netP p).Ok ∧ 1 < (netP p).places ∧ (netP p).places ≤ 1000 ∧ (netP p).arrows.length ≤ 1000 ∧ (allN (netP p)).length ≤ 4097 ∧ ∀ l, inB (goS (stN (netP p)) (firstN (netP p)) l) 1 = autL p l := by
  obtain ⟨h1, n, h2, h3⟩ := makeErr_zero h
  obtain ⟨A, hA⟩ := draw_ok p (patErr_kid h1) h2 ⟨2, []⟩ 0 1 (by show 0 < 2; omega) (by show 1 < 2; omega) (by omega)
  have e : (netP p).arrows = A := hA.arr
  have hle : 2 ≤ (netP p).places := hA.le
  have hfew : (netP p).places + 1 ≤ 2 + (n + 3 * nodesP p) := hA.few
  have hok : (netP p).Ok := fun a ha => by
    rw [e] at ha
    have k1 := hA.fr a ha
    have k2 := hA.to a ha
    have k3 : (drawP p ⟨2, []⟩ 0 1).places = (netP p).places := rfl
    rw [k3] at k1 k2
    omega
  refine ⟨hok, by omega, by omega, by rw [e]; have := hA.num; omega, ?_, fun l => ?_⟩
  · rw [allN_len, e, hA.nby]
    have : 2 ^ n ≤ 2 ^ 12 := Nat.pow_le_pow_right (by decide) h3
    omega
  · have k1 := net_lang hok (by omega) l
    rw [e, hA.lang l, ← autL_lang h l] at k1
    cases h5 : autL p l with
    | true => exact k1.2 h5
    | false =>
      cases h6 : inB (goS (stN (netP p)) (firstN (netP p)) l) 1 with
      | true => rw [h5] at k1; exact absurd (k1.1 h6) (by simp)
      | false => rfl
end Go.Proofs.YtkkdpafkafjfgaaDoor

namespace Go.Proofs.YtkkdpafkafjfgaaDoor
open Go.RowKit RR
set_option linter.unusedVariables false
set_option linter.unusedSimpArgs false
structure LcJ (wb : World) (Post : Value → World → Prop) (E : List (Nat × Nat)) (ic is dst : Nat) (p : Addr) (listed : Array Bool) (a : Act) (w : World) : Prop where
  ch : ∀ x ∈ E, listed.getD x.1 false = true → listed.getD x.2 false = true
  os : listed.getD is false = true → listed.getD ic false = true
  p0 : listed.getD ic false = false → w = wb
  p1 : listed.getD ic false = true → listed.getD is false = false → Post (a.tmps.getD dst undef) w
  p2 : listed.getD is false = true → ∃ v w1, Post v w1 ∧ w = w1.setCell p v
def AnyRe (_ _ : World) : Prop := True
theorem anyRe_mono {shs : List Sh} (h : ∀ s ∈ shs, (∃ v, s = .val v) ∨ s = .fact fun _ _ => True) : ∀ i v w w', AnyRe w w' → shF shs i v w → shF shs i v w' := by
  intro i v w w' _ hs
  unfold shF at hs ⊢
  rw [List.getD_eq_getElem?_getD] at hs ⊢
  cases hg : shs[i]? with
  | none => trivial
  | some s =>
    rw [hg] at hs
    rcases h s (List.mem_of_getElem? hg) with ⟨u, rfl⟩ | rfl
    · exact hs
    · trivial
section
variable {P : Program} {wb w0 : World} {Post : Value → World → Prop} {E : List (Nat × Nat)} {ic is dst : Nat} {p : Addr} {ops : Array Oper} {Q : Exit → Act → World → Prop} {shs : List Sh} {a0 : Act} {A : Array Edge} {i : Nat} {d : Option Tmp} {op : Op} {ty : TypeId} {pos : String} {G : Option (Nat × Bool)}
theorem lc_start {m : Nat} (a : Act) (w : World) : LcJ w Post E ic is dst p (Array.replicate m false) a w := by
  have hz : ∀ j, (Array.replicate m false).getD j false = false := fun j => by
    simp only [Array.getD_eq_getD_getElem?, Array.getElem?_replicate]
    split <;> rfl
  exact ⟨fun x _ k => (by rw [hz] at k; cases k), fun k => (by rw [hz] at k; cases k), fun _ => rfl, fun k => (by rw [hz] at k; cases k), fun k => (by rw [hz] at k; cases k)⟩
theorem ch_step {listed : Array Bool} (h : ∀ x ∈ E, listed.getD x.1 false = true → listed.getD x.2 false = true) (hE : ∀ x ∈ E, x.1 = i → onDep A x.2 = true) (hdep : ∀ e ∈ A, Region.binds .any e = true → listed.getD e.on false = true) : ∀ x ∈ E, (listed.setIfInBounds i true).getD x.1 false = true → (listed.setIfInBounds i true).getD x.2 false = true := fun x hx k => by
  by_cases e : x.1 = i
  · exact lset_true (onDep_listed (hE x hx e) hdep)
  · rw [lset_ne (Ne.symm e)] at k
    exact lset_true (h x hx k)
theorem LcJ.stay {listed : Array Bool} {a : Act} {w : World} (h : LcJ wb Post E ic is dst p listed a w) (hE : ∀ x ∈ E, x.1 = i → onDep A x.2 = true) (hdep : ∀ e ∈ A, Region.binds .any e = true → listed.getD e.on false = true) (hic : i ≠ ic) (his : i ≠ is) (hd : d ≠ some dst) (v : Value) : LcJ wb Post E ic is dst p (listed.setIfInBounds i true) (a.put d v) w := by
  have ea : (listed.setIfInBounds i true).getD ic false = listed.getD ic false := lset_ne hic
  have es : (listed.setIfInBounds i true).getD is false = listed.getD is false := lset_ne his
  have et : (a.put d v).tmps.getD dst undef = a.tmps.getD dst undef := by
    cases d with
    | none => rfl
    | some d0 => exact getD_put (fun e => hd (by rw [e]))
  exact ⟨ch_step h.ch hE hdep, fun k => (by rw [es] at k; rw [ea]; exact h.os k), fun k => h.p0 (by rwa [ea] at k), fun k1 k2 => (by rw [ea] at k1; rw [es] at k2; rw [et]; exact h.p1 k1 k2), fun k => h.p2 (by rwa [es] at k)⟩
theorem lj_pure {z : Value} (hE : ∀ x ∈ E, x.1 = i → onDep A x.2 = true) (hic : i ≠ ic) (his : i ≠ is) (hd : d ≠ some dst)
    (hr : ∀ a w, RR.Env AnyRe ops shs a0 w0 A a w → (execOp a.eval ⟨d, op, ty, pos, A, G⟩).run P w = .ok (.value z) w)
    (hg : guardIs ops shs A G = some true) (hs : shs.getD i (.fact fun _ _ => True) = .val z) : StepJ (LcJ wb Post E ic is dst p) AnyRe P ops Q (shF shs) a0 w0 i ⟨d, op, ty, pos, A, G⟩ := by
  intro listed a w hls hlf hdep hsz hJ hw hsm hdp K hK
  have EE : RR.Env AnyRe ops shs a0 w0 A a w := ⟨hw, hsm, hdp⟩
  rw [if_pos (EE.guard hg)]
  unfold Oper.wp
  rw [hr a w EE]
  exact hK z w trivial (by unfold shF; rw [hs]; rfl) (hJ.stay hE hdep hic his hd z)
theorem lj_move {z : Value} (hE : ∀ x ∈ E, x.1 = i → onDep A x.2 = true) (hic : i ≠ ic) (his : i ≠ is) (hd : d ≠ some dst) {x : Operand} (hg : guardIs ops shs A G = some true) (hx : opSh ops shs A a0 x = .val z) (hs : shs.getD i (.fact fun _ _ => True) = .val z) :
    StepJ (LcJ wb Post E ic is dst p) AnyRe P ops Q (shF shs) a0 w0 i ⟨d, .move x, ty, pos, A, G⟩ :=
  lj_pure hE hic his hd (fun a w EE => by
    have hv : a.eval x = z := EE.opv hx
    unfold execOp
    simp [hv]) hg hs
theorem lj_field {t : TypeId} {k : Nat} {u r : Addr} (hf : ∀ w, (Instr.fieldAt t (.pointer (some u)) k).run P w = .ok (.pointer (some r)) w) (hE : ∀ x ∈ E, x.1 = i → onDep A x.2 = true) (hic : i ≠ ic) (his : i ≠ is) (hd : d ≠ some dst) {x : Operand} (hg : guardIs ops shs A G = some true) (hx : opSh ops shs A a0 x = .val (.pointer (some u))) (hs : shs.getD i (.fact fun _ _ => True) = .val (.pointer (some r))) :
    StepJ (LcJ wb Post E ic is dst p) AnyRe P ops Q (shF shs) a0 w0 i ⟨d, .fieldAddr t x k, ty, pos, A, G⟩ :=
  lj_pure hE hic his hd (fun a w EE => by
    have hv : a.eval x = .pointer (some u) := EE.opv hx
    unfold execOp
    simp [hv, hf w]) hg hs
theorem lj_index {t : TypeId} {u v z : Value} (hrun : ∀ w, (Instr.indexAt t u v).run P w = .ok z w) (hE : ∀ x ∈ E, x.1 = i → onDep A x.2 = true) (hic : i ≠ ic) (his : i ≠ is) (hd : d ≠ some dst) {x y : Operand}
    (hg : guardIs ops shs A G = some true) (hx : opSh ops shs A a0 x = .val u) (hy : opSh ops shs A a0 y = .val v) (hs : shs.getD i (.fact fun _ _ => True) = .val z) :
    StepJ (LcJ wb Post E ic is dst p) AnyRe P ops Q (shF shs) a0 w0 i ⟨d, .indexAddr t x y, ty, pos, A, G⟩ :=
  lj_pure hE hic his hd (fun a w EE => by
    have hv : a.eval x = u := EE.opv hx
    have hw : a.eval y = v := EE.opv hy
    unfold execOp
    simp [hv, hw, hrun w]) hg hs
theorem lj_load {t : TypeId} {u : Addr} {z : Value} (hrun : (Instr.loadAt t (.pointer (some u))).run P wb = .ok z wb) (hreach : ∀ l : Nat → Bool, (∀ x ∈ E, l x.1 = true → l x.2 = true) → l ic = true → l i = true) (hE : ∀ x ∈ E, x.1 = i → onDep A x.2 = true) (hic : i ≠ ic) (his : i ≠ is) (hd : d ≠ some dst) {x : Operand}
    (hg : guardIs ops shs A G = some true) (hx : opSh ops shs A a0 x = .val (.pointer (some u))) (hs : shs.getD i (.fact fun _ _ => True) = .val z) :
    StepJ (LcJ wb Post E ic is dst p) AnyRe P ops Q (shF shs) a0 w0 i ⟨d, .load t x, ty, pos, A, G⟩ := by
  intro listed a w hls hlf hdep hsz hJ hw hsm hdp K hK
  have EE : RR.Env AnyRe ops shs a0 w0 A a w := ⟨hw, hsm, hdp⟩
  rw [if_pos (EE.guard hg)]
  have hlc : listed.getD ic false = false := by
    cases k : listed.getD ic false with
    | false => rfl
    | true => rw [hreach (fun j => listed.getD j false) hJ.ch k] at hlf; cases hlf
  have hww := hJ.p0 hlc
  have hv : a.eval x = .pointer (some u) := EE.opv hx
  have := hK z w trivial (by unfold shF; rw [hs]; rfl) (hJ.stay hE hdep hic his hd z)
  unfold Oper.wp execOp
  rw [hww] at this ⊢
  simpa [hv, hrun, Oper.upon] using this
theorem lj_callv {f x : Operand} {g : FuncId} {lb : Array Value} {u : Value} {ats : Array TypeId} (hf : isGo P g = true) (hc : Calls P g (#[u] ++ lb) wb fun e w' => ∃ v, e = .returned v ∧ Post v w') (hE : ∀ x ∈ E, x.1 = ic → onDep A x.2 = true) (hne : ic ≠ is) (hdl : dst < a0.tmps.size) (hil : ic < ops.size)
    (hg : guardIs ops shs A G = some true) (hfx : opSh ops shs A a0 f = .val (.func (.func g) #[] lb)) (hx : opSh ops shs A a0 x = .val u) (hs : shs.getD ic (.fact fun _ _ => True) = .fact fun _ _ => True) :
    StepJ (LcJ wb Post E ic is dst p) AnyRe P ops Q (shF shs) a0 w0 ic ⟨some dst, .call { callee := .value f, args := #[x], argTypes := ats }, ty, pos, A, G⟩ := by
  intro listed a w hls hlf hdep hsz hJ hw hsm hdp K hK
  have EE : RR.Env AnyRe ops shs a0 w0 A a w := ⟨hw, hsm, hdp⟩
  rw [if_pos (EE.guard hg)]
  have hww := hJ.p0 hlf
  subst hww
  have hfv : a.eval f = .func (.func g) #[] lb := EE.opv hfx
  have h1 : a.eval x = u := EE.opv hx
  have hsf : listed.getD is false = false := by
    cases k : listed.getD is false with
    | false => rfl
    | true => rw [hJ.os k] at hlf; cases hlf
  have es : (listed.setIfInBounds ic true).getD is false = false := by rw [lset_ne hne]; exact hsf
  have ec : (listed.setIfInBounds ic true).getD ic false = true := lset_here (by rw [hls]; exact hil)
  unfold Oper.wp
  rw [execOp_call_val a hfv, run_go hf]
  have e : (#[x] : Array Operand).map a.eval = #[u] := by simp [h1]
  show Calls _ _ _ _ _
  rw [e]
  refine hc.mono fun e w' ⟨v, he, hp⟩ => ?_
  subst he
  exact hK v w' trivial (by unfold shF; rw [hs]; trivial) ⟨ch_step hJ.ch hE hdep, fun k => (by rw [es] at k; cases k), fun k => (by rw [ec] at k; cases k), fun _ _ => by
    have : (a.put (some dst) v).tmps.getD dst undef = v := getD_put_same (by rw [hsz]; exact hdl)
    rw [this]; exact hp, fun k => (by rw [es] at k; cases k)⟩
theorem lj_store {t : TypeId} {x y : Operand} (hE : ∀ x ∈ E, x.1 = is → onDep A x.2 = true) (hdc : onDep A ic = true) (hil : is < ops.size) (hne : ic ≠ is) (hst : ∀ v w, Post v w → (Instr.storeAt t (.pointer (some p)) v).run P w = .ok () (w.setCell p v)) (hy : ∀ a : Act, a.eval y = a.tmps.getD dst undef)
    (hg : guardIs ops shs A G = some true) (hx : opSh ops shs A a0 x = .val (.pointer (some p))) (hs : shs.getD is (.fact fun _ _ => True) = .fact fun _ _ => True) :
    StepJ (LcJ wb Post E ic is dst p) AnyRe P ops Q (shF shs) a0 w0 is ⟨none, .store t x y, ty, pos, A, G⟩ := by
  intro listed a w hls hlf hdep hsz hJ hw hsm hdp K hK
  have EE : RR.Env AnyRe ops shs a0 w0 A a w := ⟨hw, hsm, hdp⟩
  rw [if_pos (EE.guard hg)]
  have hlc := onDep_listed hdc hdep
  have hp := hJ.p1 hlc hlf
  have hv : a.eval x = .pointer (some p) := EE.opv hx
  have es : (listed.setIfInBounds is true).getD is false = true := lset_here (by rw [hls]; exact hil)
  have ec : (listed.setIfInBounds is true).getD ic false = true := lset_true hlc
  have := hK undef _ trivial (by unfold shF; rw [hs]; trivial) ⟨ch_step hJ.ch hE hdep, fun _ => ec, fun k => (by rw [ec] at k; cases k), fun _ k => (by rw [es] at k; cases k), fun _ => ⟨_, _, hp, rfl⟩⟩
  unfold Oper.wp execOp
  simp only [hv, hy a, hst _ _ hp, Sem.run_bind, Sem.run_pure, Result.andThen_ok]
  exact this
end
end Go.Proofs.YtkkdpafkafjfgaaDoor
