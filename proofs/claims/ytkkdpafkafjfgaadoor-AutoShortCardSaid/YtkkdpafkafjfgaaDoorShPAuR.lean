/- Regions that draw their order, the frame kept written out; an automaton loaded there. -/
import Derived.Test.YtkkdpafkafjfgaaDoorShRegR
import Derived.Test.YtkkdpafkafjfgaaDoorShAuA
import Derived.Test.YtkkdpafkafjfgaaDoorShPGlZ
import Derived.Test.YtkkdpafkafjfgaaDoorCards
import Derived.Test.YtkkdpafkafjfgaaDoorTie
import Derived.LaidSub
import Derived.Lib.LaidTab
import Derived.ProofKit
import Derived.OpenShut
import Derived.Deep.DeepHandedRow
import Derived.Test.YtkkdpafkafjfgaaDoorShAuS
namespace Go.Proofs.YtkkdpafkafjfgaaDoor
open Go.RowKit RR
set_option linter.unusedVariables false
theorem mixed : Tryd.prog.follows .mixedOrders = true := by kernel_rfl
section
variable {Rl : World → World → Prop} {P : Program} {ops : List Oper} {Q : Exit → Act → World → Prop} {a0 : Act} {w0 : World} {id : Nat}
theorem allSteps_J {J : Array Bool → Act → World → Prop} {F : Nat → Value → World → Prop} {os : Array Oper} (hJ : ∀ listed a w v w' i (o : Oper), listed.size = os.size → listed.getD i false = false → J listed a w → Rl w w' → J (listed.setIfInBounds i true) (a.put o.dst v) w') :
    ∀ (k : Nat) (l : List Oper), AllSteps Rl P os Q F a0 w0 k l → AllJ J Rl P os Q F a0 w0 k l
  | _, [], _ => trivial
  | k, o :: l, ⟨h1, h2⟩ => ⟨h1.keeps fun listed a w v w' hs hl hj hr => hJ listed a w v w' k o hs hl hj hr, allSteps_J hJ (k + 1) l h2⟩
theorem frameR (D : List Nat) (hm : P.follows .mixedOrders = true) (hRd : ∀ w : World, Rl w w.drew) (hRt : ∀ a b c : World, Rl a b → Rl b c → Rl a c) (shs : List Sh)
    (hmono : ∀ i v w w', Rl w w' → shF shs i v w → shF shs i v w') (hD : ops.filterMap (·.dst) = D) (hok : regionOk ops.toArray a0.tmps.size = true) (hstep : AllSteps Rl P ops.toArray Q (shF shs) a0 w0 0 ops)
    (hend : ∀ (xs : Nat → Value) w, Rl w0 w → (∀ (i : Nat) o d, ops.toArray[i]? = some o → o.dst = some d → shF shs i (xs d) w) → Q .normal ⟨D.foldl (fun t d => t.setIfInBounds d (xs d)) a0.tmps, a0.defers⟩ w) :
    (Code.region id ops.toArray true).wp P Q a0 w0 :=
  region_frame (J := fun _ _ _ => True) D hm hRd hRt shs trivial hmono hD hok (allSteps_J (fun _ _ _ _ _ _ _ _ _ _ _ => trivial) 0 ops hstep) fun xs _ _ w _ _ _ hR ht => hend xs w hR fun i o d ho hd => by
    obtain ⟨v, h1, h2⟩ := ht i o ho
    rw [h2 d hd]; exact h1
theorem vals_mono {shs : List Sh} (h : ∀ s ∈ shs, ∃ v, s = .val v) : ∀ i v w w', Rl w w' → shF shs i v w → shF shs i v w' := by
  intro i v w w' _ hs
  unfold shF at hs ⊢
  rw [List.getD_eq_getElem?_getD] at hs ⊢
  cases hg : shs[i]? with
  | none => trivial
  | some s =>
    obtain ⟨u, rfl⟩ := h s (List.mem_of_getElem? hg)
    rw [hg] at hs; exact hs
end
section
variable {P : Program} {ops : Array Oper} {Q : Exit → Act → World → Prop} {shs : List Sh} {a0 : Act} {w0 : World} {A : Array Edge} {i : Nat} {d : Option Tmp} {ty : TypeId} {pos : String} {G : Option (Nat × Bool)}
end
theorem laidOutA : laidOutB Tryd.prog = true := by kernel_rfl
theorem drew_grew (w : World) : Grew w w.drew := (Grew.refl w).drew
theorem grew_tr (a b c : World) (h : Grew a b) (k : Grew b c) : Grew a c := h.trans k
end Go.Proofs.YtkkdpafkafjfgaaDoor

namespace Go.Proofs.YtkkdpafkafjfgaaDoor
open Go.RowKit
set_option linter.unusedVariables false
def cellsD : DataW Unit → Array Value
  | .agg l => (l.map fun | .lit (.int k n) => Value.int k n | _ => Value.bool false).toArray
  | _ => #[]
def layCells (d : DataW Unit) : Obj → Obj
  | .cells _ t frozen => .cells (cellsD d) t frozen
  | o => o
def layTabs (h : Array Obj) : Array Obj :=
  let h1 := h.modify 0 (layCells Rows.laid_math_bits_deBruijn32tab)
  let h2 := h1.modify 1 (layCells Rows.laid_math_bits_deBruijn64tab)
  h2.modify 3 (layCells Rows.laid_internal_strconv_uint64pow10)
noncomputable def laidW (os : Os) : World :=
  { World.holding Tryd.prog os ⟨#[], #[], []⟩ with heap := layTabs (World.holding Tryd.prog os ⟨#[], #[], []⟩).heap }
theorem gTab32 : Tryd.prog.globalNamed "math/bits.deBruijn32tab" = some 0 := by kernel_rfl
theorem gTab32T : (Tryd.prog.globals[0]?).map (·.type) = some 143 := by kernel_rfl
theorem cellsTab32 : Tryd.prog.cellsOf 143 = 32 := by kernel_rfl
theorem cellsU8x : Tryd.prog.cellsOf 5 = 1 := by kernel_rfl
theorem tab32_met {W : World} (h3 : laidMet Tryd.prog [("math/bits.deBruijn32tab", Lib.tabData .u8 (Lib.deBruijn32tab.map Int.ofNat))] W) : TabZ32 W := by
  have h4 := Lib.tabIs_of_head (rest := []) gTab32 gTab32T Tryd.underlying143 Tryd.underlying5 cellsU8x cellsTab32 h3
  intro j hj
  have h5 := h4.cell gTab32 j (by simpa [Lib.deBruijn32tab] using hj)
  rw [h5]
  have hj2 : j < Lib.deBruijn32tab.length := hj
  simp [List.getD_eq_getElem?_getD, List.getElem?_eq_getElem hj2]
theorem tab32_short {W : World} (h : laidMetH Tryd.prog Rows.autoShortRow.laid W) : TabZ32 W :=
  tab32_met (laidMetH.filter (fun x => x.1 == "math/bits.deBruijn32tab") h)
end Go.Proofs.YtkkdpafkafjfgaaDoor

namespace Go.Proofs.YtkkdpafkafjfgaaDoor
open Go.RowKit
set_option linter.unusedVariables false
end Go.Proofs.YtkkdpafkafjfgaaDoor

namespace Go.Proofs.YtkkdpafkafjfgaaDoor
set_option linter.unusedVariables false
def addC (A : RA) (x s : Nat) (l : List Nat) (c : Nat) : List Nat := l.set (A.nx s c) (l.getD (A.nx s c) 0 + x)
def addS (A : RA) (x s : Nat) (l : List Nat) : Nat → List Nat
  | 0 => l
  | m + 1 => addC A x s (addS A x s l m) m
def pushTo (A : RA) (v : List Nat) : Nat → List Nat
  | 0 => List.replicate A.n 0
  | i + 1 => if 0 < v.getD i 0 then addS A (v.getD i 0) i (pushTo A v i) 256 else pushTo A v i
def fwd (A : RA) : Nat → List Nat
  | 0 => (List.replicate A.n 0).set 0 1
  | k + 1 => pushTo A (fwd A k) A.n
theorem addS_length (A : RA) (x s : Nat) (l : List Nat) : ∀ m, (addS A x s l m).length = l.length
  | 0 => rfl
  | m + 1 => by rw [addS, addC, List.length_set, addS_length A x s l m]
theorem pushTo_length (A : RA) (v : List Nat) : ∀ i, (pushTo A v i).length = A.n
  | 0 => List.length_replicate
  | i + 1 => by
    rw [pushTo]
    split
    · rw [addS_length, pushTo_length A v i]
    · exact pushTo_length A v i
theorem fwd_length (A : RA) : ∀ k, (fwd A k).length = A.n
  | 0 => by rw [fwd, List.length_set, List.length_replicate]
  | k + 1 => pushTo_length A _ _
theorem dot_take_le : ∀ (l : List Nat) (i : Nat) (f : Nat → Nat), dot (l.take i) f ≤ dot l f
  | [], i, f => by rw [List.take_nil]; exact Nat.le_refl _
  | x :: l, 0, f => by rw [List.take_zero]; exact Nat.zero_le _
  | x :: l, i + 1, f => by rw [List.take_succ_cons, dot, dot]; have := dot_take_le l i fun j => f (j + 1); omega
theorem dot_addS {A : RA} (ok : A.Ok) {x s : Nat} {l : List Nat} (hl : l.length = A.n) (hs : s < A.n) (f : Nat → Nat) : ∀ m, m ≤ 256 → dot (addS A x s l m) f = dot l f + x * sumB (fun c => f (A.nx s c)) m
  | 0, _ => by rw [addS, sumB]; omega
  | m + 1, h => by
    rw [addS, addC, dot_add _ _ _ _ (by rw [addS_length, hl]; exact ok.nx s m hs (by omega)), dot_addS ok hl hs f m (by omega), sumB, Nat.mul_add]
    omega
theorem dot_pushTo {A : RA} (ok : A.Ok) {v : List Nat} (hv : v.length = A.n) (f : Nat → Nat) : ∀ i, i ≤ A.n → dot (pushTo A v i) f = dot (v.take i) fun s => sumB (fun c => f (A.nx s c)) 256
  | 0, _ => by rw [pushTo, List.take_zero, dot_zero]; rfl
  | i + 1, h => by
    rw [dot_take (by omega), pushTo]
    split
    · rw [dot_addS ok (pushTo_length A v i) (by omega) f 256 (Nat.le_refl _), dot_pushTo ok hv f i (by omega)]
    · rename_i h0
      rw [dot_pushTo ok hv f i (by omega), show v.getD i 0 = 0 by omega, Nat.zero_mul]; omega
theorem dot_fwd_succ {A : RA} (ok : A.Ok) (k : Nat) (f : Nat → Nat) : dot (fwd A (k + 1)) f = dot (fwd A k) fun s => sumB (fun c => f (A.nx s c)) 256 := by
  rw [fwd, dot_pushTo ok (fwd_length A k) f A.n (Nat.le_refl _), ← fwd_length A k, List.take_length]
theorem dot_fwd_zero {A : RA} (ok : A.Ok) (f : Nat → Nat) : dot (fwd A 0) f = f 0 := by
  have h := dot_add (List.replicate A.n 0) 0 1 f (by rw [List.length_replicate]; exact ok.pos)
  rw [dot_zero] at h
  have e : (List.replicate A.n 0).getD 0 0 + 1 = 1 := by
    rw [List.getD_eq_getElem?_getD, List.getElem?_replicate]; split <;> rfl
  rw [e] at h
  rw [fwd, h]; omega
theorem dot_fwd {A : RA} (ok : A.Ok) : ∀ k j, dot (fwd A k) (cntA A j) = cntA A (j + k) 0
  | 0, j => dot_fwd_zero ok _
  | k + 1, j => by
    rw [dot_fwd_succ ok, show j + (k + 1) = (j + 1) + k by omega, ← dot_fwd ok k (j + 1)]
    rfl
theorem dot_fwd_one {A : RA} (ok : A.Ok) : ∀ k, dot (fwd A k) (fun _ => 1) = 256 ^ k
  | 0 => dot_fwd_zero ok _
  | k + 1 => by
    rw [dot_fwd_succ ok]
    have h : (fun s : Nat => sumB (fun c => (fun _ : Nat => 1) (A.nx s c)) 256) = fun s => 256 * (fun _ => 1) s := by funext s; exact sumB_one 256
    rw [h, dot_mul, dot_fwd_one ok k, Nat.pow_succ, Nat.mul_comm]
theorem part_le {A : RA} (ok : A.Ok) (k : Nat) {i m : Nat} (hi : i < A.n) (hm : m ≤ 256) (j : Nat) : (addS A ((fwd A k).getD i 0) i (pushTo A (fwd A k) i) m).getD j 0 + (fwd A k).getD i 0 ≤ 2 * 256 ^ (k + 1) := by
  have h1 : ∀ j, (fwd A k).getD j 0 ≤ 256 ^ k := fun j => by
    by_cases hj : j < (fwd A k).length
    · have := dot_get _ _ hj; rw [dot_fwd_one ok] at this; exact this
    · rw [List.getD_eq_getElem?_getD, List.getElem?_eq_none (by omega)]; exact Nat.zero_le _
  have h2 : dot (addS A ((fwd A k).getD i 0) i (pushTo A (fwd A k) i) m) (fun _ => 1) ≤ 256 ^ (k + 1) := by
    rw [dot_addS ok (pushTo_length A _ i) hi _ m hm, dot_pushTo ok (fwd_length A k) _ i (by omega)]
    have e1 : (fun s : Nat => sumB (fun c => (fun _ : Nat => 1) (A.nx s c)) 256) = fun s => 256 * (fun _ => 1) s := by funext s; exact sumB_one 256
    rw [e1, dot_mul]
    have e2 : sumB (fun c => (fun _ : Nat => 1) (A.nx i c)) m = m := sumB_one m
    rw [e2]
    have e3 := dot_take (l := fwd A k) (i := i) (by rw [fwd_length]; exact hi) (fun _ => 1)
    have e4 : dot ((fwd A k).take (i + 1)) (fun _ => 1) ≤ dot (fwd A k) fun _ => 1 := dot_take_le _ _ _
    rw [dot_fwd_one ok] at e4
    have e5 : (fwd A k).getD i 0 * m ≤ (fwd A k).getD i 0 * 256 := Nat.mul_le_mul_left _ hm
    rw [Nat.pow_succ]
    omega
  have h3 := h1 i
  have h4 : (addS A ((fwd A k).getD i 0) i (pushTo A (fwd A k) i) m).getD j 0 ≤ 256 ^ (k + 1) := by
    by_cases hj : j < (addS A ((fwd A k).getD i 0) i (pushTo A (fwd A k) i) m).length
    · have := dot_get _ _ hj; omega
    · rw [List.getD_eq_getElem?_getD, List.getElem?_eq_none (by omega)]; exact Nat.zero_le _
  rw [Nat.pow_succ] at h4 ⊢
  omega
end Go.Proofs.YtkkdpafkafjfgaaDoor
