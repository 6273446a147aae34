/- Regions that draw their order, the frame kept written out; an automaton loaded there. -/
import Derived.Test.YtkkdpafkafjfgaaTwRegR
import Derived.Test.YtkkdpafkafjfgaaTwPAuA
namespace Go.Proofs.Ytkkdpafkafjfgaa
open Go.RowKit RR
set_option linter.unusedVariables false
theorem mixed : Try.prog.follows .mixedOrders = true := by kernel_rfl
section
variable {Rl : World → World → Prop} {P : Program} {ops : List Oper} {Q : Exit → Act → World → Prop} {a0 : Act} {w0 : World} {id : Nat}
theorem allSteps_J {J : Array Bool → Act → World → Prop} {F : Nat → Value → World → Prop} {os : Array Oper} (hJ : ∀ listed a w v w' i (o : Oper), listed.size = os.size → listed.getD i false = false → J listed a w → Rl w w' → J (listed.setIfInBounds i true) (a.put o.dst v) w') :
    ∀ (k : Nat) (l : List Oper), AllSteps Rl P os Q F a0 w0 k l → AllJ J Rl P os Q F a0 w0 k l
  | _, [], _ => trivial
  | k, o :: l, ⟨h1, h2⟩ => ⟨h1.keeps fun listed a w v w' hs hl hj hr => hJ listed a w v w' k o hs hl hj hr, allSteps_J hJ (k + 1) l h2⟩
theorem frameR (D : List Nat) (hm : P.follows .mixedOrders = true) (hRd : ∀ w : World, Rl w w.drew) (hRt : ∀ a b c : World, Rl a b → Rl b c → Rl a c) (shs : List Sh)
    (hmono : ∀ i v w w', Rl w w' → shF shs i v w → shF shs i v w') (hD : ops.filterMap (·.dst) = D) (hok : regionOk ops.toArray a0.tmps.size = true) (hstep : AllSteps Rl P ops.toArray Q (shF shs) a0 w0 0 ops)
    (hend : ∀ (xs : Nat → Value) w, Rl w0 w → (∀ (i : Nat) o d, ops.toArray[i]? = some o → o.dst = some d → shF shs i (xs d) w) → Q .normal ⟨D.foldl (fun t d => t.setIfInBounds d (xs d)) a0.tmps, a0.defers⟩ w) :
    (Code.region id ops.toArray true).wp P Q a0 w0 :=
  region_frame (J := fun _ _ _ => True) D hm hRd hRt shs trivial hmono hD hok (allSteps_J (fun _ _ _ _ _ _ _ _ _ _ _ => trivial) 0 ops hstep) fun xs _ _ w _ _ _ hR ht => hend xs w hR fun i o d ho hd => by
    obtain ⟨v, h1, h2⟩ := ht i o ho
    rw [h2 d hd]; exact h1
theorem vals_mono {shs : List Sh} (h : ∀ s ∈ shs, ∃ v, s = .val v) : ∀ i v w w', Rl w w' → shF shs i v w → shF shs i v w' := by
  intro i v w w' _ hs
  unfold shF at hs ⊢
  rw [List.getD_eq_getElem?_getD] at hs ⊢
  cases hg : shs[i]? with
  | none => trivial
  | some s =>
    obtain ⟨u, rfl⟩ := h s (List.mem_of_getElem? hg)
    rw [hg] at hs; exact hs
end
section
variable {P : Program} {ops : Array Oper} {Q : Exit → Act → World → Prop} {shs : List Sh} {a0 : Act} {w0 : World} {A : Array Edge} {i : Nat} {d : Option Tmp} {ty : TypeId} {pos : String} {G : Option (Nat × Bool)}
end
theorem laidOutA : laidOutB Try.prog = true := by kernel_rfl
theorem drew_grew (w : World) : Grew w w.drew := (Grew.refl w).drew
theorem grew_tr (a b c : World) (h : Grew a b) (k : Grew b c) : Grew a c := h.trans k
end Go.Proofs.Ytkkdpafkafjfgaa
