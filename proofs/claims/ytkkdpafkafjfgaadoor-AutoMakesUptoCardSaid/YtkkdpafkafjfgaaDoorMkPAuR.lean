/- Regions that draw their order, the frame kept written out; an automaton loaded there. -/
import Derived.Test.YtkkdpafkafjfgaaDoorMkRegR
import Derived.Test.YtkkdpafkafjfgaaDoorMkPGlZ
import Derived.Lib.ItoaNum
import Derived.Test.YtkkdpafkafjfgaaDoorMkPBase
import Derived.Test.YtkkdpafkafjfgaaDoorMkScWC
namespace Go.Proofs.YtkkdpafkafjfgaaDoor
open Go.RowKit RR
set_option linter.unusedVariables false
theorem mixed : Tryd.prog.follows .mixedOrders = true := by kernel_rfl
section
variable {Rl : World → World → Prop} {P : Program} {ops : List Oper} {Q : Exit → Act → World → Prop} {a0 : Act} {w0 : World} {id : Nat}
theorem allSteps_J {J : Array Bool → Act → World → Prop} {F : Nat → Value → World → Prop} {os : Array Oper} (hJ : ∀ listed a w v w' i (o : Oper), listed.size = os.size → listed.getD i false = false → J listed a w → Rl w w' → J (listed.setIfInBounds i true) (a.put o.dst v) w') :
    ∀ (k : Nat) (l : List Oper), AllSteps Rl P os Q F a0 w0 k l → AllJ J Rl P os Q F a0 w0 k l
  | _, [], _ => trivial
  | k, o :: l, ⟨h1, h2⟩ => ⟨h1.keeps fun listed a w v w' hs hl hj hr => hJ listed a w v w' k o hs hl hj hr, allSteps_J hJ (k + 1) l h2⟩
theorem frameR (D : List Nat) (hm : P.follows .mixedOrders = true) (hRd : ∀ w : World, Rl w w.drew) (hRt : ∀ a b c : World, Rl a b → Rl b c → Rl a c) (shs : List Sh)
    (hmono : ∀ i v w w', Rl w w' → shF shs i v w → shF shs i v w') (hD : ops.filterMap (·.dst) = D) (hok : regionOk ops.toArray a0.tmps.size = true) (hstep : AllSteps Rl P ops.toArray Q (shF shs) a0 w0 0 ops)
    (hend : ∀ (xs : Nat → Value) w, Rl w0 w → (∀ (i : Nat) o d, ops.toArray[i]? = some o → o.dst = some d → shF shs i (xs d) w) → Q .normal ⟨D.foldl (fun t d => t.setIfInBounds d (xs d)) a0.tmps, a0.defers⟩ w) :
    (Code.region id ops.toArray true).wp P Q a0 w0 :=
  region_frame (J := fun _ _ _ => True) D hm hRd hRt shs trivial hmono hD hok (allSteps_J (fun _ _ _ _ _ _ _ _ _ _ _ => trivial) 0 ops hstep) fun xs _ _ w _ _ _ hR ht => hend xs w hR fun i o d ho hd => by
    obtain ⟨v, h1, h2⟩ := ht i o ho
    rw [h2 d hd]; exact h1
theorem vals_mono {shs : List Sh} (h : ∀ s ∈ shs, ∃ v, s = .val v) : ∀ i v w w', Rl w w' → shF shs i v w → shF shs i v w' := by
  intro i v w w' _ hs
  unfold shF at hs ⊢
  rw [List.getD_eq_getElem?_getD] at hs ⊢
  cases hg : shs[i]? with
  | none => trivial
  | some s =>
    obtain ⟨u, rfl⟩ := h s (List.mem_of_getElem? hg)
    rw [hg] at hs; exact hs
end
section
variable {P : Program} {ops : Array Oper} {Q : Exit → Act → World → Prop} {shs : List Sh} {a0 : Act} {w0 : World} {A : Array Edge} {i : Nat} {d : Option Tmp} {ty : TypeId} {pos : String} {G : Option (Nat × Bool)}
end
theorem laidOutA : laidOutB Tryd.prog = true := by kernel_rfl
theorem drew_grew (w : World) : Grew w w.drew := (Grew.refl w).drew
theorem grew_tr (a b c : World) (h : Grew a b) (k : Grew b c) : Grew a c := h.trans k
end Go.Proofs.YtkkdpafkafjfgaaDoor

namespace Go.Proofs.YtkkdpafkafjfgaaDoor
set_option linter.unusedVariables false
section
variable {α : Type} [DecidableEq α]
def upN (f : Nat → α) (i : Nat) : List α := uniq ((List.range i).map f)
theorem upN_old {f : Nat → α} {i : Nat} (h : f i ∈ upN f i) : upN f (i + 1) = upN f i := by
  unfold upN at *; rw [List.range_succ, List.map_append, List.map_singleton, uniq_snoc, if_pos h]
theorem upN_new {f : Nat → α} {i : Nat} (h : f i ∉ upN f i) : upN f (i + 1) = upN f i ++ [f i] := by
  unfold upN at *; rw [List.range_succ, List.map_append, List.map_singleton, uniq_snoc, if_neg h]
theorem upN_le (f : Nat → α) (i : Nat) : (upN f i).length ≤ i := by
  have := uniq_le ((List.range i).map f); rwa [List.length_map, List.length_range] at this
theorem numb_old {f : Nat → α} {n i : Nat} (hi : i < n) (h : f i ∈ upN f i) : numb f n i = (upN f i).idxOf (f i) := (numb_at f hi).trans (if_pos h)
theorem numb_new {f : Nat → α} {n i : Nat} (hi : i < n) (h : f i ∉ upN f i) : numb f n i = (upN f i).length := (numb_at f hi).trans (if_neg h)
end
structure SplI (R : RA) (G : Nat) (ag : Bool) (g : Nat → Nat) (c : Nat) : Prop where
  coarse : Coarse R g
  stable : ag = false → StableTo R g c
  grown : G ≤ gcnt g R.n ∧ (ag = true → G < gcnt g R.n)
theorem gcnt_congr {g h : Nat → Nat} {n : Nat} (e : ∀ i, i < n → g i = h i) : gcnt g n = gcnt h n := by
  unfold gcnt
  rw [List.map_congr_left fun i hi => e i (List.mem_range.1 hi)]
theorem split_ge {R : RA} (ok : R.Ok) (g : Nat → Nat) (c : Nat) : gcnt g R.n ≤ (upN (pr R g c) R.n).length := finer_le (pr_finer R g c)
theorem gcnt_split (R : RA) (g : Nat → Nat) (c : Nat) : gcnt (numb (pr R g c) R.n) R.n = (upN (pr R g c) R.n).length := gcnt_numb _ _
theorem SplI.more {R : RA} (ok : R.Ok) {G : Nat} {g : Nat → Nat} {c : Nat} (h : SplI R G false g c) (hc : c < 256) (hm : gcnt g R.n < (upN (pr R g c) R.n).length) : SplI R G true (numb (pr R g c) R.n) (c + 1) :=
  ⟨h.coarse.byte ok hc, fun e => (by cases e), by rw [gcnt_split]; have := h.grown.1; exact ⟨by omega, fun _ => by omega⟩⟩
theorem SplI.same {R : RA} (ok : R.Ok) {G : Nat} {g : Nat → Nat} {c : Nat} (h : SplI R G false g c) (hc : c < 256) (hm : (upN (pr R g c) R.n).length ≤ gcnt g R.n) : SplI R G false (numb (pr R g c) R.n) (c + 1) :=
  ⟨h.coarse.byte ok hc, fun _ => (h.stable rfl).next ok hc hm, by rw [gcnt_split]; have := h.grown.1; have := split_ge ok g c; exact ⟨by omega, fun e => (by cases e)⟩⟩
theorem SplI.start {R : RA} {g : Nat → Nat} (h : Coarse R g) : SplI R (gcnt g R.n) false g 0 := ⟨h, fun _ c hc => absurd hc (Nat.not_lt_zero c), Nat.le_refl _, fun e => (by cases e)⟩
theorem SplI.groups {R : RA} (ok : R.Ok) {G : Nat} {g : Nat → Nat} {c : Nat} (h : SplI R G false g c) (hc : 256 ≤ c) : Groups R g :=
  StableTo.groups ok h.coarse fun d hd => h.stable rfl d (by omega)
def numT (n : Nat) : List UInt8 := Lib.decDigits n ++ [32]
def colT (C : RA) (c r : Nat) : List UInt8 := ((List.range r).map fun s => numT (C.nx s c)).flatten
theorem colT_succ (C : RA) (c r : Nat) : colT C c (r + 1) = colT C c r ++ numT (C.nx r c) := by unfold colT; rw [List.range_succ, List.map_append, List.flatten_append]; simp
theorem u8_inj {a b : Nat} (ha : a < 256) (hb : b < 256) (h : UInt8.ofNat a = UInt8.ofNat b) : a = b := by
  have := congrArg UInt8.toNat h
  rwa [UInt8.toNat_ofNat_of_lt' (by exact ha), UInt8.toNat_ofNat_of_lt' (by exact hb)] at this
theorem digits_blank (n : Nat) : (32 : UInt8) ∉ Lib.decDigits n := by
  induction n using Nat.strongRecOn with
  | _ n ih =>
    rw [Lib.decDigits]
    split
    · rename_i h
      rw [List.mem_singleton]
      intro e
      have := u8_inj (a := 32) (b := 48 + n) (by omega) (by omega) e
      omega
    · rename_i h
      rw [List.mem_append, List.mem_singleton]
      rintro (h1 | h1)
      · exact ih (n / 10) (by omega) h1
      · have := u8_inj (a := 32) (b := 48 + n % 10) (by omega) (by omega) h1
        omega
theorem digits_ne (n : Nat) : Lib.decDigits n ≠ [] := by
  rw [Lib.decDigits]
  split
  · exact fun h => by cases h
  · exact fun h => by simp at h
theorem dec_lt {n : Nat} (h : n < 10) : Lib.decDigits n = [UInt8.ofNat (48 + n)] := by rw [Lib.decDigits, dif_pos h]
theorem dec_ge {n : Nat} (h : ¬ n < 10) : Lib.decDigits n = Lib.decDigits (n / 10) ++ [UInt8.ofNat (48 + n % 10)] := by rw [Lib.decDigits, dif_neg h]
theorem digits_inj : ∀ {m n : Nat}, Lib.decDigits m = Lib.decDigits n → m = n := fun {m} => by
  induction m using Nat.strongRecOn with
  | _ m ih =>
    intro n h
    by_cases h1 : m < 10
    · rw [dec_lt h1] at h
      by_cases h2 : n < 10
      · rw [dec_lt h2] at h
        have := u8_inj (by omega) (by omega) (List.cons.inj h).1
        omega
      · rw [dec_ge h2] at h
        have h3 := congrArg List.length h
        have h4 := List.length_pos_iff.2 (digits_ne (n / 10))
        simp only [List.length_append, List.length_cons, List.length_nil] at h3
        omega
    · rw [dec_ge h1] at h
      by_cases h2 : n < 10
      · rw [dec_lt h2] at h
        have h3 := congrArg List.length h
        have h4 := List.length_pos_iff.2 (digits_ne (m / 10))
        simp only [List.length_append, List.length_cons, List.length_nil] at h3
        omega
      · rw [dec_ge h2] at h
        have h3 := List.append_inj' h rfl
        have h4 := ih (m / 10) (by omega) h3.1
        have h5 := u8_inj (by omega) (by omega) (List.cons.inj h3.2).1
        omega
theorem cut_blank : ∀ {a b x y : List UInt8}, (32 : UInt8) ∉ a → (32 : UInt8) ∉ b → a ++ (32 : UInt8) :: x = b ++ (32 : UInt8) :: y → a = b ∧ x = y
  | [], [], x, y, _, _, h => ⟨rfl, by simpa using h⟩
  | [], d :: b, x, y, _, hb, h => by
    simp only [List.nil_append, List.cons_append, List.cons.injEq] at h
    exact absurd (h.1 ▸ List.mem_cons_self ..) hb
  | d :: a, [], x, y, ha, _, h => by
    simp only [List.nil_append, List.cons_append, List.cons.injEq] at h
    exact absurd (h.1 ▸ List.mem_cons_self ..) ha
  | d :: a, e :: b, x, y, ha, hb, h => by
    simp only [List.cons_append, List.cons.injEq] at h
    obtain ⟨h1, h2⟩ := cut_blank (fun k => ha (List.mem_cons_of_mem _ k)) (fun k => hb (List.mem_cons_of_mem _ k)) h.2
    exact ⟨by rw [h.1, h1], h2⟩
theorem nums_inj : ∀ {a b : List Nat}, a.length = b.length → (a.map numT).flatten = (b.map numT).flatten → a = b
  | [], [], _, _ => rfl
  | x :: a, y :: b, hl, h => by
    simp only [List.map_cons, List.flatten_cons] at h
    unfold numT at h
    rw [List.append_assoc, List.append_assoc] at h
    obtain ⟨h1, h2⟩ := cut_blank (digits_blank x) (digits_blank y) h
    rw [digits_inj h1, nums_inj (by simpa using hl) h2]
end Go.Proofs.YtkkdpafkafjfgaaDoor

namespace Go.Proofs.YtkkdpafkafjfgaaDoor
open Go.RowKit
set_option linter.unusedVariables false
theorem mn_none {n : Nat} (h : n ≠ 0) : manyErr n 0 0 = 5 := by unfold manyErr; rw [if_pos (by omega)]
theorem mn_zero {n : Nat} (h : n = 0) : manyErr n 0 0 = 0 := by unfold manyErr; rw [if_neg (by omega)]
theorem mn_not1 {n : Nat} (h : n ≠ 1) : manyErr n 1 1 = 5 := by unfold manyErr; rw [if_pos (by omega)]
theorem mn_one1 {n : Nat} (h : n = 1) : manyErr n 1 1 = 0 := by unfold manyErr; rw [if_neg (by omega)]
theorem mn_few {n : Nat} (h : n < 2) : manyErr n 2 4096 = 5 := by unfold manyErr; rw [if_pos (by omega)]
theorem mn_two {n : Nat} (h : ¬ n < 2) (k : n ≤ 4096) : manyErr n 2 4096 = 0 := by unfold manyErr; rw [if_neg (by omega)]
theorem Node_any {p : Pat} {kv : Value} {w : World} (hp : PatV w kv p) (hl : p.kids.length ≤ 4096) :
    Calls Tryd.prog 65 #[.agg (p.cells kv)] w fun e w' => e = .returned (.int .i64 (nodeErr p)) ∧ Grew w w' := by
  unfold nodeErr
  by_cases h1 : p.kind < 1
  · rw [if_pos (Or.inl h1)]; exact node_lo hp h1
  by_cases h2 : 24 < p.kind
  · rw [if_pos (Or.inr h2)]; exact node_hi hp h2
  rw [if_neg (by omega)]
  by_cases k1 : p.kind = 1
  · rw [if_pos k1]
    by_cases b : 65536 < p.text.size
    · rw [if_pos b]; exact node_4 hp k1 b
    rw [if_neg b]
    by_cases c : p.kids.length = 0
    · rw [mn_zero c]; exact node_6 hp k1 b c
    · rw [mn_none c]; exact node_5 hp k1 b c
  rw [if_neg k1]
  by_cases k2 : p.kind = 3 ∨ p.kind = 4 ∨ p.kind = 5 ∨ p.kind = 6 ∨ p.kind = 7
  · rw [if_pos k2]
    by_cases b : 65536 < p.text.size
    · rw [if_pos b]; exact node_0 hp k2 b
    rw [if_neg b]
    by_cases e : p.text.size = 0
    · rw [if_pos e]; exact node_1 hp k2 b e
    rw [if_neg e]
    by_cases c : p.kids.length = 0
    · rw [mn_zero c]; exact node_3 hp k2 b e c
    · rw [mn_none c]; exact node_2 hp k2 b e c
  rw [if_neg k2]
  by_cases k3 : p.kind = 2 ∨ p.kind = 8 ∨ p.kind = 9 ∨ p.kind = 10 ∨ p.kind = 11
  · rw [if_pos k3]
    by_cases b : p.n < 0
    · rw [if_pos (Or.inl b)]; exact node_7 hp k3 b
    by_cases e : 65536 < p.n
    · rw [if_pos (Or.inr e)]; exact node_8 hp k3 b e
    rw [if_neg (by omega)]
    by_cases c : p.kids.length = 0
    · rw [mn_zero c]; exact node_10 hp k3 b e c
    · rw [mn_none c]; exact node_9 hp k3 b e c
  rw [if_neg k3]
  by_cases k4 : p.kind = 18 ∨ p.kind = 19
  · rw [if_pos k4]
    by_cases c : p.kids.length < 2
    · rw [mn_few c]; exact node_11 hp k4 c
    · rw [mn_two c hl]; exact node_12 hp k4 c
  rw [if_neg k4]
  by_cases k5 : p.kind = 20
  · rw [if_pos k5]
    by_cases c : p.kids.length = 1
    · rw [mn_one1 c]; exact node_14 hp k5 c
    · rw [mn_not1 c]; exact node_13 hp k5 c
  rw [if_neg k5]
  by_cases k6 : p.kind = 21 ∨ p.kind = 22
  · rw [if_pos k6]
    by_cases b : named p.name = false
    · rw [if_pos b]; exact node_15 hp k6 b
    rw [if_neg b]
    have b : named p.name = true := by simpa using b
    by_cases c : p.kids.length = 1
    · rw [mn_one1 c]; exact node_17 hp k6 b c
    · rw [mn_not1 c]; exact node_16 hp k6 b c
  rw [if_neg k6]
  by_cases k7 : p.kind = 23 ∨ p.kind = 24
  · rw [if_pos k7]
    by_cases b : named p.name = false
    · rw [if_pos b]; exact node_18 hp k7 b
    rw [if_neg b]
    have b : named p.name = true := by simpa using b
    by_cases c : p.kids.length = 0
    · rw [mn_zero c]; exact node_20 hp k7 b c
    · rw [mn_none c]; exact node_19 hp k7 b c
  rw [if_neg k7]
  have k8 : p.kind = 12 ∨ p.kind = 13 ∨ p.kind = 14 ∨ p.kind = 15 ∨ p.kind = 16 ∨ p.kind = 17 := by omega
  by_cases c : p.kids.length = 0
  · rw [mn_zero c]; exact node_22 hp k8 c
  · rw [mn_none c]; exact node_21 hp k8 c
end Go.Proofs.YtkkdpafkafjfgaaDoor
