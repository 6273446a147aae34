/- math/bits.TrailingZeros32, by the library's own text, under its table; masks of 32 bits. -/
import Derived.Test.YtkkdpafkafjfgaaDoorAlStBits
import Derived.Test.YtkkdpafkafjfgaaDoorAlRegR
import Derived.Test.YtkkdpafkafjfgaaDoorAlAuA
import Derived.Test.YtkkdpafkafjfgaaDoorAlPAuY
import Derived.Test.YtkkdpafkafjfgaaDoorAlPAuS
namespace Go.Proofs.YtkkdpafkafjfgaaDoor
open Go.RowKit
set_option linter.unusedVariables false
theorem wrap32 (n : Int) : IntKind.u32.wrap n = n % 4294967296 := by simp [IntKind.wrap, IntKind.signed, IntKind.bits]
theorem bits32 {op : BinOp} {f : Nat → Nat → Nat} (hf : ∀ a b : Nat, a < 4294967296 → b < 4294967296 → f a b < 4294967296)
    (hop : ∀ x y : Int, bits op .u32 x y = IntKind.u32.wrap ((f (BitVec.ofInt 32 x).toNat (BitVec.ofInt 32 y).toNat : Nat) : Int)) (a b : Nat) (ha : a < 4294967296) (hb : b < 4294967296) : bits op .u32 (a : Int) (b : Int) = ((f a b : Nat) : Int) := by
  have e : ∀ x : Nat, x < 4294967296 → (BitVec.ofInt 32 (x : Int)).toNat = x := fun x hx => by
    rw [BitVec.ofInt_natCast, BitVec.toNat_ofNat]; exact Nat.mod_eq_of_lt hx
  have := hf a b ha hb
  rw [hop, e a ha, e b hb, wrap32]; omega
theorem and32 (a b : Nat) (ha : a < 4294967296) (hb : b < 4294967296) : bits .and .u32 (a : Int) (b : Int) = ((a &&& b : Nat) : Int) :=
  bits32 (f := fun a b => a &&& b) (fun a b h _ => Nat.lt_of_le_of_lt Nat.and_le_left h) (fun x y => by
    show IntKind.u32.wrap ((BitVec.ofInt 32 x &&& BitVec.ofInt 32 y).toNat : Int) = _
    rw [BitVec.toNat_and]) a b ha hb
theorem or32 (a b : Nat) (ha : a < 4294967296) (hb : b < 4294967296) : bits .or .u32 (a : Int) (b : Int) = ((a ||| b : Nat) : Int) :=
  bits32 (f := fun a b => a ||| b) (fun a b h k => Nat.or_lt_two_pow (n := 32) h k) (fun x y => by
    show IntKind.u32.wrap ((BitVec.ofInt 32 x ||| BitVec.ofInt 32 y).toNat : Int) = _
    rw [BitVec.toNat_or]) a b ha hb
theorem not32 (b : Nat) (hb : b < 4294967296) (i : Nat) : (4294967295 - b).testBit i = (decide (i < 32) && !b.testBit i) := by
  have := Nat.testBit_two_pow_sub_succ (n := 32) hb i
  rwa [show 2 ^ 32 - (b + 1) = 4294967295 - b by omega] at this
theorem andNot32 (a b : Nat) (ha : a < 4294967296) (hb : b < 4294967296) : bits .andNot .u32 (a : Int) (b : Int) = ((a &&& (4294967295 - b) : Nat) : Int) := by
  have e : ∀ x : Nat, x < 4294967296 → (BitVec.ofInt 32 (x : Int)).toNat = x := fun x hx => by
    rw [BitVec.ofInt_natCast, BitVec.toNat_ofNat]; exact Nat.mod_eq_of_lt hx
  have h : a &&& (4294967295 - b) < 4294967296 := Nat.lt_of_le_of_lt Nat.and_le_left ha
  show IntKind.u32.wrap ((BitVec.ofInt 32 (a : Int) &&& ~~~ BitVec.ofInt 32 (b : Int)).toNat : Int) = _
  rw [BitVec.toNat_and, BitVec.toNat_not, e a ha, e b hb, wrap32]
  rw [show (2 ^ 32 - 1 - b : Nat) = 4294967295 - b from rfl]
  omega
def TabZ32 (w : World) : Prop := ∀ j, j < 32 → w.cell? ⟨0, j, none⟩ = some (.int .u8 (Lib.deBruijn32tab.getD j 0))
theorem TabZ32.kept {w w' : World} (h : TabZ32 w) (g : Grew w w') : TabZ32 w' := fun j hj => g.keeps (h j hj)
theorem tz32 (x a : Nat) (hx : x < 4294967296) (hx0 : x ≠ 0) (hlow : x &&& (4294967296 - x) = a) :
    bits BinOp.and IntKind.u32 (x : Int) (-(x : Int) % 4294967296) * 125613361 % 4294967296 / 134217728 = ((a * 125613361 % 4294967296 / 134217728 : Nat) : Int) := by
  have e1 : -(x : Int) % 4294967296 = ((4294967296 - x : Nat) : Int) := by omega
  rw [e1, and32 x _ hx (by omega), hlow]
  omega
theorem zeros32 (x : Nat) (w : World) (hx : x < 4294967296) (hx0 : x ≠ 0) (hT : TabZ32 w) : Calls Tryd.prog 28 #[.int .u32 x] w fun e w' => e = .returned (.int .i64 (Lib.ctz 32 x)) ∧ w' = w := by
  obtain ⟨hlow, hk⟩ := Lib.lowest_bit 32 x hx0 hx
  obtain ⟨hi, htab⟩ := Lib.deBruijn32_at _ hk
  have hcell := hT _ hi
  rw [htab] at hcell
  have key := tz32 x _ hx hx0 hlow
  obtain ⟨idx, he⟩ : ∃ idx, 2 ^ Lib.ctz 32 x * 125613361 % 4294967296 / 134217728 = idx := ⟨_, rfl⟩
  rw [he] at key hi hcell
  generalize Lib.ctz 32 x = k at hk hcell ⊢
  have hx1 : ((x : Int) == 0) = false := by simp; omega
  clear he htab hlow hT
  go_enter Tryd.func28, Tryd.ntmps28
  go_wp2_with (simp only [key])
  go_ret
  exact ⟨rfl, rfl⟩
theorem low32 {x : Nat} (hx : x < 4294967296) (h0 : x ≠ 0) : x.testBit (Lib.ctz 32 x) = true ∧ ∀ i, (x &&& (x - 1)).testBit i = (x.testBit i && decide (i ≠ Lib.ctz 32 x)) := by
  obtain ⟨m, hm, hk⟩ := Lib.ctzFrom_spec 32 x (by omega) hx
  have hc : Lib.ctz 32 x = Lib.ctzFrom 32 x := if_neg h0
  rw [hc]
  generalize Lib.ctzFrom 32 x = k at hm hk
  have hp : 0 < 2 ^ k := Nat.two_pow_pos k
  have e1 : x - 1 = 2 ^ k * (2 * m) + (2 ^ k - 1) := by rw [hm, Nat.mul_add, Nat.mul_one]; omega
  have hb : ∀ i, x.testBit i = if i < k then false else (2 * m + 1).testBit (i - k) := fun i => by
    rw [hm, Nat.mul_comm, Nat.testBit_mul_two_pow]
    by_cases h : i < k
    · rw [if_pos h]; simp; omega
    · rw [if_neg h]; simp [show k ≤ i by omega]
  have hb1 : ∀ i, k ≤ i → (x - 1).testBit i = (2 * m).testBit (i - k) := fun i hi => by
    rw [e1, Nat.testBit_two_pow_mul_add _ (by omega), if_neg (by omega)]
  refine ⟨by rw [hb, if_neg (Nat.lt_irrefl k), Nat.sub_self, Nat.testBit_zero]; simp, fun i => ?_⟩
  rw [Nat.testBit_and]
  by_cases h : i < k
  · rw [hb, if_pos h]; rfl
  · rw [hb1 i (by omega), hb i, if_neg h]
    by_cases e : i = k
    · subst e; simp
    · obtain ⟨j, hj⟩ : ∃ j, i - k = j + 1 := ⟨i - k - 1, by omega⟩
      rw [hj, Nat.testBit_succ, Nat.testBit_succ, show (2 * m + 1) / 2 = m by omega, show 2 * m / 2 = m by omega]
      simp [e]
theorem low32_lt {x n : Nat} (hx : x < 2 ^ n) (hn : n ≤ 32) (h0 : x ≠ 0) : Lib.ctz 32 x < n := by
  have h := (low32 (Nat.lt_of_lt_of_le hx (Nat.pow_le_pow_right (n := 2) (by decide) hn)) h0).1
  apply Classical.byContradiction; intro hc
  have : x < 2 ^ Lib.ctz 32 x := Nat.lt_of_lt_of_le hx (Nat.pow_le_pow_right (n := 2) (by decide) (by omega))
  rw [Nat.testBit_lt_two_pow this] at h
  cases h
end Go.Proofs.YtkkdpafkafjfgaaDoor

namespace Go.Proofs.YtkkdpafkafjfgaaDoor
open Go.RowKit RR
set_option linter.unusedVariables false
theorem mixed : Tryd.prog.follows .mixedOrders = true := by kernel_rfl
section
variable {Rl : World → World → Prop} {P : Program} {ops : List Oper} {Q : Exit → Act → World → Prop} {a0 : Act} {w0 : World} {id : Nat}
theorem allSteps_J {J : Array Bool → Act → World → Prop} {F : Nat → Value → World → Prop} {os : Array Oper} (hJ : ∀ listed a w v w' i (o : Oper), listed.size = os.size → listed.getD i false = false → J listed a w → Rl w w' → J (listed.setIfInBounds i true) (a.put o.dst v) w') :
    ∀ (k : Nat) (l : List Oper), AllSteps Rl P os Q F a0 w0 k l → AllJ J Rl P os Q F a0 w0 k l
  | _, [], _ => trivial
  | k, o :: l, ⟨h1, h2⟩ => ⟨h1.keeps fun listed a w v w' hs hl hj hr => hJ listed a w v w' k o hs hl hj hr, allSteps_J hJ (k + 1) l h2⟩
theorem frameR (D : List Nat) (hm : P.follows .mixedOrders = true) (hRd : ∀ w : World, Rl w w.drew) (hRt : ∀ a b c : World, Rl a b → Rl b c → Rl a c) (shs : List Sh)
    (hmono : ∀ i v w w', Rl w w' → shF shs i v w → shF shs i v w') (hD : ops.filterMap (·.dst) = D) (hok : regionOk ops.toArray a0.tmps.size = true) (hstep : AllSteps Rl P ops.toArray Q (shF shs) a0 w0 0 ops)
    (hend : ∀ (xs : Nat → Value) w, Rl w0 w → (∀ (i : Nat) o d, ops.toArray[i]? = some o → o.dst = some d → shF shs i (xs d) w) → Q .normal ⟨D.foldl (fun t d => t.setIfInBounds d (xs d)) a0.tmps, a0.defers⟩ w) :
    (Code.region id ops.toArray true).wp P Q a0 w0 :=
  region_frame (J := fun _ _ _ => True) D hm hRd hRt shs trivial hmono hD hok (allSteps_J (fun _ _ _ _ _ _ _ _ _ _ _ => trivial) 0 ops hstep) fun xs _ _ w _ _ _ hR ht => hend xs w hR fun i o d ho hd => by
    obtain ⟨v, h1, h2⟩ := ht i o ho
    rw [h2 d hd]; exact h1
theorem vals_mono {shs : List Sh} (h : ∀ s ∈ shs, ∃ v, s = .val v) : ∀ i v w w', Rl w w' → shF shs i v w → shF shs i v w' := by
  intro i v w w' _ hs
  unfold shF at hs ⊢
  rw [List.getD_eq_getElem?_getD] at hs ⊢
  cases hg : shs[i]? with
  | none => trivial
  | some s =>
    obtain ⟨u, rfl⟩ := h s (List.mem_of_getElem? hg)
    rw [hg] at hs; exact hs
end
section
variable {P : Program} {ops : Array Oper} {Q : Exit → Act → World → Prop} {shs : List Sh} {a0 : Act} {w0 : World} {A : Array Edge} {i : Nat} {d : Option Tmp} {ty : TypeId} {pos : String} {G : Option (Nat × Bool)}
end
theorem laidOutA : laidOutB Tryd.prog = true := by kernel_rfl
theorem drew_grew (w : World) : Grew w w.drew := (Grew.refl w).drew
theorem grew_tr (a b c : World) (h : Grew a b) (k : Grew b c) : Grew a c := h.trans k
end Go.Proofs.YtkkdpafkafjfgaaDoor

namespace Go.Proofs.YtkkdpafkafjfgaaDoor
open Go.RowKit
set_option linter.unusedVariables false
end Go.Proofs.YtkkdpafkafjfgaaDoor

namespace Go.Proofs.YtkkdpafkafjfgaaDoor
open Go.RowKit
set_option linter.unusedVariables false
structure Held (w : World) (b : Nat) (A : Aut) (na : Option Addr) (nc : Nat) (ea : Option Addr) (ec : Nat) : Prop where
  box : Box w b A na nc ea ec
  rows : AutAt w A na ea
theorem Held.kept {w w' : World} {b : Nat} {A : Aut} {na : Option Addr} {nc : Nat} {ea : Option Addr} {ec : Nat} (h : Held w b A na nc ea ec) (g : Grew w w') : Held w' b A na nc ea ec := ⟨h.box.kept g, h.rows.kept g⟩
end Go.Proofs.YtkkdpafkafjfgaaDoor

namespace Go.Proofs.YtkkdpafkafjfgaaDoor
set_option linter.unusedVariables false
end Go.Proofs.YtkkdpafkafjfgaaDoor

namespace Go.Proofs.YtkkdpafkafjfgaaDoor
open Go.RowKit
set_option linter.unusedVariables false
theorem info_i64 : (Tryd.prog.info? 3).map (fun i => (i.zero, i.size, i.bytes)) = some (some (.int .i64 0), 1, 8) := by kernel_rfl
theorem make_ints (n : Nat) (hn : n ≤ 8192) (w : World) : ∃ w', (Instr.makeSlice 37 (.int .i64 (n : Int)) (.int .i64 (n : Int))).run Tryd.prog w = .ok (.slice (some ⟨w.heap.size, 0, none⟩) n n) w' ∧ ArrAt w' w.heap.size 0 n (fun _ => .int .i64 0) ∧ Grew w w' := by
  obtain ⟨i0, hi, hz0, hz1, hz2⟩ := info_parts info_i64
  exact make_row 37 3 i0 (.int .i64 0) Tryd.underlying37 hi hz0 hz1 rfl n (by rw [hz2]; omega) (by unfold maxLen; omega) w
end Go.Proofs.YtkkdpafkafjfgaaDoor

namespace Go.Proofs.YtkkdpafkafjfgaaDoor
open Tr
set_option linter.unusedVariables false
namespace Tr
end Tr
end Go.Proofs.YtkkdpafkafjfgaaDoor
namespace Go.Proofs.YtkkdpafkafjfgaaDoor
open Tr
set_option linter.unusedVariables false
end Go.Proofs.YtkkdpafkafjfgaaDoor
namespace Go.Proofs.YtkkdpafkafjfgaaDoor
open Tr
set_option linter.unusedVariables false
section
variable {C : Pat → Prop}
end
end Go.Proofs.YtkkdpafkafjfgaaDoor
namespace Go.Proofs.YtkkdpafkafjfgaaDoor
open Tr
set_option linter.unusedVariables false
section
variable (R : List Rule) (s : ByteArray)
variable {R s}
section
variable {n : Nat} {f : Pat → Pat}
end
end
end Go.Proofs.YtkkdpafkafjfgaaDoor
