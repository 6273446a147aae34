/- Regions that draw their order, the frame kept written out; an automaton loaded there. -/
import Derived.Test.YtkkdpafkafjfgaaDoorAgRegR
import Derived.Test.YtkkdpafkafjfgaaDoorAgAuA
import Derived.Test.YtkkdpafkafjfgaaDoorAgPGlZ
import Derived.Test.YtkkdpafkafjfgaaDoorCards
import Derived.Test.YtkkdpafkafjfgaaDoorTie
import Derived.LaidSub
import Derived.Lib.LaidTab
import Derived.ProofKit
import Derived.OpenShut
import Derived.Deep.DeepHandedRow
import Derived.Test.YtkkdpafkafjfgaaDoorAgPAuK
import Derived.Test.YtkkdpafkafjfgaaDoorAgPAuY
import Derived.Test.YtkkdpafkafjfgaaDoorAgPBase
import Derived.Lib.Builder
import Derived.Lib.Strings
import Derived.Lib.Slices
import Derived.Lib.Walk
import Derived.OwnWalk
import Derived.Laws.Externs
import Derived.Shelf.Strings.Builder1
import Derived.Shelf.Small.Strs
import Derived.Shelf.Strings.Search1
import Derived.Test.YtkkdpafkafjfgaaDoorProg
import Derived.Test.YtkkdpafkafjfgaaDoorAgAuM
namespace Go.Proofs.YtkkdpafkafjfgaaDoor
open Go.RowKit RR
set_option linter.unusedVariables false
theorem mixed : Tryd.prog.follows .mixedOrders = true := by kernel_rfl
section
variable {Rl : World → World → Prop} {P : Program} {ops : List Oper} {Q : Exit → Act → World → Prop} {a0 : Act} {w0 : World} {id : Nat}
theorem allSteps_J {J : Array Bool → Act → World → Prop} {F : Nat → Value → World → Prop} {os : Array Oper} (hJ : ∀ listed a w v w' i (o : Oper), listed.size = os.size → listed.getD i false = false → J listed a w → Rl w w' → J (listed.setIfInBounds i true) (a.put o.dst v) w') :
    ∀ (k : Nat) (l : List Oper), AllSteps Rl P os Q F a0 w0 k l → AllJ J Rl P os Q F a0 w0 k l
  | _, [], _ => trivial
  | k, o :: l, ⟨h1, h2⟩ => ⟨h1.keeps fun listed a w v w' hs hl hj hr => hJ listed a w v w' k o hs hl hj hr, allSteps_J hJ (k + 1) l h2⟩
theorem frameR (D : List Nat) (hm : P.follows .mixedOrders = true) (hRd : ∀ w : World, Rl w w.drew) (hRt : ∀ a b c : World, Rl a b → Rl b c → Rl a c) (shs : List Sh)
    (hmono : ∀ i v w w', Rl w w' → shF shs i v w → shF shs i v w') (hD : ops.filterMap (·.dst) = D) (hok : regionOk ops.toArray a0.tmps.size = true) (hstep : AllSteps Rl P ops.toArray Q (shF shs) a0 w0 0 ops)
    (hend : ∀ (xs : Nat → Value) w, Rl w0 w → (∀ (i : Nat) o d, ops.toArray[i]? = some o → o.dst = some d → shF shs i (xs d) w) → Q .normal ⟨D.foldl (fun t d => t.setIfInBounds d (xs d)) a0.tmps, a0.defers⟩ w) :
    (Code.region id ops.toArray true).wp P Q a0 w0 :=
  region_frame (J := fun _ _ _ => True) D hm hRd hRt shs trivial hmono hD hok (allSteps_J (fun _ _ _ _ _ _ _ _ _ _ _ => trivial) 0 ops hstep) fun xs _ _ w _ _ _ hR ht => hend xs w hR fun i o d ho hd => by
    obtain ⟨v, h1, h2⟩ := ht i o ho
    rw [h2 d hd]; exact h1
theorem vals_mono {shs : List Sh} (h : ∀ s ∈ shs, ∃ v, s = .val v) : ∀ i v w w', Rl w w' → shF shs i v w → shF shs i v w' := by
  intro i v w w' _ hs
  unfold shF at hs ⊢
  rw [List.getD_eq_getElem?_getD] at hs ⊢
  cases hg : shs[i]? with
  | none => trivial
  | some s =>
    obtain ⟨u, rfl⟩ := h s (List.mem_of_getElem? hg)
    rw [hg] at hs; exact hs
end
section
variable {P : Program} {ops : Array Oper} {Q : Exit → Act → World → Prop} {shs : List Sh} {a0 : Act} {w0 : World} {A : Array Edge} {i : Nat} {d : Option Tmp} {ty : TypeId} {pos : String} {G : Option (Nat × Bool)}
end
theorem laidOutA : laidOutB Tryd.prog = true := by kernel_rfl
theorem drew_grew (w : World) : Grew w w.drew := (Grew.refl w).drew
theorem grew_tr (a b c : World) (h : Grew a b) (k : Grew b c) : Grew a c := h.trans k
end Go.Proofs.YtkkdpafkafjfgaaDoor

namespace Go.Proofs.YtkkdpafkafjfgaaDoor
open Go.RowKit
set_option linter.unusedVariables false
def cellsD : DataW Unit → Array Value
  | .agg l => (l.map fun | .lit (.int k n) => Value.int k n | _ => Value.bool false).toArray
  | _ => #[]
def layCells (d : DataW Unit) : Obj → Obj
  | .cells _ t frozen => .cells (cellsD d) t frozen
  | o => o
def layTabs (h : Array Obj) : Array Obj :=
  let h1 := h.modify 0 (layCells Rows.laid_math_bits_deBruijn32tab)
  let h2 := h1.modify 1 (layCells Rows.laid_math_bits_deBruijn64tab)
  h2.modify 3 (layCells Rows.laid_internal_strconv_uint64pow10)
noncomputable def laidW (os : Os) : World :=
  { World.holding Tryd.prog os ⟨#[], #[], []⟩ with heap := layTabs (World.holding Tryd.prog os ⟨#[], #[], []⟩).heap }
theorem gTab32 : Tryd.prog.globalNamed "math/bits.deBruijn32tab" = some 0 := by kernel_rfl
theorem gTab32T : (Tryd.prog.globals[0]?).map (·.type) = some 143 := by kernel_rfl
theorem cellsTab32 : Tryd.prog.cellsOf 143 = 32 := by kernel_rfl
theorem cellsU8x : Tryd.prog.cellsOf 5 = 1 := by kernel_rfl
theorem tab32_met {W : World} (h3 : laidMet Tryd.prog [("math/bits.deBruijn32tab", Lib.tabData .u8 (Lib.deBruijn32tab.map Int.ofNat))] W) : TabZ32 W := by
  have h4 := Lib.tabIs_of_head (rest := []) gTab32 gTab32T Tryd.underlying143 Tryd.underlying5 cellsU8x cellsTab32 h3
  intro j hj
  have h5 := h4.cell gTab32 j (by simpa [Lib.deBruijn32tab] using hj)
  rw [h5]
  have hj2 : j < Lib.deBruijn32tab.length := hj
  simp [List.getD_eq_getElem?_getD, List.getElem?_eq_getElem hj2]
theorem tab32_alg {W : World} (h : laidMetH Tryd.prog Rows.autoAlgebraRow.laid W) : TabZ32 W :=
  tab32_met (laidMetH.filter (fun x => x.1 == "math/bits.deBruijn32tab") h)
end Go.Proofs.YtkkdpafkafjfgaaDoor

namespace Go.Proofs.YtkkdpafkafjfgaaDoor
set_option linter.unusedVariables false
set_option linter.unusedSectionVars false
def st2 (A B : RA) (x : Nat × Nat) (c : Nat) : Nat × Nat := (A.nx x.1 c, B.nx x.2 c)
theorem goS_two (A B : RA) : ∀ (l : List UInt8) (x : Nat × Nat), goS (st2 A B) x l = (A.go x.1 l, B.go x.2 l)
  | [], _ => rfl
  | c :: l, x => by rw [goS, goS_two A B l, RA.go, RA.go]; rfl
theorem goS_one (A : RA) : ∀ (l : List UInt8) (x : Nat), goS A.nx x l = A.go x l
  | [], _ => rfl
  | c :: l, x => by rw [goS, goS_one A l, RA.go]
theorem pair_at {m i k : Nat} (hk : k < m) : (i * m + k) / m = i ∧ (i * m + k) % m = k := by
  have hm : 0 < m := by omega
  constructor
  · rw [Nat.mul_comm, Nat.mul_add_div hm, Nat.div_eq_of_lt hk, Nat.add_zero]
  · rw [Nat.mul_comm, Nat.mul_add_mod, Nat.mod_eq_of_lt hk]
theorem pair_lt {n m i k : Nat} (hi : i < n) (hk : k < m) : i * m + k < n * m := by
  have : (i + 1) * m ≤ n * m := Nat.mul_le_mul_right _ hi
  rw [Nat.add_mul, Nat.one_mul] at this
  omega
section
variable {α β : Type} [DecidableEq α] [DecidableEq β]
end
end Go.Proofs.YtkkdpafkafjfgaaDoor

namespace Go.Proofs.YtkkdpafkafjfgaaDoor
open Go.RowKit
set_option linter.unusedVariables false
end Go.Proofs.YtkkdpafkafjfgaaDoor

namespace Go.Proofs.YtkkdpafkafjfgaaDoor
open Go.RowKit
set_option linter.unusedVariables false
structure Held (w : World) (b : Nat) (A : Aut) (na : Option Addr) (nc : Nat) (ea : Option Addr) (ec : Nat) : Prop where
  box : Box w b A na nc ea ec
  rows : AutAt w A na ea
theorem Held.kept {w w' : World} {b : Nat} {A : Aut} {na : Option Addr} {nc : Nat} {ea : Option Addr} {ec : Nat} (h : Held w b A na nc ea ec) (g : Grew w w') : Held w' b A na nc ea ec := ⟨h.box.kept g, h.rows.kept g⟩
set_option maxRecDepth 100000 in
theorem Step_any (A : Aut) (na ea : Option Addr) (nc ec : Nat) (b s c : Nat) (w : World) (h : Held w b A na nc ea ec) (hr : RightA A) (hs : s < A.next.length) (hc : c < 256) : Calls Tryd.prog 40 #[.pointer (some ⟨b, 0, none⟩), .int .i64 s, .int .u8 c] w fun e w' => e = .returned (.int .i64 (stepA A s c)) ∧ Grew w w' := by
  obtain ⟨n, hn⟩ : ∃ n, A.next.length = n := ⟨_, rfl⟩
  obtain ⟨ra, rc, h1, h2⟩ := h.rows.next
  obtain ⟨nb, no, rfl, hcx⟩ := h1.get hr.n0
  have c0 := hcx s hs
  have hsr := h2 s hs
  have k1 := hr.cl h.rows.c256 hc
  have k2 := hr.to h.rows.c256 hs hc
  obtain ⟨kn, hk⟩ : ∃ kn : Nat, A.cls.getD c 0 = (kn : Int) := ⟨(A.cls.getD c 0).toNat, by omega⟩
  have cc := h.box.cl.at0 c hc
  have cx := h.box.nx
  rw [hk] at cc k2
  rw [Int.toNat_natCast] at k2
  obtain ⟨rb, ro, hra, hrc⟩ := hsr.get (by omega)
  rw [hra] at c0
  have ct := hrc kn k2.1
  obtain ⟨m, hm⟩ : ∃ m : Nat, (A.next.getD s []).getD kn 0 = (m : Int) := ⟨((A.next.getD s []).getD kn 0).toNat, by omega⟩
  rw [hm] at ct
  have HT2 : Hid (stepA A s c = m) := by unfold stepA; rw [hk, Int.toNat_natCast, hm, Int.toNat_natCast]; rfl
  have hkl := k2.1
  rw [hn] at cx hs
  have hcl : (c : Int) < 256 := by omega
  have h9 : n ≤ 8192 := by have := hr.n1; omega
  generalize A.next.getD s [] = r at c0 hkl
  clear hk hm hra hrc hsr h2 h1 hcx k1 k2 hr h hn
  go_enter Tryd.func40, Tryd.ntmps40
  go_wp2_with fail
  have hk0 : w.drew.cell? ⟨b, 256, none⟩ = some (.slice (some ⟨nb, no, none⟩) n nc) ∧ w.drew.cell? ⟨nb, no + s, none⟩ = some (.slice (some ⟨rb, ro, none⟩) r.length (rc s)) ∧ w.drew.cell? ⟨b, c, none⟩ = some (.int .i64 kn) ∧ w.drew.cell? ⟨rb, ro + kn, none⟩ = some (.int .i64 m) := ⟨cx, c0, cc, ct⟩
  clear cx c0 cc ct
  go_region_held3 (fun g => g.cell? ⟨b, 256, none⟩ = some (.slice (some ⟨nb, no, none⟩) n nc) ∧ g.cell? ⟨nb, no + s, none⟩ = some (.slice (some ⟨rb, ro, none⟩) r.length (rc s)) ∧ g.cell? ⟨b, c, none⟩ = some (.int .i64 kn) ∧ g.cell? ⟨rb, ro + kn, none⟩ = some (.int .i64 m)) (with_reducible exact hk0) (fail)
  go_wp2_with fail
  go_ret
  rw [HT2.out]
  exact ⟨rfl, (Grew.refl w).drew⟩
end Go.Proofs.YtkkdpafkafjfgaaDoor

namespace Go.Proofs.YtkkdpafkafjfgaaDoor
open Go.RowKit
set_option linter.unusedVariables false
end Go.Proofs.YtkkdpafkafjfgaaDoor

namespace Go.Proofs
open Go.Shelf
end Go.Proofs

namespace Go.Proofs.YtkkdpafkafjfgaaDoor
open Go.RowKit
set_option linter.unusedVariables false
set_option maxRecDepth 100000
theorem run_zero {t : TypeId} {z : Value} (h : (Tryd.prog.info? t).map (·.zero) = some (some z)) (w : World) : (zeroValue t).run Tryd.prog w = .ok z w := by
  cases hq : Tryd.prog.info? t with
  | none => rw [hq] at h; cases h
  | some i =>
    have hs : i.zero = some z := by simpa [hq] using h
    simp [zeroValue, typeInfo, hq, hs]
def encI : Enc Tryd.prog 3 Nat := encNat Tryd.underlying3
theorem keyI : Maps.Keyed Tryd.prog 3 := Maps.int_keyed Tryd.underlying3
theorem intsI : ∃ i0, Tryd.prog.info? 3 = some i0 ∧ i0.zero = some (.int .i64 0) ∧ i0.size = 1 ∧ i0.bytes = 8 := info_parts (show (Tryd.prog.info? 3).map (fun i => (i.zero, i.size, i.bytes)) = some (some (.int .i64 0), 1, 8) by kernel_rfl)
section
variable {w wr w' : World} {A : Aut} {na : Option Addr} {nc : Nat} {ea : Option Addr} {ec mb : Nat} {L : List (Nat × List UInt8)} {i k : Nat} {qv qv' : Value}
end
end Go.Proofs.YtkkdpafkafjfgaaDoor

namespace Go.Proofs.YtkkdpafkafjfgaaDoor
open Go.RowKit
set_option linter.unusedVariables false
theorem info_i64 : (Tryd.prog.info? 3).map (fun i => (i.zero, i.size, i.bytes)) = some (some (.int .i64 0), 1, 8) := by kernel_rfl
theorem make_ints (n : Nat) (hn : n ≤ 8192) (w : World) : ∃ w', (Instr.makeSlice 37 (.int .i64 (n : Int)) (.int .i64 (n : Int))).run Tryd.prog w = .ok (.slice (some ⟨w.heap.size, 0, none⟩) n n) w' ∧ ArrAt w' w.heap.size 0 n (fun _ => .int .i64 0) ∧ Grew w w' := by
  obtain ⟨i0, hi, hz0, hz1, hz2⟩ := info_parts info_i64
  exact make_row 37 3 i0 (.int .i64 0) Tryd.underlying37 hi hz0 hz1 rfl n (by rw [hz2]; omega) (by unfold maxLen; omega) w
end Go.Proofs.YtkkdpafkafjfgaaDoor

namespace Go.Proofs.YtkkdpafkafjfgaaDoor
open Go.RowKit
set_option linter.unusedVariables false
theorem run_index_rowA (f : Nat → Int) {i : Nat} (hi : i < 256) (w : World) : (Instr.index 26 (.agg (rowI f)) (.int .i64 i)).run Tryd.prog w = .ok (.int .i64 (f i)) w :=
  run_index_arrA Tryd.underlying26 info_int Tryd.underlying3 rfl hi (rowI_get f hi) w
end Go.Proofs.YtkkdpafkafjfgaaDoor
