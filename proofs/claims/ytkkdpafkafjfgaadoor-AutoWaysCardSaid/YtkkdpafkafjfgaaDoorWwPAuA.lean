/- Whether an automaton takes a text: the program's Accepts. -/
import Derived.Test.YtkkdpafkafjfgaaDoorWwPAuY
import Derived.Deep.RegionHeld3
import Derived.Test.YtkkdpafkafjfgaaDoorWwRegR
import Derived.Test.YtkkdpafkafjfgaaDoorWwPAuK
import Derived.Test.YtkkdpafkafjfgaaDoorWwPBase
import Derived.Lib.Builder
import Derived.Lib.Strings
import Derived.Lib.Slices
import Derived.Lib.Walk
import Derived.OwnWalk
import Derived.Laws.Externs
import Derived.Test.YtkkdpafkafjfgaaDoorWwAuM
import Derived.Test.YtkkdpafkafjfgaaDoorWwShelfB
import Derived.Test.YtkkdpafkafjfgaaDoorWwPGlZ
import Derived.Test.YtkkdpafkafjfgaaDoorWwPStBits
import Derived.Test.YtkkdpafkafjfgaaDoorWwGlR
namespace Go.Proofs.YtkkdpafkafjfgaaDoor
open Go.RowKit
set_option linter.unusedVariables false
def runA (A : Aut) (t : List UInt8) : Nat := t.foldl (fun s b => stepA A s b.toNat) 0
theorem runA_snoc (A : Aut) (t : List UInt8) (b : UInt8) : runA A (t ++ [b]) = stepA A (runA A t) b.toNat := by unfold runA; rw [List.foldl_append]; rfl
theorem runA_lt {A : Aut} (h : RightA A) (hc : A.cls.length = 256) : ∀ t : List UInt8, runA A t < A.next.length := fun t => by
  induction t using snoc_ind with
  | h0 => exact h.n0
  | h1 l b ih => rw [runA_snoc]; exact (h.ok hc).nx _ _ ih b.toNat_lt
def takesA (A : Aut) (t : List UInt8) : Bool := A.ends.getD (runA A t) false
def accV (A : Aut) (t : List UInt8) : Value := if wrongA A = 0 then .tuple #[.bool (takesA A t), .int .i64 0] else .tuple #[.bool false, .int .i64 (wrongA A)]
theorem info_aut : (Tryd.prog.info? 30).map (·.size) = some 258 := by kernel_rfl
theorem wpList_load_aut {ops : Array Oper} {rest : List Oper} {o : Oper} {a : Act} {w : World} {Q : Exit → Act → World → Prop} (hgd : o.guard = none) {x : Operand} (ho : o.op = .load 30 x) {b : Nat} {av : Array Value} (hx : a.eval x = .pointer (some ⟨b, 0, none⟩)) (hA : w.heap[b]? = some (.cells av 30 (0, 0))) (hs : av.size = 258)
    (h : wpList Tryd.prog ops Q rest (a.put o.dst (.agg av)) w) : wpList Tryd.prog ops Q (o :: rest) a w := by
  refine wpList_plain hgd fun _ hK => ?_
  have hl := run_loadVar_row (P := Tryd.prog) w b 30 30 av (0, 0) _ hA Tryd.underlying30 rfl (by rw [hs]; exact info_aut)
  unfold Oper.wp execOp
  simp only [ho, hx, Instr.loadAt, Instr.sureAddr, Sem.run_bind, Sem.run_pure, Result.andThen_ok, hl]
  exact hK _ _ h
set_option maxRecDepth 100000 in
set_option maxHeartbeats 4000000 in
theorem Accepts_any (A : Aut) (na ea : Option Addr) (nc ec : Nat) (t : ByteArray) (w : World) (h : AutAt w A na ea) (ht : t.size ≤ maxLen) : Calls Tryd.prog 21 #[.agg (autB A na nc ea ec), .string t] w fun e w' => e = .returned (accV A t.data.toList) ∧ Grew w w' := by
  have hB := box_new w A na nc ea ec 30
  have hG := (Grew.refl w).alloc (.cells (autB A na nc ea ec) 30)
  have HWr := hidd (AWrong_any A na ea nc ec _ (h.kept hG))
  have HSz := hidd (autB_size A na nc ea ec)
  have HH := hidd (heap_alloc_new w (.cells (autB A na nc ea ec) 30))
  have a1 := autB_next A na nc ea ec
  have a2 := autB_ends A na nc ea ec
  generalize autB A na nc ea ec = av at hB hG a1 a2 HWr HSz HH ⊢
  have HB := hidd hB
  have HG := hidd hG
  have HA := hidd h
  unfold maxLen at ht
  clear hB hG h
  by_cases h0 : wrongA A = 0
  · have HV : Hid (accV A t.data.toList = .tuple #[.bool (takesA A t.data.toList), .int .i64 0]) := by unfold accV; rw [if_pos h0]; rfl
    rw [h0] at HWr
    have HR := hidd (wrongA_zero.1 h0)
    clear h0
    go_enter Tryd.func21, Tryd.ntmps21
    go_wp2_with (refine wpList_load_aut rfl rfl rfl HH.out HSz.out ?_)
    refine HWr.out.mono ?_; rintro e w1 ⟨rfl, g1⟩
    go_wp2_with fail
    have HG1 := hidd (HG.out.trans g1)
    have HA1 := hidd (HA.out.kept HG1.out)
    have HB1 := hidd (HB.out.kept g1)
    clear HB g1 HG HWr HH HSz
    obtain ⟨n, hn⟩ : ∃ n, A.next.length = n := ⟨_, rfl⟩
    have HN := hidd hn
    have h9 : n ≤ 8192 := by have := HR.out.n1; omega
    have hp : 0 < n := by have := HR.out.n0; omega
    have HLt : Hid (∀ l, runA A l < n) := fun l => by rw [← hn]; exact runA_lt HR.out HA.out.c256 l
    have hEl : A.ends.length = n := by rw [HR.out.ne, hn]
    have HEl := hidd hEl
    rw [hn] at a1
    rw [hEl] at a2
    clear hn hEl
    go_loopw [7, 16] (fun s7 s16 wr => ∃ i : Nat, s16 = .int .i64 i ∧ i ≤ t.size ∧ s7 = .int .i64 (runA A (t.data.toList.take i)) ∧ Hid (Grew w1 wr)) (fun _ s16 _ => t.size - (intOf s16).toNat)
    case atStart => exact ⟨0, rfl, by omega, rfl, Grew.refl w1⟩
    case round =>
      obtain ⟨i, rfl, hi, rfl, KG⟩ := hrel
      have HB2 := hidd (HB1.out.kept KG.out)
      have cx := HB2.out.nx
      have ce := HB2.out.en
      rw [HN.out] at cx
      rw [HEl.out] at ce
      by_cases hlt : i < t.size
      · have kl : decide ((i : Int) < (t.size : Int)) = true := decide_eq_true (by omega)
        obtain ⟨ra, rc, hs, hs2⟩ := (HA1.out.kept KG.out).next
        obtain ⟨nb, no, rfl, hc⟩ := hs.get (by rw [HN.out]; omega)
        obtain ⟨x, hx⟩ : ∃ x, t.data.toList[i]'hlt = x := ⟨_, rfl⟩
        have HTk : Hid (runA A (t.data.toList.take (i + 1)) = stepA A (runA A (t.data.toList.take i)) x.toNat) := by
          rw [List.take_succ_eq_append_getElem (show i < t.data.toList.length from hlt), runA_snoc, hx]; rfl
        have hsn := HLt.out (t.data.toList.take i)
        generalize runA A (t.data.toList.take i) = s at HTk hsn ⊢
        have c0 := hc s (by rw [HN.out]; exact hsn)
        have hsr := hs2 s (by rw [HN.out]; exact hsn)
        have hxl : x.toNat < 256 := x.toNat_lt
        obtain ⟨q, hq⟩ : ∃ q, x.toNat = q := ⟨_, rfl⟩
        have h1 := HR.out.cl HA.out.c256 (c := q) (by omega)
        have h2 := HR.out.to HA.out.c256 (s := s) (by rw [HN.out]; exact hsn) (c := q) (by omega)
        obtain ⟨kn, hk⟩ : ∃ kn : Nat, A.cls.getD q 0 = (kn : Int) := ⟨(A.cls.getD q 0).toNat, by omega⟩
        have cc := HB2.out.cl.at0 q (by omega)
        rw [hk] at cc h2
        rw [Int.toNat_natCast] at h2
        obtain ⟨rb, ro, hra, hrc⟩ := hsr.get (by omega)
        rw [hra] at c0
        have ct := hrc kn h2.1
        obtain ⟨m, hm⟩ : ∃ m : Nat, (A.next.getD s []).getD kn 0 = (m : Int) := ⟨((A.next.getD s []).getD kn 0).toNat, by omega⟩
        rw [hm] at ct
        have HT2 : Hid (runA A (t.data.toList.take (i + 1)) = m) := by
          rw [HTk.out, hq]; unfold stepA; rw [hk, Int.toNat_natCast, hm, Int.toNat_natCast]; rfl
        have hx2 : t[i]'hlt = x := hx
        have hkl := h2.1
        generalize A.next.getD s [] = r at c0 hkl
        clear HTk hk hm hra hrc hsr hs hs2 hc h1 h2
        have hk0 : wr.drew.cell? ⟨w.heap.size, 256, none⟩ = some (.slice (some ⟨nb, no, none⟩) n nc) ∧ wr.drew.cell? ⟨nb, no + s, none⟩ = some (.slice (some ⟨rb, ro, none⟩) r.length (rc s)) ∧ wr.drew.cell? ⟨w.heap.size, q, none⟩ = some (.int .i64 kn) ∧ wr.drew.cell? ⟨rb, ro + kn, none⟩ = some (.int .i64 m) := ⟨cx, c0, cc, ct⟩
        have hql : (q : Int) < 256 := by omega
        clear cx c0 cc ct a1 ce
        go_wp2_with fail
        go_region_held3 (fun g => g.cell? ⟨w.heap.size, 256, none⟩ = some (.slice (some ⟨nb, no, none⟩) n nc) ∧ g.cell? ⟨nb, no + s, none⟩ = some (.slice (some ⟨rb, ro, none⟩) r.length (rc s)) ∧ g.cell? ⟨w.heap.size, q, none⟩ = some (.int .i64 kn) ∧ g.cell? ⟨rb, ro + kn, none⟩ = some (.int .i64 m)) (with_reducible exact hk0) (fail)
        go_wp2_with fail
        go_roundw
        case rel => exact ⟨i + 1, by go_num, by omega, by rw [HT2.out], KG.out.drew⟩
        case measure => simp [intOf]; omega
      · have hie : i = t.size := by omega
        have kl : decide ((i : Int) < (t.size : Int)) = false := decide_eq_false (by omega)
        obtain ⟨eb, eo, rfl, he⟩ := (HA1.out.kept KG.out).ends.get (by rw [HEl.out]; omega)
        have HX : Hid (accV A t.data.toList = .tuple #[.bool (A.ends.getD (runA A (t.data.toList.take i)) false), .int .i64 0]) := by
          rw [HV.out, hie, List.take_of_length_le (show t.data.toList.length ≤ t.size from Nat.le_refl _)]; rfl
        have hsn := HLt.out (t.data.toList.take i)
        generalize runA A (t.data.toList.take i) = s at HX hsn ⊢
        have c0 := he s (by rw [HEl.out]; exact hsn)
        clear he
        go_wp2_with fail
        exact bodyPost_ret (results_tmp2 rfl _ _ _) rfl ⟨by rw [HX.out]; rfl, HG1.out.trans KG.out⟩
  · have HV : Hid (accV A t.data.toList = .tuple #[.bool false, .int .i64 (wrongA A)]) := by unfold accV; rw [if_neg h0]; rfl
    obtain ⟨W, hW⟩ : ∃ W, wrongA A = W := ⟨_, rfl⟩
    rw [hW] at h0 HWr HV
    have k1 : (W != 0) = true := by simpa using h0
    clear hW h0
    go_enter Tryd.func21, Tryd.ntmps21
    go_wp2_with (refine wpList_load_aut rfl rfl rfl HH.out HSz.out ?_)
    refine HWr.out.mono ?_; rintro e w1 ⟨rfl, g1⟩
    go_wp2_with fail
    exact bodyPost_ret (results_tmp2 rfl _ _ _) rfl ⟨by rw [HV.out]; rfl, HG.out.trans g1⟩
end Go.Proofs.YtkkdpafkafjfgaaDoor

namespace Go.Proofs.YtkkdpafkafjfgaaDoor
open Go.RowKit RR
set_option linter.unusedVariables false
theorem mixed : Tryd.prog.follows .mixedOrders = true := by kernel_rfl
section
variable {Rl : World → World → Prop} {P : Program} {ops : List Oper} {Q : Exit → Act → World → Prop} {a0 : Act} {w0 : World} {id : Nat}
theorem allSteps_J {J : Array Bool → Act → World → Prop} {F : Nat → Value → World → Prop} {os : Array Oper} (hJ : ∀ listed a w v w' i (o : Oper), listed.size = os.size → listed.getD i false = false → J listed a w → Rl w w' → J (listed.setIfInBounds i true) (a.put o.dst v) w') :
    ∀ (k : Nat) (l : List Oper), AllSteps Rl P os Q F a0 w0 k l → AllJ J Rl P os Q F a0 w0 k l
  | _, [], _ => trivial
  | k, o :: l, ⟨h1, h2⟩ => ⟨h1.keeps fun listed a w v w' hs hl hj hr => hJ listed a w v w' k o hs hl hj hr, allSteps_J hJ (k + 1) l h2⟩
theorem frameR (D : List Nat) (hm : P.follows .mixedOrders = true) (hRd : ∀ w : World, Rl w w.drew) (hRt : ∀ a b c : World, Rl a b → Rl b c → Rl a c) (shs : List Sh)
    (hmono : ∀ i v w w', Rl w w' → shF shs i v w → shF shs i v w') (hD : ops.filterMap (·.dst) = D) (hok : regionOk ops.toArray a0.tmps.size = true) (hstep : AllSteps Rl P ops.toArray Q (shF shs) a0 w0 0 ops)
    (hend : ∀ (xs : Nat → Value) w, Rl w0 w → (∀ (i : Nat) o d, ops.toArray[i]? = some o → o.dst = some d → shF shs i (xs d) w) → Q .normal ⟨D.foldl (fun t d => t.setIfInBounds d (xs d)) a0.tmps, a0.defers⟩ w) :
    (Code.region id ops.toArray true).wp P Q a0 w0 :=
  region_frame (J := fun _ _ _ => True) D hm hRd hRt shs trivial hmono hD hok (allSteps_J (fun _ _ _ _ _ _ _ _ _ _ _ => trivial) 0 ops hstep) fun xs _ _ w _ _ _ hR ht => hend xs w hR fun i o d ho hd => by
    obtain ⟨v, h1, h2⟩ := ht i o ho
    rw [h2 d hd]; exact h1
theorem vals_mono {shs : List Sh} (h : ∀ s ∈ shs, ∃ v, s = .val v) : ∀ i v w w', Rl w w' → shF shs i v w → shF shs i v w' := by
  intro i v w w' _ hs
  unfold shF at hs ⊢
  rw [List.getD_eq_getElem?_getD] at hs ⊢
  cases hg : shs[i]? with
  | none => trivial
  | some s =>
    obtain ⟨u, rfl⟩ := h s (List.mem_of_getElem? hg)
    rw [hg] at hs; exact hs
end
section
variable {P : Program} {ops : Array Oper} {Q : Exit → Act → World → Prop} {shs : List Sh} {a0 : Act} {w0 : World} {A : Array Edge} {i : Nat} {d : Option Tmp} {ty : TypeId} {pos : String} {G : Option (Nat × Bool)}
end
theorem laidOutA : laidOutB Tryd.prog = true := by kernel_rfl
theorem drew_grew (w : World) : Grew w w.drew := (Grew.refl w).drew
theorem grew_tr (a b c : World) (h : Grew a b) (k : Grew b c) : Grew a c := h.trans k
end Go.Proofs.YtkkdpafkafjfgaaDoor

namespace Go.Proofs.YtkkdpafkafjfgaaDoor
set_option linter.unusedVariables false
set_option linter.unusedSectionVars false
section
variable {α β : Type} [DecidableEq α] [DecidableEq β]
end
end Go.Proofs.YtkkdpafkafjfgaaDoor

namespace Go.Proofs.YtkkdpafkafjfgaaDoor
open Go.RowKit
set_option linter.unusedVariables false
end Go.Proofs.YtkkdpafkafjfgaaDoor

namespace Go.Proofs.YtkkdpafkafjfgaaDoor
open Go.RowKit
set_option linter.unusedVariables false
end Go.Proofs.YtkkdpafkafjfgaaDoor

namespace Go.Proofs.YtkkdpafkafjfgaaDoor
open Go.RowKit
set_option linter.unusedVariables false
end Go.Proofs.YtkkdpafkafjfgaaDoor

namespace Go.Proofs.YtkkdpafkafjfgaaDoor
open Go.RowKit
set_option linter.unusedVariables false
set_option maxRecDepth 100000
theorem run_zero {t : TypeId} {z : Value} (h : (Tryd.prog.info? t).map (·.zero) = some (some z)) (w : World) : (zeroValue t).run Tryd.prog w = .ok z w := by
  cases hq : Tryd.prog.info? t with
  | none => rw [hq] at h; cases h
  | some i =>
    have hs : i.zero = some z := by simpa [hq] using h
    simp [zeroValue, typeInfo, hq, hs]
def encI : Enc Tryd.prog 3 Nat := encNat Tryd.underlying3
theorem keyI : Maps.Keyed Tryd.prog 3 := Maps.int_keyed Tryd.underlying3
theorem intsI : ∃ i0, Tryd.prog.info? 3 = some i0 ∧ i0.zero = some (.int .i64 0) ∧ i0.size = 1 ∧ i0.bytes = 8 := info_parts (show (Tryd.prog.info? 3).map (fun i => (i.zero, i.size, i.bytes)) = some (some (.int .i64 0), 1, 8) by kernel_rfl)
section
variable {w wr w' : World} {A : Aut} {na : Option Addr} {nc : Nat} {ea : Option Addr} {ec mb : Nat} {L : List (Nat × List UInt8)} {i k : Nat} {qv qv' : Value}
end
end Go.Proofs.YtkkdpafkafjfgaaDoor

namespace Go.Proofs.YtkkdpafkafjfgaaDoor
set_option linter.unusedVariables false
end Go.Proofs.YtkkdpafkafjfgaaDoor

namespace Go.Proofs.YtkkdpafkafjfgaaDoor
open Go.RowKit
set_option linter.unusedVariables false
theorem info_i64 : (Tryd.prog.info? 3).map (fun i => (i.zero, i.size, i.bytes)) = some (some (.int .i64 0), 1, 8) := by kernel_rfl
theorem make_ints (n : Nat) (hn : n ≤ 8192) (w : World) : ∃ w', (Instr.makeSlice 37 (.int .i64 (n : Int)) (.int .i64 (n : Int))).run Tryd.prog w = .ok (.slice (some ⟨w.heap.size, 0, none⟩) n n) w' ∧ ArrAt w' w.heap.size 0 n (fun _ => .int .i64 0) ∧ Grew w w' := by
  obtain ⟨i0, hi, hz0, hz1, hz2⟩ := info_parts info_i64
  exact make_row 37 3 i0 (.int .i64 0) Tryd.underlying37 hi hz0 hz1 rfl n (by rw [hz2]; omega) (by unfold maxLen; omega) w
end Go.Proofs.YtkkdpafkafjfgaaDoor

namespace Go.Proofs.YtkkdpafkafjfgaaDoor
open Go.RowKit
set_option linter.unusedVariables false
theorem run_index_rowA (f : Nat → Int) {i : Nat} (hi : i < 256) (w : World) : (Instr.index 26 (.agg (rowI f)) (.int .i64 i)).run Tryd.prog w = .ok (.int .i64 (f i)) w :=
  run_index_arrA Tryd.underlying26 info_int Tryd.underlying3 rfl hi (rowI_get f hi) w
end Go.Proofs.YtkkdpafkafjfgaaDoor

namespace Go.Proofs.YtkkdpafkafjfgaaDoor
open Tr
set_option linter.unusedVariables false
namespace Tr
end Tr
end Go.Proofs.YtkkdpafkafjfgaaDoor
namespace Go.Proofs.YtkkdpafkafjfgaaDoor
open Tr
set_option linter.unusedVariables false
end Go.Proofs.YtkkdpafkafjfgaaDoor
namespace Go.Proofs.YtkkdpafkafjfgaaDoor
open Tr
set_option linter.unusedVariables false
section
variable {C : Pat → Prop}
end
end Go.Proofs.YtkkdpafkafjfgaaDoor
namespace Go.Proofs.YtkkdpafkafjfgaaDoor
open Tr
set_option linter.unusedVariables false
section
variable (R : List Rule) (s : ByteArray)
variable {R s}
section
variable {n : Nat} {f : Pat → Pat}
end
end
end Go.Proofs.YtkkdpafkafjfgaaDoor

namespace Go.Proofs.YtkkdpafkafjfgaaDoor
set_option linter.unusedVariables false
set_option linter.unusedSimpArgs false
end Go.Proofs.YtkkdpafkafjfgaaDoor
