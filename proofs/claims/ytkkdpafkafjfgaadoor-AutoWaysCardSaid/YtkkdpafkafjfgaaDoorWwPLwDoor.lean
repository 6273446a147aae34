/- What the rows' lists give (chapter 7), and a world for the witness. -/
import Derived.Test.YtkkdpafkafjfgaaDoorWwPGlZ
import Derived.Test.YtkkdpafkafjfgaaDoorWwPAuA
import Derived.Test.YtkkdpafkafjfgaaDoorWwPStBits
import Derived.Test.YtkkdpafkafjfgaaDoorCards
import Derived.Test.YtkkdpafkafjfgaaDoorTie
import Derived.LaidSub
import Derived.Lib.LaidTab
import Derived.ProofKit
import Derived.OpenShut
import Derived.Deep.DeepHandedRow
import Derived.Test.YtkkdpafkafjfgaaDoorWwScEnd
import Derived.Test.YtkkdpafkafjfgaaDoorWwAuEx
import Derived.DeepKeys5
import Derived.Test.YtkkdpafkafjfgaaDoorWwPStArr
namespace Go.Proofs.YtkkdpafkafjfgaaDoor
open Go.RowKit
set_option linter.unusedVariables false
def cellsD : DataW Unit → Array Value
  | .agg l => (l.map fun | .lit (.int k n) => Value.int k n | _ => Value.bool false).toArray
  | _ => #[]
def layCells (d : DataW Unit) : Obj → Obj
  | .cells _ t frozen => .cells (cellsD d) t frozen
  | o => o
def layTabs (h : Array Obj) : Array Obj :=
  let h1 := h.modify 0 (layCells Rows.laid_math_bits_deBruijn32tab)
  let h2 := h1.modify 1 (layCells Rows.laid_math_bits_deBruijn64tab)
  h2.modify 3 (layCells Rows.laid_internal_strconv_uint64pow10)
noncomputable def laidW (os : Os) : World :=
  { World.holding Tryd.prog os ⟨#[], #[], []⟩ with heap := layTabs (World.holding Tryd.prog os ⟨#[], #[], []⟩).heap }
theorem gTab32 : Tryd.prog.globalNamed "math/bits.deBruijn32tab" = some 0 := by kernel_rfl
theorem gTab32T : (Tryd.prog.globals[0]?).map (·.type) = some 143 := by kernel_rfl
theorem cellsTab32 : Tryd.prog.cellsOf 143 = 32 := by kernel_rfl
theorem cellsU8x : Tryd.prog.cellsOf 5 = 1 := by kernel_rfl
theorem tab32_met {W : World} (h3 : laidMet Tryd.prog [("math/bits.deBruijn32tab", Lib.tabData .u8 (Lib.deBruijn32tab.map Int.ofNat))] W) : TabZ32 W := by
  have h4 := Lib.tabIs_of_head (rest := []) gTab32 gTab32T Tryd.underlying143 Tryd.underlying5 cellsU8x cellsTab32 h3
  intro j hj
  have h5 := h4.cell gTab32 j (by simpa [Lib.deBruijn32tab] using hj)
  rw [h5]
  have hj2 : j < Lib.deBruijn32tab.length := hj
  simp [List.getD_eq_getElem?_getD, List.getElem?_eq_getElem hj2]
theorem tab32_ways {W : World} (h : laidMetH Tryd.prog Rows.autoWaysRow.laid W) : TabZ32 W :=
  tab32_met (laidMetH.filter (fun x => x.1 == "math/bits.deBruijn32tab") h)
end Go.Proofs.YtkkdpafkafjfgaaDoor

namespace Go.Proofs.YtkkdpafkafjfgaaDoor
open Go.RowKit
set_option linter.unusedVariables false
theorem gPow : Tryd.prog.globalNamed "internal/strconv.uint64pow10" = some 3 := by kernel_rfl
theorem gPowT : (Tryd.prog.globals[3]?).map (·.type) = some 236 := by kernel_rfl
theorem cellsPow : Tryd.prog.cellsOf 236 = 20 := by kernel_rfl
theorem cellsU64 : Tryd.prog.cellsOf 75 = 1 := by kernel_rfl
theorem tabp_ways {W : World} (h : laidMetH Tryd.prog Rows.autoWaysRow.laid W) : TabP W := by
  have h2 := laidMetH.filter (fun x => x.1 == "internal/strconv.uint64pow10") h
  have h3 : laidMet Tryd.prog [("internal/strconv.uint64pow10", Lib.tabData .u64 Lib.pow10Tab)] W := h2
  exact Lib.tabIs_of_head (rest := []) gPow gPowT Tryd.underlying236 Tryd.underlying75 cellsU64 cellsPow h3
end Go.Proofs.YtkkdpafkafjfgaaDoor

namespace Go.Proofs.YtkkdpafkafjfgaaDoor
open Go.RowKit RR
set_option linter.unusedVariables false
set_option maxRecDepth 100000
theorem field_raw0 (b : Nat) (w : World) : (Instr.fieldAt 147 (.pointer (some ⟨b, 0, none⟩)) 0).run Tryd.prog w = .ok (.pointer (some ⟨b, 0, none⟩)) w := by kernel_rfl
theorem field_raw1 (b : Nat) (w : World) : (Instr.fieldAt 147 (.pointer (some ⟨b, 0, none⟩)) 1).run Tryd.prog w = .ok (.pointer (some ⟨b, 1, none⟩)) w := by kernel_rfl
theorem build_bool (v : Bool) (w : World) : (Instr.buildSlice 28 1 #[(0, .bool v)]).run Tryd.prog w = .ok (.slice (some ⟨w.heap.size, 0, none⟩) 1 1) (w.alloc (.cells #[.bool v] 4)) := by kernel_rfl
theorem agg_slices (w : World) : (isAgg 90).run Tryd.prog w = .ok false w := run_isAgg Tryd.underlying90 w
theorem agg_boolsl (w : World) : (isAgg 28).run Tryd.prog w = .ok false w := run_isAgg Tryd.underlying28 w
theorem zero_int (w : World) : (zeroValue 3).run Tryd.prog w = .ok (.int .i64 0) w := run_zero (by kernel_rfl) w
theorem info_boolx : ∃ i0, Tryd.prog.info? 4 = some i0 ∧ i0.zero = some (.bool false) ∧ i0.size = 1 ∧ i0.bytes = 1 := info_parts (show (Tryd.prog.info? 4).map (fun i => (i.zero, i.size, i.bytes)) = some (some (.bool false), 1, 1) by kernel_rfl)
theorem info_rowx : ∃ i0, Tryd.prog.info? 26 = some i0 ∧ i0.zero = some (.agg (rowI fun _ => 0)) ∧ i0.size = 256 ∧ i0.bytes = 2048 := info_parts info_rows
theorem arr_next {w : World} {g c q : Nat} {row : Nat → Nat} (hc : c < 256) (h : ArrAt w g 0 256 fun j => .int .i64 ((if j < c then row j else 0 : Nat) : Int)) :
    ArrAt (w.setCell ⟨g, c, none⟩ (.int .i64 (q : Nat))) g 0 256 fun j => .int .i64 ((if j < c + 1 then (if j = c then q else row j) else 0 : Nat) : Int) :=
  (h.set0 c hc _).congr fun j hj => by
    by_cases e : j = c
    · subst e; rw [if_pos rfl, if_pos (by omega), if_pos rfl]
    · rw [if_neg e]
      by_cases e2 : j < c
      · rw [if_pos e2, if_pos (by omega), if_neg e]
      · rw [if_neg e2, if_neg (by omega)]
theorem arr_block {w w' : World} {g n : Nat} {f : Nat → Value} (h : ArrAt w g 0 n f) (e : w'.heap[g]? = w.heap[g]?) : ArrAt w' g 0 n f := fun j hj => by
  rw [World.cell?_of_block (a := ⟨g, 0 + j, none⟩) e, World.frozen?_of_block (a := ⟨g, 0 + j, none⟩) e]; exact h j hj
theorem flat_one {α : Type} (f : α → Value) (l : List α) : l.flatMap (fun x => [f x]) = l.map f := by
  induction l with
  | nil => rfl
  | cons x l ih => rw [List.flatMap_cons, ih]; rfl
end Go.Proofs.YtkkdpafkafjfgaaDoor

namespace Go.Proofs.YtkkdpafkafjfgaaDoor
open Go.RowKit RR
set_option linter.unusedVariables false
set_option maxRecDepth 100000
theorem mapM_some {α β : Type} {f : α → Option β} {g : α → β} : ∀ {l : List α}, (∀ x ∈ l, f x = some (g x)) → l.mapM f = some (l.map g)
  | [], _ => rfl
  | x :: l, h => by
    rw [List.mapM_cons, h x (by simp), mapM_some fun y hy => h y (by simp [hy])]; rfl
theorem keyOf_row {P : Program} {k e : TypeId} {n : Nat} (hu : P.underlying k = some (.array n e)) (he : P.underlying e = some (.int .i64)) (hkt : P.keyType k = true) (hce : P.cellsOf e = 1) (hck : P.cellsOf k = n) (hp : ∃ m, P.types.size = m + 1) (f : Nat → Int) (hf : ∀ i, i < n → (Lit.int .i64 (f i)).wf = true) :
    ∃ y, keyOf P k (.agg ((List.range n).map fun i => Value.int .i64 (f i)).toArray) = some y := by
  obtain ⟨m, hm⟩ := hp
  have hsz : ((List.range n).map fun i => Value.int .i64 (f i)).length = n := by simp
  unfold keyOf
  rw [hu]
  dsimp only
  have h1 : (P.keyType k && (Value.agg ((List.range n).map fun i => Value.int .i64 (f i)).toArray).formed P k) = true := by
    rw [hkt]; unfold Value.formed; rw [hu]; simp [hck]
  rw [if_pos h1]
  have h2 : P.keyLits (P.types.size + 1) k (Value.agg ((List.range n).map fun i => Value.int .i64 (f i)).toArray).cells.toList = some (((List.range n).map fun i => [Lit.int .i64 (f i)]).flatten) := by
    show P.keyLits (P.types.size + 1) k ((List.range n).map fun i => Value.int .i64 (f i)) = _
    unfold Program.keyLits
    rw [hu]
    dsimp only
    rw [if_pos (by rw [hsz, hck])]
    rw [mapM_some (g := fun i => [Lit.int .i64 (f i)]) fun i hi => ?_]
    · rfl
    · have hi := List.mem_range.1 hi
      rw [hce, Nat.mul_one]
      have e1 : (List.drop i ((List.range n).map fun i => Value.int .i64 (f i))).take 1 = [Value.int .i64 (f i)] := by
        rw [List.drop_eq_getElem_cons (by rw [hsz]; exact hi), List.take_succ_cons, List.take_zero]
        simp
      rw [e1, hm]
      unfold Program.keyLits
      rw [he]
      dsimp only
      rw [if_pos ⟨rfl, hf i hi⟩]
  rw [h2]
  exact ⟨_, rfl⟩
theorem types_pos : ∃ m, Tryd.prog.types.size = m + 1 := ⟨Tryd.prog.types.size - 1, by have : 0 < Tryd.prog.types.size := of_decide_eq_true (by kernel_rfl); omega⟩
end Go.Proofs.YtkkdpafkafjfgaaDoor

namespace Go.Proofs.YtkkdpafkafjfgaaDoor
open Go.RowKit RR
set_option linter.unusedVariables false
set_option maxRecDepth 100000
end Go.Proofs.YtkkdpafkafjfgaaDoor

namespace Go.Proofs.YtkkdpafkafjfgaaDoor
open Go.RowKit
set_option linter.unusedVariables false
theorem not_lt (b : Nat) : 18446744073709551615 - b < 18446744073709551616 := by omega
theorem testBit_not64 (x j : Nat) (hx : x < 18446744073709551616) : (18446744073709551615 - x).testBit j = (decide (j < 64) && !x.testBit j) := by
  rw [show 18446744073709551615 - x = 2 ^ 64 - (x + 1) by omega, Nat.testBit_two_pow_sub_succ hx]
theorem xor_not (x : Nat) (hx : x < 18446744073709551616) : 18446744073709551615 ^^^ x = 18446744073709551615 - x := by
  apply Nat.eq_of_testBit_eq
  intro j
  rw [Nat.testBit_xor, testBit_not64 x j hx, show 18446744073709551615 = 2 ^ 64 - 1 from rfl, Nat.testBit_two_pow_sub_one]
  by_cases hj : j < 64
  · simp [hj]
  · have := Nat.testBit_lt_two_pow (x := x) (i := j) (Nat.lt_of_lt_of_le hx (Nat.pow_le_pow_right (n := 2) (i := 64) (by decide) (by omega)))
    simp [hj, this]
theorem word_not (f : Nat → Bool) (b : Nat) : 18446744073709551615 - word f b 64 = word (fun i => !f i) b 64 :=
  word_eq (not_lt _) (fun j hj => by rw [testBit_not64 _ _ (word_lt64 f b), testBit_word]; simp [hj])
theorem words_eq {A B : Nat → Nat} (h : ∀ j, A j = B j) : setW A = setW B := by rw [funext h]
theorem not_fn (a b : Nat) (w : World) (ha : a < 18446744073709551616) (hb : b < 18446744073709551616) :
    Calls Tryd.prog 99 #[.int .u64 a, .int .u64 b] w fun e w' => e = .returned (.int .u64 ((18446744073709551615 - a : Nat) : Int)) ∧ w' = w := by
  have h := show bits .xor .u64 IntKind.u64.max (a : Int) = _ from bits_xor_u64_nat 18446744073709551615 a (by omega) ha
  rw [xor_not a ha] at h
  go_enter Tryd.func99, Tryd.ntmps99
  go_wp2_with fail
  go_ret
  all_goals exact ⟨rfl, rfl⟩
set_option maxHeartbeats 1000000 in
theorem not_each (A B : Nat → Nat) (w : World) (hA : W64 A) (hB : W64 B) :
    Calls Tryd.prog 98 #[setW A, setW B, .func (.func 99) #[] #[]] w fun e w' => e = .returned (setW (fun j => 18446744073709551615 - A j)) ∧ Grew w w' := by
  have HZ : Hid (ArrAt (((w.alloc (.cells (wordsB A) 77)).alloc (.cells (wordsB B) 77)).alloc (.cells (wordsB fun _ => 0) 77)) w.heap.size 0 4 (fun j => .int .u64 (A j))) := ((words_at w A).alloc _).alloc _
  have HY : Hid (ArrAt (((w.alloc (.cells (wordsB A) 77)).alloc (.cells (wordsB B) 77)).alloc (.cells (wordsB fun _ => 0) 77)) (w.heap.size + 1) 0 4 (fun j => .int .u64 (B j))) := by
    have := words_at (w.alloc (.cells (wordsB A) 77)) B
    rw [World.size_alloc] at this
    exact this.alloc _
  have HX : Hid (ArrAt (((w.alloc (.cells (wordsB A) 77)).alloc (.cells (wordsB B) 77)).alloc (.cells (wordsB fun _ => 0) 77)) (w.heap.size + 1 + 1) 0 4 (fun j => .int .u64 ((0 : Nat) : Int))) := by
    have := words_at ((w.alloc (.cells (wordsB A) 77)).alloc (.cells (wordsB B) 77)) (fun _ => 0)
    rw [World.size_alloc, World.size_alloc] at this
    exact this
  have HW : Hid (Grew w (((w.alloc (.cells (wordsB A) 77)).alloc (.cells (wordsB B) 77)).alloc (.cells (wordsB fun _ => 0) 77))) := (((Grew.refl w).alloc _).alloc _).alloc _
  unfold wordsB at HZ HY HX HW
  unfold setW
  have HA := hidd hA
  have HB := hidd hB
  clear hA hB
  go_enter Tryd.func98, Tryd.ntmps98
  go_wp2_with fail
  go_loopw [7, 8] (fun u7 u8 wr => ∃ (i : Nat), u8 = .int .i64 i ∧ i ≤ 4 ∧ Hid (ArrAt wr w.heap.size 0 4 (fun j => .int .u64 (A j))) ∧ Hid (ArrAt wr (w.heap.size + 1) 0 4 (fun j => .int .u64 (B j))) ∧ Hid (ArrAt wr (w.heap.size + 1 + 1) 0 4 (fun j => .int .u64 ((if j < i then 18446744073709551615 - A j else 0 : Nat) : Int))) ∧ Hid (Grew w wr)) (fun _ u8 _ => 4 - (intOf u8).toNat)
  case atStart => exact ⟨0, rfl, by omega, HZ, HY, (by rw [Hid]; exact HX.out.congr fun j hj => by simp), HW⟩
  case round =>
    obtain ⟨i, rfl, hi, KA, KB, KS, KW⟩ := hrel
    by_cases h : i < 4
    · have ca := KA.out.at0 i h
      have cb := KB.out.at0 i h
      have cs := KS.out.at0 i h
      have cf := KS.out.free0 i h
      have la := HA.out i
      have lb := HB.out i
      go_wp2_with fail
      go_region_with (go_at_call 99; refine (not_fn _ _ _ la lb).mono ?_; rintro e w1 ⟨rfl, rfl⟩)
      all_goals (
        have KA' := hidd ((KA.out.other ⟨w.heap.size + 1 + 1, i, none⟩ (by simp; omega) (.int .u64 ((18446744073709551615 - A i : Nat) : Int))).drew)
        have KB' := hidd ((KB.out.other ⟨w.heap.size + 1 + 1, i, none⟩ (by simp) (.int .u64 ((18446744073709551615 - A i : Nat) : Int))).drew)
        have KS' := hidd ((KS.out.set0 i h (.int .u64 ((18446744073709551615 - A i : Nat) : Int))).drew)
        have KW' := hidd ((KW.out.setCell (p := ⟨w.heap.size + 1 + 1, i, none⟩) (by simp; omega) (.int .u64 ((18446744073709551615 - A i : Nat) : Int))).drew)
        go_wp2_with fail
        refine ⟨⟨i + 1, (by simp), (by omega), KA', KB', (by
          rw [Hid]; exact KS'.out.congr fun j hj => by
            by_cases e : j = i
            · subst e; simp
            · have : (j < i + 1) = (j < i) := by apply propext; omega
              simp [e, this]), KW'⟩, (by simp [intOf]; omega)⟩)
    · obtain rfl : i = 4 := by omega
      have c0 := KS.out.at0 0 (by omega)
      have c1 := KS.out.at0 1 (by omega)
      have c2 := KS.out.at0 2 (by omega)
      have c3 := KS.out.at0 3 (by omega)
      simp only [show (0:Nat) < 4 from by omega, show (1:Nat) < 4 from by omega, show (2:Nat) < 4 from by omega, show (3:Nat) < 4 from by omega, if_true] at c0 c1 c2 c3
      have f0 := KS.out.free0 0 (by omega)
      have f1 := KS.out.free0 1 (by omega)
      have f2 := KS.out.free0 2 (by omega)
      have f3 := KS.out.free0 3 (by omega)
      go_wp2_with fail
      (try simp only [Exit.inBlock, Exit.then])
      refine bodyPost_arr (n := 4) rfl rfl ((((KS.out.set0 0 (by omega) _).set0 1 (by omega) _).set0 2 (by omega) _).set0 3 (by omega) _) Tryd.underlying77 rfl info_set rfl ⟨?_, ?_⟩
      · refine congrArg (fun x => Ending.returned (.agg x)) ((rowB_congr (g := fun j => .int .u64 ((18446744073709551615 - A j : Nat) : Int)) fun j hj => ?_).trans rfl)
        match j, hj with
        | 0, _ => rfl
        | 1, _ => rfl
        | 2, _ => rfl
        | 3, _ => rfl
      · exact (((KW.out.setCell (by simp <;> omega) _).setCell (by simp <;> omega) _).setCell (by simp <;> omega) _).setCell (by simp <;> omega) _
set_option maxHeartbeats 1000000 in
theorem Not_w (A : Nat → Nat) (w : World) (hA : W64 A) :
    Calls Tryd.prog 57 #[setW A] w fun e w' => e = .returned (setW (fun j => 18446744073709551615 - A j)) ∧ Grew w w' := by
  have HX : Hid (ArrAt ((w.alloc (.cells (wordsB A) 77)).alloc (.cells (wordsB fun _ => 0) 77)) (w.heap.size + 1) 0 4 (fun j => .int .u64 ((0 : Nat) : Int))) := by
    have := words_at (w.alloc (.cells (wordsB A) 77)) (fun _ => 0)
    rw [World.size_alloc] at this
    exact this
  have HW : Hid (Grew w ((w.alloc (.cells (wordsB A) 77)).alloc (.cells (wordsB fun _ => 0) 77))) := (((Grew.refl w).alloc _).alloc _)
  have HE := fun w0 : World => not_each A A w0
  unfold wordsB at HX HW
  unfold setW at HE ⊢
  have HA := hidd hA
  clear hA
  go_enter Tryd.func57, Tryd.ntmps57
  go_wp2_with fail
  refine (HE _ HA.out HA.out).mono ?_; rintro e w1 ⟨rfl, G⟩
  have KS := hidd (HX.out.kept G)
  have G1 := hidd (HW.out.trans G)
  clear G HE HX HW
  have c0 := KS.out.at0 0 (by omega)
  have c1 := KS.out.at0 1 (by omega)
  have c2 := KS.out.at0 2 (by omega)
  have c3 := KS.out.at0 3 (by omega)
  have f0 := KS.out.free0 0 (by omega)
  have f1 := KS.out.free0 1 (by omega)
  have f2 := KS.out.free0 2 (by omega)
  have f3 := KS.out.free0 3 (by omega)
  go_wp2_with fail
  (try simp only [Exit.inBlock, Exit.then])
  refine bodyPost_arr (n := 4) rfl rfl ((((KS.out.set0 0 (by omega) _).set0 1 (by omega) _).set0 2 (by omega) _).set0 3 (by omega) _) Tryd.underlying77 rfl info_set rfl ⟨?_, ?_⟩
  · refine congrArg (fun x => Ending.returned (.agg x)) ((rowB_congr (g := fun j => .int .u64 ((18446744073709551615 - A j : Nat) : Int)) fun j hj => ?_).trans rfl)
    match j, hj with
    | 0, _ => rfl
    | 1, _ => rfl
    | 2, _ => rfl
    | 3, _ => rfl
  · exact (((G1.out.setCell (by simp <;> omega) _).setCell (by simp <;> omega) _).setCell (by simp <;> omega) _).setCell (by simp <;> omega) _
theorem Not_any (f : Nat → Bool) (w : World) : Calls Tryd.prog 57 #[setV f] w fun e w' => e = .returned (setV fun i => !f i) ∧ Grew w w' := by
  have := Not_w (fun j => word f (64 * j) 64) w (fun j => word_lt64 f _)
  rw [words_eq (fun j => word_not f (64 * j))] at this
  exact this
end Go.Proofs.YtkkdpafkafjfgaaDoor
