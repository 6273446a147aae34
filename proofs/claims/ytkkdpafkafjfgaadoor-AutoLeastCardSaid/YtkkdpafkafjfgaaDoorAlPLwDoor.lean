/- What the rows' lists give (chapter 7), and a world for the witness. -/
import Derived.Test.YtkkdpafkafjfgaaDoorAlPGlZ
import Derived.Test.YtkkdpafkafjfgaaDoorAlStBits
import Derived.Test.YtkkdpafkafjfgaaDoorCards
import Derived.Test.YtkkdpafkafjfgaaDoorTie
import Derived.LaidSub
import Derived.Lib.LaidTab
import Derived.ProofKit
import Derived.OpenShut
import Derived.Deep.DeepHandedRow
import Derived.Test.YtkkdpafkafjfgaaDoorAlAuLs
namespace Go.Proofs.YtkkdpafkafjfgaaDoor
open Go.RowKit
set_option linter.unusedVariables false
def cellsD : DataW Unit → Array Value
  | .agg l => (l.map fun | .lit (.int k n) => Value.int k n | _ => Value.bool false).toArray
  | _ => #[]
def layCells (d : DataW Unit) : Obj → Obj
  | .cells _ t frozen => .cells (cellsD d) t frozen
  | o => o
def layTabs (h : Array Obj) : Array Obj :=
  let h1 := h.modify 0 (layCells Rows.laid_math_bits_deBruijn32tab)
  let h2 := h1.modify 1 (layCells Rows.laid_math_bits_deBruijn64tab)
  h2.modify 3 (layCells Rows.laid_internal_strconv_uint64pow10)
noncomputable def laidW (os : Os) : World :=
  { World.holding Tryd.prog os ⟨#[], #[], []⟩ with heap := layTabs (World.holding Tryd.prog os ⟨#[], #[], []⟩).heap }
theorem gTab32 : Tryd.prog.globalNamed "math/bits.deBruijn32tab" = some 0 := by kernel_rfl
theorem gTab32T : (Tryd.prog.globals[0]?).map (·.type) = some 143 := by kernel_rfl
theorem cellsTab32 : Tryd.prog.cellsOf 143 = 32 := by kernel_rfl
theorem cellsU8x : Tryd.prog.cellsOf 5 = 1 := by kernel_rfl
theorem tab32_met {W : World} (h3 : laidMet Tryd.prog [("math/bits.deBruijn32tab", Lib.tabData .u8 (Lib.deBruijn32tab.map Int.ofNat))] W) : TabZ32 W := by
  have h4 := Lib.tabIs_of_head (rest := []) gTab32 gTab32T Tryd.underlying143 Tryd.underlying5 cellsU8x cellsTab32 h3
  intro j hj
  have h5 := h4.cell gTab32 j (by simpa [Lib.deBruijn32tab] using hj)
  rw [h5]
  have hj2 : j < Lib.deBruijn32tab.length := hj
  simp [List.getD_eq_getElem?_getD, List.getElem?_eq_getElem hj2]
theorem tab32_least {W : World} (h : laidMetH Tryd.prog Rows.autoLeastRow.laid W) : TabZ32 W :=
  tab32_met (laidMetH.filter (fun x => x.1 == "math/bits.deBruijn32tab") h)
end Go.Proofs.YtkkdpafkafjfgaaDoor

namespace Go.Proofs.YtkkdpafkafjfgaaDoor
open Go.RowKit RR
set_option linter.unusedVariables false
set_option maxRecDepth 100000
set_option linter.unusedSimpArgs false
section
variable {P : Program} {wb w0 : World} {g : Nat} {Fin : World → Prop} {mk : List Nat} {is : Nat} {ops : Array Oper} {Q : Exit → Act → World → Prop} {shs : List Sh} {a0 : Act} {A : Array Edge} {i : Nat} {d : Option Tmp} {op : Op} {ty : TypeId} {pos : String} {G : Option (Nat × Bool)}
end
section
variable {P : Program} {w0 : World} {ops : Array Oper} {Q : Exit → Act → World → Prop} {shs : List Sh} {a0 : Act} {A : Array Edge} {i : Nat} {d : Option Tmp} {ty : TypeId} {pos : String} {G : Option (Nat × Bool)}
end
theorem agg_bool (w : World) : (isAgg 4).run Tryd.prog w = .ok false w := run_isAgg Tryd.underlying4 w
end Go.Proofs.YtkkdpafkafjfgaaDoor

namespace Go.Proofs.YtkkdpafkafjfgaaDoor
open Go.RowKit RR
set_option linter.unusedVariables false
set_option maxRecDepth 100000
set_option linter.unusedSimpArgs false
def zeroA : Aut := ⟨List.replicate 256 0, [], []⟩
theorem zeroA_cls {j : Nat} (h : j < 256) : zeroA.cls.getD j 0 = 0 := by
  show (List.replicate 256 (0 : Int)).getD j 0 = 0
  rw [List.getD_eq_getElem?_getD, List.getElem?_replicate, if_pos h]; rfl
theorem zeroA_B : autB zeroA none 0 none 0 = zAut := by
  apply Array.ext_getElem?
  intro j
  by_cases h1 : j < 256
  · rw [autB_cls _ _ _ _ _ h1, zeroA_cls h1]
    unfold zAut; rw [Array.getElem?_append_left (by rw [rowI_size]; exact h1), rowI_get _ h1]
  · unfold zAut
    rw [Array.getElem?_append_right (by rw [rowI_size]; omega), rowI_size]
    by_cases h2 : j = 256
    · subst h2; rw [autB_next]; rfl
    · by_cases h3 : j = 257
      · subst h3; rw [autB_ends]; rfl
      · rw [Array.getElem?_eq_none (by rw [autB_size]; omega), Array.getElem?_eq_none (by simp; omega)]
theorem zeroA_at (w : World) : AutAt w zeroA none none :=
  ⟨List.length_replicate, fun j hj => by rw [zeroA_cls hj]; exact ⟨by decide, by decide⟩, ⟨fun _ => none, fun _ => 0, Or.inl rfl, fun i hi => absurd hi (Nat.not_lt_zero _)⟩, Or.inl rfl, Nat.zero_le _, Nat.zero_le _, fun i hi => absurd hi (Nat.not_lt_zero _), fun i hi => absurd hi (Nat.not_lt_zero _)⟩
def TwoEnd (w : World) (err : Int) (L : List UInt8 → Bool) : Ending → World → Prop := fun e w' =>
  ∃ B na nc ea ec, e = .returned (.tuple #[.agg (autB B na nc ea ec), .int .i64 err]) ∧ AutNew w.heap.size w' B na ea ∧ Grew w w' ∧ (err ≠ 0 → B = zeroA) ∧ (err = 0 → ∃ S : RA, S.n ≤ 8192 ∧ (∀ l, S.tak 0 l = L l) ∧ LeastOf S B)
theorem autB_one (A : Aut) (na : Option Addr) (nc : Nat) (ea : Option Addr) (ec : Nat) : (autB A na nc ea ec).all (·.oneCell') = true := by
  rw [Array.all_eq_true_iff_forall_mem]
  intro v hv
  unfold autB clsB at hv
  rw [Array.mem_append] at hv
  rcases hv with hv | hv
  · simp at hv
    obtain ⟨_, _, rfl⟩ := hv; rfl
  · simp at hv
    rcases hv with rfl | rfl <;> rfl
section
variable {ops : Array Oper} {rest : List Oper} {o : Oper} {a : Act} {w : World} {Q : Exit → Act → World → Prop}
theorem wpList_store_aut (hgd : o.guard = none) {x y : Operand} (ho : o.op = .store 30 x y) {b : Nat} {old av : Array Value} (hx : a.eval x = .pointer (some ⟨b, 0, none⟩)) (hy : a.eval y = .agg av) (hb : w.heap[b]? = some (.cells old 30 (0, 0))) (h1 : old.size = 258) (h2 : av.size = 258) (h3 : av.all (·.oneCell') = true)
    (h : wpList Tryd.prog ops Q rest (a.put o.dst undef) (w.setRow b av)) : wpList Tryd.prog ops Q (o :: rest) a w := by
  refine wpList_plain hgd fun _ hK => ?_
  unfold Oper.wp execOp
  simp only [ho, hx, hy, Instr.storeAt, Instr.sureAddr, Sem.run_bind, Sem.run_pure, Result.andThen_ok, run_storeVar_row w b _ _ _ _ hb (by rw [h2]; exact info_aut) (by rw [h1, h2]) h3]
  exact hK _ _ h
theorem wpList_build_aut (hgd : o.guard = none) (ho : o.op = .build 30 #[]) (h : wpList Tryd.prog ops Q rest (a.put o.dst (.agg zAut)) w) : wpList Tryd.prog ops Q (o :: rest) a w := by
  refine wpList_plain hgd fun _ hK => ?_
  have hb : Tryd.prog.built 30 [] = some zAut := by kernel_rfl
  unfold Oper.wp execOp
  simp only [ho, List.map_toArray, List.map_nil, Sem.run_bind, run_build w _ _ _ hb, Result.andThen_ok]
  exact hK _ _ h
end
theorem results_aut2 {fn : Func} {p q : Tmp} (h : fn.results = #[.cell p 30, .tmp q]) {w : World} {tmps : Array Value} {rb : Nat} {av : Array Value} {v : Value} (hp : tmps.getD p undef = .pointer (some ⟨rb, 0, none⟩)) (hq : tmps.getD q undef = v) (hb : w.heap[rb]? = some (.cells av 30 (0, 0))) (hs : av.size = 258) :
    (results fn tmps).run Tryd.prog w = .ok (.tuple #[.agg av, v]) w := by
  rw [results_cell_tmp h, hp, hq]
  have hl := run_loadVar_row (P := Tryd.prog) w rb 30 30 av (0, 0) _ hb Tryd.underlying30 rfl (by rw [hs]; exact info_aut)
  simp [asAddr, hl]
theorem zAut_size : zAut.size = 258 := aCells_size _
theorem zAut_one : zAut.all (·.oneCell') = true := by rw [← zeroA_B]; exact autB_one _ _ _ _ _
theorem setRow_grew {w0 w : World} {g : Nat} (h : Grew w0 w) (hg : w0.heap.size ≤ g) (cs : Array Value) : Grew w0 (w.setRow g cs) :=
  h.below (B := g) ⟨rfl, rfl, rfl, by simp [World.setRow], fun k hk => setRow_other _ _ _ _ (by omega)⟩ hg
theorem AutNew.set {B0 B : Nat} {w' : World} {A : Aut} {na ea : Option Addr} (h : AutNew B w' A na ea) (hb : B0 ≤ B) {rs : Nat} (hr : rs < B) (cs : Array Value) : AutNew B0 (w'.setRow rs cs) A na ea := fun w'' hs hk =>
  h w'' (by simpa [World.setRow] using hs) fun k hk1 hk2 => (hk k (by omega) (by simpa [World.setRow] using hk2)).trans (setRow_other _ _ _ _ (by omega))
end Go.Proofs.YtkkdpafkafjfgaaDoor
