/- Exploring numbers. -/
import Derived.Test.YtkkdpafkafjfgaaDoorAlAuEx
import Derived.DeepKeys5
import Derived.Test.YtkkdpafkafjfgaaDoorAlPAuS
namespace Go.Proofs.YtkkdpafkafjfgaaDoor
open Go.RowKit RR
set_option linter.unusedVariables false
set_option maxRecDepth 100000
theorem field_raw0 (b : Nat) (w : World) : (Instr.fieldAt 147 (.pointer (some ⟨b, 0, none⟩)) 0).run Tryd.prog w = .ok (.pointer (some ⟨b, 0, none⟩)) w := by kernel_rfl
theorem field_raw1 (b : Nat) (w : World) : (Instr.fieldAt 147 (.pointer (some ⟨b, 0, none⟩)) 1).run Tryd.prog w = .ok (.pointer (some ⟨b, 1, none⟩)) w := by kernel_rfl
theorem build_bool (v : Bool) (w : World) : (Instr.buildSlice 28 1 #[(0, .bool v)]).run Tryd.prog w = .ok (.slice (some ⟨w.heap.size, 0, none⟩) 1 1) (w.alloc (.cells #[.bool v] 4)) := by kernel_rfl
theorem agg_slices (w : World) : (isAgg 90).run Tryd.prog w = .ok false w := run_isAgg Tryd.underlying90 w
theorem agg_boolsl (w : World) : (isAgg 28).run Tryd.prog w = .ok false w := run_isAgg Tryd.underlying28 w
theorem zero_int (w : World) : (zeroValue 3).run Tryd.prog w = .ok (.int .i64 0) w := run_zero (by kernel_rfl) w
theorem info_boolx : ∃ i0, Tryd.prog.info? 4 = some i0 ∧ i0.zero = some (.bool false) ∧ i0.size = 1 ∧ i0.bytes = 1 := info_parts (show (Tryd.prog.info? 4).map (fun i => (i.zero, i.size, i.bytes)) = some (some (.bool false), 1, 1) by kernel_rfl)
theorem info_rowx : ∃ i0, Tryd.prog.info? 26 = some i0 ∧ i0.zero = some (.agg (rowI fun _ => 0)) ∧ i0.size = 256 ∧ i0.bytes = 2048 := info_parts info_rows
theorem arr_next {w : World} {g c q : Nat} {row : Nat → Nat} (hc : c < 256) (h : ArrAt w g 0 256 fun j => .int .i64 ((if j < c then row j else 0 : Nat) : Int)) :
    ArrAt (w.setCell ⟨g, c, none⟩ (.int .i64 (q : Nat))) g 0 256 fun j => .int .i64 ((if j < c + 1 then (if j = c then q else row j) else 0 : Nat) : Int) :=
  (h.set0 c hc _).congr fun j hj => by
    by_cases e : j = c
    · subst e; rw [if_pos rfl, if_pos (by omega), if_pos rfl]
    · rw [if_neg e]
      by_cases e2 : j < c
      · rw [if_pos e2, if_pos (by omega), if_neg e]
      · rw [if_neg e2, if_neg (by omega)]
theorem arr_block {w w' : World} {g n : Nat} {f : Nat → Value} (h : ArrAt w g 0 n f) (e : w'.heap[g]? = w.heap[g]?) : ArrAt w' g 0 n f := fun j hj => by
  rw [World.cell?_of_block (a := ⟨g, 0 + j, none⟩) e, World.frozen?_of_block (a := ⟨g, 0 + j, none⟩) e]; exact h j hj
theorem flat_one {α : Type} (f : α → Value) (l : List α) : l.flatMap (fun x => [f x]) = l.map f := by
  induction l with
  | nil => rfl
  | cons x l ih => rw [List.flatMap_cons, ih]; rfl
end Go.Proofs.YtkkdpafkafjfgaaDoor

namespace Go.Proofs.YtkkdpafkafjfgaaDoor
open Go.RowKit RR
set_option linter.unusedVariables false
set_option maxRecDepth 100000
theorem mapM_some {α β : Type} {f : α → Option β} {g : α → β} : ∀ {l : List α}, (∀ x ∈ l, f x = some (g x)) → l.mapM f = some (l.map g)
  | [], _ => rfl
  | x :: l, h => by
    rw [List.mapM_cons, h x (by simp), mapM_some fun y hy => h y (by simp [hy])]; rfl
theorem keyOf_row {P : Program} {k e : TypeId} {n : Nat} (hu : P.underlying k = some (.array n e)) (he : P.underlying e = some (.int .i64)) (hkt : P.keyType k = true) (hce : P.cellsOf e = 1) (hck : P.cellsOf k = n) (hp : ∃ m, P.types.size = m + 1) (f : Nat → Int) (hf : ∀ i, i < n → (Lit.int .i64 (f i)).wf = true) :
    ∃ y, keyOf P k (.agg ((List.range n).map fun i => Value.int .i64 (f i)).toArray) = some y := by
  obtain ⟨m, hm⟩ := hp
  have hsz : ((List.range n).map fun i => Value.int .i64 (f i)).length = n := by simp
  unfold keyOf
  rw [hu]
  dsimp only
  have h1 : (P.keyType k && (Value.agg ((List.range n).map fun i => Value.int .i64 (f i)).toArray).formed P k) = true := by
    rw [hkt]; unfold Value.formed; rw [hu]; simp [hck]
  rw [if_pos h1]
  have h2 : P.keyLits (P.types.size + 1) k (Value.agg ((List.range n).map fun i => Value.int .i64 (f i)).toArray).cells.toList = some (((List.range n).map fun i => [Lit.int .i64 (f i)]).flatten) := by
    show P.keyLits (P.types.size + 1) k ((List.range n).map fun i => Value.int .i64 (f i)) = _
    unfold Program.keyLits
    rw [hu]
    dsimp only
    rw [if_pos (by rw [hsz, hck])]
    rw [mapM_some (g := fun i => [Lit.int .i64 (f i)]) fun i hi => ?_]
    · rfl
    · have hi := List.mem_range.1 hi
      rw [hce, Nat.mul_one]
      have e1 : (List.drop i ((List.range n).map fun i => Value.int .i64 (f i))).take 1 = [Value.int .i64 (f i)] := by
        rw [List.drop_eq_getElem_cons (by rw [hsz]; exact hi), List.take_succ_cons, List.take_zero]
        simp
      rw [e1, hm]
      unfold Program.keyLits
      rw [he]
      dsimp only
      rw [if_pos ⟨rfl, hf i hi⟩]
  rw [h2]
  exact ⟨_, rfl⟩
theorem types_pos : ∃ m, Tryd.prog.types.size = m + 1 := ⟨Tryd.prog.types.size - 1, by have : 0 < Tryd.prog.types.size := of_decide_eq_true (by kernel_rfl); omega⟩
end Go.Proofs.YtkkdpafkafjfgaaDoor

namespace Go.Proofs.YtkkdpafkafjfgaaDoor
open Go.RowKit RR
set_option linter.unusedVariables false
set_option maxRecDepth 100000
def cells2 (x : Nat × Nat) : List Value := [.int .i64 (x.1 : Nat), .int .i64 (x.2 : Nat)]
end Go.Proofs.YtkkdpafkafjfgaaDoor

namespace Go.Proofs.YtkkdpafkafjfgaaDoor
set_option linter.unusedVariables false
structure IsAut (B : Aut) (L : List UInt8 → Bool) : Prop where
  right : RightA B
  cls : B.cls.length = 256
  lang : ∀ l, (raA B).tak 0 l = L l
  can : ∃ C, Can C ∧ B = autOf C
theorem LeastOf.is {S : RA} {B : Aut} {L : List UInt8 → Bool} (h : LeastOf S B) (hn : S.n ≤ 8192) (hl : ∀ l, S.tak 0 l = L l) : IsAut B L := by
  obtain ⟨C, hC, he, rfl, hle⟩ := h
  have hC8 : C.n ≤ 8192 := by omega
  have hr := autOf_ra hC.ok
  refine ⟨autOf_right hC.ok hC8, autOf_c C, fun l => ?_, C, hC, rfl⟩
  rw [(hr.eqv ((autOf_right hC.ok hC8).ok (autOf_c C))) l 0 (autOf_right hC.ok hC8).n0, ← hl l]
  exact he l
theorem IsAut.one {A B : Aut} {L M : List UInt8 → Bool} (h : IsAut A L) (k : IsAut B M) (e : ∀ l, L l = M l) : A = B := by
  obtain ⟨C, hC, rfl⟩ := h.can
  obtain ⟨D, hD, rfl⟩ := k.can
  have hra := autOf_ra hC.ok
  have hrb := autOf_ra hD.ok
  refine autOf_congr (can_one hC hD fun l => ?_)
  have h1 := (hra.eqv (h.right.ok h.cls)) l 0 h.right.n0
  have h2 := (hrb.eqv (k.right.ok k.cls)) l 0 k.right.n0
  rw [← h1, ← h2, h.lang, k.lang, e]
end Go.Proofs.YtkkdpafkafjfgaaDoor
