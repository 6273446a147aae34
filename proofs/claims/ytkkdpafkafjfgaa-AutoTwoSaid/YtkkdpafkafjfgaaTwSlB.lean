/- Smallest: the groups in memory. -/
import Derived.Test.YtkkdpafkafjfgaaTwSlA
import Derived.Test.YtkkdpafkafjfgaaTwAuEv
import Derived.Test.YtkkdpafkafjfgaaTwAuLc
import Derived.Test.YtkkdpafkafjfgaaTwAuRe
import Derived.Test.YtkkdpafkafjfgaaTwLwK
namespace Go.Proofs.Ytkkdpafkafjfgaa
open Go.RowKit RR
set_option linter.unusedVariables false
set_option linter.unusedSimpArgs false
set_option maxRecDepth 100000
structure Spl (W wr : World) (gb q n : Nat) (g : Nat → Nat) : Prop where
  grew : Grew W wr
  box : wr.heap[gb]? = some (.cells #[.slice (some ⟨q, 0, none⟩) n n] 41 (0, 0))
  arr : ArrAt wr q 0 n fun i => .int .i64 (g i : Nat)
  lo : W.heap.size ≤ gb ∧ W.heap.size ≤ q ∧ q ≠ gb
section
variable {W wr w' : World} {gb q n : Nat} {g : Nat → Nat}
theorem Spl.kept (h : Spl W wr gb q n g) (k : Grew wr w') : Spl W w' gb q n g := ⟨h.grew.trans k, heap_kept k h.box, h.arr.kept k, h.lo⟩
theorem Spl.cell (h : Spl W wr gb q n g) : wr.cell? ⟨gb, 0, none⟩ = some (.slice (some ⟨q, 0, none⟩) n n) := by unfold World.cell?; dsimp only; rw [h.box]; rfl
theorem Spl.blt (h : Spl W wr gb q n g) : gb < wr.heap.size := (Array.getElem?_eq_some_iff.1 h.box).1
def cellN (w : World) (a : Addr) : Nat := match w.cell? a with | some (.int _ k) => k.toNat | _ => 0
def gOf (w : World) (gb i : Nat) : Nat := match w.heap[gb]? with
  | some (Obj.cells cs _ _) => (match cs.getD 0 undef with | Value.slice (some a) _ _ => cellN w ⟨a.block, a.off + i, none⟩ | _ => 0)
  | _ => 0
theorem Spl.gOf (h : Spl W wr gb q n g) {i : Nat} (hi : i < n) : Go.Proofs.Ytkkdpafkafjfgaa.gOf wr gb i = g i := by
  unfold Go.Proofs.Ytkkdpafkafjfgaa.gOf
  rw [h.box]
  dsimp only
  show cellN wr ⟨q, 0 + i, none⟩ = g i
  unfold cellN
  rw [h.arr.at i hi]; rfl
theorem Spl.cnt (h : Spl W wr gb q n g) : gcnt (Go.Proofs.Ytkkdpafkafjfgaa.gOf wr gb) n = gcnt g n := gcnt_congr fun i hi => h.gOf hi
end
structure Mak (w0 wr : World) (mt n : Nat) (f : Nat → Nat × Nat) (i : Nat) : Prop where
  grew : Grew w0 wr
  map : KMap enc2 wr mt (numL (upN f i))
  arr : ArrAt wr (mt + 1) 0 n fun j => .int .i64 ((if j < i then numb f n j else 0 : Nat) : Int)
section
variable {w0 wr w' : World} {mt n i : Nat} {f : Nat → Nat × Nat}
theorem Mak.kept (h : Mak w0 wr mt n f i) (g : Grew wr w') : Mak w0 w' mt n f i := ⟨h.grew.trans g, h.map.kept g, h.arr.kept g⟩
theorem mak_next {f : Nat → Nat × Nat} {n i : Nat} (j : Nat) : (if j < i + 1 then numb f n j else 0) = if j = i then numb f n i else (if j < i then numb f n j else 0) := by
  by_cases e : j = i
  · subst e; rw [if_pos (by omega), if_pos rfl]
  · by_cases e2 : j < i
    · rw [if_pos (by omega), if_neg e, if_pos e2]
    · rw [if_neg (by omega), if_neg e, if_neg e2]
theorem Mak.old (h : Mak w0 wr mt n f i) (hb : w0.heap.size ≤ mt) (hi : i < n) (hq : f i ∈ upN f i) {q : Nat} (hqe : numb f n i = q) : Mak w0 (wr.setCell ⟨mt + 1, i, none⟩ (.int .i64 (q : Nat))) mt n f (i + 1) :=
  ⟨h.grew.setCell (p := ⟨mt + 1, i, none⟩) (by show w0.heap.size ≤ mt + 1; omega) _, by rw [upN_old hq]; exact h.map.other ⟨mt + 1, i, none⟩ (by show mt + 1 ≠ mt; omega) _, (h.arr.set0 i hi (.int .i64 (q : Nat))).congr fun j hj => by
    rw [mak_next]
    by_cases e : j = i
    · rw [if_pos e, if_pos e, hqe]
    · rw [if_neg e, if_neg e]⟩
theorem Mak.put (h : Mak w0 wr mt n f i) (hb : w0.heap.size ≤ mt) (hi : i < n) (hq : f i ∉ upN f i) (hD : enc2.D (f i)) :
    ∃ w6, (Instr.mapUpdate 78 (.map (some mt)) (enc2.enc (f i)) (.int .i64 ((upN f i).length : Nat))).run Try.prog wr = .ok () w6 ∧ w6.heap.size = wr.heap.size ∧ (∀ k, k < wr.heap.size → k ≠ mt → w6.heap[k]? = wr.heap[k]?) ∧
      KMap enc2 w6 mt (numL (upN f (i + 1))) ∧ ArrAt w6 (mt + 1) 0 n (fun j => .int .i64 ((if j < i then numb f n j else 0 : Nat) : Int)) ∧ Grew w0 w6 ∧ Mak w0 (w6.setCell ⟨mt + 1, i, none⟩ (.int .i64 ((upN f i).length : Nat))) mt n f (i + 1) := by
  obtain ⟨w6, hput, hK6, hg6, hs6⟩ := h.map.put key2 (t := 78) Try.underlying78 hD (by rw [numL_fst]; exact hq) (.int .i64 ((upN f i).length : Nat))
  rw [← numL_snoc, ← upN_new hq] at hK6
  have hbk : ∀ k, k < wr.heap.size → k ≠ mt → w6.heap[k]? = wr.heap[k]? := fun k h1 h2 => hg6.block k h1 (fun e => by injection e with e; omega)
  have hA6 := arr_block h.arr (hbk _ (h.arr.lt (by omega)) (by omega))
  have hG6 : Grew w0 w6 := grew_grown h.grew hg6 fun b e => by injection e with e; omega
  refine ⟨w6, hput, hs6, hbk, hK6, hA6, hG6, hG6.setCell (p := ⟨mt + 1, i, none⟩) (by show w0.heap.size ≤ mt + 1; omega) _, hK6.other ⟨mt + 1, i, none⟩ (by show mt + 1 ≠ mt; omega) _, (hA6.set0 i hi (.int .i64 ((upN f i).length : Nat))).congr fun j hj => ?_⟩
  rw [mak_next, numb_new hi hq]
  by_cases e : j = i
  · rw [if_pos e, if_pos e]
  · rw [if_neg e, if_neg e]
end
def onesB (L : List Nat) : List (Nat × Value) := L.map fun x => (x, .bool true)
theorem onesB_fst (L : List Nat) : (onesB L).map (·.1) = L := by unfold onesB; rw [List.map_map]; simp [Function.comp_def]
theorem onesB_len (L : List Nat) : (onesB L).length = L.length := by unfold onesB; rw [List.length_map]
theorem old_step {w0 wr : World} {ot i : Nat} {g : Nat → Nat} (h : KMap encI wr ot (onesB (upN g i))) (hG : Grew w0 wr) (hb : w0.heap.size ≤ ot) (h9 : g i ≤ 9223372036854775807) :
    ∃ w6, (Instr.mapUpdate 80 (.map (some ot)) (.int .i64 (g i : Nat)) (.bool true)).run Try.prog wr = .ok () w6 ∧ KMap encI w6 ot (onesB (upN g (i + 1))) ∧ Grew w0 w6 := by
  by_cases hq : g i ∈ upN g i
  · obtain ⟨w6, hput, hK6, hg6, hs6⟩ := h.again keyI (t := 80) Try.underlying80 (x := g i) (v := .bool true) (List.mem_map.2 ⟨_, hq, rfl⟩)
    exact ⟨w6, hput, by rw [upN_old hq]; exact hK6, grew_grown hG hg6 fun b e => by injection e with e; omega⟩
  · obtain ⟨w6, hput, hK6, hg6, hs6⟩ := h.put keyI (t := 80) Try.underlying80 (x := g i) h9 (by rw [onesB_fst]; exact hq) (.bool true)
    refine ⟨w6, hput, ?_, grew_grown hG hg6 fun b e => by injection e with e; omega⟩
    rw [upN_new hq]
    unfold onesB at hK6 ⊢
    rw [List.map_append]; exact hK6
end Go.Proofs.Ytkkdpafkafjfgaa
