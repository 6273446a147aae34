/- tune: bounds of lengths: then, or. -/
import Derived.Test.YtmcfoefhenmjeaaDoorTnFun
namespace Go.Proofs.YtmcfoefhenmjeaaDoor
open Go.RowKit
set_option linter.unusedVariables false
/-- How few bytes, how many (below 0: any number), whether never. -/
structure Bd where
  least : Int
  most : Int
  never : Bool
def Bd.cells (b : Bd) : Array Value := #[.int .i64 b.least, .int .i64 b.most, .bool b.never]
structure BdOk (b : Bd) : Prop where
  l0 : 0 ≤ b.least
  l1 : b.least ≤ 65537
  m0 : -1 ≤ b.most
  m1 : b.most ≤ 65536
def thenB (b c : Bd) : Bd := ⟨min (b.least + c.least) 65537, if 0 ≤ b.most ∧ 0 ≤ c.most ∧ b.most + c.most ≤ 65536 then b.most + c.most else -1, b.never || c.never⟩
def orB (b c : Bd) : Bd := if b.never = true then c else if c.never = true then b else ⟨min b.least c.least, if b.most < 0 ∨ c.most < 0 then -1 else max b.most c.most, false⟩
theorem then_ok {b c : Bd} (hb : BdOk b) (hc : BdOk c) : BdOk (thenB b c) := by
  obtain ⟨b0, b1, b2, b3⟩ := hb
  obtain ⟨c0, c1, c2, c3⟩ := hc
  refine ⟨?_, ?_, ?_, ?_⟩ <;> simp only [thenB] <;> first | omega | (split <;> omega)
theorem or_ok {b c : Bd} (hb : BdOk b) (hc : BdOk c) : BdOk (orB b c) := by
  unfold orB
  refine iteInduction (motive := BdOk) (fun _ => hc) (fun _ => iteInduction (motive := BdOk) (fun _ => hb) (fun _ => ?_))
  obtain ⟨b0, b1, b2, b3⟩ := hb
  obtain ⟨c0, c1, c2, c3⟩ := hc
  refine ⟨?_, ?_, ?_, ?_⟩ <;> simp only [] <;> first | omega | (split <;> omega)
theorem info_bd3 : (Tryd.prog.info? 60).map (·.size) = some 3 := by kernel_rfl
theorem load_bd {w : World} {rb : Nat} {cs : Array Value} (hg : w.heap[rb]? = some (.cells cs 60 (0, 0))) (hc : cs.size = 3) : (loadVar 60 ⟨rb, 0, none⟩).run Tryd.prog w = .ok (.agg cs) w :=
  run_loadVar_row (P := Tryd.prog) w rb 60 60 cs (0, 0) _ hg Tryd.underlying60 rfl (by rw [hc]; exact info_bd3)
theorem results_bd {fn : Func} {p : Tmp} (h : fn.results = #[.cell p 60]) {w : World} {tmps : Array Value} {rb : Nat} {cs : Array Value} (hp : tmps.getD p undef = .pointer (some ⟨rb, 0, none⟩)) (hg : w.heap[rb]? = some (.cells cs 60 (0, 0))) (hc : cs.size = 3) :
    (results fn tmps).run Tryd.prog w = .ok (.agg cs) w := by
  rw [results_cell h, hp]
  simp [asAddr, load_bd hg hc]
theorem heap_third' (w : World) (o o' o2 : Obj) : (((w.alloc o).alloc o').alloc o2).heap[w.heap.size + 1 + 1]? = some o2 := by
  have e : w.heap.size + 1 + 1 = ((w.alloc o).alloc o').heap.size := by simp
  rw [e]; exact heap_alloc_new _ _
theorem heap_third'' (w : World) (o o' o2 o3 : Obj) : ((((w.alloc o).alloc o').alloc o2).alloc o3).heap[w.heap.size + 1 + 1]? = some o2 := by
  rw [heap_alloc_old _ _ (Array.getElem?_eq_some_iff.1 (heap_third' w o o' o2)).1]; exact heap_third' w o o' o2
theorem heap_fourth (w : World) (o o' o2 o3 : Obj) : ((((w.alloc o).alloc o').alloc o2).alloc o3).heap[w.heap.size + 1 + 1 + 1]? = some o3 := by
  have e : w.heap.size + 1 + 1 + 1 = (((w.alloc o).alloc o').alloc o2).heap.size := by simp
  rw [e]; exact heap_alloc_new _ _
theorem bd_eq {a b c d : Int} {x y : Bool} (h1 : a = b) (h2 : c = d) (h3 : x = y) : Ending.returned (.agg #[.int .i64 a, .int .i64 c, .bool x]) = .returned (.agg #[.int .i64 b, .int .i64 d, .bool y]) := by rw [h1, h2, h3]
set_option maxRecDepth 100000 in
set_option maxHeartbeats 4000000 in
theorem then_any (b c : Bd) (hb : BdOk b) (hc : BdOk c) (w : World) : Calls Tryd.prog 67 #[.agg b.cells, .agg c.cells] w fun e w' => e = .returned (.agg (thenB b c).cells) ∧ Grew w w' := by
  have H := hidd (And.intro hb hc)
  have e1 : wrap64 (b.least + c.least) = b.least + c.least := by have := hb.l0; have := hb.l1; have := hc.l0; have := hc.l1; unfold wrap64; omega
  have e2 : wrap64 (b.most + c.most) = b.most + c.most := by have := hb.m0; have := hb.m1; have := hc.m0; have := hc.m1; unfold wrap64; omega
  clear hb hc
  show Calls _ _ #[.agg #[_, _, _], .agg #[_, _, _]] _ _
  go_enter Tryd.func67, Tryd.ntmps67
  go_wp2_with fail
  all_goals
    refine bodyPost_ret (results_bd rfl rfl (heap_third'' w _ _ _ _) rfl) rfl ⟨bd_eq ?_ ?_ ?_, ((((Grew.refl w).alloc _).alloc _).alloc _).alloc _⟩
    · show _ = min (b.least + c.least) 65537
      omega
    · show _ = (if 0 ≤ b.most ∧ 0 ≤ c.most ∧ b.most + c.most ≤ 65536 then b.most + c.most else -1)
      split <;> first | rfl | omega
    · show _ = (b.never || c.never)
      simp_all
set_option maxRecDepth 100000 in
set_option maxHeartbeats 4000000 in
theorem or_any (b c : Bd) (hb : BdOk b) (hc : BdOk c) (w : World) : Calls Tryd.prog 68 #[.agg b.cells, .agg c.cells] w fun e w' => e = .returned (.agg (orB b c).cells) ∧ Grew w w' := by
  have H := hidd (And.intro hb hc)
  clear hb hc
  obtain ⟨X, hX⟩ : ∃ X, orB b c = X := ⟨_, rfl⟩
  obtain ⟨bl, bm, bn⟩ := b
  obtain ⟨cl, cm, cn⟩ := c
  show Calls _ _ #[.agg #[.int .i64 bl, .int .i64 bm, .bool bn], .agg #[.int .i64 cl, .int .i64 cm, .bool cn]] _ _
  rw [hX]
  have HX := hidd hX
  clear hX
  cases bn <;> cases cn
  all_goals
    go_enter Tryd.func68, Tryd.ntmps68
    go_wp2_with fail
  all_goals
    first
    | refine bodyPost_ret (results_bd rfl rfl (heap_third' w _ _ _) rfl) rfl ⟨?_, (((Grew.refl w).alloc _).alloc _).alloc _⟩
      rw [← HX.out]
      rfl
    | refine bodyPost_ret (results_bd rfl rfl (heap_third'' w _ _ _ _) rfl) rfl ⟨?_, ((((Grew.refl w).alloc _).alloc _).alloc _).alloc _⟩
      rw [← HX.out]
      refine bd_eq ?_ ?_ rfl
      · show _ = min bl cl
        omega
      · show _ = (if bm < 0 ∨ cm < 0 then -1 else max bm cm)
        split <;> omega
end Go.Proofs.YtmcfoefhenmjeaaDoor
