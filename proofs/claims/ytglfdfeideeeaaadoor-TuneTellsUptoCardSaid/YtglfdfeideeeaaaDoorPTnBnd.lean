/- tune: bounds of lengths: then, or. -/
import Derived.Test.YtglfdfeideeeaaaDoorTnFun
import Derived.Test.YtglfdfeideeeaaaDoorTnMerge
import Derived.Test.YtglfdfeideeeaaaDoorTnTwo
import Derived.StillTailTactics
namespace Go.Proofs.YtglfdfeideeeaaaDoor
open Go.RowKit
set_option linter.unusedVariables false
structure Bd where
  least : Int
  most : Int
  never : Bool
def Bd.cells (b : Bd) : Array Value := #[.int .i64 b.least, .int .i64 b.most, .bool b.never]
structure BdOk (b : Bd) : Prop where
  l0 : 0 ≤ b.least
  l1 : b.least ≤ 65537
  m0 : -1 ≤ b.most
  m1 : b.most ≤ 65536
def thenB (b c : Bd) : Bd := ⟨min (b.least + c.least) 65537, if 0 ≤ b.most ∧ 0 ≤ c.most ∧ b.most + c.most ≤ 65536 then b.most + c.most else -1, b.never || c.never⟩
def orB (b c : Bd) : Bd := if b.never = true then c else if c.never = true then b else ⟨min b.least c.least, if b.most < 0 ∨ c.most < 0 then -1 else max b.most c.most, false⟩
theorem then_ok {b c : Bd} (hb : BdOk b) (hc : BdOk c) : BdOk (thenB b c) := by
  obtain ⟨b0, b1, b2, b3⟩ := hb
  obtain ⟨c0, c1, c2, c3⟩ := hc
  refine ⟨?_, ?_, ?_, ?_⟩ <;> simp only [thenB] <;> first | omega | (split <;> omega)
theorem or_ok {b c : Bd} (hb : BdOk b) (hc : BdOk c) : BdOk (orB b c) := by
  unfold orB
  refine iteInduction (motive := BdOk) (fun _ => hc) (fun _ => iteInduction (motive := BdOk) (fun _ => hb) (fun _ => ?_))
  obtain ⟨b0, b1, b2, b3⟩ := hb
  obtain ⟨c0, c1, c2, c3⟩ := hc
  refine ⟨?_, ?_, ?_, ?_⟩ <;> simp only [] <;> first | omega | (split <;> omega)
theorem info_bd3 : (Tryd.prog.info? 40).map (·.size) = some 3 := by kernel_rfl
theorem load_bd {w : World} {rb : Nat} {cs : Array Value} (hg : w.heap[rb]? = some (.cells cs 40 (0, 0))) (hc : cs.size = 3) : (loadVar 40 ⟨rb, 0, none⟩).run Tryd.prog w = .ok (.agg cs) w :=
  run_loadVar_row (P := Tryd.prog) w rb 40 40 cs (0, 0) _ hg Tryd.underlying40 rfl (by rw [hc]; exact info_bd3)
theorem results_bd {fn : Func} {p : Tmp} (h : fn.results = #[.cell p 40]) {w : World} {tmps : Array Value} {rb : Nat} {cs : Array Value} (hp : tmps.getD p undef = .pointer (some ⟨rb, 0, none⟩)) (hg : w.heap[rb]? = some (.cells cs 40 (0, 0))) (hc : cs.size = 3) :
    (results fn tmps).run Tryd.prog w = .ok (.agg cs) w := by
  rw [results_cell h, hp]
  simp [asAddr, load_bd hg hc]
theorem heap_third' (w : World) (o o' o2 : Obj) : (((w.alloc o).alloc o').alloc o2).heap[w.heap.size + 1 + 1]? = some o2 := by
  have e : w.heap.size + 1 + 1 = ((w.alloc o).alloc o').heap.size := by simp
  rw [e]; exact heap_alloc_new _ _
theorem heap_third'' (w : World) (o o' o2 o3 : Obj) : ((((w.alloc o).alloc o').alloc o2).alloc o3).heap[w.heap.size + 1 + 1]? = some o2 := by
  rw [heap_alloc_old _ _ (Array.getElem?_eq_some_iff.1 (heap_third' w o o' o2)).1]; exact heap_third' w o o' o2
theorem bd_eq {a b c d : Int} {x y : Bool} (h1 : a = b) (h2 : c = d) (h3 : x = y) : Ending.returned (.agg #[.int .i64 a, .int .i64 c, .bool x]) = .returned (.agg #[.int .i64 b, .int .i64 d, .bool y]) := by rw [h1, h2, h3]
set_option maxRecDepth 100000 in
set_option maxHeartbeats 4000000 in
theorem then_any (b c : Bd) (hb : BdOk b) (hc : BdOk c) (w : World) : Calls Tryd.prog 51 #[.agg b.cells, .agg c.cells] w fun e w' => e = .returned (.agg (thenB b c).cells) ∧ Grew w w' := by
  have H := hidd (And.intro hb hc)
  have e1 : wrap64 (b.least + c.least) = b.least + c.least := by have := hb.l0; have := hb.l1; have := hc.l0; have := hc.l1; unfold wrap64; omega
  have e2 : wrap64 (b.most + c.most) = b.most + c.most := by have := hb.m0; have := hb.m1; have := hc.m0; have := hc.m1; unfold wrap64; omega
  clear hb hc
  show Calls _ _ #[.agg #[_, _, _], .agg #[_, _, _]] _ _
  go_enter Tryd.func51, Tryd.ntmps51
  go_wp2_with fail
  all_goals
    refine bodyPost_ret (results_bd rfl rfl (heap_third'' w _ _ _ _) rfl) rfl ⟨bd_eq ?_ ?_ ?_, ((((Grew.refl w).alloc _).alloc _).alloc _).alloc _⟩
    · show _ = min (b.least + c.least) 65537
      omega
    · show _ = (if 0 ≤ b.most ∧ 0 ≤ c.most ∧ b.most + c.most ≤ 65536 then b.most + c.most else -1)
      split <;> first | rfl | omega
    · show _ = (b.never || c.never)
      simp_all
set_option maxRecDepth 100000 in
set_option maxHeartbeats 4000000 in
theorem or_any (b c : Bd) (hb : BdOk b) (hc : BdOk c) (w : World) : Calls Tryd.prog 52 #[.agg b.cells, .agg c.cells] w fun e w' => e = .returned (.agg (orB b c).cells) ∧ Grew w w' := by
  have H := hidd (And.intro hb hc)
  clear hb hc
  obtain ⟨X, hX⟩ : ∃ X, orB b c = X := ⟨_, rfl⟩
  obtain ⟨bl, bm, bn⟩ := b
  obtain ⟨cl, cm, cn⟩ := c
  show Calls _ _ #[.agg #[.int .i64 bl, .int .i64 bm, .bool bn], .agg #[.int .i64 cl, .int .i64 cm, .bool cn]] _ _
  rw [hX]
  have HX := hidd hX
  clear hX
  cases bn <;> cases cn
  all_goals
    go_enter Tryd.func52, Tryd.ntmps52
    go_wp2_with fail
  all_goals
    first
    | refine bodyPost_ret (results_bd rfl rfl (heap_third' w _ _ _) rfl) rfl ⟨?_, (((Grew.refl w).alloc _).alloc _).alloc _⟩
      rw [← HX.out]
      rfl
    | refine bodyPost_ret (results_bd rfl rfl (heap_third'' w _ _ _ _) rfl) rfl ⟨?_, ((((Grew.refl w).alloc _).alloc _).alloc _).alloc _⟩
      rw [← HX.out]
      refine bd_eq ?_ ?_ rfl
      · show _ = min bl cl
        omega
      · show _ = (if bm < 0 ∨ cm < 0 then -1 else max bm cm)
        split <;> omega
end Go.Proofs.YtglfdfeideeeaaaDoor

namespace Go.Proofs.YtglfdfeideeeaaaDoor
open Go.RowKit
set_option linter.unusedVariables false
set_option maxRecDepth 100000 in
set_option maxHeartbeats 4000000 in
theorem same_fuel : ∀ (f : Nat) (p : Pat) (kv kv' : Value) (w : World), nodesP p ≤ f → PatV w kv p → PatV w kv' p → Calls Tryd.prog 6 #[.agg (p.cells kv), .agg (p.cells kv')] w fun e w' => e = .returned (.bool true) ∧ Grew w w'
  | 0, p, kv, kv', w, hf, _, _ => by have := nodesP_pos p; omega
  | f + 1, .mk k t n m l, kv, kv', w, hf, hp, hq => by
    have IH : Hid (∀ i, i < l.length → ∀ kv kv' w1, PatV w1 kv (l.getD i Pat.zero) → PatV w1 kv' (l.getD i Pat.zero) → Calls Tryd.prog 6 #[.agg ((l.getD i Pat.zero).cells kv), .agg ((l.getD i Pat.zero).cells kv')] w1 fun e w' => e = .returned (.bool true) ∧ Grew w1 w') := fun i hi kv kv' w1 h1 h2 => same_fuel f _ kv kv' w1 (by
      have : l.getD i Pat.zero ∈ l := by rw [List.getD_eq_getElem?_getD, List.getElem?_eq_getElem hi]; exact List.getElem_mem hi
      have := nodesL_mem this
      rw [nodesP] at hf; omega) h1 h2
    have HA := hidd hp.pq.list
    have HB := hidd hq.pq.list
    have HA : Hid (ListIn w (fun b => b < w.heap.size) kv l) := HA
    have HB : Hid (ListIn w (fun b => b < w.heap.size) kv' l) := HB
    obtain ⟨pa, ca, rfl, hml⟩ := HA.out.len
    obtain ⟨pb, cb, rfl, _⟩ := HB.out.len
    unfold maxLen at hml
    clear hp hq hf
    show Calls Tryd.prog 6 #[.agg #[.int .i64 k, .string t, .int .i64 n, .string m, .slice pa l.length ca], .agg #[.int .i64 k, .string t, .int .i64 n, .string m, .slice pb l.length cb]] w _
    go_enter Tryd.func6, Tryd.ntmps6
    go_wp2_with fail
    obtain ⟨wY, hwY⟩ : ∃ wY, (w.alloc (.cells #[.int .i64 k, .string t, .int .i64 n, .string m, .slice pa l.length ca] 24)).alloc (.cells #[.int .i64 k, .string t, .int .i64 n, .string m, .slice pb l.length cb] 24) = wY := ⟨_, rfl⟩
    have HX : Hid (wY.heap[w.heap.size]? = some (.cells #[.int .i64 k, .string t, .int .i64 n, .string m, .slice pa l.length ca] 24 (0, 0)) ∧ wY.heap[w.heap.size + 1]? = some (.cells #[.int .i64 k, .string t, .int .i64 n, .string m, .slice pb l.length cb] 24 (0, 0)) ∧ Grew w wY) := by
      rw [← hwY]
      exact ⟨heap_more (heap_alloc_new w _), heap_second w _ _, ((Grew.refl w).alloc _).alloc _⟩
    rw [hwY]
    clear hwY
    go_loopw [5, 44] (fun _ u wr => ∃ i : Nat, i ≤ l.length ∧ u = .int .i64 i ∧ Hid (Grew wY wr)) (fun _ u _ => l.length - (intOf u).toNat)
    case atStart => exact ⟨0, by omega, rfl, Grew.refl _⟩
    case round =>
      obtain ⟨i, hi, rfl, HG⟩ := hrel
      by_cases hlt : i < l.length
      · have G := HX.out.2.2.trans HG.out
        obtain ⟨ba, oa, ka, rfl, hna, hqa⟩ := (HA.out.kept G).at hlt
        obtain ⟨bb, ob, kb, rfl, hnb, hqb⟩ := (HB.out.kept G).at hlt
        have HC : Hid (∀ w1, Grew wr w1 → Calls Tryd.prog 6 #[.agg ((l.getD i Pat.zero).cells ka), .agg ((l.getD i Pat.zero).cells kb)] w1 fun e w' => e = .returned (.bool true) ∧ Grew w1 w') := fun w1 g => IH.out i hlt ka kb w1 (hqa.patV.kept g) (hqb.patV.kept g)
        obtain ⟨r, hr⟩ : ∃ r, l.getD i Pat.zero = r := ⟨_, rfl⟩
        rw [hr] at hna hnb HC
        rw [cells_eq, cells_eq] at HC
        obtain ⟨a0, a1, a2, a3, a4, _, _, _, _⟩ := hna
        obtain ⟨b0, b1, b2, b3, b4, _, _, _, _⟩ := hnb
        obtain ⟨⟨_, _, _, _, x4⟩, _⟩ := five_cells (heap_kept HG.out HX.out.1)
        obtain ⟨⟨_, _, _, _, y4⟩, _⟩ := five_cells (heap_kept HG.out HX.out.2.1)
        clear hr hqa hqb G
        go_wp2_with fail
        go_still_tail 10, (by kernel_rfl)
        change wpList _ _ _ _ _ wr.drew
        have HG2 := hidd (Grew.drew HG.out)
        have HC2 := hidd (HC.out wr.drew ((Grew.refl wr).drew))
        generalize wr.drew = w2 at HG2 HC2 ⊢
        go_wp2_with fail
        refine HC2.out.mono ?_; rintro e w3 ⟨rfl, g3⟩
        have HG3 := hidd (HG2.out.trans g3)
        clear g3
        go_wp2_with fail
        go_roundw
        case rel => exact ⟨i + 1, by omega, by go_num, HG3⟩
        case measure => simp [intOf]; omega
      · go_wp2_with fail
        go_ret
        exact ⟨rfl, HX.out.2.2.trans HG.out⟩
theorem Same_eq {p : Pat} {kv kv' : Value} {w : World} (h : PatV w kv p) (h' : PatV w kv' p) : Calls Tryd.prog 6 #[.agg (p.cells kv), .agg (p.cells kv')] w fun e w' => e = .returned (.bool true) ∧ Grew w w' := same_fuel _ p kv kv' w (Nat.le_refl _) h h'
end Go.Proofs.YtglfdfeideeeaaaDoor
