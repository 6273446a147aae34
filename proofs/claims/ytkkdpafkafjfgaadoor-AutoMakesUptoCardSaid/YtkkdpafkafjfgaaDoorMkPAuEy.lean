/- Exploring numbers. -/
import Derived.Test.YtkkdpafkafjfgaaDoorMkAuEx
import Derived.DeepKeys5
import Derived.Test.YtkkdpafkafjfgaaDoorMkPStArr
import Derived.Test.YtkkdpafkafjfgaaDoorMkPBase
import Derived.Test.YtkkdpafkafjfgaaDoorMkScWrong
import Derived.Test.YtkkdpafkafjfgaaDoorMkScTr
import Derived.Deep.RegionHeld3
import Derived.Deep.RegionLaw
import Derived.Deep.AppendLies
import Derived.StillTactics
import Derived.OwnWalk
import Derived.Deep.DeepMust
namespace Go.Proofs.YtkkdpafkafjfgaaDoor
open Go.RowKit RR
set_option linter.unusedVariables false
set_option maxRecDepth 100000
theorem field_raw0 (b : Nat) (w : World) : (Instr.fieldAt 147 (.pointer (some ⟨b, 0, none⟩)) 0).run Tryd.prog w = .ok (.pointer (some ⟨b, 0, none⟩)) w := by kernel_rfl
theorem field_raw1 (b : Nat) (w : World) : (Instr.fieldAt 147 (.pointer (some ⟨b, 0, none⟩)) 1).run Tryd.prog w = .ok (.pointer (some ⟨b, 1, none⟩)) w := by kernel_rfl
theorem build_bool (v : Bool) (w : World) : (Instr.buildSlice 28 1 #[(0, .bool v)]).run Tryd.prog w = .ok (.slice (some ⟨w.heap.size, 0, none⟩) 1 1) (w.alloc (.cells #[.bool v] 4)) := by kernel_rfl
theorem agg_slices (w : World) : (isAgg 90).run Tryd.prog w = .ok false w := run_isAgg Tryd.underlying90 w
theorem agg_boolsl (w : World) : (isAgg 28).run Tryd.prog w = .ok false w := run_isAgg Tryd.underlying28 w
theorem zero_int (w : World) : (zeroValue 3).run Tryd.prog w = .ok (.int .i64 0) w := run_zero (by kernel_rfl) w
theorem info_boolx : ∃ i0, Tryd.prog.info? 4 = some i0 ∧ i0.zero = some (.bool false) ∧ i0.size = 1 ∧ i0.bytes = 1 := info_parts (show (Tryd.prog.info? 4).map (fun i => (i.zero, i.size, i.bytes)) = some (some (.bool false), 1, 1) by kernel_rfl)
theorem info_rowx : ∃ i0, Tryd.prog.info? 26 = some i0 ∧ i0.zero = some (.agg (rowI fun _ => 0)) ∧ i0.size = 256 ∧ i0.bytes = 2048 := info_parts info_rows
theorem arr_next {w : World} {g c q : Nat} {row : Nat → Nat} (hc : c < 256) (h : ArrAt w g 0 256 fun j => .int .i64 ((if j < c then row j else 0 : Nat) : Int)) :
    ArrAt (w.setCell ⟨g, c, none⟩ (.int .i64 (q : Nat))) g 0 256 fun j => .int .i64 ((if j < c + 1 then (if j = c then q else row j) else 0 : Nat) : Int) :=
  (h.set0 c hc _).congr fun j hj => by
    by_cases e : j = c
    · subst e; rw [if_pos rfl, if_pos (by omega), if_pos rfl]
    · rw [if_neg e]
      by_cases e2 : j < c
      · rw [if_pos e2, if_pos (by omega), if_neg e]
      · rw [if_neg e2, if_neg (by omega)]
theorem arr_block {w w' : World} {g n : Nat} {f : Nat → Value} (h : ArrAt w g 0 n f) (e : w'.heap[g]? = w.heap[g]?) : ArrAt w' g 0 n f := fun j hj => by
  rw [World.cell?_of_block (a := ⟨g, 0 + j, none⟩) e, World.frozen?_of_block (a := ⟨g, 0 + j, none⟩) e]; exact h j hj
theorem flat_one {α : Type} (f : α → Value) (l : List α) : l.flatMap (fun x => [f x]) = l.map f := by
  induction l with
  | nil => rfl
  | cons x l ih => rw [List.flatMap_cons, ih]; rfl
end Go.Proofs.YtkkdpafkafjfgaaDoor

namespace Go.Proofs.YtkkdpafkafjfgaaDoor
open Go.RowKit RR
set_option linter.unusedVariables false
set_option maxRecDepth 100000
theorem mapM_some {α β : Type} {f : α → Option β} {g : α → β} : ∀ {l : List α}, (∀ x ∈ l, f x = some (g x)) → l.mapM f = some (l.map g)
  | [], _ => rfl
  | x :: l, h => by
    rw [List.mapM_cons, h x (by simp), mapM_some fun y hy => h y (by simp [hy])]; rfl
theorem keyOf_row {P : Program} {k e : TypeId} {n : Nat} (hu : P.underlying k = some (.array n e)) (he : P.underlying e = some (.int .i64)) (hkt : P.keyType k = true) (hce : P.cellsOf e = 1) (hck : P.cellsOf k = n) (hp : ∃ m, P.types.size = m + 1) (f : Nat → Int) (hf : ∀ i, i < n → (Lit.int .i64 (f i)).wf = true) :
    ∃ y, keyOf P k (.agg ((List.range n).map fun i => Value.int .i64 (f i)).toArray) = some y := by
  obtain ⟨m, hm⟩ := hp
  have hsz : ((List.range n).map fun i => Value.int .i64 (f i)).length = n := by simp
  unfold keyOf
  rw [hu]
  dsimp only
  have h1 : (P.keyType k && (Value.agg ((List.range n).map fun i => Value.int .i64 (f i)).toArray).formed P k) = true := by
    rw [hkt]; unfold Value.formed; rw [hu]; simp [hck]
  rw [if_pos h1]
  have h2 : P.keyLits (P.types.size + 1) k (Value.agg ((List.range n).map fun i => Value.int .i64 (f i)).toArray).cells.toList = some (((List.range n).map fun i => [Lit.int .i64 (f i)]).flatten) := by
    show P.keyLits (P.types.size + 1) k ((List.range n).map fun i => Value.int .i64 (f i)) = _
    unfold Program.keyLits
    rw [hu]
    dsimp only
    rw [if_pos (by rw [hsz, hck])]
    rw [mapM_some (g := fun i => [Lit.int .i64 (f i)]) fun i hi => ?_]
    · rfl
    · have hi := List.mem_range.1 hi
      rw [hce, Nat.mul_one]
      have e1 : (List.drop i ((List.range n).map fun i => Value.int .i64 (f i))).take 1 = [Value.int .i64 (f i)] := by
        rw [List.drop_eq_getElem_cons (by rw [hsz]; exact hi), List.take_succ_cons, List.take_zero]
        simp
      rw [e1, hm]
      unfold Program.keyLits
      rw [he]
      dsimp only
      rw [if_pos ⟨rfl, hf i hi⟩]
  rw [h2]
  exact ⟨_, rfl⟩
theorem types_pos : ∃ m, Tryd.prog.types.size = m + 1 := ⟨Tryd.prog.types.size - 1, by have : 0 < Tryd.prog.types.size := of_decide_eq_true (by kernel_rfl); omega⟩
def twoV (x : Nat × Nat) : Value := .agg #[.int .i64 (x.1 : Nat), .int .i64 (x.2 : Nat)]
theorem key_two {a b : Nat} (ha : a ≤ 9223372036854775807) (hb : b ≤ 9223372036854775807) : ∃ y, keyOf Tryd.prog 161 (.agg #[.int .i64 (a : Nat), .int .i64 (b : Nat)]) = some y := by
  have := keyOf_row (P := Tryd.prog) (k := 161) (e := 3) (n := 2) Tryd.underlying161 Tryd.underlying3 (by kernel_rfl) (by kernel_rfl) (by kernel_rfl) types_pos (fun i => if i = 0 then (a : Int) else (b : Int)) (fun i _ => by split; exact wf_i64 ha; exact wf_i64 hb)
  exact this
def enc2 : Enc Tryd.prog 161 (Nat × Nat) where
  enc := twoV
  D x := x.1 ≤ 9223372036854775807 ∧ x.2 ≤ 9223372036854775807
  key x h := key_two h.1 h.2
  inj x y _ _ h := by
    obtain ⟨a, b⟩ := x
    obtain ⟨c, d⟩ := y
    unfold twoV at h
    simp only [Value.agg.injEq, Array.mk.injEq, List.cons.injEq, Value.int.injEq, true_and, and_true] at h
    rw [Int.ofNat_inj.1 h.1, Int.ofNat_inj.1 h.2]
theorem key2 : Maps.Keyed Tryd.prog 161 := Maps.Keyed.of_law (deep_law_laid laidOutA (m := 3) (by decide) (of_decide_eq_true (by kernel_rfl)) (by kernel_rfl) (by kernel_rfl))
end Go.Proofs.YtkkdpafkafjfgaaDoor

namespace Go.Proofs.YtkkdpafkafjfgaaDoor
open Go.RowKit RR
set_option linter.unusedVariables false
set_option maxRecDepth 100000
end Go.Proofs.YtkkdpafkafjfgaaDoor

namespace Go.Proofs.YtkkdpafkafjfgaaDoor
open Go.RowKit RR
set_option linter.unusedVariables false
set_option maxRecDepth 100000
def rowS (f : Nat → Int) : Array Value := ((List.range 257).map fun j => Value.int .i64 (f j)).toArray
theorem rowS_size (f : Nat → Int) : (rowS f).size = 257 := by simp [rowS]
theorem rowS_get (f : Nat → Int) {j : Nat} (h : j < 257) : (rowS f)[j]? = some (.int .i64 (f j)) := by simp [rowS, h]
theorem zero_rowS (w : World) : (zeroValue 151).run Tryd.prog w = .ok (.agg (rowS fun _ => 0)) w := run_zero (by kernel_rfl) w
theorem rowS_at (w : World) (f : Nat → Int) (t : TypeId) : ArrAt (w.alloc (.cells (rowS f) t)) w.heap.size 0 257 fun j => .int .i64 (f j) := ArrAt.new w _ _ 257 _ fun j hj => rowS_get f hj
section
variable {ops : Array Oper} {rest : List Oper} {o : Oper} {a : Act} {w : World} {Q : Exit → Act → World → Prop}
theorem wpList_load_sign (hgd : o.guard = none) {x : Operand} (ho : o.op = .load 151 x) {b : Nat} {f : Nat → Int} (hx : a.eval x = .pointer (some ⟨b, 0, none⟩)) (hA : ArrAt w b 0 257 fun j => .int .i64 (f j))
    (h : wpList Tryd.prog ops Q rest (a.put o.dst (.agg (rowS f))) w) : wpList Tryd.prog ops Q (o :: rest) a w := by
  refine wpList_plain hgd fun _ hK => ?_
  have hl := run_loadVar_arrA hA Tryd.underlying151 rfl (show (Tryd.prog.info? 151).map (·.size) = some 257 by kernel_rfl)
  have hl2 : (loadVar 151 ⟨b, 0, none⟩).run Tryd.prog w = .ok (.agg (rowS f)) w := hl
  unfold Oper.wp execOp
  simp only [ho, hx, Instr.loadAt, Instr.sureAddr, Sem.run_bind, Sem.run_pure, Result.andThen_ok, hl2]
  exact hK _ _ h
theorem wpList_len_eq {t ty : TypeId} {b : Nat} {n : Nat} (hrun : (Builtin.len_ #[t] ty #[.map (some b)]).run Tryd.prog w = .ok (goInt n) w) (hgd : o.guard = none) {x : Operand} (hty : o.type = ty) (ho : o.op = Op.call { callee := Callee.builtin Builtin.len, args := #[x], argTypes := #[t] }) (hx : a.eval x = .map (some b))
    (h : wpList Tryd.prog ops Q rest (a.put o.dst (.int .i64 (n : Nat))) w) : wpList Tryd.prog ops Q (o :: rest) a w := by
  refine wpList_plain hgd fun K hK => ?_
  subst hty
  unfold Oper.wp execOp
  simp only [ho, resolve, invoke, builtin, Sem.run_bind, Sem.run_pure, Result.andThen_ok, List.map_toArray, List.map_cons, List.map_nil, hx, hrun]
  exact hK _ _ h
end
def encS : Enc Tryd.prog 151 (List Nat) where
  enc l := .agg (rowS fun j => (l.getD j 0 : Nat))
  D l := l.length = 257 ∧ ∀ x ∈ l, x ≤ 9223372036854775807
  key l h := by
    refine keyOf_row (P := Tryd.prog) (k := 151) (e := 3) (n := 257) Tryd.underlying151 Tryd.underlying3 (by kernel_rfl) (by kernel_rfl) (by kernel_rfl) types_pos (fun j => (l.getD j 0 : Nat)) fun i hi => wf_i64 (h.2 _ (getD_mem0 (by rw [h.1]; exact hi)))
  inj x y hx hy h := by
    refine List.ext_getElem? fun i => ?_
    by_cases hi : i < 257
    · have h1 : (rowS fun j => ((x.getD j 0 : Nat) : Int)) = rowS fun j => ((y.getD j 0 : Nat) : Int) := by injection h
      have h2 := congrArg (fun a : Array Value => a[i]?) h1
      rw [rowS_get _ hi, rowS_get _ hi] at h2
      simp only [Option.some.injEq, Value.int.injEq, true_and] at h2
      have h3 := Int.ofNat_inj.1 h2
      rw [List.getD_eq_getElem?_getD, List.getD_eq_getElem?_getD, List.getElem?_eq_getElem (by rw [hx.1]; exact hi), List.getElem?_eq_getElem (by rw [hy.1]; exact hi)] at h3
      rw [List.getElem?_eq_getElem (by rw [hx.1]; exact hi), List.getElem?_eq_getElem (by rw [hy.1]; exact hi)]
      exact congrArg some h3
    · rw [List.getElem?_eq_none (by rw [hx.1]; omega), List.getElem?_eq_none (by rw [hy.1]; omega)]
theorem keyS : Maps.Keyed Tryd.prog 151 := Maps.Keyed.of_law (deep_law_laid laidOutA (m := 3) (by decide) (of_decide_eq_true (by kernel_rfl)) (by kernel_rfl) (by kernel_rfl))
theorem sgn_length (R : RA) (g : Nat → Nat) (i : Nat) : (sgn R g i).length = 257 := by simp [sgn]
theorem sgn_get (R : RA) (g : Nat → Nat) (i : Nat) {j : Nat} (h : j < 257) : (sgn R g i).getD j 0 = if j = 256 then g i else g (R.nx i j) := by
  unfold sgn
  by_cases e : j = 256
  · subst e
    rw [if_pos rfl, List.getD_eq_getElem?_getD, List.getElem?_append_right (by simp)]; simp
  · rw [if_neg e, List.getD_eq_getElem?_getD, List.getElem?_append_left (by simp; omega), List.getElem?_map, List.getElem?_range (by omega)]; rfl
theorem sgn_dom {R : RA} {g : Nat → Nat} (hg : ∀ i, i < R.n → g i ≤ 8192) (ok : R.Ok) {i : Nat} (hi : i < R.n) : encS.D (sgn R g i) := by
  refine ⟨sgn_length R g i, fun x hx => ?_⟩
  unfold sgn at hx
  rcases List.mem_append.1 hx with hx | hx
  · obtain ⟨c, hc, rfl⟩ := List.mem_map.1 hx
    have := hg _ (ok.nx i c hi (List.mem_range.1 hc)); omega
  · rw [List.mem_singleton] at hx; have := hg i hi; omega
theorem uniq_range_succ {β : Type} [DecidableEq β] (h : Nat → β) (i : Nat) : uniq ((List.range (i + 1)).map h) = if h i ∈ uniq ((List.range i).map h) then uniq ((List.range i).map h) else uniq ((List.range i).map h) ++ [h i] := by
  rw [List.range_succ, List.map_append, List.map_singleton, uniq_snoc]
theorem least1_any (r : Nat → Int) (cb db c d : Nat) (hc : c < 256) (hd : d < 256) (w : World) (h1 : w.cell? ⟨cb, 0, none⟩ = some (.int .i64 (c : Nat))) (h2 : w.cell? ⟨db, 0, none⟩ = some (.int .i64 (d : Nat))) :
    Calls Tryd.prog 63 #[.agg (rowI r), .pointer (some ⟨cb, 0, none⟩), .pointer (some ⟨db, 0, none⟩)] w fun e w' => e = .returned (.bool (r c != r d)) ∧ Grew w w' := by
  have g := (Grew.refl w).alloc (.cells (rowI r) 26)
  have hA := rowI_at w r 26
  have k1 := g.keeps h1
  have k2 := g.keeps h2
  have k3 := hA.at0 c hc
  have k4 := hA.at0 d hd
  have hc2 : (c : Int) < 256 := by omega
  have hd2 : (d : Int) < 256 := by omega
  have HG := hidd g
  clear h1 h2 g hA
  go_enter Tryd.func63, Tryd.ntmps63
  go_wp2_with fail
  generalize w.alloc (.cells (rowI r) 26) = W at k1 k2 k3 k4 HG ⊢
  obtain ⟨x, hx⟩ : ∃ x, r c = x := ⟨_, rfl⟩
  obtain ⟨y, hy⟩ : ∃ y, r d = y := ⟨_, rfl⟩
  rw [hx] at k3
  rw [hy] at k4
  have HX := hidd hx
  have HY := hidd hy
  clear hx hy
  have hk0 : W.drew.cell? ⟨cb, 0, none⟩ = some (.int .i64 (c : Nat)) ∧ W.drew.cell? ⟨db, 0, none⟩ = some (.int .i64 (d : Nat)) ∧ W.drew.cell? ⟨w.heap.size, c, none⟩ = some (.int .i64 x) ∧ W.drew.cell? ⟨w.heap.size, d, none⟩ = some (.int .i64 y) := ⟨k1, k2, k3, k4⟩
  clear k1 k2 k3 k4
  go_region_held3 (fun g => g.cell? ⟨cb, 0, none⟩ = some (.int .i64 (c : Nat)) ∧ g.cell? ⟨db, 0, none⟩ = some (.int .i64 (d : Nat)) ∧ g.cell? ⟨w.heap.size, c, none⟩ = some (.int .i64 x) ∧ g.cell? ⟨w.heap.size, d, none⟩ = some (.int .i64 y)) (with_reducible exact hk0) (fail)
  go_wp2_with fail
  go_ret
  exact ⟨by rw [HX.out, HY.out]; rfl, HG.out.drew⟩
theorem AIndexFunc_any (n : Nat) (nx : Nat → Nat → Nat) (rb ro rc cb db c d : Nat) (hc : c < 256) (hd : d < 256) (w : World) (hn : n ≤ 8192) (h1 : w.cell? ⟨cb, 0, none⟩ = some (.int .i64 (c : Nat))) (h2 : w.cell? ⟨db, 0, none⟩ = some (.int .i64 (d : Nat)))
    (hr : ∀ s c, s < n → c < 256 → w.cell? ⟨rb, ro + s * 256 + c, none⟩ = some (.int .i64 (nx s c : Nat))) :
    Calls Tryd.prog 101 #[.slice (some ⟨rb, ro, none⟩) n rc, .func (.func 63) #[] #[.pointer (some ⟨cb, 0, none⟩), .pointer (some ⟨db, 0, none⟩)]] w fun e w' => (∃ z : Int, e = .returned (.int .i64 z) ∧ (0 ≤ z ↔ ∃ s, s < n ∧ nx s c ≠ nx s d)) ∧ Grew w w' := by
  have HR := hidd hr
  have H1 := hidd h1
  have H2 := hidd h2
  clear hr h1 h2
  go_enter Tryd.func101, Tryd.ntmps101
  go_wp2_with fail
  go_loopw [8] (fun s8 wr => ∃ i : Nat, s8 = .int .i64 i ∧ i ≤ n ∧ Hid (Grew w wr ∧ ∀ s, s < i → nx s c = nx s d)) (fun s8 _ => n - (intOf s8).toNat)
  case atStart => exact ⟨0, rfl, by omega, Grew.refl w, fun s hs => by omega⟩
  case round =>
    obtain ⟨i, rfl, hi, KG⟩ := hrel
    by_cases hlt : i < n
    · have kl : decide ((i : Int) < (n : Int)) = true := decide_eq_true (by omega)
      have HRow : Hid (∀ j, j < 256 → wr.cell? ⟨rb, ro + i * 256 + j, none⟩ = some (.int .i64 (nx i j : Nat))) := fun j hj => KG.out.1.keeps (HR.out i j hlt hj)
      have HCall := hidd (least1_any (fun j => (nx i j : Nat)) cb db c d hc hd wr (KG.out.1.keeps H1.out) (KG.out.1.keeps H2.out))
      go_wp2_with (refine wpList_load_off rfl rfl rfl HRow.out ?_)
      refine HCall.out.mono ?_; rintro e w1 ⟨rfl, g1⟩
      have HG1 := hidd (KG.out.1.trans g1)
      by_cases hq : nx i c = nx i d
      · have hb : (((nx i c : Nat) : Int) != ((nx i d : Nat) : Int)) = false := by simp [hq]
        have HAll : Hid (∀ s, s < i + 1 → nx s c = nx s d) := fun s hs => by
          by_cases e : s < i
          · exact KG.out.2 s e
          · have : s = i := by omega
            rw [this]; exact hq
        rw [hb]
        clear hb g1 HCall HRow
        go_wp2_with fail
        exact ⟨⟨i + 1, by simp, by omega, HG1.out, HAll.out⟩, by simp [intOf]; omega⟩
      · have hb : (((nx i c : Nat) : Int) != ((nx i d : Nat) : Int)) = true := by simp; omega
        have HEx : Hid (∃ s, s < n ∧ nx s c ≠ nx s d) := ⟨i, hlt, hq⟩
        rw [hb]
        clear hb g1 HCall HRow hq
        go_wp2_with fail
        go_ret
        exact ⟨⟨i, rfl, fun _ => HEx.out, fun _ => by omega⟩, HG1.out⟩
    · obtain rfl : i = n := by omega
      have kl : decide ((i : Int) < (i : Int)) = false := decide_eq_false (by omega)
      go_wp2_with fail
      go_ret
      exact ⟨⟨-1, rfl, fun h => absurd h (by decide), fun ⟨s, hs, hne⟩ => absurd (KG.out.2 s hs) hne⟩, KG.out.1⟩
theorem ContainsFunc_any (n : Nat) (nx : Nat → Nat → Nat) (rb ro rc cb db c d : Nat) (hc : c < 256) (hd : d < 256) (w : World) (hn : n ≤ 8192) (h1 : w.cell? ⟨cb, 0, none⟩ = some (.int .i64 (c : Nat))) (h2 : w.cell? ⟨db, 0, none⟩ = some (.int .i64 (d : Nat)))
    (hr : ∀ s c, s < n → c < 256 → w.cell? ⟨rb, ro + s * 256 + c, none⟩ = some (.int .i64 (nx s c : Nat))) :
    Calls Tryd.prog 62 #[.slice (some ⟨rb, ro, none⟩) n rc, .func (.func 63) #[] #[.pointer (some ⟨cb, 0, none⟩), .pointer (some ⟨db, 0, none⟩)]] w fun e w' => (∃ z : Bool, e = .returned (.bool z) ∧ (z = true ↔ ∃ s, s < n ∧ nx s c ≠ nx s d)) ∧ Grew w w' := by
  have HC := hidd (AIndexFunc_any n nx rb ro rc cb db c d hc hd w hn h1 h2 hr)
  clear h1 h2 hr
  go_enter Tryd.func62, Tryd.ntmps62
  go_wp2_with fail
  refine HC.out.mono ?_; rintro e w1 ⟨⟨z, rfl, hz⟩, g1⟩
  have HG := hidd g1
  have HZ := hidd hz
  clear g1 hz
  go_wp2_with fail
  go_ret
  exact ⟨⟨decide ((0 : Int) ≤ z), rfl, by rw [decide_eq_true_iff]; exact HZ.out⟩, HG.out⟩
end Go.Proofs.YtkkdpafkafjfgaaDoor

namespace Go.Proofs.YtkkdpafkafjfgaaDoor
open Go.RowKit
set_option linter.unusedVariables false
theorem not_lt (b : Nat) : 18446744073709551615 - b < 18446744073709551616 := by omega
theorem testBit_not64 (x j : Nat) (hx : x < 18446744073709551616) : (18446744073709551615 - x).testBit j = (decide (j < 64) && !x.testBit j) := by
  rw [show 18446744073709551615 - x = 2 ^ 64 - (x + 1) by omega, Nat.testBit_two_pow_sub_succ hx]
theorem xor_not (x : Nat) (hx : x < 18446744073709551616) : 18446744073709551615 ^^^ x = 18446744073709551615 - x := by
  apply Nat.eq_of_testBit_eq
  intro j
  rw [Nat.testBit_xor, testBit_not64 x j hx, show 18446744073709551615 = 2 ^ 64 - 1 from rfl, Nat.testBit_two_pow_sub_one]
  by_cases hj : j < 64
  · simp [hj]
  · have := Nat.testBit_lt_two_pow (x := x) (i := j) (Nat.lt_of_lt_of_le hx (Nat.pow_le_pow_right (n := 2) (i := 64) (by decide) (by omega)))
    simp [hj, this]
theorem word_not (f : Nat → Bool) (b : Nat) : 18446744073709551615 - word f b 64 = word (fun i => !f i) b 64 :=
  word_eq (not_lt _) (fun j hj => by rw [testBit_not64 _ _ (word_lt64 f b), testBit_word]; simp [hj])
theorem words_eq {A B : Nat → Nat} (h : ∀ j, A j = B j) : setW A = setW B := by rw [funext h]
theorem not_fn (a b : Nat) (w : World) (ha : a < 18446744073709551616) (hb : b < 18446744073709551616) :
    Calls Tryd.prog 99 #[.int .u64 a, .int .u64 b] w fun e w' => e = .returned (.int .u64 ((18446744073709551615 - a : Nat) : Int)) ∧ w' = w := by
  have h := show bits .xor .u64 IntKind.u64.max (a : Int) = _ from bits_xor_u64_nat 18446744073709551615 a (by omega) ha
  rw [xor_not a ha] at h
  go_enter Tryd.func99, Tryd.ntmps99
  go_wp2_with fail
  go_ret
  all_goals exact ⟨rfl, rfl⟩
set_option maxHeartbeats 1000000 in
theorem not_each (A B : Nat → Nat) (w : World) (hA : W64 A) (hB : W64 B) :
    Calls Tryd.prog 98 #[setW A, setW B, .func (.func 99) #[] #[]] w fun e w' => e = .returned (setW (fun j => 18446744073709551615 - A j)) ∧ Grew w w' := by
  have HZ : Hid (ArrAt (((w.alloc (.cells (wordsB A) 77)).alloc (.cells (wordsB B) 77)).alloc (.cells (wordsB fun _ => 0) 77)) w.heap.size 0 4 (fun j => .int .u64 (A j))) := ((words_at w A).alloc _).alloc _
  have HY : Hid (ArrAt (((w.alloc (.cells (wordsB A) 77)).alloc (.cells (wordsB B) 77)).alloc (.cells (wordsB fun _ => 0) 77)) (w.heap.size + 1) 0 4 (fun j => .int .u64 (B j))) := by
    have := words_at (w.alloc (.cells (wordsB A) 77)) B
    rw [World.size_alloc] at this
    exact this.alloc _
  have HX : Hid (ArrAt (((w.alloc (.cells (wordsB A) 77)).alloc (.cells (wordsB B) 77)).alloc (.cells (wordsB fun _ => 0) 77)) (w.heap.size + 1 + 1) 0 4 (fun j => .int .u64 ((0 : Nat) : Int))) := by
    have := words_at ((w.alloc (.cells (wordsB A) 77)).alloc (.cells (wordsB B) 77)) (fun _ => 0)
    rw [World.size_alloc, World.size_alloc] at this
    exact this
  have HW : Hid (Grew w (((w.alloc (.cells (wordsB A) 77)).alloc (.cells (wordsB B) 77)).alloc (.cells (wordsB fun _ => 0) 77))) := (((Grew.refl w).alloc _).alloc _).alloc _
  unfold wordsB at HZ HY HX HW
  unfold setW
  have HA := hidd hA
  have HB := hidd hB
  clear hA hB
  go_enter Tryd.func98, Tryd.ntmps98
  go_wp2_with fail
  go_loopw [7, 8] (fun u7 u8 wr => ∃ (i : Nat), u8 = .int .i64 i ∧ i ≤ 4 ∧ Hid (ArrAt wr w.heap.size 0 4 (fun j => .int .u64 (A j))) ∧ Hid (ArrAt wr (w.heap.size + 1) 0 4 (fun j => .int .u64 (B j))) ∧ Hid (ArrAt wr (w.heap.size + 1 + 1) 0 4 (fun j => .int .u64 ((if j < i then 18446744073709551615 - A j else 0 : Nat) : Int))) ∧ Hid (Grew w wr)) (fun _ u8 _ => 4 - (intOf u8).toNat)
  case atStart => exact ⟨0, rfl, by omega, HZ, HY, (by rw [Hid]; exact HX.out.congr fun j hj => by simp), HW⟩
  case round =>
    obtain ⟨i, rfl, hi, KA, KB, KS, KW⟩ := hrel
    by_cases h : i < 4
    · have ca := KA.out.at0 i h
      have cb := KB.out.at0 i h
      have cs := KS.out.at0 i h
      have cf := KS.out.free0 i h
      have la := HA.out i
      have lb := HB.out i
      go_wp2_with fail
      go_region_with (go_at_call 99; refine (not_fn _ _ _ la lb).mono ?_; rintro e w1 ⟨rfl, rfl⟩)
      all_goals (
        have KA' := hidd ((KA.out.other ⟨w.heap.size + 1 + 1, i, none⟩ (by simp; omega) (.int .u64 ((18446744073709551615 - A i : Nat) : Int))).drew)
        have KB' := hidd ((KB.out.other ⟨w.heap.size + 1 + 1, i, none⟩ (by simp) (.int .u64 ((18446744073709551615 - A i : Nat) : Int))).drew)
        have KS' := hidd ((KS.out.set0 i h (.int .u64 ((18446744073709551615 - A i : Nat) : Int))).drew)
        have KW' := hidd ((KW.out.setCell (p := ⟨w.heap.size + 1 + 1, i, none⟩) (by simp; omega) (.int .u64 ((18446744073709551615 - A i : Nat) : Int))).drew)
        go_wp2_with fail
        refine ⟨⟨i + 1, (by simp), (by omega), KA', KB', (by
          rw [Hid]; exact KS'.out.congr fun j hj => by
            by_cases e : j = i
            · subst e; simp
            · have : (j < i + 1) = (j < i) := by apply propext; omega
              simp [e, this]), KW'⟩, (by simp [intOf]; omega)⟩)
    · obtain rfl : i = 4 := by omega
      have c0 := KS.out.at0 0 (by omega)
      have c1 := KS.out.at0 1 (by omega)
      have c2 := KS.out.at0 2 (by omega)
      have c3 := KS.out.at0 3 (by omega)
      simp only [show (0:Nat) < 4 from by omega, show (1:Nat) < 4 from by omega, show (2:Nat) < 4 from by omega, show (3:Nat) < 4 from by omega, if_true] at c0 c1 c2 c3
      have f0 := KS.out.free0 0 (by omega)
      have f1 := KS.out.free0 1 (by omega)
      have f2 := KS.out.free0 2 (by omega)
      have f3 := KS.out.free0 3 (by omega)
      go_wp2_with fail
      (try simp only [Exit.inBlock, Exit.then])
      refine bodyPost_arr (n := 4) rfl rfl ((((KS.out.set0 0 (by omega) _).set0 1 (by omega) _).set0 2 (by omega) _).set0 3 (by omega) _) Tryd.underlying77 rfl info_set rfl ⟨?_, ?_⟩
      · refine congrArg (fun x => Ending.returned (.agg x)) ((rowB_congr (g := fun j => .int .u64 ((18446744073709551615 - A j : Nat) : Int)) fun j hj => ?_).trans rfl)
        match j, hj with
        | 0, _ => rfl
        | 1, _ => rfl
        | 2, _ => rfl
        | 3, _ => rfl
      · exact (((KW.out.setCell (by simp <;> omega) _).setCell (by simp <;> omega) _).setCell (by simp <;> omega) _).setCell (by simp <;> omega) _
set_option maxHeartbeats 1000000 in
theorem Not_w (A : Nat → Nat) (w : World) (hA : W64 A) :
    Calls Tryd.prog 57 #[setW A] w fun e w' => e = .returned (setW (fun j => 18446744073709551615 - A j)) ∧ Grew w w' := by
  have HX : Hid (ArrAt ((w.alloc (.cells (wordsB A) 77)).alloc (.cells (wordsB fun _ => 0) 77)) (w.heap.size + 1) 0 4 (fun j => .int .u64 ((0 : Nat) : Int))) := by
    have := words_at (w.alloc (.cells (wordsB A) 77)) (fun _ => 0)
    rw [World.size_alloc] at this
    exact this
  have HW : Hid (Grew w ((w.alloc (.cells (wordsB A) 77)).alloc (.cells (wordsB fun _ => 0) 77))) := (((Grew.refl w).alloc _).alloc _)
  have HE := fun w0 : World => not_each A A w0
  unfold wordsB at HX HW
  unfold setW at HE ⊢
  have HA := hidd hA
  clear hA
  go_enter Tryd.func57, Tryd.ntmps57
  go_wp2_with fail
  refine (HE _ HA.out HA.out).mono ?_; rintro e w1 ⟨rfl, G⟩
  have KS := hidd (HX.out.kept G)
  have G1 := hidd (HW.out.trans G)
  clear G HE HX HW
  have c0 := KS.out.at0 0 (by omega)
  have c1 := KS.out.at0 1 (by omega)
  have c2 := KS.out.at0 2 (by omega)
  have c3 := KS.out.at0 3 (by omega)
  have f0 := KS.out.free0 0 (by omega)
  have f1 := KS.out.free0 1 (by omega)
  have f2 := KS.out.free0 2 (by omega)
  have f3 := KS.out.free0 3 (by omega)
  go_wp2_with fail
  (try simp only [Exit.inBlock, Exit.then])
  refine bodyPost_arr (n := 4) rfl rfl ((((KS.out.set0 0 (by omega) _).set0 1 (by omega) _).set0 2 (by omega) _).set0 3 (by omega) _) Tryd.underlying77 rfl info_set rfl ⟨?_, ?_⟩
  · refine congrArg (fun x => Ending.returned (.agg x)) ((rowB_congr (g := fun j => .int .u64 ((18446744073709551615 - A j : Nat) : Int)) fun j hj => ?_).trans rfl)
    match j, hj with
    | 0, _ => rfl
    | 1, _ => rfl
    | 2, _ => rfl
    | 3, _ => rfl
  · exact (((G1.out.setCell (by simp <;> omega) _).setCell (by simp <;> omega) _).setCell (by simp <;> omega) _).setCell (by simp <;> omega) _
theorem Not_any (f : Nat → Bool) (w : World) : Calls Tryd.prog 57 #[setV f] w fun e w' => e = .returned (setV fun i => !f i) ∧ Grew w w' := by
  have := Not_w (fun j => word f (64 * j) 64) w (fun j => word_lt64 f _)
  rw [words_eq (fun j => word_not f (64 * j))] at this
  exact this
end Go.Proofs.YtkkdpafkafjfgaaDoor

namespace Go.Proofs.YtkkdpafkafjfgaaDoor
set_option linter.unusedVariables false
section
variable {α : Type} [DecidableEq α]
end
def clsN (C : RA) : Nat := (fsts (colA C) 256).length
end Go.Proofs.YtkkdpafkafjfgaaDoor

namespace Go.Proofs.YtkkdpafkafjfgaaDoor
open Go.RowKit
set_option linter.unusedVariables false
abbrev Far : Type := Nat → Option (Array Value)
section
variable {X : Far} {w0 w : World} {bm : Nat} {rv : Value} {s : ByteArray} {fuel : Nat} {m : MS} {sv cv : Value} {gp : Option Addr} {vs : List Value}
end
theorem Grew.grown {a w w' : World} (h : Grew a w) {row : Option Nat} (g : w.grownBy w' row) (hr : ∀ b, row = some b → a.heap.size ≤ b) : Grew a w' :=
  ⟨g.os.trans h.os, g.tape.trans h.tape, g.output.trans h.output, Nat.le_trans h.size g.size, fun x hx => by
    rw [g.block x (Nat.lt_of_lt_of_le hx h.size) (fun e => by have := hr x e.symm; omega)]; exact h.block x hx⟩
end Go.Proofs.YtkkdpafkafjfgaaDoor
namespace Go.Proofs.YtkkdpafkafjfgaaDoor
open Go.RowKit
set_option linter.unusedVariables false
end Go.Proofs.YtkkdpafkafjfgaaDoor
