/- What a state is known by, as a key of a map; functions that least hands on. -/
import Derived.Test.YtkkdpafkafjfgaaTwAuEz
namespace Go.Proofs.Ytkkdpafkafjfgaa
open Go.RowKit RR
set_option linter.unusedVariables false
set_option maxRecDepth 100000
def rowS (f : Nat → Int) : Array Value := ((List.range 257).map fun j => Value.int .i64 (f j)).toArray
theorem rowS_size (f : Nat → Int) : (rowS f).size = 257 := by simp [rowS]
theorem rowS_get (f : Nat → Int) {j : Nat} (h : j < 257) : (rowS f)[j]? = some (.int .i64 (f j)) := by simp [rowS, h]
theorem zero_rowS (w : World) : (zeroValue 89).run Try.prog w = .ok (.agg (rowS fun _ => 0)) w := run_zero (by kernel_rfl) w
theorem rowS_at (w : World) (f : Nat → Int) (t : TypeId) : ArrAt (w.alloc (.cells (rowS f) t)) w.heap.size 0 257 fun j => .int .i64 (f j) := ArrAt.new w _ _ 257 _ fun j hj => rowS_get f hj
section
variable {ops : Array Oper} {rest : List Oper} {o : Oper} {a : Act} {w : World} {Q : Exit → Act → World → Prop}
theorem wpList_load_sign (hgd : o.guard = none) {x : Operand} (ho : o.op = .load 89 x) {b : Nat} {f : Nat → Int} (hx : a.eval x = .pointer (some ⟨b, 0, none⟩)) (hA : ArrAt w b 0 257 fun j => .int .i64 (f j))
    (h : wpList Try.prog ops Q rest (a.put o.dst (.agg (rowS f))) w) : wpList Try.prog ops Q (o :: rest) a w := by
  refine wpList_plain hgd fun _ hK => ?_
  have hl := run_loadVar_arrA hA Try.underlying89 rfl (show (Try.prog.info? 89).map (·.size) = some 257 by kernel_rfl)
  have hl2 : (loadVar 89 ⟨b, 0, none⟩).run Try.prog w = .ok (.agg (rowS f)) w := hl
  unfold Oper.wp execOp
  simp only [ho, hx, Instr.loadAt, Instr.sureAddr, Sem.run_bind, Sem.run_pure, Result.andThen_ok, hl2]
  exact hK _ _ h
theorem wpList_len_eq {t ty : TypeId} {b : Nat} {n : Nat} (hrun : (Builtin.len_ #[t] ty #[.map (some b)]).run Try.prog w = .ok (goInt n) w) (hgd : o.guard = none) {x : Operand} (hty : o.type = ty) (ho : o.op = Op.call { callee := Callee.builtin Builtin.len, args := #[x], argTypes := #[t] }) (hx : a.eval x = .map (some b))
    (h : wpList Try.prog ops Q rest (a.put o.dst (.int .i64 (n : Nat))) w) : wpList Try.prog ops Q (o :: rest) a w := by
  refine wpList_plain hgd fun K hK => ?_
  subst hty
  unfold Oper.wp execOp
  simp only [ho, resolve, invoke, builtin, Sem.run_bind, Sem.run_pure, Result.andThen_ok, List.map_toArray, List.map_cons, List.map_nil, hx, hrun]
  exact hK _ _ h
end
def encS : Enc Try.prog 89 (List Nat) where
  enc l := .agg (rowS fun j => (l.getD j 0 : Nat))
  D l := l.length = 257 ∧ ∀ x ∈ l, x ≤ 9223372036854775807
  key l h := by
    refine keyOf_row (P := Try.prog) (k := 89) (e := 3) (n := 257) Try.underlying89 Try.underlying3 (by kernel_rfl) (by kernel_rfl) (by kernel_rfl) types_pos (fun j => (l.getD j 0 : Nat)) fun i hi => wf_i64 (h.2 _ (getD_mem0 (by rw [h.1]; exact hi)))
  inj x y hx hy h := by
    refine List.ext_getElem? fun i => ?_
    by_cases hi : i < 257
    · have h1 : (rowS fun j => ((x.getD j 0 : Nat) : Int)) = rowS fun j => ((y.getD j 0 : Nat) : Int) := by injection h
      have h2 := congrArg (fun a : Array Value => a[i]?) h1
      rw [rowS_get _ hi, rowS_get _ hi] at h2
      simp only [Option.some.injEq, Value.int.injEq, true_and] at h2
      have h3 := Int.ofNat_inj.1 h2
      rw [List.getD_eq_getElem?_getD, List.getD_eq_getElem?_getD, List.getElem?_eq_getElem (by rw [hx.1]; exact hi), List.getElem?_eq_getElem (by rw [hy.1]; exact hi)] at h3
      rw [List.getElem?_eq_getElem (by rw [hx.1]; exact hi), List.getElem?_eq_getElem (by rw [hy.1]; exact hi)]
      exact congrArg some h3
    · rw [List.getElem?_eq_none (by rw [hx.1]; omega), List.getElem?_eq_none (by rw [hy.1]; omega)]
theorem keyS : Maps.Keyed Try.prog 89 := Maps.Keyed.of_law (deep_law_laid laidOutA (m := 3) (by decide) (of_decide_eq_true (by kernel_rfl)) (by kernel_rfl) (by kernel_rfl))
theorem sgn_length (R : RA) (g : Nat → Nat) (i : Nat) : (sgn R g i).length = 257 := by simp [sgn]
theorem sgn_get (R : RA) (g : Nat → Nat) (i : Nat) {j : Nat} (h : j < 257) : (sgn R g i).getD j 0 = if j = 256 then g i else g (R.nx i j) := by
  unfold sgn
  by_cases e : j = 256
  · subst e
    rw [if_pos rfl, List.getD_eq_getElem?_getD, List.getElem?_append_right (by simp)]; simp
  · rw [if_neg e, List.getD_eq_getElem?_getD, List.getElem?_append_left (by simp; omega), List.getElem?_map, List.getElem?_range (by omega)]; rfl
theorem sgn_dom {R : RA} {g : Nat → Nat} (hg : ∀ i, i < R.n → g i ≤ 8192) (ok : R.Ok) {i : Nat} (hi : i < R.n) : encS.D (sgn R g i) := by
  refine ⟨sgn_length R g i, fun x hx => ?_⟩
  unfold sgn at hx
  rcases List.mem_append.1 hx with hx | hx
  · obtain ⟨c, hc, rfl⟩ := List.mem_map.1 hx
    have := hg _ (ok.nx i c hi (List.mem_range.1 hc)); omega
  · rw [List.mem_singleton] at hx; have := hg i hi; omega
theorem uniq_range_succ {β : Type} [DecidableEq β] (h : Nat → β) (i : Nat) : uniq ((List.range (i + 1)).map h) = if h i ∈ uniq ((List.range i).map h) then uniq ((List.range i).map h) else uniq ((List.range i).map h) ++ [h i] := by
  rw [List.range_succ, List.map_append, List.map_singleton, uniq_snoc]
theorem least1_any (r : Nat → Int) (cb db c d : Nat) (hc : c < 256) (hd : d < 256) (w : World) (h1 : w.cell? ⟨cb, 0, none⟩ = some (.int .i64 (c : Nat))) (h2 : w.cell? ⟨db, 0, none⟩ = some (.int .i64 (d : Nat))) :
    Calls Try.prog 40 #[.agg (rowI r), .pointer (some ⟨cb, 0, none⟩), .pointer (some ⟨db, 0, none⟩)] w fun e w' => e = .returned (.bool (r c != r d)) ∧ Grew w w' := by
  have g := (Grew.refl w).alloc (.cells (rowI r) 22)
  have hA := rowI_at w r 22
  have k1 := g.keeps h1
  have k2 := g.keeps h2
  have k3 := hA.at0 c hc
  have k4 := hA.at0 d hd
  have hc2 : (c : Int) < 256 := by omega
  have hd2 : (d : Int) < 256 := by omega
  have HG := hidd g
  clear h1 h2 g hA
  go_enter Try.func40, Try.ntmps40
  go_wp2_with fail
  generalize w.alloc (.cells (rowI r) 22) = W at k1 k2 k3 k4 HG ⊢
  obtain ⟨x, hx⟩ : ∃ x, r c = x := ⟨_, rfl⟩
  obtain ⟨y, hy⟩ : ∃ y, r d = y := ⟨_, rfl⟩
  rw [hx] at k3
  rw [hy] at k4
  have HX := hidd hx
  have HY := hidd hy
  clear hx hy
  have hk0 : W.drew.cell? ⟨cb, 0, none⟩ = some (.int .i64 (c : Nat)) ∧ W.drew.cell? ⟨db, 0, none⟩ = some (.int .i64 (d : Nat)) ∧ W.drew.cell? ⟨w.heap.size, c, none⟩ = some (.int .i64 x) ∧ W.drew.cell? ⟨w.heap.size, d, none⟩ = some (.int .i64 y) := ⟨k1, k2, k3, k4⟩
  clear k1 k2 k3 k4
  go_region_held3 (fun g => g.cell? ⟨cb, 0, none⟩ = some (.int .i64 (c : Nat)) ∧ g.cell? ⟨db, 0, none⟩ = some (.int .i64 (d : Nat)) ∧ g.cell? ⟨w.heap.size, c, none⟩ = some (.int .i64 x) ∧ g.cell? ⟨w.heap.size, d, none⟩ = some (.int .i64 y)) (with_reducible exact hk0) (fail)
  go_wp2_with fail
  go_ret
  exact ⟨by rw [HX.out, HY.out]; rfl, HG.out.drew⟩
theorem AIndexFunc_any (n : Nat) (nx : Nat → Nat → Nat) (rb ro rc cb db c d : Nat) (hc : c < 256) (hd : d < 256) (w : World) (hn : n ≤ 8192) (h1 : w.cell? ⟨cb, 0, none⟩ = some (.int .i64 (c : Nat))) (h2 : w.cell? ⟨db, 0, none⟩ = some (.int .i64 (d : Nat)))
    (hr : ∀ s c, s < n → c < 256 → w.cell? ⟨rb, ro + s * 256 + c, none⟩ = some (.int .i64 (nx s c : Nat))) :
    Calls Try.prog 42 #[.slice (some ⟨rb, ro, none⟩) n rc, .func (.func 40) #[] #[.pointer (some ⟨cb, 0, none⟩), .pointer (some ⟨db, 0, none⟩)]] w fun e w' => (∃ z : Int, e = .returned (.int .i64 z) ∧ (0 ≤ z ↔ ∃ s, s < n ∧ nx s c ≠ nx s d)) ∧ Grew w w' := by
  have HR := hidd hr
  have H1 := hidd h1
  have H2 := hidd h2
  clear hr h1 h2
  go_enter Try.func42, Try.ntmps42
  go_wp2_with fail
  go_loopw [8] (fun s8 wr => ∃ i : Nat, s8 = .int .i64 i ∧ i ≤ n ∧ Hid (Grew w wr ∧ ∀ s, s < i → nx s c = nx s d)) (fun s8 _ => n - (intOf s8).toNat)
  case atStart => exact ⟨0, rfl, by omega, Grew.refl w, fun s hs => by omega⟩
  case round =>
    obtain ⟨i, rfl, hi, KG⟩ := hrel
    by_cases hlt : i < n
    · have kl : decide ((i : Int) < (n : Int)) = true := decide_eq_true (by omega)
      have HRow : Hid (∀ j, j < 256 → wr.cell? ⟨rb, ro + i * 256 + j, none⟩ = some (.int .i64 (nx i j : Nat))) := fun j hj => KG.out.1.keeps (HR.out i j hlt hj)
      have HCall := hidd (least1_any (fun j => (nx i j : Nat)) cb db c d hc hd wr (KG.out.1.keeps H1.out) (KG.out.1.keeps H2.out))
      go_wp2_with (refine wpList_load_off rfl rfl rfl HRow.out ?_)
      refine HCall.out.mono ?_; rintro e w1 ⟨rfl, g1⟩
      have HG1 := hidd (KG.out.1.trans g1)
      by_cases hq : nx i c = nx i d
      · have hb : (((nx i c : Nat) : Int) != ((nx i d : Nat) : Int)) = false := by simp [hq]
        have HAll : Hid (∀ s, s < i + 1 → nx s c = nx s d) := fun s hs => by
          by_cases e : s < i
          · exact KG.out.2 s e
          · have : s = i := by omega
            rw [this]; exact hq
        rw [hb]
        clear hb g1 HCall HRow
        go_wp2_with fail
        exact ⟨⟨i + 1, by simp, by omega, HG1.out, HAll.out⟩, by simp [intOf]; omega⟩
      · have hb : (((nx i c : Nat) : Int) != ((nx i d : Nat) : Int)) = true := by simp; omega
        have HEx : Hid (∃ s, s < n ∧ nx s c ≠ nx s d) := ⟨i, hlt, hq⟩
        rw [hb]
        clear hb g1 HCall HRow hq
        go_wp2_with fail
        go_ret
        exact ⟨⟨i, rfl, fun _ => HEx.out, fun _ => by omega⟩, HG1.out⟩
    · obtain rfl : i = n := by omega
      have kl : decide ((i : Int) < (i : Int)) = false := decide_eq_false (by omega)
      go_wp2_with fail
      go_ret
      exact ⟨⟨-1, rfl, fun h => absurd h (by decide), fun ⟨s, hs, hne⟩ => absurd (KG.out.2 s hs) hne⟩, KG.out.1⟩
theorem ContainsFunc_any (n : Nat) (nx : Nat → Nat → Nat) (rb ro rc cb db c d : Nat) (hc : c < 256) (hd : d < 256) (w : World) (hn : n ≤ 8192) (h1 : w.cell? ⟨cb, 0, none⟩ = some (.int .i64 (c : Nat))) (h2 : w.cell? ⟨db, 0, none⟩ = some (.int .i64 (d : Nat)))
    (hr : ∀ s c, s < n → c < 256 → w.cell? ⟨rb, ro + s * 256 + c, none⟩ = some (.int .i64 (nx s c : Nat))) :
    Calls Try.prog 39 #[.slice (some ⟨rb, ro, none⟩) n rc, .func (.func 40) #[] #[.pointer (some ⟨cb, 0, none⟩), .pointer (some ⟨db, 0, none⟩)]] w fun e w' => (∃ z : Bool, e = .returned (.bool z) ∧ (z = true ↔ ∃ s, s < n ∧ nx s c ≠ nx s d)) ∧ Grew w w' := by
  have HC := hidd (AIndexFunc_any n nx rb ro rc cb db c d hc hd w hn h1 h2 hr)
  clear h1 h2 hr
  go_enter Try.func39, Try.ntmps39
  go_wp2_with fail
  refine HC.out.mono ?_; rintro e w1 ⟨⟨z, rfl, hz⟩, g1⟩
  have HG := hidd g1
  have HZ := hidd hz
  clear g1 hz
  go_wp2_with fail
  go_ret
  exact ⟨⟨decide ((0 : Int) ≤ z), rfl, by rw [decide_eq_true_iff]; exact HZ.out⟩, HG.out⟩
end Go.Proofs.Ytkkdpafkafjfgaa
