/- Two automata side by side: the program's. -/
import Derived.Test.YtkkdpafkafjfgaaTwAuCb
import Derived.Great.BuildSlice
import Derived.Deep.WholeRow
namespace Go.Proofs.Ytkkdpafkafjfgaa
open Go.RowKit RR
set_option linter.unusedVariables false
set_option maxRecDepth 100000
set_option linter.unusedSimpArgs false
theorem build_auts {av bv : Array Value} (ha : av.size = 258) (hb : bv.size = 258) (w : World) : (Instr.buildSlice 73 2 #[(0, .agg av), (1, .agg bv)]).run Try.prog w = .ok (.slice (some ⟨w.heap.size, 0, none⟩) 2 2) (w.alloc (.cells (av ++ bv) 26)) := by
  have hin : (Try.prog.info? 26).map (fun i => (i.zero, i.size)) = some (some (.agg zAut), 258) := by kernel_rfl
  cases hi : Try.prog.info? 26 with
  | none => rw [hi] at hin; cases hin
  | some ie =>
    rw [hi] at hin
    simp only [Option.map_some, Option.some.injEq, Prod.mk.injEq] at hin
    obtain ⟨h1, h2⟩ := hin
    refine run_buildSlice w _ 26 2 _ (av ++ bv) ie (.agg zAut) Try.underlying73 hi h1 (by rw [h2]; omega) (by rw [h2]; omega) ?_
    rw [h2]
    have := Great.fill_whole (s := 258) (by omega) [.agg av, .agg bv] ((Array.range (2 * 258)).map ((Value.agg zAut).cells[· % (Value.agg zAut).cells.size]!)) (fun v hv => by
      simp only [List.mem_cons, List.not_mem_nil, or_false] at hv
      rcases hv with rfl | rfl
      · exact ha
      · exact hb) (by simp)
    refine this.trans ?_
    congr 1
    apply Array.toList_inj.1
    simp [Value.cells]
theorem range_getD {av : Array Value} (h : av.size = 258) : ((List.range 258).map fun j => av.getD j undef).toArray = av := by
  apply Array.ext_getElem?
  intro j
  by_cases hj : j < 258
  · rw [List.getElem?_toArray, List.getElem?_map, List.getElem?_range hj]
    show some (av.getD j undef) = _
    rw [Array.getD_eq_getD_getElem?, Array.getElem?_eq_getElem (by omega)]; rfl
  · rw [Array.getElem?_eq_none (by simp; omega), Array.getElem?_eq_none (by omega)]
theorem two_auts {w : World} {b : Nat} {av bv : Array Value} {T : TypeId} (ha : av.size = 258) (hb : bv.size = 258) (h : w.heap[b]? = some (.cells (av ++ bv) T (0, 0))) : (∀ j, j < 258 → w.cell? ⟨b, 0 + j, none⟩ = some (av.getD j undef)) ∧ ∀ j, j < 258 → w.cell? ⟨b, 258 + j, none⟩ = some (bv.getD j undef) := by
  have hc : ∀ j, w.cell? ⟨b, j, none⟩ = (av ++ bv)[j]? := fun j => by
    unfold World.cell?
    dsimp only
    rw [h]; rfl
  refine ⟨fun j hj => ?_, fun j hj => ?_⟩
  · rw [hc, Nat.zero_add, Array.getElem?_append_left (by omega), Array.getD_eq_getD_getElem?, Array.getElem?_eq_getElem (by omega)]; rfl
  · rw [hc, Array.getElem?_append_right (by omega), ha, Nat.add_sub_cancel_left, Array.getD_eq_getD_getElem?, Array.getElem?_eq_getElem (by omega)]; rfl
section
variable {ops : Array Oper} {rest : List Oper} {o : Oper} {a : Act} {w : World} {Q : Exit → Act → World → Prop}
theorem wpList_load_autO (hgd : o.guard = none) {x : Operand} (ho : o.op = .load 26 x) {b k : Nat} {av : Array Value} (hx : a.eval x = .pointer (some ⟨b, k, none⟩)) (hs : av.size = 258) (hA : ∀ j, j < 258 → w.cell? ⟨b, k + j, none⟩ = some (av.getD j undef))
    (h : wpList Try.prog ops Q rest (a.put o.dst (.agg av)) w) : wpList Try.prog ops Q (o :: rest) a w := by
  refine wpList_plain hgd fun _ hK => ?_
  have hl := run_loadVar_off hA Try.underlying26 rfl info_aut
  rw [range_getD hs] at hl
  unfold Oper.wp execOp
  simp only [ho, hx, Instr.loadAt, Instr.sureAddr, Sem.run_bind, Sem.run_pure, Result.andThen_ok, hl]
  exact hK _ _ h
theorem wpList_build_auts (hgd : o.guard = none) {x y : Operand} (ho : o.op = .buildSlice 73 2 #[(0, x), (1, y)]) {av bv : Array Value} (hx : a.eval x = .agg av) (hy : a.eval y = .agg bv) (ha : av.size = 258) (hb : bv.size = 258)
    (h : wpList Try.prog ops Q rest (a.put o.dst (.slice (some ⟨w.heap.size, 0, none⟩) 2 2)) (w.alloc (.cells (av ++ bv) 26))) : wpList Try.prog ops Q (o :: rest) a w := by
  refine wpList_plain hgd fun _ hK => ?_
  unfold Oper.wp execOp
  simp only [ho, List.map_toArray, List.map_cons, List.map_nil, hx, hy, Sem.run_bind, build_auts ha hb, Result.andThen_ok]
  exact hK _ _ h
theorem wpList_store_autN {w0 : World} (hgd : o.guard = none) {x y : Operand} (ho : o.op = .store 26 x y) {av : Array Value} (hx : a.eval x = .pointer (some ⟨w0.heap.size, 0, none⟩)) (hy : a.eval y = .agg av) (h2 : av.size = 258) (h3 : av.all (·.oneCell') = true)
    (h : wpList Try.prog ops Q rest (a.put o.dst undef) (w0.alloc (.cells av 26))) : wpList Try.prog ops Q (o :: rest) a (w0.alloc (.cells zAut 26)) :=
  wpList_store_aut hgd ho hx hy (heap_alloc_new w0 _) zAut_size h2 h3 (by rw [World.setRow_alloc_new]; exact h)
end
def twoErr (A B : Aut) : Int := if wrongA A ≠ 0 then wrongA A else if wrongA B ≠ 0 then wrongA B else if 8192 < A.next.length * B.next.length then 4 else 0
theorem pairs_le {n m : Nat} : ∀ {ks : List (Nat × Nat)}, ks.Nodup → (∀ x ∈ ks, x.1 < n ∧ x.2 < m) → ks.length ≤ n * m := fun {ks} h1 h2 => by
  have h3 : (ks.map fun x => x.1 * m + x.2).Nodup := by
    rw [List.nodup_iff_pairwise_ne, List.pairwise_map]
    rw [List.nodup_iff_pairwise_ne] at h1
    refine List.Pairwise.imp_of_mem ?_ h1
    intro x y hx hy hne e
    obtain ⟨a1, a2⟩ := pair_at (i := x.1) (h2 x hx).2
    obtain ⟨b1, b2⟩ := pair_at (i := y.1) (h2 y hy).2
    rw [e] at a1 a2
    exact hne (Prod.ext (a1.symm.trans b1) (a2.symm.trans b2))
  have := nodup_lt (n * m) h3 fun x hx => by
    obtain ⟨y, hy, rfl⟩ := List.mem_map.1 hx
    exact pair_lt (h2 y hy).1 (h2 y hy).2
  rwa [List.length_map] at this
set_option maxRecDepth 100000 in
theorem Two_any (A B : Aut) (na ea na' ea' : Option Addr) (nc ec nc' ec' : Nat) (g : FuncId) (f : Bool → Bool → Bool) (w : World) (h : AutAt w A na ea) (h' : AutAt w B na' ea') (hg : isGo Try.prog g = true)
    (hC : ∀ x y w1, Calls Try.prog g #[.bool x, .bool y] w1 fun e w' => e = .returned (.bool (f x y)) ∧ Grew w1 w') :
    Calls Try.prog 24 #[.agg (autB A na nc ea ec), .agg (autB B na' nc' ea' ec'), .func (.func g) #[] #[]] w (TwoEnd w (twoErr A B) fun l => f ((raA A).tak 0 l) ((raA B).tak 0 l)) := by
  have HSa := hidd (autB_size A na nc ea ec)
  have HSb := hidd (autB_size B na' nc' ea' ec')
  obtain ⟨t1, ht1⟩ : ∃ t1, w.heap.size = t1 := ⟨_, rfl⟩
  obtain ⟨W1, hW1⟩ : ∃ W1, w.alloc (.cells (autB A na nc ea ec) 26) = W1 := ⟨_, rfl⟩
  have g1 : Grew w W1 := by rw [← hW1]; exact (Grew.refl w).alloc _
  have b1 : W1.heap[t1]? = some (.cells (autB A na nc ea ec) 26 (0, 0)) := by rw [← hW1, ← ht1]; exact heap_alloc_new w _
  have x1 : Box W1 t1 A na nc ea ec := by rw [← hW1, ← ht1]; exact box_new w A na nc ea ec _
  have s1 : W1.heap.size = t1 + 1 := by rw [← hW1, World.size_alloc, ht1]
  obtain ⟨W2, hW2⟩ : ∃ W2, W1.alloc (.cells (autB B na' nc' ea' ec') 26) = W2 := ⟨_, rfl⟩
  have g2 : Grew W1 W2 := by rw [← hW2]; exact (Grew.refl W1).alloc _
  have b2 : W2.heap[t1 + 1]? = some (.cells (autB B na' nc' ea' ec') 26 (0, 0)) := by rw [← hW2, ← s1]; exact heap_alloc_new W1 _
  have x2 : Box W2 (t1 + 1) B na' nc' ea' ec' := by rw [← hW2, ← s1]; exact box_new W1 B na' nc' ea' ec' _
  have s2 : W2.heap.size = t1 + 2 := by rw [← hW2, World.size_alloc, s1]
  obtain ⟨W3, hW3⟩ : ∃ W3, W2.alloc (.cells #[.func (.func g) #[] #[]] 64) = W3 := ⟨_, rfl⟩
  have g3 : Grew W2 W3 := by rw [← hW3]; exact (Grew.refl W2).alloc _
  have b3 : W3.cell? ⟨t1 + 2, 0, none⟩ = some (.func (.func g) #[] #[]) := by rw [← hW3, ← s2, World.cell?_alloc_mark]; rfl
  have s3 : W3.heap.size = t1 + 3 := by rw [← hW3, World.size_alloc, s2]
  obtain ⟨W, hW⟩ : ∃ W, W3.alloc (.cells zAut 26) = W := ⟨_, rfl⟩
  have g4 : Grew W3 W := by rw [← hW]; exact (Grew.refl W3).alloc _
  have b4 : W.heap[t1 + 3]? = some (.cells zAut 26 (0, 0)) := by rw [← hW, ← s3]; exact heap_alloc_new W3 _
  have HG := hidd (((g1.trans g2).trans g3).trans g4)
  have HL := hidd (show Held W t1 A na nc ea ec from ⟨x1.kept ((g2.trans g3).trans g4), h.kept HG.out⟩)
  have HL' := hidd (show Held W (t1 + 1) B na' nc' ea' ec' from ⟨x2.kept (g3.trans g4), h'.kept HG.out⟩)
  have HH := hidd (heap_kept ((g2.trans g3).trans g4) b1)
  have HH' := hidd (heap_kept (g3.trans g4) b2)
  have HF : Hid (W.cell? ⟨t1 + 1 + 1, 0, none⟩ = some (.func (.func g) #[] #[])) := g4.keeps b3
  have HR : Hid (W.heap[t1 + 1 + 1 + 1]? = some (.cells zAut 26 (0, 0))) := b4
  have HWr : Hid (∀ w2, Grew W w2 → Calls Try.prog 5 #[.agg (autB A na nc ea ec)] w2 fun e w' => e = .returned (.int .i64 (wrongA A)) ∧ Grew w2 w') := fun w2 g => AWrong_any A na ea nc ec w2 (HL.out.rows.kept g)
  have HWr' : Hid (∀ w2, Grew W w2 → Calls Try.prog 5 #[.agg (autB B na' nc' ea' ec')] w2 fun e w' => e = .returned (.int .i64 (wrongA B)) ∧ Grew w2 w') := fun w2 g => AWrong_any B na' ea' nc' ec' w2 (HL'.out.rows.kept g)
  have HC := hidd hC
  have HGo := hidd hg
  have HA9 := hidd (And.intro h.nlen h'.nlen)
  have HAc := hidd (And.intro h.c256 h'.c256)
  have hz := zero_aut
  have hWx : (((w.alloc (.cells (autB A na nc ea ec) 26)).alloc (.cells (autB B na' nc' ea' ec') 26)).alloc (.cells #[.func (.func g) #[] #[]] 64)).alloc (.cells zAut 26) = W := by rw [hW1, hW2, hW3, hW]
  subst ht1
  clear hW1 hW2 hW3 hW s1 s2 s3
  generalize hav : autB A na nc ea ec = av at *
  generalize hbv : autB B na' nc' ea' ec' = bv at *
  clear g1 g2 g3 g4 b1 b2 b3 b4 x1 x2 h h' hC hg
  go_enter Try.func24, Try.ntmps24
  go_wp2_with (first | (refine wpList_load_aut (b := w.heap.size) rfl rfl rfl HH.out HSa.out ?_) | (refine wpList_load_aut (b := w.heap.size + 1) rfl rfl rfl HH'.out HSb.out ?_) | (refine wpList_build_auts rfl rfl rfl rfl HSa.out HSb.out ?_))
  obtain ⟨rs, hrs⟩ : ∃ rs, w.heap.size + 1 + 1 + 1 = rs := ⟨_, rfl⟩
  have HRs := hidd (show w.heap.size ≤ rs by omega)
  have hgs : Grew W (W.alloc (.cells (av ++ bv) 26)) := (Grew.refl W).alloc _
  have HT := hidd (two_auts HSa.out HSb.out (heap_alloc_new W (.cells (av ++ bv) 26)))
  have HR1 : Hid ((W.alloc (.cells (av ++ bv) 26)).heap[rs]? = some (.cells zAut 26 (0, 0))) := by rw [← hrs]; exact heap_kept hgs HR.out
  obtain ⟨sb, hsb⟩ : ∃ sb, W.heap.size = sb := ⟨_, rfl⟩
  rw [hsb] at HT
  have HGs := hidd hgs
  have hix0 : ∀ wx, (Instr.indexAt 73 (.slice (some ⟨sb, 0, none⟩) 2 2) (.int .i64 0)).run Try.prog wx = .ok (.pointer (some ⟨sb, 0, none⟩)) wx := fun wx => by
    have := index_sl (sz := 258) Try.underlying73 (by kernel_rfl) (fun w => size_of info_aut w) (b := sb) (o := 0) (n := 2) (c := 2) (i := 0) (by omega) wx
    rwa [Nat.zero_mul] at this
  have hix1 : ∀ wx, (Instr.indexAt 73 (.slice (some ⟨sb, 0, none⟩) 2 2) (.int .i64 1)).run Try.prog wx = .ok (.pointer (some ⟨sb, 258, none⟩)) wx := fun wx => by
    have := index_sl (sz := 258) Try.underlying73 (by kernel_rfl) (fun w => size_of info_aut w) (b := sb) (o := 0) (n := 2) (c := 2) (i := 1) (by omega) wx
    rwa [Nat.one_mul, Nat.zero_add] at this
  have HOa : Hid (av.all (·.oneCell') = true) := by rw [← hav]; exact autB_one _ _ _ _ _
  have HOb : Hid (bv.all (·.oneCell') = true) := by rw [← hbv]; exact autB_one _ _ _ _ _
  rw [hsb, hrs]
  clear hWx
  generalize W.alloc (.cells (av ++ bv) 26) = WS at HT HR1 HGs hgs ⊢
  clear hgs hsb
  go_loopw [15] (fun s15 wr => ∃ i : Nat, s15 = .int .i64 (i : Nat) ∧ i ≤ 2 ∧ Hid (Grew WS wr ∧ (0 < i → wrongA A = 0) ∧ (1 < i → wrongA B = 0))) (fun s15 _ => 2 - (intOf s15).toNat)
  case atStart => exact ⟨0, rfl, by omega, Grew.refl _, fun h => absurd h (by omega), fun h => absurd h (by omega)⟩
  case round =>
    obtain ⟨i, rfl, hi, KG⟩ := hrel
    obtain rfl | rfl | rfl : i = 0 ∨ i = 1 ∨ i = 2 := by omega
    · have HTw : Hid (∀ j, j < 258 → wr.cell? ⟨sb, 0 + j, none⟩ = some (av.getD j undef)) := fun j hj => KG.out.1.keeps (HT.out.1 j hj)
      have HGr := hidd ((HGs.out.trans KG.out.1).alloc (.cells av 26))
      have HGq := hidd ((Grew.refl wr).alloc (.cells av 26))
      go_wp2_with (first | (refine wpList_load_autO (b := sb) (k := 0) rfl rfl rfl HSa.out HTw.out ?_) | (refine wpList_store_autN rfl rfl rfl rfl HSa.out HOa.out ?_) | (refine wpList_load_aut (b := wr.heap.size) rfl rfl rfl (heap_alloc_new wr _) HSa.out ?_))
      refine (HWr.out _ HGr.out).mono ?_; rintro e w5 ⟨rfl, g5⟩
      have HG5 := hidd (KG.out.1.trans (HGq.out.trans g5))
      have HR5 := hidd (heap_kept HG5.out HR1.out)
      clear g5 HTw HGr HGq
      by_cases h0 : wrongA A = 0
      · have HE := hidd h0
        rw [h0]
        clear h0
        go_wp2_with fail
        exact ⟨⟨0 + 1, by simp, by omega, HG5.out, fun _ => HE.out, fun h => absurd h (by omega)⟩, by simp [intOf]⟩
      · have HE := hidd h0
        obtain ⟨err, herr⟩ : ∃ err, wrongA A = err := ⟨_, rfl⟩
        have HEr : Hid (twoErr A B = err) := by rw [← herr]; unfold twoErr; rw [if_pos HE.out]; exact rfl
        rw [herr] at h0 ⊢
        have k1 : (err != 0) = true := by simpa using h0
        have HE0 := hidd h0
        clear h0 herr
        go_wp2_with (first | (refine wpList_build_aut rfl rfl ?_) | (refine wpList_store_aut (b := rs) rfl rfl rfl rfl HR5.out zAut_size zAut_size zAut_one ?_))
        exact bodyPost_ret (results_aut2 (p := 6) (q := 7) rfl rfl rfl (setRow_heap w5 rs _ zAut _ _ HR5.out) zAut_size) rfl ⟨zeroA, none, 0, none, 0, by rw [zeroA_B, HEr.out]; rfl, fun w'' _ _ => zeroA_at w'', setRow_grew ((HG.out.trans HGs.out).trans HG5.out) HRs.out _, fun _ => rfl, fun h => absurd (HEr.out.symm.trans h) HE0.out⟩
    · have HTw : Hid (∀ j, j < 258 → wr.cell? ⟨sb, 258 + j, none⟩ = some (bv.getD j undef)) := fun j hj => KG.out.1.keeps (HT.out.2 j hj)
      have HGr := hidd ((HGs.out.trans KG.out.1).alloc (.cells bv 26))
      have HGq := hidd ((Grew.refl wr).alloc (.cells bv 26))
      go_wp2_with (first | (refine wpList_load_autO (b := sb) (k := 258) rfl rfl rfl HSb.out HTw.out ?_) | (refine wpList_store_autN rfl rfl rfl rfl HSb.out HOb.out ?_) | (refine wpList_load_aut (b := wr.heap.size) rfl rfl rfl (heap_alloc_new wr _) HSb.out ?_))
      refine (HWr'.out _ HGr.out).mono ?_; rintro e w5 ⟨rfl, g5⟩
      have HG5 := hidd (KG.out.1.trans (HGq.out.trans g5))
      have HR5 := hidd (heap_kept HG5.out HR1.out)
      clear g5 HTw HGr HGq
      by_cases h0 : wrongA B = 0
      · have HE := hidd h0
        rw [h0]
        clear h0
        go_wp2_with fail
        exact ⟨⟨1 + 1, by simp, by omega, HG5.out, fun _ => KG.out.2.1 (by omega), fun _ => HE.out⟩, by simp [intOf]⟩
      · have HE := hidd h0
        obtain ⟨err, herr⟩ : ∃ err, wrongA B = err := ⟨_, rfl⟩
        have HEr : Hid (twoErr A B = err) := by rw [← herr]; unfold twoErr; rw [if_neg (fun h => h (KG.out.2.1 (by omega))), if_pos HE.out]; exact rfl
        rw [herr] at h0 ⊢
        have k1 : (err != 0) = true := by simpa using h0
        have HE0 := hidd h0
        clear h0 herr
        go_wp2_with (first | (refine wpList_build_aut rfl rfl ?_) | (refine wpList_store_aut (b := rs) rfl rfl rfl rfl HR5.out zAut_size zAut_size zAut_one ?_))
        exact bodyPost_ret (results_aut2 (p := 6) (q := 7) rfl rfl rfl (setRow_heap w5 rs _ zAut _ _ HR5.out) zAut_size) rfl ⟨zeroA, none, 0, none, 0, by rw [zeroA_B, HEr.out]; rfl, fun w'' _ _ => zeroA_at w'', setRow_grew ((HG.out.trans HGs.out).trans HG5.out) HRs.out _, fun _ => rfl, fun h => absurd (HEr.out.symm.trans h) HE0.out⟩
    · have k2 : decide (((2 : Nat) : Int) < 2) = false := rfl
      have HE1 := hidd (KG.out.2.1 (by omega))
      have HE2 := hidd (KG.out.2.2 (by omega))
      have HRa := hidd (wrongA_zero.1 HE1.out)
      have HRb := hidd (wrongA_zero.1 HE2.out)
      have HLr := hidd (HL.out.kept (HGs.out.trans KG.out.1))
      have HLr' := hidd (HL'.out.kept (HGs.out.trans KG.out.1))
      have HFr := hidd ((HGs.out.trans KG.out.1).keeps HF.out)
      have HRr := hidd (heap_kept KG.out.1 HR1.out)
      have HGr := hidd ((HG.out.trans HGs.out).trans KG.out.1)
      have c1 := HLr.out.box.nx
      have c2 := HLr'.out.box.nx
      have n1 := HRa.out.n1
      have n2 := HRb.out.n1
      clear KG HL HL' HF HR HR1 HT
      obtain ⟨n, hn⟩ : ∃ n, A.next.length = n := ⟨_, rfl⟩
      obtain ⟨m, hm⟩ : ∃ m, B.next.length = m := ⟨_, rfl⟩
      have HN := hidd (And.intro hn hm)
      rw [hn] at c1 n1
      rw [hm] at c2 n2
      clear hn hm
      have hnm : n * m ≤ 8192 * 8192 := Nat.mul_le_mul n1 n2
      obtain ⟨q, hq⟩ : ∃ q, n * m = q := ⟨_, rfl⟩
      have hq2 : (n : Int) * (m : Int) = (q : Int) := by rw [← hq]; simp
      have HQ := hidd hq
      rw [hq] at hnm
      clear hq
      by_cases hqb : 8192 < q
      · have k3 : decide ((8192 : Int) < (q : Int)) = true := decide_eq_true (by omega)
        have HEr : Hid (twoErr A B = 4) := by unfold twoErr; rw [if_neg (fun h => h HE1.out), if_neg (fun h => h HE2.out), HN.out.1, HN.out.2, HQ.out, if_pos hqb]; exact rfl
        go_wp2_with (first | (refine wpList_build_aut rfl rfl ?_) | (refine wpList_store_aut (b := rs) rfl rfl rfl rfl HRr.out zAut_size zAut_size zAut_one ?_))
        exact bodyPost_ret (results_aut2 (p := 6) (q := 7) rfl rfl rfl (setRow_heap wr rs _ zAut _ _ HRr.out) zAut_size) rfl ⟨zeroA, none, 0, none, 0, by rw [zeroA_B, HEr.out]; rfl, fun w'' _ _ => zeroA_at w'', setRow_grew HGr.out HRs.out _, fun _ => rfl, fun h => absurd (HEr.out.symm.trans h) (by decide)⟩
      · have k3 : decide ((8192 : Int) < (q : Int)) = false := decide_eq_false (by omega)
        have HEr : Hid (twoErr A B = 0) := by unfold twoErr; rw [if_neg (fun h => h HE1.out), if_neg (fun h => h HE2.out), HN.out.1, HN.out.2, HQ.out, if_neg hqb]; exact rfl
        have HEx := hidd (Explore_two 0 0 35 36 #[.pointer (some ⟨w.heap.size, 0, none⟩), .pointer (some ⟨w.heap.size + 1, 0, none⟩)] #[.pointer (some ⟨w.heap.size + 1 + 1, 0, none⟩), .pointer (some ⟨w.heap.size, 0, none⟩), .pointer (some ⟨w.heap.size + 1, 0, none⟩)]
          (st2 (raA A) (raA B)) (fun x => f (A.ends.getD x.1 false) (B.ends.getD x.2 false)) (fun x => x.1 < A.next.length ∧ x.2 < B.next.length) (A.next.length * B.next.length) wr (by kernel_rfl) (by kernel_rfl)
          (fun w2 x c g2 hx hc => TwoSt_any A B na ea na' ea' nc ec nc' ec' _ _ x.1 x.2 c w2 (HLr.out.kept g2) (HLr'.out.kept g2) HRa.out HRb.out hx.1 hx.2 hc)
          (fun w2 x g2 hx => TwoEn_any A B na ea na' ea' nc ec nc' ec' _ _ _ x.1 x.2 g _ w2 (HLr.out.kept g2) (HLr'.out.kept g2) HRa.out HRb.out hx.1 hx.2 (g2.keeps HFr.out) HGo.out (fun w3 => HC.out _ _ w3))
          ⟨HRa.out.n0, HRb.out.n0⟩ (fun x c hx hc => ⟨stepA_lt HRa.out HAc.out.1 hx.1 hc, stepA_lt HRb.out HAc.out.2 hx.2 hc⟩) (fun ks h1 h2 => pairs_le h1 h2) (by rw [HN.out.1, HN.out.2, HQ.out]; omega) (fun x hx => by have h1 := hx.1; have h2 := hx.2; rw [HN.out.1] at h1; rw [HN.out.2] at h2; omega))
        have hb2 : Try.prog.built 75 [] = some #[.int .i64 0, .int .i64 0] := by kernel_rfl
        go_wp2_with fail
        refine HEx.out.mono ?_; rintro e w6 ⟨b, ks, rows, rfl, hE, hl, hR, g6⟩
        have HEx2 := hidd hE
        have HLe := hidd (Least_any (expA (fun x => f (A.ends.getD x.1 false) (B.ends.getD x.2 false)) (0, 0) ks rows) b w6 (hE.ok _) (Nat.le_trans hl (by rw [HN.out.1, HN.out.2, HQ.out]; omega)) hR)
        have HG6 := hidd (HGr.out.trans g6)
        have HR6 := hidd (heap_kept g6 HRr.out)
        have HLn : Hid ((expA (fun x => f (A.ends.getD x.1 false) (B.ends.getD x.2 false)) (0, 0) ks rows).n ≤ 8192) := Nat.le_trans hl (by rw [HN.out.1, HN.out.2, HQ.out]; omega)
        clear hE hl hR g6 HEx HGr HRr
        go_wp2_with fail
        refine HLe.out.mono ?_; rintro e w7 ⟨D, nb, nbc, eb, ebc, rfl, hL7, hA7, g7⟩
        have HG7 := hidd (HG6.out.trans g7)
        have HR7 := hidd (heap_kept g7 HR6.out)
        have HA7 := hidd (And.intro hL7 hA7)
        have HRl := hidd (lt_of_block HR6.out)
        clear hL7 hA7 g7 HLe HG6 HR6
        have HB7 := hidd (And.intro (autB_size D nb nbc eb ebc) (autB_one D nb nbc eb ebc))
        obtain ⟨dv, hdv⟩ : ∃ dv, autB D nb nbc eb ebc = dv := ⟨_, rfl⟩
        have HDv := hidd hdv
        rw [hdv] at HB7
        simp only [hdv]
        clear hdv
        go_wp2_with (refine wpList_store_aut (b := rs) rfl rfl rfl rfl HR7.out zAut_size HB7.out.1 HB7.out.2 ?_)
        refine bodyPost_ret (results_aut2 (p := 6) (q := 7) rfl rfl rfl (setRow_heap w7 rs _ dv _ _ HR7.out) HB7.out.1) rfl ⟨D, nb, nbc, eb, ebc, by rw [HDv.out, HEr.out]; rfl, ?_, setRow_grew HG7.out HRs.out _, fun h => absurd HEr.out h, fun _ => ⟨_, HLn.out, fun l => ?_, HA7.out.1⟩⟩
        · have hrl := HRl.out
          have hrs := HRs.out
          exact HA7.out.2.set (by omega) hrl _
        · rw [HEx2.out.lang, goS_two]; rfl
set_option maxRecDepth 100000 in
theorem Both_any (A B : Aut) (na ea na' ea' : Option Addr) (nc ec nc' ec' : Nat) (w : World) (h : AutAt w A na ea) (h' : AutAt w B na' ea') :
    Calls Try.prog 13 #[.agg (autB A na nc ea ec), .agg (autB B na' nc' ea' ec')] w (TwoEnd w (twoErr A B) fun l => (raA A).tak 0 l && (raA B).tak 0 l) := by
  have HSa := hidd (autB_size A na nc ea ec)
  have HSb := hidd (autB_size B na' nc' ea' ec')
  obtain ⟨t1, ht1⟩ : ∃ t1, w.heap.size = t1 := ⟨_, rfl⟩
  obtain ⟨W1, hW1⟩ : ∃ W1, w.alloc (.cells (autB A na nc ea ec) 26) = W1 := ⟨_, rfl⟩
  have g1 : Grew w W1 := by rw [← hW1]; exact (Grew.refl w).alloc _
  have b1 : W1.heap[t1]? = some (.cells (autB A na nc ea ec) 26 (0, 0)) := by rw [← hW1, ← ht1]; exact heap_alloc_new w _
  have s1 : W1.heap.size = t1 + 1 := by rw [← hW1, World.size_alloc, ht1]
  obtain ⟨W2, hW2⟩ : ∃ W2, W1.alloc (.cells (autB B na' nc' ea' ec') 26) = W2 := ⟨_, rfl⟩
  have g2 : Grew W1 W2 := by rw [← hW2]; exact (Grew.refl W1).alloc _
  have b2 : W2.heap[t1 + 1]? = some (.cells (autB B na' nc' ea' ec') 26 (0, 0)) := by rw [← hW2, ← s1]; exact heap_alloc_new W1 _
  have s2 : W2.heap.size = t1 + 2 := by rw [← hW2, World.size_alloc, s1]
  obtain ⟨W, hW⟩ : ∃ W, W2.alloc (.cells zAut 26) = W := ⟨_, rfl⟩
  have g4 : Grew W2 W := by rw [← hW]; exact (Grew.refl W2).alloc _
  have HR : Hid (W.heap[t1 + 1 + 1]? = some (.cells zAut 26 (0, 0))) := by rw [← hW, show t1 + 1 + 1 = W2.heap.size by omega]; exact heap_alloc_new W2 _
  have HG := hidd ((g1.trans g2).trans g4)
  have HH := hidd (heap_kept (g2.trans g4) b1)
  have HH' := hidd (heap_kept g4 b2)
  have HC := hidd (Two_any A B na ea na' ea' nc ec nc' ec' 25 (· && ·) W (h.kept HG.out) (h'.kept HG.out) (by kernel_rfl) (fun x y w1 => Both_one x y w1))
  have HBd := hidd HG.out.size
  have hz := zero_aut
  have hWx : ((w.alloc (.cells (autB A na nc ea ec) 26)).alloc (.cells (autB B na' nc' ea' ec') 26)).alloc (.cells zAut 26) = W := by rw [hW1, hW2, hW]
  subst ht1
  clear hW1 hW2 hW s1 s2
  generalize hav : autB A na nc ea ec = av at *
  generalize hbv : autB B na' nc' ea' ec' = bv at *
  clear g1 g2 g4 b1 b2 h h'
  obtain ⟨err, herr⟩ : ∃ err, twoErr A B = err := ⟨_, rfl⟩
  rw [herr] at HC ⊢
  clear herr
  go_enter Try.func13, Try.ntmps13
  go_wp2_with (first | (refine wpList_load_aut (b := w.heap.size) rfl rfl rfl HH.out HSa.out ?_) | (refine wpList_load_aut (b := w.heap.size + 1) rfl rfl rfl HH'.out HSb.out ?_))
  refine HC.out.mono ?_; rintro e w1 ⟨D, nb, nbc, eb, ebc, rfl, hA, g1, h0, h1⟩
  have HG1 := hidd (HG.out.trans g1)
  have HR1 := hidd (heap_kept g1 HR.out)
  have HRl := hidd (lt_of_block HR.out)
  have HA := hidd (And.intro hA (And.intro h0 h1))
  clear hA h0 h1 g1 HC HG hWx
  have HB7 := hidd (And.intro (autB_size D nb nbc eb ebc) (autB_one D nb nbc eb ebc))
  obtain ⟨dv, hdv⟩ : ∃ dv, autB D nb nbc eb ebc = dv := ⟨_, rfl⟩
  have HDv := hidd hdv
  rw [hdv] at HB7
  simp only [hdv]
  clear hdv
  obtain ⟨rs, hrs⟩ : ∃ rs, w.heap.size + 1 + 1 = rs := ⟨_, rfl⟩
  have HRs := hidd (show w.heap.size ≤ rs by omega)
  rw [hrs] at HR1 HRl ⊢
  clear hrs
  go_wp2_with (refine wpList_store_aut (b := rs) rfl rfl rfl rfl HR1.out zAut_size HB7.out.1 HB7.out.2 ?_)
  exact bodyPost_ret (results_aut2 (p := 4) (q := 5) rfl rfl rfl (setRow_heap w1 rs _ dv _ _ HR1.out) HB7.out.1) rfl ⟨D, nb, nbc, eb, ebc, by rw [HDv.out]; rfl, HA.out.1.set HBd.out HRl.out _, setRow_grew HG1.out HRs.out _, HA.out.2⟩
set_option maxRecDepth 100000 in
theorem Either_any (A B : Aut) (na ea na' ea' : Option Addr) (nc ec nc' ec' : Nat) (w : World) (h : AutAt w A na ea) (h' : AutAt w B na' ea') :
    Calls Try.prog 16 #[.agg (autB A na nc ea ec), .agg (autB B na' nc' ea' ec')] w (TwoEnd w (twoErr A B) fun l => (raA A).tak 0 l || (raA B).tak 0 l) := by
  have HSa := hidd (autB_size A na nc ea ec)
  have HSb := hidd (autB_size B na' nc' ea' ec')
  obtain ⟨t1, ht1⟩ : ∃ t1, w.heap.size = t1 := ⟨_, rfl⟩
  obtain ⟨W1, hW1⟩ : ∃ W1, w.alloc (.cells (autB A na nc ea ec) 26) = W1 := ⟨_, rfl⟩
  have g1 : Grew w W1 := by rw [← hW1]; exact (Grew.refl w).alloc _
  have b1 : W1.heap[t1]? = some (.cells (autB A na nc ea ec) 26 (0, 0)) := by rw [← hW1, ← ht1]; exact heap_alloc_new w _
  have s1 : W1.heap.size = t1 + 1 := by rw [← hW1, World.size_alloc, ht1]
  obtain ⟨W2, hW2⟩ : ∃ W2, W1.alloc (.cells (autB B na' nc' ea' ec') 26) = W2 := ⟨_, rfl⟩
  have g2 : Grew W1 W2 := by rw [← hW2]; exact (Grew.refl W1).alloc _
  have b2 : W2.heap[t1 + 1]? = some (.cells (autB B na' nc' ea' ec') 26 (0, 0)) := by rw [← hW2, ← s1]; exact heap_alloc_new W1 _
  have s2 : W2.heap.size = t1 + 2 := by rw [← hW2, World.size_alloc, s1]
  obtain ⟨W, hW⟩ : ∃ W, W2.alloc (.cells zAut 26) = W := ⟨_, rfl⟩
  have g4 : Grew W2 W := by rw [← hW]; exact (Grew.refl W2).alloc _
  have HR : Hid (W.heap[t1 + 1 + 1]? = some (.cells zAut 26 (0, 0))) := by rw [← hW, show t1 + 1 + 1 = W2.heap.size by omega]; exact heap_alloc_new W2 _
  have HG := hidd ((g1.trans g2).trans g4)
  have HH := hidd (heap_kept (g2.trans g4) b1)
  have HH' := hidd (heap_kept g4 b2)
  have HC := hidd (Two_any A B na ea na' ea' nc ec nc' ec' 28 (· || ·) W (h.kept HG.out) (h'.kept HG.out) (by kernel_rfl) (fun x y w1 => Either_one x y w1))
  have HBd := hidd HG.out.size
  have hz := zero_aut
  have hWx : ((w.alloc (.cells (autB A na nc ea ec) 26)).alloc (.cells (autB B na' nc' ea' ec') 26)).alloc (.cells zAut 26) = W := by rw [hW1, hW2, hW]
  subst ht1
  clear hW1 hW2 hW s1 s2
  generalize hav : autB A na nc ea ec = av at *
  generalize hbv : autB B na' nc' ea' ec' = bv at *
  clear g1 g2 g4 b1 b2 h h'
  obtain ⟨err, herr⟩ : ∃ err, twoErr A B = err := ⟨_, rfl⟩
  rw [herr] at HC ⊢
  clear herr
  go_enter Try.func16, Try.ntmps16
  go_wp2_with (first | (refine wpList_load_aut (b := w.heap.size) rfl rfl rfl HH.out HSa.out ?_) | (refine wpList_load_aut (b := w.heap.size + 1) rfl rfl rfl HH'.out HSb.out ?_))
  refine HC.out.mono ?_; rintro e w1 ⟨D, nb, nbc, eb, ebc, rfl, hA, g1, h0, h1⟩
  have HG1 := hidd (HG.out.trans g1)
  have HR1 := hidd (heap_kept g1 HR.out)
  have HRl := hidd (lt_of_block HR.out)
  have HA := hidd (And.intro hA (And.intro h0 h1))
  clear hA h0 h1 g1 HC HG hWx
  have HB7 := hidd (And.intro (autB_size D nb nbc eb ebc) (autB_one D nb nbc eb ebc))
  obtain ⟨dv, hdv⟩ : ∃ dv, autB D nb nbc eb ebc = dv := ⟨_, rfl⟩
  have HDv := hidd hdv
  rw [hdv] at HB7
  simp only [hdv]
  clear hdv
  obtain ⟨rs, hrs⟩ : ∃ rs, w.heap.size + 1 + 1 = rs := ⟨_, rfl⟩
  have HRs := hidd (show w.heap.size ≤ rs by omega)
  rw [hrs] at HR1 HRl ⊢
  clear hrs
  go_wp2_with (refine wpList_store_aut (b := rs) rfl rfl rfl rfl HR1.out zAut_size HB7.out.1 HB7.out.2 ?_)
  exact bodyPost_ret (results_aut2 (p := 4) (q := 5) rfl rfl rfl (setRow_heap w1 rs _ dv _ _ HR1.out) HB7.out.1) rfl ⟨D, nb, nbc, eb, ebc, by rw [HDv.out]; rfl, HA.out.1.set HBd.out HRl.out _, setRow_grew HG1.out HRs.out _, HA.out.2⟩
end Go.Proofs.Ytkkdpafkafjfgaa
