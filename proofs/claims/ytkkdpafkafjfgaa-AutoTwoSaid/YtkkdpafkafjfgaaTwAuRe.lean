/- The document's Reached: the states that one comes to alone. -/
import Derived.Test.YtkkdpafkafjfgaaTwAuSm
namespace Go.Proofs.Ytkkdpafkafjfgaa
open Go.RowKit RR
set_option linter.unusedVariables false
set_option linter.unusedSimpArgs false
def TabIn (w : World) (R : RA) (v : Value) : Prop := ∃ rb ro rc eb eo ec, v = .agg #[.slice (some ⟨rb, ro, none⟩) R.n rc, .slice (some ⟨eb, eo, none⟩) R.n ec] ∧ (∀ s c, s < R.n → c < 256 → w.cell? ⟨rb, ro + s * 256 + c, none⟩ = some (.int .i64 (R.nx s c : Nat))) ∧ ∀ s, s < R.n → w.cell? ⟨eb, eo + s, none⟩ = some (.bool (R.en s))
theorem TabIn.kept {w w' : World} {R : RA} {v : Value} (h : TabIn w R v) (g : Grew w w') : TabIn w' R v := by
  obtain ⟨rb, ro, rc, eb, eo, ec, h1, h2, h3⟩ := h
  exact ⟨rb, ro, rc, eb, eo, ec, h1, fun s c hs hc => g.keeps (h2 s c hs hc), fun s hs => g.keeps (h3 s hs)⟩
theorem field_tab0 (b : Nat) (w : World) : (Instr.fieldAt 44 (.pointer (some ⟨b, 0, none⟩)) 0).run Try.prog w = .ok (.pointer (some ⟨b, 0, none⟩)) w := by kernel_rfl
theorem field_tab1 (b : Nat) (w : World) : (Instr.fieldAt 44 (.pointer (some ⟨b, 0, none⟩)) 1).run Try.prog w = .ok (.pointer (some ⟨b, 1, none⟩)) w := by kernel_rfl
theorem QRow.rebase {w : World} {b1 b2 : Nat} {e : TypeId} {size n : Nat} {v : Value} {xs : List Value} (h : QRow w b1 e size v n xs) (hb : ∀ k, v.ownBlock = some k → b2 ≤ k) : QRow w b2 e size v n xs := by
  obtain ⟨h0, a, cap, rfl, h1, h2, h3⟩ := h
  refine ⟨h0, a, cap, rfl, h1, h2, fun hc => ?_⟩
  obtain ⟨b, off, cur, rfl, k1, k2, k3, k4⟩ := h3 hc
  exact ⟨b, off, cur, rfl, hb b rfl, k2, k3, k4⟩
section
variable {en : Nat → Bool} {w W wr w' : World} {mb rb : Nat} {ks kz : List Nat} {rows : List (Nat → Nat)} {lv nv ev : Value} {me : Nat} {O : Obj}
theorem ExSo.turn (h : ExSo encI 3 1 (fun x => [.int .i64 (x : Nat)]) en w wr mb rb kz ks [] 0 lv (.slice none 0 0) (.slice none 0 0) O) (gW : Grew W wr) (hm : W.heap.size ≤ mb) (hl : ∀ k, lv.ownBlock = some k → W.heap.size ≤ k) (O2 : Obj) :
    ExSo encI 3 1 (fun x => [.int .i64 (x : Nat)]) en W (wr.alloc O2) mb wr.heap.size kz ks [] 0 lv (.slice none 0 0) (.slice none 0 0) O2 := by
  have g := (Grew.refl wr).alloc O2
  have hml := h.map.lt
  refine ⟨gW.trans g, h.map.kept g, (h.list.rebase hl).grew g, heap_alloc_new wr _, ⟨rfl, none, 0, rfl, Nat.le_refl _, Nat.zero_le _, fun h => absurd h (by omega)⟩, ⟨rfl, none, 0, rfl, Nat.le_refl _, Nat.zero_le _, fun h => absurd h (by omega)⟩, ⟨hm, gW.size, by omega⟩, fun k hk => ?_, fun k hk => (by cases hk), fun k hk => (by cases hk), fun k hk => ⟨by simp [Value.ownBlock], by simp [Value.ownBlock]⟩, fun k hk => (by cases hk)⟩
  obtain ⟨p1, p2, p3, p4⟩ := h.ownl k hk
  rw [World.size_alloc]
  exact ⟨p1, by omega, hl k hk, by omega⟩
theorem ExSo.setRaw {cs : Array Value} {T : TypeId} (h : ExSo encI 3 1 (fun x => [.int .i64 (x : Nat)]) en w wr mb rb kz ks rows me lv nv ev (.cells cs T (0, 0))) (o : Nat) (v : Value) :
    ExSo encI 3 1 (fun x => [.int .i64 (x : Nat)]) en w (wr.setCell ⟨rb, o, none⟩ v) mb rb kz ks rows me lv nv ev (.cells (cs.setIfInBounds o v) T (0, 0)) := by
  have hk : ∀ k, k ≠ rb → (wr.setCell ⟨rb, o, none⟩ v).heap[k]? = wr.heap[k]? := fun k hk => q_set_other _ _ (Ne.symm hk)
  have hsz : (wr.setCell ⟨rb, o, none⟩ v).heap.size = wr.heap.size := by simp [World.setCell]
  refine ⟨h.grew.setCell (p := ⟨rb, o, none⟩) h.lo.2.1 _, h.map.block (hk _ h.lo.2.2), h.list.kept fun k hk2 _ => hk k (h.ownl k hk2).2.1, q_set_same h.raw o v, h.next.kept fun k hk2 _ => hk k (h.ownn k hk2).2.1, h.ends.kept fun k hk2 _ => hk k (h.owne k hk2).2.1, h.lo, fun k hk2 => ?_, fun k hk2 => ?_, fun k hk2 => ?_, h.ln, h.ne⟩
  · rw [hsz]; exact h.ownl k hk2
  · rw [hsz]; exact h.ownn k hk2
  · rw [hsz]; exact h.owne k hk2
theorem ExSo.table {st : Nat → Nat → Nat} {D : Nat → Prop} {c : Nat} {row : Nat → Nat} (h : ExSo encI 3 1 (fun x => [.int .i64 (x : Nat)]) en w wr mb rb kz ks rows ks.length lv nv ev O) (hX : Exp 0 st D ks rows ks.length c row) (hw : ∀ k, w.heap.size ≤ k → w'.heap[k]? = wr.heap[k]?) : TabIn w' (expA en 0 ks rows) (.agg #[nv, ev]) := by
  have hl := hX.len
  have hp := hX.head.2
  obtain ⟨nb, no, nc, e1, l1, _, _, _, hc⟩ := h.next.at (by omega)
  obtain ⟨eb, eo, ec, e2, l2, _, _, _, hc2⟩ := h.ends.at (by omega)
  rw [hl] at hc
  refine ⟨nb, no, nc, eb, eo, ec, by rw [e1, e2, hl]; rfl, fun s d hs hd => ?_, fun s hs => ?_⟩
  · have hs : s < ks.length := hs
    rw [Nat.add_assoc, World.cell?_of_block (a := ⟨nb, no + (s * 256 + d), none⟩) (hw nb l1)]
    exact hc (s * 256 + d) _ (by have : (s + 1) * 256 ≤ ks.length * 256 := Nat.mul_le_mul_right _ hs; omega) (rowsC_get hd rows s (by omega))
  · have hs : s < ks.length := hs
    rw [World.cell?_of_block (a := ⟨eb, eo + s, none⟩) (hw eb l2)]
    refine hc2 s _ (by omega) ?_
    rw [List.take_length, List.getElem?_map, List.getElem?_eq_getElem hs]
    show some (Value.bool (en ks[s])) = some (.bool (en (ks.getD s 0)))
    rw [List.getD_eq_getElem?_getD, List.getElem?_eq_getElem hs]; rfl
end
section
variable {ops : Array Oper} {rest : List Oper} {o : Oper} {a : Act} {w : World} {Q : Exit → Act → World → Prop}
theorem wpList_store_tab (hgd : o.guard = none) {x y : Operand} (ho : o.op = .store 44 x y) {b : Nat} {old av : Array Value} (hx : a.eval x = .pointer (some ⟨b, 0, none⟩)) (hy : a.eval y = .agg av) (hb : w.heap[b]? = some (.cells old 44 (0, 0))) (h1 : old.size = 2) (h2 : av.size = 2) (h3 : av.all (·.oneCell') = true)
    (h : wpList Try.prog ops Q rest (a.put o.dst undef) (w.setRow b av)) : wpList Try.prog ops Q (o :: rest) a w := by
  refine wpList_plain hgd fun _ hK => ?_
  unfold Oper.wp execOp
  simp only [ho, hx, hy, Instr.storeAt, Instr.sureAddr, Sem.run_bind, Sem.run_pure, Result.andThen_ok, run_storeVar_row w b _ _ _ _ hb (by rw [h2]; exact info_tab) (by rw [h1, h2]) h3]
  exact hK _ _ h
theorem wpList_load_tab (hgd : o.guard = none) {x : Operand} (ho : o.op = .load 44 x) {b : Nat} {av : Array Value} (hx : a.eval x = .pointer (some ⟨b, 0, none⟩)) (hb : w.heap[b]? = some (.cells av 44 (0, 0))) (h2 : av.size = 2)
    (h : wpList Try.prog ops Q rest (a.put o.dst (.agg av)) w) : wpList Try.prog ops Q (o :: rest) a w := by
  refine wpList_plain hgd fun _ hK => ?_
  have hl := run_loadVar_row (P := Try.prog) w b 44 44 av (0, 0) _ hb Try.underlying44 rfl (by rw [h2]; exact info_tab)
  unfold Oper.wp execOp
  simp only [ho, hx, Instr.loadAt, Instr.sureAddr, Sem.run_bind, Sem.run_pure, Result.andThen_ok, hl]
  exact hK _ _ h
end
theorem take_getD {α : Type} {l : List α} {j : Nat} (h : j < l.length) (d : α) : l.take j ++ [l.getD j d] = l.take (j + 1) := by
  rw [List.take_add_one, List.getElem?_eq_getElem h, List.getD_eq_getElem?_getD, List.getElem?_eq_getElem h]; rfl
def ReEnd (R : RA) (w : World) : Ending → World → Prop := fun e w' => ∃ S v, e = .returned v ∧ S.Ok ∧ S.n ≤ R.n ∧ Eqv S R 0 0 ∧ TabIn w' S v ∧ Grew w w'
set_option maxRecDepth 100000 in
theorem Reached_any (R : RA) (v : Value) (w : World) (ok : R.Ok) (h9 : R.n ≤ 8192) (h : TabIn w R v) : Calls Try.prog 27 #[v] w (ReEnd R w) := by
  obtain ⟨tb, to, tc, eb, eo, ec, rfl, htab, hend⟩ := h
  obtain ⟨n, hn⟩ : ∃ n, R.n = n := ⟨_, rfl⟩
  have HOk := hidd ok
  have HN := hidd hn
  have hp : 0 < n := by have := ok.pos; omega
  rw [hn] at htab hend h9
  have hb0 := heap_alloc_new w (.cells #[.slice (some ⟨tb, to, none⟩) R.n tc, .slice (some ⟨eb, eo, none⟩) R.n ec] 44)
  rw [hn] at hb0 ⊢
  have g0 := (Grew.refl w).alloc (.cells #[.slice (some ⟨tb, to, none⟩) n tc, .slice (some ⟨eb, eo, none⟩) n ec] 44)
  have g1 := (Grew.refl (w.alloc (.cells #[.slice (some ⟨tb, to, none⟩) n tc, .slice (some ⟨eb, eo, none⟩) n ec] 44))).alloc (.cells #[.slice none 0 0, .slice none 0 0] 44)
  have hr0 := heap_alloc2_new w (.cells #[.slice (some ⟨tb, to, none⟩) n tc, .slice (some ⟨eb, eo, none⟩) n ec] 44) (.cells #[.slice none 0 0, .slice none 0 0] 44)
  have hb1 := heap_kept g1 hb0
  have hs1 : ((w.alloc (.cells #[.slice (some ⟨tb, to, none⟩) n tc, .slice (some ⟨eb, eo, none⟩) n ec] 44)).alloc (.cells #[.slice none 0 0, .slice none 0 0] 44)).heap.size = w.heap.size + 1 + 1 := by rw [World.size_alloc, World.size_alloc]
  have hgw := g0.trans g1
  obtain ⟨W, hW⟩ : ∃ W, (w.alloc (.cells #[.slice (some ⟨tb, to, none⟩) n tc, .slice (some ⟨eb, eo, none⟩) n ec] 44)).alloc (.cells #[.slice none 0 0, .slice none 0 0] 44) = W := ⟨_, rfl⟩
  rw [hW] at hb1 hr0 hs1 hgw
  have hmm := run_makeMap (P := Try.prog) 81 W
  obtain ⟨w2, hput, hK2, hg2', hs2⟩ := (KMap.made encI W).put keyI (t := 81) Try.underlying81 (x := 0) (Nat.zero_le _) (by simp) (.int .i64 (0 : Nat))
  have hput2 : (Instr.mapUpdate 81 (.map (some W.heap.size)) (.int .i64 0) (.int .i64 0)).run Try.prog (W.alloc (.map #[] 0)) = .ok () w2 := hput
  have hs3 : w2.heap.size = W.heap.size + 1 := by rw [hs2, World.size_alloc]
  have gr : Grew W w2 := grew_grown ((Grew.refl W).alloc _) hg2' fun b e => by injection e with e; omega
  have g3 := (Grew.refl w2).alloc (.cells #[.int .i64 0] 3)
  have HGW := hidd (hgw.trans (gr.trans g3))
  have HB := hidd (heap_kept (gr.trans g3) hb1)
  have HS0 : Hid (ExSo encI 3 1 (fun x => [.int .i64 (x : Nat)]) R.en w (w2.alloc (.cells #[.int .i64 0] 3)) W.heap.size (w.heap.size + 1) [0] [0] [] 0 (.slice (some ⟨W.heap.size + 1, 0, none⟩) 1 1) (.slice none 0 0) (.slice none 0 0) (.cells #[.slice none 0 0, .slice none 0 0] 44 (0, 0))) := by
    have hq := QRow.made (base := w.heap.size) (e := 3) (size := 1) w2 #[.int .i64 0] 1 (by rw [hs3, hs1]; omega) (by unfold maxLen; omega) rfl
    rw [hs3] at hq
    refine ⟨HGW.out, hK2.kept g3, hq, heap_kept (gr.trans g3) hr0, ⟨rfl, none, 0, rfl, Nat.le_refl _, Nat.zero_le _, fun h => absurd h (by omega)⟩, ⟨rfl, none, 0, rfl, Nat.le_refl _, Nat.zero_le _, fun h => absurd h (by omega)⟩, ⟨by omega, by omega, by omega⟩, fun k hk => ?_, fun k hk => (by cases hk), fun k hk => (by cases hk), fun k hk => ⟨by simp [Value.ownBlock], by simp [Value.ownBlock]⟩, fun k hk => (by cases hk)⟩
    cases hk
    rw [World.size_alloc, hs3]
    exact ⟨by show W.heap.size + 1 ≠ _; omega, by show W.heap.size + 1 ≠ _; omega, by show _ ≤ W.heap.size + 1; omega, by show W.heap.size + 1 < _; omega⟩
  have HE0 : Hid (Exp 0 R.nx (· < n) [0] [] 0 0 (fun _ => 0)) := Exp.start hp
  have HTab := hidd htab
  have HEnd := hidd hend
  have HW := hidd (And.intro hb1 (And.intro hr0 (And.intro hs1 hgw)))
  rw [hs1] at hput2 hs3 HS0
  clear hput hK2 hg2' hs2 htab hend hb0 hb1 hr0 g0 g1 hgw gr g3 ok
  go_enter Try.func27, Try.ntmps27
  go_wp2_with fail
  clear hput2 hmm hW hs1
  generalize w2.alloc (.cells #[.int .i64 0] 3) = W2 at HS0 HGW HB ⊢
  obtain ⟨tbl, htbl⟩ : ∃ tbl, w.heap.size = tbl := ⟨_, rfl⟩
  rw [htbl] at HS0 HB ⊢
  have HBl := hidd htbl
  clear hs3 htbl
  obtain ⟨mb, hmb⟩ : ∃ mb, tbl + 1 + 1 = mb := ⟨_, rfl⟩
  obtain ⟨rs, hrs⟩ : ∃ rs, tbl + 1 = rs := ⟨_, rfl⟩
  rw [hmb, hrs] at HS0
  rw [hmb, hrs]
  have HMb := hidd (show rs = tbl + 1 ∧ mb = tbl + 2 by omega)
  have HF0 : Hid (¬ Foot mb rs (.slice (some ⟨mb + 1, 0, none⟩) 1 1) (.slice none 0 0) (.slice none 0 0) tbl) := fun hf => by
    rcases hf with e | e | e | e | e
    · omega
    · omega
    · have : mb + 1 = tbl := Option.some.inj e
      omega
    · cases e
    · cases e
  clear hmb hrs
  go_loopw [4, 5] (fun s4 s5 wr => ∃ i k la lc, s5 = .int .i64 (i : Nat) ∧ i ≤ k ∧ s4 = .slice la k lc ∧ k ≤ n ∧ Hid (∃ ks rows, Exp 0 R.nx (· < n) ks rows i 0 (fun _ => 0) ∧ ks.length = k ∧ ExSo encI 3 1 (fun x => [.int .i64 (x : Nat)]) R.en w wr mb rs ks ks [] 0 (.slice la k lc) (.slice none 0 0) (.slice none 0 0) (.cells #[.slice none 0 0, .slice none 0 0] 44 (0, 0)) ∧ wr.heap[tbl]? = some (.cells #[.slice (some ⟨tb, to, none⟩) n tc, .slice (some ⟨eb, eo, none⟩) n ec] 44 (0, 0)) ∧ ¬ Foot mb rs (.slice la k lc) (.slice none 0 0) (.slice none 0 0) tbl)) (fun _ s5 _ => n - (intOf s5).toNat)
  case atStart => exact ⟨0, 1, _, _, rfl, by omega, rfl, hp, [0], [], HE0.out, rfl, HS0.out, HB.out, HF0.out⟩
  case round =>
    obtain ⟨i, k, la, lc, rfl, hik, rfl, hkn, KS⟩ := hrel
    clear HS0 HE0 HB HF0
    obtain ⟨ks, rows, hX, hks, hS, hT, hF⟩ := KS.out
    by_cases hlt : i < k
    · have kl : decide ((i : Int) < (k : Int)) = true := decide_eq_true (by omega)
      obtain ⟨s, hs⟩ : ∃ s, ks.getD i 0 = s := ⟨_, rfl⟩
      have hls := hS.list
      rw [hks] at hls
      obtain ⟨lb, lo, lc3, e, _, hlb, _, _, hcell⟩ := hls.at (by omega)
      cases e
      have c0 := hcell i (.int .i64 (s : Nat)) (by omega) (by rw [flat_one, List.getElem?_map, ← hs, List.getD_eq_getElem?_getD, List.getElem?_eq_getElem (by omega)]; rfl)
      have hsn : s < n := by rw [← hs]; exact hX.dom _ (getD_lt_mem (by omega))
      have HX0 := hidd hX
      have HKs := hidd hks
      have HSs := hidd hs
      have HSr := hidd (And.intro hS (And.intro hT hF))
      have t0 := (two_cells hT).1.1
      have hro : ∀ j, j < 256 → wr.cell? ⟨tb, to + s * 256 + j, none⟩ = some (.int .i64 (R.nx s j : Nat)) := fun j hj => hS.grew.keeps (HTab.out s j hsn hj)
      clear KS hS hT hF hX hks hs hls hcell hlb
      go_wp2_with fail
      refine frameR [24, 25, 26, 27, 28, 29, 30, 31, 32] mixed drew_grew grew_tr
        [.val (.pointer (some ⟨tbl, 0, none⟩)), .val (.slice (some ⟨tb, to, none⟩) n tc), .val (.slice (some ⟨lb, lo, none⟩) k lc), .val (.int .i64 (i : Nat)), .val (.pointer (some ⟨lb, lo + i, none⟩)), .val (.int .i64 (s : Nat)), .val (.pointer (some ⟨tb, to + s * 256, none⟩)), .val (.agg (rowI fun j => (R.nx s j : Nat))), .val (.int .i64 0)]
        (vals_mono (by simp)) (by kernel_rfl) (by kernel_rfl)
        ⟨sg_field (field_tab0 tbl) (by kernel_rfl) rfl rfl, sg_load (p := ⟨tbl, 0, none⟩) (fun wx g => load_one agg_slices (g.keeps t0)) (by kernel_rfl) rfl rfl, st_move Grew.refl (by kernel_rfl) rfl, st_move Grew.refl (by kernel_rfl) rfl, sg_index ?i1 (by kernel_rfl) rfl rfl rfl, sg_load (p := ⟨lb, lo + i, none⟩) (fun wx g => load_one agg_int (g.keeps c0)) (by kernel_rfl) rfl rfl, sg_index (index_sl (sz := 256) agg_rows (by kernel_rfl) (fun w => size_of info_cls w) hsn) (by kernel_rfl) rfl rfl rfl, sg_load (p := ⟨tb, to + s * 256, none⟩) (fun wx g => load_rowO fun j hj => g.keeps (hro j hj)) (by kernel_rfl) rfl rfl, st_move Grew.refl (by kernel_rfl) rfl, trivial⟩ ?_
      case i1 =>
        intro wx
        have := index_sl (sz := 1) Try.underlying41 (by kernel_rfl) (fun w => size_of info_int w) (b := lb) (o := lo) (c := lc) hlt wx
        rwa [Nat.mul_one] at this
      intro xs w5 g5 hts
      have e31 : xs 31 = .agg (rowI fun j => (R.nx s j : Nat)) := hts 7 _ 31 rfl rfl
      have e32 : xs 32 = .int .i64 0 := hts 8 _ 32 rfl rfl
      have HS5 := hidd (And.intro (HSr.out.1.kept g5) (And.intro (heap_kept g5 HSr.out.2.1) HSr.out.2.2))
      simp only [List.foldl_cons, List.foldl_nil, List.setIfInBounds_toArray, List.set_cons_succ, List.set_cons_zero, e31, e32]
      clear hts g5 e31 e32 t0 hro c0 HSr
      go_wp2_with fail
      go_loopw [4, 32] (fun s4 s32 wr => ∃ c k la lc, s32 = .int .i64 (c : Nat) ∧ c ≤ 256 ∧ s4 = .slice la k lc ∧ k ≤ n ∧ i < k ∧ Hid (∃ ks row, Exp 0 R.nx (· < n) ks rows i c row ∧ ks.length = k ∧ ks.getD i 0 = s ∧ ExSo encI 3 1 (fun x => [.int .i64 (x : Nat)]) R.en w wr mb rs ks ks [] 0 (.slice la k lc) (.slice none 0 0) (.slice none 0 0) (.cells #[.slice none 0 0, .slice none 0 0] 44 (0, 0)) ∧ wr.heap[tbl]? = some (.cells #[.slice (some ⟨tb, to, none⟩) n tc, .slice (some ⟨eb, eo, none⟩) n ec] 44 (0, 0)) ∧ ¬ Foot mb rs (.slice la k lc) (.slice none 0 0) (.slice none 0 0) tbl)) (fun _ s32 _ => 256 - (intOf s32).toNat)
      case atStart => exact ⟨0, k, _, _, rfl, by omega, rfl, hkn, hlt, ks, _, HX0.out, HKs.out, HSs.out, HS5.out⟩
      case round =>
        obtain ⟨c, k2, la2, lc2, rfl, hc, rfl, hkn2, hik2, JS⟩ := hrel
        clear HS5 HX0 HKs HSs
        obtain ⟨ks2, row, hX, hks, hs, hS, hT, hF⟩ := JS.out
        clear JS
        by_cases hcl : c < 256
        · have kc : decide ((c : Int) < 256) = true := decide_eq_true (by omega)
          have hidx := run_index_rowA (fun j => ((R.nx s j : Nat) : Int)) hcl
          obtain ⟨y, hy⟩ : ∃ y, R.nx s c = y := ⟨_, rfl⟩
          have hyn : y < n := by rw [← hy, ← HN.out]; exact HOk.out.nx s c (by rw [HN.out]; exact hsn) hcl
          have hidx2 : ∀ wx, (Instr.index 22 (.agg (rowI fun j => (R.nx s j : Nat))) (.int .i64 (c : Nat))).run Try.prog wx = .ok (.int .i64 (y : Nat)) wx := fun wx => by rw [← hy]; exact hidx wx
          have HXe : Hid (R.nx (ks2.getD i 0) c = y) := by rw [hs]; exact hy
          have HX := hidd hX
          have HKs := hidd hks
          have HSs := hidd hs
          have HSr := hidd (And.intro hS (And.intro hT hF))
          clear hX hks hs hS hT hF hidx hy
          generalize hrv : rowI (fun j => ((R.nx s j : Nat) : Int)) = rv at *
          by_cases hq : y ∈ ks2
          · have hlook := HSr.out.1.map.lookS keyI (t := 81) Try.underlying81 (numL_mem hq) true
            obtain ⟨q, hqe⟩ : ∃ q, ks2.idxOf y = q := ⟨_, rfl⟩
            rw [hqe] at hlook
            have hlook2 : (Instr.lookup 81 (.map (some mb)) (.int .i64 (y : Nat)) true).run Try.prog wr = .ok (.tuple #[.int .i64 (q : Nat), .bool true]) wr := hlook
            have HE := hidd (HX.out.seen (by rw [HXe.out]; exact hq))
            clear hlook hqe hq
            go_wp2_with fail
            exact ⟨⟨c + 1, k2, _, _, by simp, by omega, rfl, hkn2, hik2, ks2, _, HE.out, HKs.out, HSs.out, HSr.out⟩, by simp [intOf]; omega⟩
          · have hlook : (Instr.lookup 81 (.map (some mb)) (.int .i64 (y : Nat)) true).run Try.prog wr = .ok (.tuple #[.int .i64 0, .bool false]) wr := HSr.out.1.map.lookN keyI (t := 81) Try.underlying81 (zero_int wr) (show y ≤ _ by omega) (by rw [numL_fst]; exact hq) true
            obtain ⟨i0, hi0, hz0, hz1, hz2⟩ := intsI
            have hN2 := nodup_lt n HX.out.dis HX.out.dom
            obtain ⟨w6, hput, hs6, _, v', w7, hap, ⟨va, vc, rfl⟩, hS7, hall⟩ := HSr.out.1.add (mt := 81) (lt := 41) keyI Try.underlying81 Try.underlying41 hi0 hz0 hz1 hz2 rfl (x := y) (y := y) (show y ≤ _ by omega) hq rfl rfl (fun u hu => by rw [List.mem_singleton] at hu; rw [hu]; rfl) (by omega) (by omega) (Nat.zero_le _) 3 41
            obtain ⟨h8, hF8⟩ := hall tbl (lt_of_block HSr.out.2.1) HSr.out.2.2
            rw [← hs6] at hap
            rw [HKs.out] at hput hap hF8 hS7
            have hput2 : (Instr.mapUpdate 81 (.map (some mb)) (.int .i64 (y : Nat)) (.int .i64 (k2 : Nat))).run Try.prog wr = .ok () w6 := hput
            have hap2 : (Builtin.append_ #[41, 41] 41 #[.slice la2 k2 lc2, .slice (some ⟨w6.heap.size, 0, none⟩) 1 1]).run Try.prog (w6.alloc (.cells #[.int .i64 (y : Nat)] 3)) = .ok (.slice va (k2 + 1) vc) w7 := hap
            have HE := hidd (HX.out.fresh (by rw [HKs.out]; exact hik2) (by rw [HXe.out]; exact hyn) (by rw [HXe.out]; exact hq))
            rw [HXe.out, HKs.out] at HE
            have hk3 := nodup_lt n HE.out.dis HE.out.dom
            rw [List.length_append, HKs.out] at hk3
            have hk4 : k2 + 1 ≤ n := hk3
            have HSn := hidd (And.intro hS7 (And.intro (h8.trans HSr.out.2.1) hF8))
            have HKn : Hid ((ks2 ++ [y]).length = k2 + 1) := by rw [List.length_append, HKs.out]; rfl
            have HSm : Hid ((ks2 ++ [y]).getD i 0 = s) := by
              have := HSs.out
              rw [getD_app_lt (by rw [HKs.out]; exact hik2)]; exact this
            clear hput hap hF8 hS7 hall h8 hs6 hq hk3 hN2
            go_wp2_with (first | (at_builtin; refine wpList_append_eq rfl rfl rfl rfl hap2 ?_))
            exact ⟨⟨c + 1, k2 + 1, _, _, by simp, by omega, rfl, hk4, by omega, ks2 ++ [y], _, HE.out, HKn.out, HSm.out, HSn.out⟩, by simp [intOf]; omega⟩
        · obtain rfl : c = 256 := by omega
          have kc : decide ((256 : Int) < 256) = false := rfl
          have HE := hidd (hX.rowed (by rw [hks]; exact hik2))
          have HKs := hidd hks
          have HSr := hidd (And.intro hS (And.intro hT hF))
          clear hX hks hs hS hT hF
          go_wp2_with fail
          exact ⟨⟨i + 1, k2, _, _, by simp, by omega, rfl, hkn2, ks2, _, HE.out, HKs.out, HSr.out⟩, by simp [intOf]; omega⟩
    · have hik' : i = k := by omega
      subst hik'
      have kl : decide ((i : Int) < (i : Int)) = false := decide_eq_false (by omega)
      have HX := hidd hX
      have HKs := hidd hks
      have HSr := hidd (And.intro hS (And.intro hT hF))
      clear KS hX hks hS hT hF
      have hgW : Grew W wr := by
        obtain ⟨hb1, hr0, hs1, hgw⟩ := HW.out
        have hg := HSr.out.1.grew
        have hbl := HBl.out
        have hmb := HMb.out
        refine ⟨hg.os.trans hgw.os.symm, hg.tape.trans hgw.tape.symm, hg.output.trans hgw.output.symm, by have := HSr.out.1.map.lt; omega, fun k hk => ?_⟩
        by_cases h1 : k < w.heap.size
        · rw [hg.block k h1, hgw.block k h1]
        · by_cases h2 : k = w.heap.size
          · rw [h2, hb1, hbl]; exact HSr.out.2.1
          · have h3 : k = w.heap.size + 1 := by omega
            rw [h3, hr0, hbl, ← hmb.1]; exact HSr.out.1.raw
      have hlo : ∀ k', (Value.slice la i lc).ownBlock = some k' → W.heap.size ≤ k' := fun k' hk' => by
        obtain ⟨p1, p2, p3, p4⟩ := HSr.out.1.ownl k' hk'
        have hne : k' ≠ tbl := fun e => HSr.out.2.2 (Or.inr (Or.inr (Or.inl (e ▸ hk'))))
        have hbl := HBl.out
        have hmb := HMb.out
        have hs1 := HW.out.2.2.1
        omega
      have HT0 := hidd (HSr.out.1.turn hgW (by have hbl := HBl.out; have hmb := HMb.out; have hs1 := HW.out.2.2.1; omega) hlo (.cells #[.slice none 0 0, .slice none 0 0] 44 (0, 0)))
      have HTW : Hid (W.heap[tbl]? = some (.cells #[.slice (some ⟨tb, to, none⟩) n tc, .slice (some ⟨eb, eo, none⟩) n ec] 44 (0, 0))) := by rw [← HBl.out]; exact HW.out.1
      have HRW : Hid (W.heap[rs]? = some (.cells #[.slice none 0 0, .slice none 0 0] 44 (0, 0))) := by rw [HMb.out.1, ← HBl.out]; exact HW.out.2.1
      have HgW := hidd HW.out.2.2.2
      clear hgW hlo HSr
      go_wp2_with fail
      have hT0 := HT0.out
      obtain ⟨ob, hob⟩ : ∃ ob, wr.heap.size = ob := ⟨_, rfl⟩
      rw [hob] at hT0 ⊢
      have HT1 := hidd hT0
      clear hT0 HT0 hob
      generalize wr.alloc (.cells #[.slice none 0 0, .slice none 0 0] 44) = W3 at HT1 ⊢
      obtain ⟨k, rfl⟩ : ∃ k, k = i := ⟨_, rfl⟩
      have hk9 : k ≤ 8192 := by omega
      clear hik hlt
      obtain ⟨w00, rfl⟩ : ∃ w00, w00 = wr := ⟨_, rfl⟩
      go_loopw [54] (fun s54 wr => ∃ j : Nat, s54 = .int .i64 (j : Nat) ∧ j ≤ k ∧ Hid (∃ nv ev, ExSo encI 3 1 (fun x => [.int .i64 (x : Nat)]) R.en W wr mb ob ks ks (rows.take j) j (.slice la k lc) nv ev (.cells #[nv, ev] 44 (0, 0)))) (fun s54 _ => k - (intOf s54).toNat)
      case atStart => exact ⟨0, rfl, by omega, _, _, HT1.out⟩
      case round =>
        obtain ⟨j, rfl, hj, KS⟩ := hrel
        clear HT1
        obtain ⟨nv, ev, hS⟩ := KS.out
        by_cases hjk : j < k
        · have kj : decide ((j : Int) < (k : Int)) = true := decide_eq_true (by omega)
          obtain ⟨s, hs⟩ : ∃ s, ks.getD j 0 = s := ⟨_, rfl⟩
          have hls := hS.list
          rw [HKs.out] at hls
          obtain ⟨lb, lo, lc3, e, _, hlb, _, _, hcell⟩ := hls.at (by omega)
          cases e
          have hsx : ks[j]? = some s := by rw [← hs, List.getD_eq_getElem?_getD, List.getElem?_eq_getElem (by rw [HKs.out]; exact hjk)]; rfl
          have c0 := hcell j (.int .i64 (s : Nat)) (by omega) (by rw [flat_one, List.getElem?_map, hsx]; rfl)
          have hsn : s < n := by rw [← hs]; exact HX.out.dom _ (getD_lt_mem (by rw [HKs.out]; exact hjk))
          obtain ⟨row, hrow⟩ : ∃ row, rows.getD j (fun _ => 0) = row := ⟨_, rfl⟩
          have HOld : Hid (∀ c, c < 256 → R.nx s c ∈ ks ∧ row c = ks.idxOf (R.nx s c)) := fun c hc => by
            have := HX.out.old j hjk c hc
            rw [hs, hrow] at this
            exact this
          have hz := run_zero_rowI
          have HI0 : Hid (ExSo encI 3 1 (fun x => [.int .i64 (x : Nat)]) R.en W (wr.alloc (.cells (rowI fun _ => 0) 22)) mb ob ks ks (rows.take j) j (.slice (some ⟨lb, lo, none⟩) k lc) nv ev (.cells #[nv, ev] 44 (0, 0)) ∧ ArrAt (wr.alloc (.cells (rowI fun _ => 0) 22)) wr.heap.size 0 256 (fun j => .int .i64 ((if j < 0 then row j else 0 : Nat) : Int)) ∧ ¬ Foot mb ob (.slice (some ⟨lb, lo, none⟩) k lc) nv ev wr.heap.size) :=
            ⟨hS.kept ((Grew.refl wr).alloc _), (rowI_at wr (fun _ => 0) 22).congr fun j _ => by rw [if_neg (Nat.not_lt_zero j)]; rfl, fun hf => by have := hS.foot_lt hf; omega⟩
          have HGs : Hid (W.heap.size ≤ wr.heap.size) := hS.grew.size
          have HSx := hidd hsx
          have HRj := hidd hrow
          clear KS hS hls hcell hs hrow hsx
          go_wp2_with fail
          generalize wr.alloc (.cells (rowI fun _ => 0) 22) = W1 at HI0 ⊢
          obtain ⟨g0, hg0⟩ : ∃ g0, wr.heap.size = g0 := ⟨_, rfl⟩
          rw [hg0] at HI0 HGs ⊢
          clear hg0 c0 hlb
          obtain ⟨w01, rfl⟩ : ∃ w01, w01 = wr := ⟨_, rfl⟩
          go_loopw [58] (fun s58 wr => ∃ c : Nat, s58 = .int .i64 (c : Nat) ∧ c ≤ 256 ∧ Hid (ExSo encI 3 1 (fun x => [.int .i64 (x : Nat)]) R.en W wr mb ob ks ks (rows.take j) j (.slice (some ⟨lb, lo, none⟩) k lc) nv ev (.cells #[nv, ev] 44 (0, 0)) ∧ ArrAt wr g0 0 256 (fun j => .int .i64 ((if j < c then row j else 0 : Nat) : Int)) ∧ ¬ Foot mb ob (.slice (some ⟨lb, lo, none⟩) k lc) nv ev g0)) (fun s58 _ => 256 - (intOf s58).toNat)
          case atStart => exact ⟨0, rfl, by omega, HI0.out⟩
          case round =>
            obtain ⟨c, rfl, hc, JS⟩ := hrel
            clear HI0
            by_cases hcl : c < 256
            · have kc : decide ((c : Int) < 256) = true := decide_eq_true (by omega)
              have hcl2 : (c : Int) < 256 := by omega
              obtain ⟨y, hy⟩ : ∃ y, R.nx s c = y := ⟨_, rfl⟩
              obtain ⟨hm, hrc⟩ := HOld.out c hcl
              rw [hy] at hm hrc
              have hlook := JS.out.1.map.lookS keyI (t := 81) Try.underlying81 (numL_mem hm) false
              rw [← hrc] at hlook
              obtain ⟨q, hq⟩ : ∃ q, row c = q := ⟨_, rfl⟩
              rw [hq] at hlook
              have hlook2 : (Instr.lookup 81 (.map (some mb)) (.int .i64 (y : Nat)) false).run Try.prog wr = .ok (.int .i64 (q : Nat)) wr := hlook
              have t0 := (two_cells (heap_kept JS.out.1.grew HTW.out)).1.1
              have hyc : wr.cell? ⟨tb, to + s * 256 + c, none⟩ = some (.int .i64 (y : Nat)) := by
                rw [← hy]; exact JS.out.1.grew.keeps (HgW.out.keeps (HTab.out s c hsn hcl))
              have cr := JS.out.2.1.at0 c hcl
              rw [if_neg (Nat.lt_irrefl c)] at cr
              have cf := JS.out.2.1.free0 c hcl
              have HAn : Hid (ArrAt (wr.setCell ⟨g0, c, none⟩ (.int .i64 (q : Nat))) g0 0 256 fun j => .int .i64 ((if j < c + 1 then row j else 0 : Nat) : Int)) := (arr_next (q := q) hcl JS.out.2.1).congr fun j' _ => by
                by_cases e : j' = c
                · subst e; rw [if_pos (by omega), if_pos rfl, if_pos (by omega), hq]
                · by_cases e2 : j' < c + 1
                  · rw [if_pos e2, if_neg e, if_pos e2]
                  · rw [if_neg e2, if_neg e2]
              have HSn : Hid (ExSo encI 3 1 (fun x => [.int .i64 (x : Nat)]) R.en W (wr.setCell ⟨g0, c, none⟩ (.int .i64 (q : Nat))) mb ob ks ks (rows.take j) j (.slice (some ⟨lb, lo, none⟩) k lc) nv ev (.cells #[nv, ev] 44 (0, 0))) :=
                JS.out.1.same (JS.out.1.grew.setCell (p := ⟨g0, c, none⟩) HGs.out _) (by simp [World.setCell]) fun k hk => q_set_other _ _ (fun e => JS.out.2.2 (e ▸ hk))
              have HFn := hidd JS.out.2.2
              clear hlook hm hrc hq hy JS
              go_wp2_with fail
              exact ⟨⟨c + 1, by simp, by omega, HSn.out, HAn.out, HFn.out⟩, by simp [intOf]; omega⟩
            · obtain rfl : c = 256 := by omega
              have kc : decide ((256 : Int) < 256) = false := rfl
              have HAr : Hid (ArrAt wr g0 0 256 fun j => .int .i64 (row j : Nat)) := JS.out.2.1.congr fun j hj => by rw [if_pos hj]
              have hrl : (rows.take j).length = j := by rw [List.length_take, HX.out.len]; omega
              have ho0 := (two_cells JS.out.1.raw).1.1
              obtain ⟨rv', w7, hap, ⟨va, vc, rfl⟩, hS7, hall⟩ := JS.out.1.pushRow (row := row) (by rw [hrl]; omega) 42
              rw [hrl] at hap hS7
              rw [show rows.take j ++ [row] = rows.take (j + 1) by rw [← HRj.out]; exact take_getD (by rw [HX.out.len]; exact hjk) _] at hS7
              obtain ⟨⟨ho7, _⟩, hf7⟩ := two_cells hS7.raw
              have hof7 := hf7 0
              have HS8 : Hid (ExSo encI 3 1 (fun x => [.int .i64 (x : Nat)]) R.en W (w7.setCell ⟨ob, 0, none⟩ (.slice va (j + 1) vc)) mb ob ks ks (rows.take (j + 1)) j (.slice (some ⟨lb, lo, none⟩) k lc) (.slice va (j + 1) vc) ev (.cells #[.slice va (j + 1) vc, ev] 44 (0, 0))) := hS7.setRaw 0 _
              have HNv : Hid (∃ nv0, nv = nv0) := ⟨_, rfl⟩
              clear hS7 hall JS hf7
              go_wp2_with (first | (refine wpList_load_row rfl rfl rfl HAr.out ?_) | (refine wpList_build_row rfl rfl rfl ?_) | (at_builtin; refine wpList_append_eq rfl rfl rfl rfl hap ?_))
              clear hap HAr ho0 ho7 hof7
              generalize w7.setCell ⟨ob, 0, none⟩ (.slice va (j + 1) vc) = w8 at HS8 ⊢
              have hSd := HS8.out.kept (drew_grew w8)
              have hce := hSd.grew.keeps (HgW.out.keeps (HEnd.out s hsn))
              have htw := heap_kept hSd.grew HTW.out
              have hr := hSd.raw
              have htl := (Array.getElem?_eq_some_iff.1 htw).1
              have hobl := (Array.getElem?_eq_some_iff.1 hr).1
              obtain ⟨⟨_, hcq⟩, hfqa⟩ := two_cells hr
              have hfq := hfqa 1
              obtain ⟨ow, how⟩ : ∃ ow, ev.ownBlock = ow := ⟨_, rfl⟩
              have hws := HW.out.2.2.1
              have hbl := HBl.out
              have hwl := HgW.out.size
              have hobw : W.heap.size ≤ ob := hSd.lo.2.1
              have hoq : ow ≠ some ob := by rw [← how]; exact fun e => (hSd.owne _ e).2.1 rfl
              have hol3 : ∀ k, ow = some k → k < w8.drew.heap.size := by rw [← how]; exact fun k e => (hSd.owne k e).2.2.2
              have howw : ∀ k, ow = some k → W.heap.size ≤ k := by rw [← how]; exact fun k e => (hSd.owne k e).2.2.1
              have hot : ow ≠ some tbl := fun e => by have := howw _ e; omega
              have hebl : eb < w.heap.size := by have := lt_of_cell (HEnd.out s hsn); exact this
              have hoe : ow ≠ some eb := fun e => by have := howw _ e; omega
              have hto : tbl ≠ ob := by omega
              have heo : eb ≠ ob := by omega
              obtain ⟨⟨_, r1⟩, _⟩ := two_cells htw
              refine RR.region_frame (J := ApJ w8.drew ⟨ob, 1, none⟩ ow (EndApp W w8.drew ev (j + 1) (((ks.take j).map fun x => Value.bool (R.en x)) ++ [.bool (R.en s)])) [7] 1 8 10 87) (Rl := ApRl ⟨ob, 1, none⟩ ow) [79, 80, 81, 82, 83, 84, 85, 86, 87, 88] mixed (ApRl.drew _ _) ApRl.trans
                [.val (.pointer (some ⟨ob, 1, none⟩)), .val ev, .val (.pointer (some ⟨tbl, 1, none⟩)), .val (.slice (some ⟨eb, eo, none⟩) n ec), .val (.int .i64 (s : Nat)), .val (.pointer (some ⟨eb, eo + s, none⟩)), .val (.bool (R.en s)), .fact (OneNew w8.drew (.bool (R.en s))), .fact fun _ _ => True, .val (.pointer (some ⟨ob, 1, none⟩)), .fact fun _ _ => True]
                (ap_start _ _) (ap_mono ?_) (by kernel_rfl) (by kernel_rfl)
                ⟨gj_field (field_tab1 ob) (by decide) (by decide) (by decide) (by kernel_rfl) rfl rfl,
                 gj_row (wb := w8.drew) agg_boolsl hcq hoq (by decide) (by decide) (by decide) (by kernel_rfl) rfl rfl,
                 gj_field (field_tab1 tbl) (by decide) (by decide) (by decide) (by kernel_rfl) rfl rfl,
                 gj_load (p := ⟨tbl, 1, none⟩) ?l1 (by decide) (by decide) (by decide) (by kernel_rfl) rfl rfl,
                 gj_move (by decide) (by decide) (by decide) (by kernel_rfl) rfl rfl,
                 gj_index ?i2 (by decide) (by decide) (by decide) (by kernel_rfl) rfl rfl rfl,
                 gj_load (p := ⟨eb, eo + s, none⟩) ?l3 (by decide) (by decide) (by decide) (by kernel_rfl) rfl rfl,
                 gj_one (fun w => build_bool (R.en s) w) (by decide) (by decide) (by decide) (by decide) (by kernel_rfl) rfl rfl,
                 gj_append (by decide) (by decide) (by exact (show (87 : Nat) < 91 by decide)) (by exact (show (8 : Nat) < 11 by decide)) ?ap (by kernel_rfl) rfl,
                 gj_field (field_tab1 ob) (by decide) (by decide) (by decide) (by kernel_rfl) rfl rfl,
                 gj_store (wb := w8.drew) (by kernel_rfl) (by kernel_rfl) (by decide) hoq rfl ⟨_, hcq⟩ hfq (by exact (show (10 : Nat) < 11 by decide)) ?one (by kernel_rfl) rfl rfl (fun w => size_of (by kernel_rfl) w), trivial⟩ ?_
              case l1 =>
                intro wx g
                exact load_one agg_boolsl (by rw [g.2 ⟨tbl, 1, none⟩ htl hot (fun e => hto (congrArg Addr.block e))]; exact r1)
              case l3 =>
                intro wx g
                exact load_one agg_bool (by rw [g.2 ⟨eb, eo + s, none⟩ (lt_of_cell hce) hoe (fun e => heo (congrArg Addr.block e))]; exact hce)
              case i2 =>
                intro wx
                have := index_sl (sz := 1) Try.underlying24 (by kernel_rfl) (fun w => size_of (by kernel_rfl) w) (b := eb) (o := eo) (c := ec) hsn wx
                rwa [Nat.mul_one] at this
              case ap =>
                intro a1 wx hg E
                have hv : a1.eval (.tmp 80) = ev := E.opv rfl
                obtain ⟨kk, hk1, hk2, hk3⟩ : OneNew w8.drew (.bool (R.en s)) (a1.eval (.tmp 86)) wx := E.op (.tmp 86)
                rw [hv, hk1, ← how]
                exact hSd.endRun hg (by omega) hk3 1 _
              case one =>
                intro v wx hA
                obtain ⟨⟨_, va, vc, e, _⟩, _⟩ := hA
                rw [e]; exact ⟨rfl, rfl⟩
              · intro sx hs
                simp only [List.mem_cons, List.not_mem_nil, or_false] at hs
                rcases hs with rfl | rfl | rfl | rfl | rfl | rfl | rfl | rfl | rfl | rfl | rfl <;> first | exact Or.inl ⟨_, rfl⟩ | exact Or.inr ⟨_, rfl, OneNew.mono hobl hol3⟩ | exact Or.inr ⟨_, rfl, fun _ _ _ _ _ => trivial⟩
              · intro xs listed a1 w10 hall hxs hJ hR _
                obtain ⟨v, w9, hA, hg, rfl⟩ := hJ.p2 (hall 10 (by exact (show (10 : Nat) < 11 by decide)))
                rw [← how] at hg
                have HEn2 := hidd (hSd.pushEnd HSx.out hA hg rfl (o := 1))
                simp only [List.foldl_cons, List.foldl_nil, List.setIfInBounds_toArray, List.set_cons_succ, List.set_cons_zero]
                clear hall hxs hJ hR hA hg hSd hce htw hr htl hobl hcq hfqa hfq how hws hbl hwl hobw hoq hol3 howw hot hebl hoe hto heo r1
                go_wp2_with fail
                exact ⟨⟨j + 1, by simp, by omega, _, _, HEn2.out⟩, by simp [intOf]; omega⟩
        · have hje : j = k := by omega
          subst hje
          have kj : decide ((j : Int) < (j : Int)) = false := decide_eq_false (by omega)
          have HS := hidd hS
          have HR9 := hidd (heap_kept hS.grew HRW.out)
          have HO9 := hidd hS.raw
          have hv1 : nv.oneCell' = true := by obtain ⟨_, a, cp, e, _⟩ := hS.next; rw [e]; rfl
          have hv2 : ev.oneCell' = true := by obtain ⟨_, a, cp, e, _⟩ := hS.ends; rw [e]; rfl
          have HOn : Hid ((#[nv, ev] : Array Value).all (·.oneCell') = true) := by show (#[nv, ev] : Array Value).all _ = true; simp [hv1, hv2]
          clear hS KS hv1 hv2
          go_wp2_with (first | (refine wpList_load_tab (b := ob) rfl rfl rfl HO9.out rfl ?_) | (refine wpList_store_tab (b := rs) rfl rfl rfl rfl HR9.out rfl rfl HOn.out ?_))
          have hX := HX.out
          have hSl := HS.out
          rw [← HKs.out] at hX hSl
          rw [List.take_of_length_le (by rw [hX.len]; exact Nat.le_refl _)] at hSl
          have hws := HW.out.2.2.1
          have hbl := HBl.out
          have hmb := HMb.out
          refine bodyPost_ret (results_cell_row (p := 2) rfl _ _ _ _ _ _ _ rfl (setRow_heap wr rs _ #[nv, ev] _ _ HR9.out) Try.underlying44 rfl info_tab) rfl ⟨expA R.en 0 ks rows, .agg #[nv, ev], rfl, hX.ok R.en, ?_, fun l => ?_, hSl.table hX fun k hk => setRow_other _ _ _ _ (by omega), setRow_grew (HgW.out.trans HS.out.grew) (by omega) _⟩
          · show ks.length ≤ R.n
            rw [HKs.out, HN.out]; exact hkn
          · rw [hX.lang, goS_one]; rfl
end Go.Proofs.Ytkkdpafkafjfgaa
