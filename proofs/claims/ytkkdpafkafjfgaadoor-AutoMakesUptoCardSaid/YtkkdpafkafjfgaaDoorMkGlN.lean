/- (*places).one: one place more. -/
import Derived.Test.YtkkdpafkafjfgaaDoorMkGlM
namespace Go.Proofs.YtkkdpafkafjfgaaDoor
open Go.RowKit RR
set_option linter.unusedVariables false
set_option linter.unusedSimpArgs false
def chG (bv fv : Value) (n : Nat) (xs1 xs2 news1 : List Value) : Bool → Chan
  | false => ⟨bv, 77, 4, n, xs1, news1, 5, 8, 17, 24⟩
  | true => ⟨fv, 67, 1, n, xs2, [maskV 0], 12, 14, 20, 30⟩
theorem chG_I (bv fv : Value) (n : Nat) (xs1 xs2 news1 : List Value) : TwI (chG bv fv n xs1 xs2 news1) :=
  ⟨fun c => by cases c <;> simp [chG], fun c => by cases c <;> simp [chG], fun c c' => by cases c <;> cases c' <;> simp [chG], fun c => by cases c <;> simp [chG]⟩
def plainG (i : Nat) (d : Option Tmp) : Bool := i != 8 && i != 14 && i != 17 && i != 20 && d != some 24 && d != some 30
theorem chG_plain {bv fv : Value} {n : Nat} {xs1 xs2 news1 : List Value} {i : Nat} {d : Option Tmp} (h : plainG i d = true) : twPlain (chG bv fv n xs1 xs2 news1) i d := by
  unfold plainG at h
  simp only [Bool.and_eq_true, bne_iff_ne] at h
  obtain ⟨⟨⟨⟨⟨h1, h2⟩, h3⟩, h4⟩, h5⟩, h6⟩ := h
  intro c
  cases c
  · exact ⟨h1, h3, h5⟩
  · exact ⟨h2, h4, h6⟩
section
variable {w wr w' : World} {ob : Nat} {g : Gl} {bv fv : Value} {F : Nat → Prop}
theorem GlSo.tw (h : GlSo w wr ob g bv fv) {n : Nat} (hn : g.sets.length = n) (news : List Value) {m : Nat} (a : Act) : T3J wr w.heap.size ob 66 (chG bv fv n (g.sets.flatMap setC) (g.fo.map maskV) news) (.bool g.much) (Array.replicate m false) a wr.drew := by
  subst hn
  refine t3_start a wr h.grew.size (fun c => ?_) (fun c k hk => ?_) (fun c k hk => ?_) h.blk
  · cases c
    · exact h.sets
    · have := h.fo; rw [h.fits.len] at this; exact this
  · cases c
    · exact h.ownb k hk
    · exact h.ownf k hk
  · cases c
    · exact h.sep k hk
    · exact fun e => h.sep k e hk
theorem GlSo.grown (h : GlSo w wr ob g bv fv) {n : Nat} (hn : g.sets.length = n) (h12 : n ≠ 12) (s : Nat → Bool) {listed : Array Bool} {a : Act}
    (J : T3J wr w.heap.size ob 66 (chG bv fv n (g.sets.flatMap setC) (g.fo.map maskV) (setC s)) (.bool g.much) listed a w') (hR : TwRl w.heap.size ob (chG bv fv n (g.sets.flatMap setC) (g.fo.map maskV) (setC s)) wr w')
    (h8 : listed.getD 8 false = true) (h14 : listed.getD 14 false = true) (h17 : listed.getD 17 false = true) (h20 : listed.getD 20 false = true) :
    GlSo w w' ob ⟨g.sets ++ [s], g.fo ++ [0], g.much⟩ (a.tmps.getD 24 undef) (a.tmps.getD 30 undef) ∧ ∀ k, GlFoot ob (a.tmps.getD 24 undef) (a.tmps.getD 30 undef) k → GlFoot ob bv fv k ∨ wr.heap.size ≤ k := by
  have q1 : QRow w' w.heap.size 77 4 (a.tmps.getD 24 undef) (n + 1) (g.sets.flatMap setC ++ setC s) := J.r1 false h8
  have q2 : QRow w' w.heap.size 67 1 (a.tmps.getD 30 undef) (n + 1) (g.fo.map maskV ++ [maskV 0]) := J.r1 true h14
  have c1 : cur (chG bv fv n (g.sets.flatMap setC) (g.fo.map maskV) (setC s)) listed a false = a.tmps.getD 24 undef := by unfold cur; exact if_pos h8
  have c2 : cur (chG bv fv n (g.sets.flatMap setC) (g.fo.map maskV) (setC s)) listed a true = a.tmps.getD 30 undef := by unfold cur; exact if_pos h14
  have b1 := J.blk
  have d1 : cel (chG bv fv n (g.sets.flatMap setC) (g.fo.map maskV) (setC s)) listed a false = a.tmps.getD 24 undef := by unfold cel; exact if_pos h17
  have d2 : cel (chG bv fv n (g.sets.flatMap setC) (g.fo.map maskV) (setC s)) listed a true = a.tmps.getD 30 undef := by unfold cel; exact if_pos h20
  rw [d1, d2] at b1
  have o1 := J.own false
  have o2 := J.own true
  have s1 := J.sep false
  rw [c1] at o1 s1
  rw [c2] at o2
  rw [show cur (chG bv fv n (g.sets.flatMap setC) (g.fo.map maskV) (setC s)) listed a (!false) = a.tmps.getD 30 undef from c2] at s1
  have hfl := h.fits.len
  refine ⟨⟨h.grew.below hR.1 (Nat.le_refl _), b1, ?_, ?_, h.lo, fun k hk => ?_, fun k hk => ?_, s1, ?_⟩, fun k hk => ?_⟩
  · rw [List.length_append, hn, List.flatMap_append]
    show QRow _ _ _ _ _ (n + 1) _
    rw [List.flatMap_cons, List.flatMap_nil, List.append_nil]; exact q1
  · rw [List.length_append, hfl, hn, List.map_append]; exact q2
  · obtain ⟨p1, p2, p3, _⟩ := o1 k hk; exact ⟨p1, p2, p3⟩
  · obtain ⟨p1, p2, p3, _⟩ := o2 k hk; exact ⟨p1, p2, p3⟩
  · have := (one_fits h.fits s).1
    unfold Gl.one at this
    rw [if_neg (by rw [hn]; exact h12)] at this; exact this
  · rcases hk with rfl | e | e
    · exact Or.inl (Or.inl rfl)
    · exact (o1 k e).2.2.2.elim (fun x => Or.inl (Or.inr (Or.inl x))) Or.inr
    · exact (o2 k e).2.2.2.elim (fun x => Or.inl (Or.inr (Or.inr x))) Or.inr
end
theorem info_setx : ∃ i0, Tryd.prog.info? 77 = some i0 ∧ i0.zero = some (.agg #[.int .u64 0, .int .u64 0, .int .u64 0, .int .u64 0]) ∧ i0.size = 4 ∧ i0.bytes = 32 := info_parts (show (Tryd.prog.info? 77).map (fun i => (i.zero, i.size, i.bytes)) = some (some (.agg #[.int .u64 0, .int .u64 0, .int .u64 0, .int .u64 0]), 4, 32) by kernel_rfl)
theorem info_u32x : ∃ i0, Tryd.prog.info? 67 = some i0 ∧ i0.zero = some (.int .u32 0) ∧ i0.size = 1 ∧ i0.bytes = 4 := info_parts (show (Tryd.prog.info? 67).map (fun i => (i.zero, i.size, i.bytes)) = some (some (.int .u32 0), 1, 4) by kernel_rfl)
theorem build_set (s : Nat → Bool) (w : World) : (Instr.buildSlice 63 1 #[(0, .agg (setC s).toArray)]).run Tryd.prog w = .ok (.slice (some ⟨w.heap.size, 0, none⟩) 1 1) (w.alloc (.cells (setC s).toArray 77)) := by kernel_rfl
theorem build_u32 (w : World) : (Instr.buildSlice 64 1 #[(0, .int .u32 0)]).run Tryd.prog w = .ok (.slice (some ⟨w.heap.size, 0, none⟩) 1 1) (w.alloc (.cells [maskV 0].toArray 67)) := by kernel_rfl
theorem load_set {w : World} {b : Nat} {s : Nat → Bool} (h : w.heap[b]? = some (.cells (setC s).toArray 77 (0, 0))) : (Instr.loadAt 77 (.pointer (some ⟨b, 0, none⟩))).run Tryd.prog w = .ok (.agg (setC s).toArray) w := by
  have hl := run_loadVar_row (P := Tryd.prog) w b 77 77 (setC s).toArray (0, 0) _ h Tryd.underlying77 rfl (show (Tryd.prog.info? 77).map (·.size) = some 4 by kernel_rfl)
  simp only [Instr.loadAt, Instr.sureAddr, Sem.run_bind, Sem.run_pure, Result.andThen_ok, hl]
theorem setV_eq (s : Nat → Bool) : setV s = .agg (setC s).toArray := rfl
theorem one_u64 {s : Nat → Bool} {u : Value} (h : u ∈ setC s) : u.oneCell' = true := by
  unfold setC at h
  simp only [List.mem_cons, List.not_mem_nil, or_false] at h
  rcases h with rfl | rfl | rfl | rfl <;> rfl
theorem zero_part (w : World) : (zeroValue 69).run Tryd.prog w = .ok (.agg #[.int .u32 0, .int .u32 0, .bool false]) w := run_zero (by kernel_rfl) w
theorem results_part {fn : Func} {p : Tmp} (h : fn.results = #[.cell p 69]) {w : World} {tmps : Array Value} {rb : Nat} {av : Array Value} (hp : tmps.getD p undef = .pointer (some ⟨rb, 0, none⟩)) (hb : w.heap[rb]? = some (.cells av 69 (0, 0))) (hs : av.size = 3) :
    (results fn tmps).run Tryd.prog w = .ok (.agg av) w := by
  rw [results_cellA h, hp]
  have hl := run_loadVar_row (P := Tryd.prog) w rb 69 69 av (0, 0) _ hb Tryd.underlying69 rfl (by rw [hs]; kernel_rfl)
  simp [asAddr, hl]
theorem info_part : (Tryd.prog.info? 69).map (·.size) = some 3 := by kernel_rfl
section
variable {ops : Array Oper} {rest : List Oper} {o : Oper} {a : Act} {w : World} {Q : Exit → Act → World → Prop}
theorem wpList_store_part (hgd : o.guard = none) {x y : Operand} (ho : o.op = .store 69 x y) {b : Nat} {old av : Array Value} (hx : a.eval x = .pointer (some ⟨b, 0, none⟩)) (hy : a.eval y = .agg av) (hb : w.heap[b]? = some (.cells old 69 (0, 0))) (h1 : old.size = 3) (h2 : av.size = 3) (h3 : av.all (·.oneCell') = true)
    (h : wpList Tryd.prog ops Q rest (a.put o.dst undef) (w.setRow b av)) : wpList Tryd.prog ops Q (o :: rest) a w := by
  refine wpList_plain hgd fun _ hK => ?_
  unfold Oper.wp execOp
  simp only [ho, hx, hy, Instr.storeAt, Instr.sureAddr, Sem.run_bind, Sem.run_pure, Result.andThen_ok, run_storeVar_row w b _ _ _ _ hb (by rw [h2]; exact info_part) (by rw [h1, h2]) h3]
  exact hK _ _ h
theorem wpList_load_part (hgd : o.guard = none) {x : Operand} (ho : o.op = .load 69 x) {b : Nat} {av : Array Value} (hx : a.eval x = .pointer (some ⟨b, 0, none⟩)) (hb : w.heap[b]? = some (.cells av 69 (0, 0))) (h1 : av.size = 3)
    (h : wpList Tryd.prog ops Q rest (a.put o.dst (.agg av)) w) : wpList Tryd.prog ops Q (o :: rest) a w := by
  refine wpList_plain hgd fun _ hK => ?_
  have hl := run_loadVar_row (P := Tryd.prog) w b 69 69 av (0, 0) _ hb Tryd.underlying69 rfl (by rw [h1]; exact info_part)
  unfold Oper.wp execOp
  simp only [ho, hx, Instr.loadAt, Instr.sureAddr, Sem.run_bind, Sem.run_pure, Result.andThen_ok, hl]
  exact hK _ _ h
end
theorem part_one (o : Part) : (partC o).all (·.oneCell') = true := by
  unfold partC maskV; simp [Value.oneCell']
theorem setRow_up {w0 w : World} {g : Nat} (h : Grew w0 w) (hg : w0.heap.size ≤ g) (cs : Array Value) : Grew w0 (w.setRow g cs) :=
  h.below (B := g) ⟨rfl, rfl, rfl, by simp [World.setRow], fun k hk => setRow_other _ _ _ _ (by omega)⟩ hg
section
variable {w wr w' : World} {ob : Nat} {g : Gl} {bv fv : Value} {F : Nat → Prop}
theorem GlSo.setRow (h : GlSo w wr ob g bv fv) {b : Nat} (hb : ¬ GlFoot ob bv fv b) (hlo : w.heap.size ≤ b) (cs : Array Value) : GlSo w (wr.setRow b cs) ob g bv fv := by
  have hs : (wr.setRow b cs).heap.size = wr.heap.size := by simp [World.setRow]
  have hk : ∀ k, GlFoot ob bv fv k → (wr.setRow b cs).heap[k]? = wr.heap[k]? := fun k hk => setRow_other _ _ _ _ (fun e => hb (e ▸ hk))
  exact ⟨setRow_up h.grew hlo cs, (hk ob (Or.inl rfl)).trans h.blk, h.sets.kept fun i hi _ => hk i (Or.inr (Or.inl hi)), h.fo.kept fun i hi _ => hk i (Or.inr (Or.inr hi)), h.lo, fun i hi => by rw [hs]; exact h.ownb i hi, fun i hi => by rw [hs]; exact h.ownf i hi, h.sep, h.fits⟩
theorem GlAt.setRow (h : GlAt w wr ob g F) {b : Nat} (hb : ¬ F b) (hlo : w.heap.size ≤ b) (cs : Array Value) : GlAt w (wr.setRow b cs) ob g F := by
  obtain ⟨bv, fv, h1, h2⟩ := h; exact ⟨bv, fv, h1.setRow (fun k => hb ((h2 b).1 k)) hlo cs, h2⟩
theorem GlSo.setMuch (h : GlSo w wr ob g bv fv) (b : Bool) : GlSo w (wr.setCell ⟨ob, 2, none⟩ (.bool b)) ob ⟨g.sets, g.fo, b⟩ bv fv := by
  have hs : (wr.setCell ⟨ob, 2, none⟩ (.bool b)).heap.size = wr.heap.size := by simp [World.setCell]
  exact ⟨h.grew.setCell (p := ⟨ob, 2, none⟩) h.lo _, by rw [q_set_same h.blk]; rfl, h.sets.kept fun i hi _ => q_set_other _ _ (Ne.symm (h.ownb i hi).1), h.fo.kept fun i hi _ => q_set_other _ _ (Ne.symm (h.ownf i hi).1), h.lo, fun i hi => by rw [hs]; exact h.ownb i hi, fun i hi => by rw [hs]; exact h.ownf i hi, h.sep, h.fits.len, h.fits.le, h.fits.fo⟩
end
theorem GlTo.setRow {a b : World} {F G : Nat → Prop} (h : GlTo a b F G) {k : Nat} (hk : a.heap.size ≤ k) (cs : Array Value) : GlTo a (b.setRow k cs) F G :=
  ⟨by rw [show (b.setRow k cs).heap.size = b.heap.size by simp [World.setRow]]; exact h.size, fun i h1 h2 => (setRow_other _ _ _ _ (by omega)).trans (h.out i h1 h2), h.new⟩
set_option maxRecDepth 100000 in
set_option maxHeartbeats 4000000 in
theorem One_any {w w0 : World} {ob : Nat} {g : Gl} {F : Nat → Prop} (h : GlAt w w0 ob g F) (s : Nat → Bool) :
    Calls Tryd.prog 60 #[.pointer (some ⟨ob, 0, none⟩), setV s] w0 fun e w' => e = .returned (partV (g.one s).1) ∧ ∃ F', GlAt w w' ob (g.one s).2 F' ∧ GlTo w0 w' F F' := by
  rw [setV_eq]
  have hz := zero_part
  have hg1 := (Grew.refl w0).alloc (.cells (setC s).toArray 77)
  have hg2 := hg1.alloc (.cells (partC part0) 69)
  have hb1 := heap_kept ((Grew.refl _).alloc (.cells (partC part0) 69)) (heap_alloc_new w0 (.cells (setC s).toArray 77))
  have hb2 := heap_alloc2_new w0 (.cells (setC s).toArray 77) (.cells (partC part0) 69)
  have hlo : w.heap.size ≤ w0.heap.size := h.grew.size
  obtain ⟨bv, fv, hG, hFt⟩ := h
  have HB := hidd (And.intro hb1 hb2)
  have HG := hidd (And.intro (hG.kept hg2) hg2)
  have HFt := hidd hFt
  have HFn : Hid (∀ k, w0.heap.size ≤ k → ¬ GlFoot ob bv fv k) := fun k hk hf => by have := hG.foot_lt hf; omega
  obtain ⟨n, hn⟩ : ∃ n, g.sets.length = n := ⟨_, rfl⟩
  have hn12 : n ≤ 12 := by rw [← hn]; exact hG.fits.le
  have HN := hidd hn
  obtain ⟨_, ab, cp, rfl, _⟩ := id hG.sets
  clear hb1 hb2 hG hFt hg1 hg2
  obtain ⟨W, hW⟩ : ∃ W, (w0.alloc (.cells (setC s).toArray 77)).alloc (.cells (partC part0) 69) = W := ⟨_, rfl⟩
  rw [hW] at HB HG
  obtain ⟨sv, hsv⟩ : ∃ sv, (setC s).toArray = sv := ⟨_, rfl⟩
  have HSv := hidd hsv
  rw [hsv] at HB hW ⊢
  have cb : ∀ i : Nat, W.cell? ⟨ob, i, none⟩ = (#[.slice ab g.sets.length cp, fv, .bool g.much] : Array Value)[i]? := fun i => cell_of HG.out.1.blk i
  rw [hn] at cb
  have cb0 : W.cell? ⟨ob, 0, none⟩ = some (.slice ab n cp) := cb 0
  have cb2 : W.cell? ⟨ob, 2, none⟩ = some (.bool g.much) := cb 2
  have fb2 : W.frozen? ⟨ob, 2, none⟩ = false := by unfold World.frozen?; dsimp only; rw [HG.out.1.blk]; simp
  have HLo := hidd hlo
  replace hW : (w0.alloc (.cells sv 77)).alloc (.cells #[.int .u32 0, .int .u32 0, .bool false] 69) = W := hW
  clear hsv cb hlo hn
  by_cases h12 : n = 12
  · subst h12
    have k1 : (((12 : Nat) : Int) == 12) = true := rfl
    have hrs := HB.out.2
    have hmu := HG.out.1.setMuch true
    have hrs2 : (W.setCell ⟨ob, 2, none⟩ (.bool true)).heap[w0.heap.size + 1]? = some (.cells (partC part0) 69 (0, 0)) := by
      rw [q_set_other _ _ (fun e => HFn.out (w0.heap.size + 1) (by omega) (Or.inl e.symm))]; exact hrs
    have HM := hidd hmu
    have HR := hidd hrs2
    clear hmu hrs2 hrs
    go_enter Tryd.func60, Tryd.ntmps60
    go_wp2_with (first | (rw [hW]) | (refine wpList_store_part (b := w0.heap.size + 1) (av := partC part0) rfl rfl rfl rfl HR.out rfl rfl (part_one _) ?_))
    refine bodyPost_ret (results_part (p := 4) (av := partC part0) rfl rfl (setRow_heap _ _ _ _ _ _ HR.out) rfl) rfl ?_
    have e : g.one s = (part0, ⟨g.sets, g.fo, true⟩) := by unfold Gl.one; rw [if_pos HN.out]
    rw [e]
    have hlo := HLo.out
    refine ⟨rfl, F, ⟨_, _, HM.out.setRow (fun hf => HFn.out (w0.heap.size + 1) (by omega) hf) (by omega) _, HFt.out⟩, GlTo.setRow ?_ (by omega) _⟩
    have hg := HG.out.2
    refine ⟨by rw [show (W.setCell ⟨ob, 2, none⟩ (.bool true)).heap.size = W.heap.size by simp [World.setCell]]; exact hg.size, fun k h1 h2 => (q_set_other _ _ (fun e => h2 ((HFt.out k).1 (Or.inl e.symm)))).trans (hg.block k h1), fun _ h => Or.inl h⟩
  · have k1 : ((n : Int) == 12) = false := by simp; omega
    go_enter Tryd.func60, Tryd.ntmps60
    go_wp2_with (rw [hW])
    obtain ⟨i0, hi0, hz0, hz1, hz2⟩ := info_setx
    obtain ⟨j0, hj0, jz0, jz1, jz2⟩ := info_u32x
    have hG := HG.out.1
    have hob : ob < W.heap.size := (Array.getElem?_eq_some_iff.1 hG.blk).1
    have cb1 : W.cell? ⟨ob, 1, none⟩ = some fv := cell_of hG.blk 1
    have hsb := HB.out.1
    have hnf := HFn.out w0.heap.size (Nat.le_refl _)
    have hld : ∀ w1, TwRl w.heap.size ob (chG (.slice ab g.sets.length cp) fv n (g.sets.flatMap setC) (g.fo.map maskV) (setC s)) W w1 → (Instr.loadAt 77 (.pointer (some ⟨w0.heap.size, 0, none⟩))).run Tryd.prog w1 = .ok (.agg sv) w1 := fun w1 r => by
      have hh : w1.heap[w0.heap.size]? = some (.cells (setC s).toArray 77 (0, 0)) := by
        rw [r.2 w0.heap.size (Array.getElem?_eq_some_iff.1 hsb).1 (fun e => hnf (Or.inl e)) (fun c e => by cases c; exact hnf (Or.inr (Or.inl e)); exact hnf (Or.inr (Or.inr e))), HSv.out]; exact hsb
      have := load_set hh
      rw [HSv.out] at this; exact this
    have hbs : ∀ w1, (Instr.buildSlice 63 1 #[(0, .agg sv)]).run Tryd.prog w1 = .ok (.slice (some ⟨w1.heap.size, 0, none⟩) 1 1) (w1.alloc (.cells (setC s).toArray 77)) := fun w1 => by rw [← HSv.out]; exact build_set s w1
    have hnr : ∀ (cs : List Value) (z : Value) (w1 w2 : World), TwRl w.heap.size ob (chG (.slice ab g.sets.length cp) fv n (g.sets.flatMap setC) (g.fo.map maskV) (setC s)) w1 w2 → NewRow W cs z w1 → NewRow W cs z w2 := fun cs z w1 w2 r h => NewRow.mono hob (fun c k hk => by cases c; exact (hG.ownb k hk).2.2; exact (hG.ownf k hk).2.2) z w1 w2 r h
    have hlo := hG.lo
    have hmax : n + 1 ≤ maxLen := by unfold maxLen; omega
    refine RR.region_frame [16, 17, 18, 19, 20, 21, 22, 23, 24, 25, 26, 27, 28, 29, 30, 31, 32, 33, 34] mixed TwRl.drew TwRl.trans
      [.val (.pointer (some ⟨ob, 0, none⟩)), .val (.pointer (some ⟨ob, 0, none⟩)), .val (.pointer (some ⟨ob, 0, none⟩)), .val (.pointer (some ⟨ob, 0, none⟩)), .val (.pointer (some ⟨ob, 0, none⟩)), .val (.slice ab g.sets.length cp), .val (.agg sv), .fact (NewRow W (setC s)), .fact fun _ _ => True,
       .val (.pointer (some ⟨ob, 0, none⟩)), .val (.pointer (some ⟨ob, 0, none⟩)), .val (.pointer (some ⟨ob, 1, none⟩)), .val fv, .fact (NewRow W [maskV 0]), .fact fun _ _ => True,
       .val (.pointer (some ⟨ob, 0, none⟩)), .val (.pointer (some ⟨ob, 0, none⟩)), .fact fun _ _ => True, .val (.pointer (some ⟨ob, 0, none⟩)), .val (.pointer (some ⟨ob, 1, none⟩)), .fact fun _ _ => True]
      (hG.tw HN.out (setC s) _) (tw_mono ?_) (by kernel_rfl) (by kernel_rfl)
      ⟨w3_move (chG_plain rfl) (by kernel_rfl) rfl rfl, w3_move (chG_plain rfl) (by kernel_rfl) rfl rfl, w3_move (chG_plain rfl) (by kernel_rfl) rfl rfl, w3_nil (chG_plain rfl) (by kernel_rfl) rfl rfl, w3_field (field_pl0 ob) (chG_plain rfl) (by kernel_rfl) rfl rfl,
       w3_row false agg_setsl (chG_plain rfl) (by kernel_rfl) rfl rfl,
       w3_load (p := ⟨w0.heap.size, 0, none⟩) hld (chG_plain rfl) (by kernel_rfl) rfl rfl,
       w3_build hbs (chG_plain rfl) (by kernel_rfl) rfl rfl,
       w3_append (chG_I _ _ _ _ _ _) false (by kernel_rfl) (by exact (show (24 : Nat) < 45 by decide)) (by exact (show (8 : Nat) < 21 by decide)) (by exact (show (5 : Nat) ≠ 8 by decide)) Tryd.underlying63 hi0 hz0 hz1 hz2 rfl rfl (fun u hu => one_u64 hu) hmax (by show (n + 1) * 32 ≤ _; omega) (by kernel_rfl) rfl rfl rfl,
       w3_move (chG_plain rfl) (by kernel_rfl) rfl rfl, w3_nil (chG_plain rfl) (by kernel_rfl) rfl rfl, w3_field (field_pl1 ob) (chG_plain rfl) (by kernel_rfl) rfl rfl,
       w3_row true agg_u32s (chG_plain rfl) (by kernel_rfl) rfl rfl,
       w3_build build_u32 (chG_plain rfl) (by kernel_rfl) rfl rfl,
       w3_append (chG_I _ _ _ _ _ _) true (by kernel_rfl) (by exact (show (30 : Nat) < 45 by decide)) (by exact (show (14 : Nat) < 21 by decide)) (by exact (show (12 : Nat) ≠ 14 by decide)) Tryd.underlying64 hj0 jz0 jz1 jz2 rfl rfl (fun u hu => by rw [List.mem_singleton.1 hu]; rfl) hmax (by show (n + 1) * 4 ≤ _; omega) (by kernel_rfl) rfl rfl rfl,
       w3_nil (chG_plain rfl) (by kernel_rfl) rfl rfl, w3_field (field_pl0 ob) (chG_plain rfl) (by kernel_rfl) rfl rfl,
       w3_store (chG_I _ _ _ _ _ _) false (by kernel_rfl) (by exact (show (17 : Nat) < 21 by decide)) (by kernel_rfl) rfl rfl (fun w => size_of (by kernel_rfl) w) hlo,
       w3_nil (chG_plain rfl) (by kernel_rfl) rfl rfl, w3_field (field_pl1 ob) (chG_plain rfl) (by kernel_rfl) rfl rfl,
       w3_store (chG_I _ _ _ _ _ _) true (by kernel_rfl) (by exact (show (20 : Nat) < 21 by decide)) (by kernel_rfl) rfl rfl (fun w => size_of (by kernel_rfl) w) hlo, trivial⟩ ?_
    · intro s hs
      simp only [List.mem_cons, List.not_mem_nil, or_false] at hs
      rcases hs with rfl | rfl | rfl | rfl | rfl | rfl | rfl | rfl | rfl | rfl | rfl | rfl | rfl | rfl | rfl | rfl | rfl | rfl | rfl | rfl | rfl <;> first | exact Or.inl ⟨_, rfl⟩ | exact Or.inr ⟨_, rfl, hnr _⟩ | exact Or.inr ⟨_, rfl, fun _ _ _ _ _ => trivial⟩
    · intro xs listed a1 w1 hall hxs hJ hR _
      obtain ⟨hrow, hfoot⟩ := hG.grown HN.out h12 s hJ hR (hall 8 (by exact (show (8 : Nat) < 21 by decide))) (hall 14 (by exact (show (14 : Nat) < 21 by decide))) (hall 17 (by exact (show (17 : Nat) < 21 by decide))) (hall 20 (by exact (show (20 : Nat) < 21 by decide)))
      rw [hxs 24, hxs 30] at hrow hfoot
      obtain ⟨bv2, hbv2⟩ : ∃ bv2, xs 24 = bv2 := ⟨_, rfl⟩
      obtain ⟨fv2, hfv2⟩ : ∃ fv2, xs 30 = fv2 := ⟨_, rfl⟩
      rw [hbv2, hfv2] at hrow hfoot
      obtain ⟨_, ab2, cp2, rfl, _⟩ := id hrow.sets
      have hlen2 : (g.sets ++ [s]).length = n + 1 := by rw [List.length_append, HN.out]; rfl
      have HRow := hidd hrow
      have c0 : w1.cell? ⟨ob, 0, none⟩ = some (.slice ab2 (n + 1) cp2) := by rw [cell_of hrow.blk, ← hlen2]; rfl
      have HFoot := hidd hfoot
      have hrs : w1.heap[w0.heap.size + 1]? = some (.cells (partC part0) 69 (0, 0)) := by
        have hnf2 := HFn.out (w0.heap.size + 1) (by omega)
        rw [hR.2 (w0.heap.size + 1) (Array.getElem?_eq_some_iff.1 HB.out.2).1 (fun e => hnf2 (Or.inl e)) (fun c e => by cases c; exact hnf2 (Or.inr (Or.inl e)); exact hnf2 (Or.inr (Or.inr e)))]; exact HB.out.2
      have HRs := hidd hrs
      have HRb := hidd hR
      simp only [List.foldl_cons, List.foldl_nil, List.setIfInBounds_toArray, List.set_cons_succ, List.set_cons_zero]
      clear hrow hfoot hxs hall hJ hR hnr hld hbs hrs hG hsb hnf hob cb1 cb0 cb2 fb2 hlo hi0 hz0 hz1 hz2 hj0 jz0 jz1 jz2
      have HPw : Hid ((#[.int .u32 ((2 : Int) ^ n % 4294967296), .int .u32 ((2 : Int) ^ n % 4294967296), .bool false] : Array Value) = partC ⟨2 ^ n, 2 ^ n, false⟩) := by
        have e : (2 : Int) ^ n % 4294967296 = ((2 ^ n : Nat) : Int) := by
          have h1 : 2 ^ n < 4294967296 := Nat.lt_of_le_of_lt (Nat.pow_le_pow_right (n := 2) (by decide) hn12) (by decide)
          rw [show (2 : Int) ^ n = ((2 ^ n : Nat) : Int) by simp]
          generalize 2 ^ n = P at h1
          omega
        unfold Hid partC maskV
        rw [e]
      go_wp2_with (refine wpList_store_part (b := w0.heap.size + 1) rfl rfl rfl rfl HRs.out rfl rfl (by simp [Value.oneCell']) ?_)
      refine bodyPost_ret (results_part (p := 4) rfl rfl (setRow_heap _ _ _ _ _ _ HRs.out) rfl) rfl ?_
      have e : g.one s = (⟨2 ^ n, 2 ^ n, false⟩, ⟨g.sets ++ [s], g.fo ++ [0], g.much⟩) := by unfold Gl.one; rw [if_neg (by rw [HN.out]; exact h12), HN.out]
      rw [e, HPw.out]
      have hlo := HLo.out
      have hg := HG.out.2
      have hF0 := HFoot.out
      have hnf2 := HFn.out (w0.heap.size + 1) (by omega)
      have hG := HG.out.1
      have hrl : w0.heap.size + 1 < W.heap.size := (Array.getElem?_eq_some_iff.1 HB.out.2).1
      have hnf3 : ¬ GlFoot ob (.slice ab2 (g.sets ++ [s]).length cp2) fv2 (w0.heap.size + 1) := fun hf => (hF0 _ hf).elim hnf2 (by omega)
      refine ⟨rfl, _, ⟨_, _, HRow.out.setRow hnf3 (by omega) _, fun k => Iff.rfl⟩, GlTo.setRow ?_ (by omega) _⟩
      have hr := HRb.out
      refine ⟨Nat.le_trans hg.size hr.1.size, fun k h1 h2 => ?_, fun k h => (hF0 k h).elim (fun h => Or.inl ((HFt.out k).1 h)) (fun h => Or.inr (by omega))⟩
      rw [hr.2 k (Nat.lt_of_lt_of_le h1 hg.size) (fun e => h2 ((HFt.out k).1 (Or.inl e))) (fun c e => by cases c; exact h2 ((HFt.out k).1 (Or.inr (Or.inl e))); exact h2 ((HFt.out k).1 (Or.inr (Or.inr e))))]
      exact hg.block k h1
end Go.Proofs.YtkkdpafkafjfgaaDoor
